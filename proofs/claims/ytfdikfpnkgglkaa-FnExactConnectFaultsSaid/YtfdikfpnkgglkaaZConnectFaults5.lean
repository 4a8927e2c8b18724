/-
  A part of the proof: texts put together by a program of the prover. Conditions: none.
-/
import Derived.Test.YtfdikfpnkgglkaaZConnectFaults3
import Derived.Test.YtfdikfpnkgglkaaZConnectFaults4
import Derived.Shelf.Spec.SlicesGrow
import Derived.Test.YtfdikfpnkgglkaaProg
import Derived.Lib.ItoaNum
import Derived.Lib.ItoaLen
import Derived.ProofKit
import Derived.Deep.Slices
set_option linter.unusedSimpArgs false
set_option linter.unusedVariables false
section
namespace Go.Proofs
open Go.Shelf
def Try.growBend_ren : Go.Shelf.Ren := ⟨fun | 4 => 34 | n => n, fun | 22 => 38 | 25 => 37 | 3 => 3 | 4 => 4 | 9 => 9 | 20 => 20 | 0 => 0 | 2 => 3 | n => n, fun | n => n⟩
theorem Try.growBend : Go.Proofs.Lays8.n4 Try.prog Try.growBend_ren := {
 mixed := by kernel_rfl
 f4 := ⟨Try.f34.name, by decide, Try.func34.trans (congrArg some (by kernel_rfl))⟩
 t0 := Try.underlying0
 a0 := Try.isAgg0
 z0 := Try.sizeOf0
 v0 := Try.zeroValue0
 t3 := Try.underlying3
 a3 := Try.isAgg3
 z3 := Try.sizeOf3
 v3 := Try.zeroValue3
 t4 := Try.underlying4
 a4 := Try.isAgg4
 z4 := Try.sizeOf4
 v4 := Try.zeroValue4
 t9 := Try.underlying9
 a9 := Try.isAgg9
 z9 := Try.sizeOf9
 v9 := Try.zeroValue9
 t20 := Try.underlying20
 a20 := Try.isAgg20
 z20 := Try.sizeOf20
 v20 := Try.zeroValue20
 t22 := Try.underlying38
 a22 := Try.isAgg38
 z22 := Try.sizeOf38
 v22 := Try.zeroValue38 }
end Go.Proofs
end
section
set_option maxRecDepth 100000
set_option maxHeartbeats 2000000
namespace Go.Proofs
open Go.Lv
open Go.Shelf Go.RowKit Go.Lib
theorem zeroCells_size (a : Array Value) (n : Nat) : (Builtin.zeroCells a n).size = n * a.size := by
 simp [Builtin.zeroCells]
theorem rv_nilsl {w : World} {m : Nat → Nat} {h : Hp} {av : Nat → Prop} {o : Bool} {v : Value} (hx : RV w m h av o v .nilsl) : v = .slice none 0 0 := by cases hx; rfl
theorem rv_num {w : World} {m : Nat → Nat} {h : Hp} {av : Nat → Prop} {o : Bool} {v : Value} {k : IntKind} {n : Int} (hx : RV w m h av o v (.int k n)) : v = .int k n := by cases hx; rfl
def zeroBend : Value := .agg #[.int .i64 0, .int .i64 0]
theorem growBend_ok (n : Nat) (hn : 0 < n) (hn2 : n ≤ 16777216) : Ctr Try.prog 34 [.nilsl, .int .i64 n] [] (.osl 0 0 0 2) [some []] := by
 refine Ctr.raw (by kernel_rfl) (fun w vs m av I hs => ?_)
 have h0 := I.slots 0 (by simp)
 have h1 := I.slots 1 (by simp)
 dsimp only [List.getElem_cons_zero, List.getElem_cons_succ] at h0 h1
 have e0 : vs.getD 0 Go.undef = .slice none 0 0 := rv_nilsl h0
 have e1 : vs.getD 1 Go.undef = .int .i64 n := rv_num h1
 have hvs : vs = #[.slice none 0 0, .int .i64 n] := by
   have hsz : vs.size = 2 := hs
   apply Array.ext
   · simpa using hsz
   · intro k hk hk'
     have hk3 : k < 2 := by omega
     have hg : vs[k] = vs.getD k Go.undef := by simp [Array.getD, hk]
     rw [hg]
     rcases (show k = 0 ∨ k = 1 by omega) with rfl | rfl
     · exact e0
     · exact e1
 have he : elOf Try.prog 38 = some (37, 2, 16) := by kernel_rfl
 obtain ⟨i0, t81, hi0, hz2, hby⟩ := elOf_some he
 have hz : (Try.prog.info? 37).bind (·.zero) = some zeroBend := by kernel_rfl
 rw [hi0] at hz
 simp only [Option.bind_some] at hz
 rw [hvs]
 refine (Any8.slices_Grow_grow Try.growBend i0 zeroBend hi0 hz (by omega) none 0 0 n [] w (Nat.le_refl _) (by omega) (by rw [hby]; omega) (by omega) (by simp) (fun _ => rfl) (fun a ha => by cases ha)).mono ?_
 rintro e w' ⟨rfl, rfl⟩
 obtain ⟨G, hG⟩ : ∃ G, G = grownCap w (0 + n) 0 (Try.growBend_ren.t 25) := ⟨_, rfl⟩
 rw [← hG]
 have hge : n ≤ G := by
   have := grownCap_ge w (0 + n) 0 (Try.growBend_ren.t 25)
   rw [← hG] at this
   omega
 obtain ⟨C, hC⟩ : ∃ C, C = ([] : List Value).toArray ++ Builtin.zeroCells zeroBend.cells (0 + n - 0) ++ Builtin.zeroCells zeroBend.cells (G - (0 + n)) := ⟨_, rfl⟩
 rw [← hC]
 have hsz : C.size = G * 2 := by
   rw [hC]
   simp only [Array.size_append, zeroCells_size, List.size_toArray, List.length_nil]
   have : zeroBend.cells.size = 2 := rfl
   rw [this]
   omega
 obtain ⟨J, _⟩ := (I.world (Ext.drew _ w)).alloc C (Try.growBend_ren.t 25) [] (Nat.zero_le _) (fun i hi => by simp at hi)
 have e : mext m ([] : Hp).length w.drew.heap.size 0 = w.heap.size := mext_new
 refine ⟨_, _, _, _, rfl, rfl, J, ?_⟩
 have hr : rowSize (w.drew.alloc (.cells C (Try.growBend_ren.t 25))) (mext m ([] : Hp).length w.drew.heap.size 0) = C.size := by
   rw [e, rowSize, show w.heap.size = w.drew.heap.size from rfl, heap_alloc_new]
 have := RV.osl (w := w.drew.alloc (.cells C (Try.growBend_ren.t 25))) (m := mext m ([] : Hp).length w.drew.heap.size) (h := [some []]) (av := avm av (mext m ([] : Hp).length w.drew.heap.size) [some []]) 0 0 0 G 2 [] ⟨rfl, rfl⟩ (by simp) (by omega) (by rw [hr, hsz]; omega)
 rw [e] at this
 exact this
def twoN (A B : List Bend) : Nat → Nat
 | 0 => 0
 | 1 => A.length
 | _ => A.length + B.length
def twoL (A B : List Bend) : Nat → List Bend
 | 0 => []
 | 1 => A
 | _ => A ++ B
theorem twoN0 (A B : List Bend) : twoN A B 0 = 0 := rfl
theorem twoN1 (A B : List Bend) : twoN A B 1 = A.length := rfl
theorem twoN2 (A B : List Bend) : twoN A B 2 = A.length + B.length := rfl
theorem twoL0 (A B : List Bend) : twoL A B 0 = [] := rfl
theorem twoL1 (A B : List Bend) : twoL A B 1 = A := rfl
theorem twoL2 (A B : List Bend) : twoL A B 2 = A ++ B := rfl
theorem concatBend_ok (A B : List Bend) (hA : A.length ≤ 100) (hB : B.length ≤ 100) (h0 : 0 < A.length + B.length) : Ctr Try.prog 18 [.sl 2 1 [Bend.sl A, Bend.sl B]] [] (.osl 0 0 (A ++ B).length 2) [some (rows Bend.cs (A ++ B))] := by
 refine Ctr.intro Try.mixed Try.func18 rfl Try.okF18 ?_
 simp -implicitDefEqProofs -dsimp only [go_sem, Nat.reduceSub, Nat.reduceAdd, Nat.reduceMul, Nat.reduceLT, Nat.reduceLeDiff, Nat.reduceEqDiff, Nat.reduceDiv, Nat.reduceMod, Int.reduceToNat, Int.reduceLE, Int.reduceLT, Int.reduceBEq, Int.reduceBNe, Int.reduceNeg, Int.reduceAdd, Int.reduceSub, Int.reduceMul, reduceCtorEq, Try.ntmps18, Try.results18]
 refine LoopT.intro (fun i : Nat => i ≤ 2) (fun i => ⟨[.sl 2 1 [Bend.sl A, Bend.sl B], .undef, .undef, .int .i64 (twoN A B i), .undef, .undef, .undef, .undef, .undef, .sl 2 1 [Bend.sl A, Bend.sl B], .int .i64 2, .int .i64 i, .undef, .undef, .undef, .undef, .undef, .undef, .undef, .undef, .undef, .undef, .undef, .undef, .undef, .undef, .undef, .undef, .undef, .undef, .undef, .undef, .undef, .undef, .undef, .undef], [], 0⟩) (fun i => 2 - i) 0 (by omega) ?_ (fun i hi => ?_)
 · refine Weak.cut (0) (by simp) (by simp) ?_ ?_
   · simp [LeC, LeV, ren, cutF, twoN]
   · rfl
 simp -implicitDefEqProofs -dsimp only [go_sem, Nat.reduceSub, Nat.reduceAdd, Nat.reduceMul, Nat.reduceLT, Nat.reduceLeDiff, Nat.reduceEqDiff, Nat.reduceDiv, Nat.reduceMod, Int.reduceToNat, Int.reduceLE, Int.reduceLT, Int.reduceBEq, Int.reduceBNe, Int.reduceNeg, Int.reduceAdd, Int.reduceSub, Int.reduceMul, reduceCtorEq]
 refine condT.split (fun h1 => ?_) (fun h1 => ?_)
 · have h1' := of_decide_eq_true h1
   rcases (show i = 0 ∨ i = 1 by omega) with rfl | rfl
   · (repeat ((repeat1' (first | simp -implicitDefEqProofs -dsimp only [go_sem, Nat.reduceSub, Nat.reduceAdd, Nat.reduceMul, Nat.reduceLT, Nat.reduceLeDiff, Nat.reduceEqDiff, Nat.reduceDiv, Nat.reduceMod, Int.reduceToNat, Int.reduceLE, Int.reduceLT, Int.reduceBEq, Int.reduceBNe, Int.reduceNeg, Int.reduceAdd, Int.reduceSub, Int.reduceMul, reduceCtorEq, h1, twoN0] | simp -dsimp (disch := omega) only [wrap_i64])); repeat (with_reducible refine sideA ?_)))
     refine condT.split (fun h2 => absurd (of_decide_eq_true h2) (by omega)) (fun h2 => ?_)
     (repeat ((repeat1' (first | simp -implicitDefEqProofs -dsimp only [go_sem, Nat.reduceSub, Nat.reduceAdd, Nat.reduceMul, Nat.reduceLT, Nat.reduceLeDiff, Nat.reduceEqDiff, Nat.reduceDiv, Nat.reduceMod, Int.reduceToNat, Int.reduceLE, Int.reduceLT, Int.reduceBEq, Int.reduceBNe, Int.reduceNeg, Int.reduceAdd, Int.reduceSub, Int.reduceMul, reduceCtorEq, h2] | simp -dsimp (disch := omega) only [wrap_i64])); repeat (with_reducible refine sideA ?_)))
     refine ⟨1, by omega, ?_, by omega⟩
     refine Weak.cut (0) (by simp) (by simp) ?_ ?_
     · simp [LeC, LeV, ren, cutF, twoN1]
     · rfl
   · (repeat ((repeat1' (first | simp -implicitDefEqProofs -dsimp only [go_sem, Nat.reduceSub, Nat.reduceAdd, Nat.reduceMul, Nat.reduceLT, Nat.reduceLeDiff, Nat.reduceEqDiff, Nat.reduceDiv, Nat.reduceMod, Int.reduceToNat, Int.reduceLE, Int.reduceLT, Int.reduceBEq, Int.reduceBNe, Int.reduceNeg, Int.reduceAdd, Int.reduceSub, Int.reduceMul, reduceCtorEq, h1, twoN1] | simp -dsimp (disch := omega) only [wrap_i64])); repeat (with_reducible refine sideA ?_)))
     refine condT.split (fun h2 => absurd (of_decide_eq_true h2) (by omega)) (fun h2 => ?_)
     (repeat ((repeat1' (first | simp -implicitDefEqProofs -dsimp only [go_sem, Nat.reduceSub, Nat.reduceAdd, Nat.reduceMul, Nat.reduceLT, Nat.reduceLeDiff, Nat.reduceEqDiff, Nat.reduceDiv, Nat.reduceMod, Int.reduceToNat, Int.reduceLE, Int.reduceLT, Int.reduceBEq, Int.reduceBNe, Int.reduceNeg, Int.reduceAdd, Int.reduceSub, Int.reduceMul, reduceCtorEq, h2] | simp -dsimp (disch := omega) only [wrap_i64])); repeat (with_reducible refine sideA ?_)))
     refine ⟨2, by omega, ?_, by omega⟩
     refine Weak.cut (0) (by simp) (by simp) ?_ ?_
     · simp [LeC, LeV, ren, cutF, twoN2]
     · rfl
 · have hi' : i = 2 := by have := of_decide_eq_false h1; omega
   subst hi'
   (repeat ((repeat1' (first | simp -implicitDefEqProofs -dsimp only [go_sem, Nat.reduceSub, Nat.reduceAdd, Nat.reduceMul, Nat.reduceLT, Nat.reduceLeDiff, Nat.reduceEqDiff, Nat.reduceDiv, Nat.reduceMod, Int.reduceToNat, Int.reduceLE, Int.reduceLT, Int.reduceBEq, Int.reduceBNe, Int.reduceNeg, Int.reduceAdd, Int.reduceSub, Int.reduceMul, reduceCtorEq, h1] | simp -dsimp (disch := omega) only [wrap_i64])); repeat (with_reducible refine sideA ?_)))
   (have ct := growBend_ok (twoN A B 2) (by rw [twoN2]; omega) (by rw [twoN2]; omega); (first | refine callT.at ct ⟨leA, leA, trivial⟩ ?_ | refine callS.at ct ⟨leA, leA, trivial⟩ ?_); clear ct)
   (repeat ((repeat1' (first | simp -implicitDefEqProofs -dsimp only [go_sem, Nat.reduceSub, Nat.reduceAdd, Nat.reduceMul, Nat.reduceLT, Nat.reduceLeDiff, Nat.reduceEqDiff, Nat.reduceDiv, Nat.reduceMod, Int.reduceToNat, Int.reduceLE, Int.reduceLT, Int.reduceBEq, Int.reduceBNe, Int.reduceNeg, Int.reduceAdd, Int.reduceSub, Int.reduceMul, reduceCtorEq] | simp -dsimp (disch := omega) only [wrap_i64])); repeat (with_reducible refine sideA ?_)))
   refine LoopT.intro (fun i : Nat => i ≤ 2) (fun i => ⟨[.undef, .undef, .undef, .undef, .undef, .undef, .osl 0 0 (twoN A B i) 2, .undef, .undef, .undef, .undef, .undef, .undef, .undef, .undef, .undef, .undef, .undef, .undef, .undef, .undef, .undef, .undef, .undef, .undef, .sl 2 1 [Bend.sl A, Bend.sl B], .int .i64 2, .int .i64 i, .undef, .undef, .undef, .undef, .undef, .undef, .undef, .undef], [some (rows Bend.cs (twoL A B i))], 0⟩) (fun i => 2 - i) 0 (by omega) ?_ (fun i hi => ?_)
   · refine Weak.cut (1) (by simp) (by simp) ?_ ?_
     · simp [LeC, LeV, ren, cutF, twoN0]
     · rfl
   simp -implicitDefEqProofs -dsimp only [go_sem, Nat.reduceSub, Nat.reduceAdd, Nat.reduceMul, Nat.reduceLT, Nat.reduceLeDiff, Nat.reduceEqDiff, Nat.reduceDiv, Nat.reduceMod, Int.reduceToNat, Int.reduceLE, Int.reduceLT, Int.reduceBEq, Int.reduceBNe, Int.reduceNeg, Int.reduceAdd, Int.reduceSub, Int.reduceMul, reduceCtorEq]
   refine condT.split (fun h3 => ?_) (fun h3 => ?_)
   · have h3' := of_decide_eq_true h3
     rcases (show i = 0 ∨ i = 1 by omega) with rfl | rfl
     · (repeat ((repeat1' (first | simp -implicitDefEqProofs -dsimp only [go_sem, Nat.reduceSub, Nat.reduceAdd, Nat.reduceMul, Nat.reduceLT, Nat.reduceLeDiff, Nat.reduceEqDiff, Nat.reduceDiv, Nat.reduceMod, Int.reduceToNat, Int.reduceLE, Int.reduceLT, Int.reduceBEq, Int.reduceBNe, Int.reduceNeg, Int.reduceAdd, Int.reduceSub, Int.reduceMul, reduceCtorEq, h3, twoN0, twoL0] | simp -dsimp (disch := omega) only [wrap_i64])); repeat (with_reducible refine sideA ?_)))
       refine ⟨1, by omega, ?_, by omega⟩
       refine Weak.cut (1) (by simp) (by simp) ?_ ?_
       · simp [LeC, LeV, ren, cutF, twoN1]
       · rw [twoL1]
         have e : rows Bend.cs ([] : List Bend) = [] := rfl
         rw [e]
         simp [cutH, cutB, map_ren_rows]
     · (repeat ((repeat1' (first | simp -implicitDefEqProofs -dsimp only [go_sem, Nat.reduceSub, Nat.reduceAdd, Nat.reduceMul, Nat.reduceLT, Nat.reduceLeDiff, Nat.reduceEqDiff, Nat.reduceDiv, Nat.reduceMod, Int.reduceToNat, Int.reduceLE, Int.reduceLT, Int.reduceBEq, Int.reduceBNe, Int.reduceNeg, Int.reduceAdd, Int.reduceSub, Int.reduceMul, reduceCtorEq, h3, twoN1, twoL1] | simp -dsimp (disch := omega) only [wrap_i64])); repeat (with_reducible refine sideA ?_)))
       refine ⟨2, by omega, ?_, by omega⟩
       refine Weak.cut (1) (by simp) (by simp) ?_ ?_
       · simp [LeC, LeV, ren, cutF, twoN2]
       · rw [twoL2]
         have e : rows Bend.cs (A ++ B) = rows Bend.cs A ++ rows Bend.cs B := List.flatMap_append
         rw [e]
         simp [cutH, cutB, map_ren_rows]
   · have hi' : i = 2 := by have := of_decide_eq_false h3; omega
     subst hi'
     (repeat ((repeat1' (first | simp -implicitDefEqProofs -dsimp only [go_sem, Nat.reduceSub, Nat.reduceAdd, Nat.reduceMul, Nat.reduceLT, Nat.reduceLeDiff, Nat.reduceEqDiff, Nat.reduceDiv, Nat.reduceMod, Int.reduceToNat, Int.reduceLE, Int.reduceLT, Int.reduceBEq, Int.reduceBNe, Int.reduceNeg, Int.reduceAdd, Int.reduceSub, Int.reduceMul, reduceCtorEq, h3, twoN2, twoL2] | simp -dsimp (disch := omega) only [wrap_i64])); repeat (with_reducible refine sideA ?_)))
     rw [← List.length_append]
     exact WeakR.refl _ _ _
end Go.Proofs
end
section
namespace Go.Lv
theorem Ctr.weak {P : Program} {f : FuncId} {args : List V} {r r' : V} {hout hout' : Hp} (h : Ctr P f args [] r hout) (hw : WeakR 0 r hout r' hout') : Ctr P f args [] r' hout' :=
 ⟨h.1, fun w vs m av h1 h2 h3 h4 h5 => (h.2 w vs m av h1 h2 h3 h4 h5).mono fun e w' ⟨v, m', g1, g2, g3, g4, g5⟩ => by
   obtain ⟨m2, k1, k2, k3⟩ := hw w m [] av w' m' v rfl (Nat.zero_le _) h2 g2.size g3 g4 g5
   exact ⟨v, m2, g1, g2, k1, k2, k3⟩⟩
section
variable {α : Type} {cs : α → List V} {w : Nat} [FlatQ cs w]
end
end Go.Lv
end
section
set_option maxRecDepth 100000
set_option maxHeartbeats 4000000
namespace Go.Proofs
open Go.Lv
def fIdx (L : List Fault) (a : Int) : Int := idxI (fun f => f.Id == a) L
theorem fIdx_cases (L : List Fault) (a : Int) : fIdx L a = -1 ∨ ∃ i : Nat, i < L.length ∧ fIdx L a = i := by
 unfold fIdx idxI
 split
 · rename_i i h
   rw [List.findIdx?_eq_some_iff_getElem] at h
   exact .inr ⟨i, h.1, rfl⟩
 · exact .inl rfl
theorem faultAt_ok (L : List Fault) (a : Int) (hl : L.length ≤ 16777216) : Ctr Try.prog 16 [Fault.sl L, .int .i64 a] [] (.int .i64 (fIdx L a)) [] := by
 have hc : ∀ x : Fault, Ctr Try.prog 28 (Fault.v x :: [.pt [.int .i64 a]]) [] (.bool (x.Id == a)) [] := by
   intro x
   refine Ctr.intro Try.mixed Try.func28 rfl Try.okF28 ?_
   simp -implicitDefEqProofs -dsimp only [go_sem, Try.ntmps28, Try.results28]
   (repeat ((repeat1' (first | simp -implicitDefEqProofs -dsimp only [go_sem, Fault.v] | simp -dsimp (disch := omega) only [wrap_i64])); repeat (with_reducible refine sideA ?_)))
   exact WeakR.drop' rfl (by rfl)
 refine Ctr.intro Try.mixed Try.func16 rfl Try.okF16 ?_
 simp -implicitDefEqProofs -dsimp only [go_sem, Try.ntmps16, Try.results16]
 (repeat ((repeat1' (first | simp -implicitDefEqProofs -dsimp only [go_sem] | simp -dsimp (disch := omega) only [wrap_i64])); repeat (with_reducible refine sideA ?_)))
 (first | refine callT.at (indexFuncFault_ok L (fun f => f.Id == a) _ [.pt [.int .i64 a]] (fun d => by cases d <;> rfl) hc (by omega)) ⟨leA, leA, trivial⟩ ?_ | refine callS.at (indexFuncFault_ok L (fun f => f.Id == a) _ [.pt [.int .i64 a]] (fun d => by cases d <;> rfl) hc (by omega)) ⟨leA, leA, trivial⟩ ?_)
 (repeat ((repeat1' (first | simp -implicitDefEqProofs -dsimp only [go_sem] | simp -dsimp (disch := omega) only [wrap_i64])); repeat (with_reducible refine sideA ?_)))
 exact WeakR.drop' rfl (by rfl)
theorem l18Find_ok (L : List Fault) (a : Int) (hl : L.length ≤ 16777216) : Ctr Try.prog 12 [Fault.sl L, .int .i64 a] [] (.int .i64 (fIdx L a)) [] := by
 refine Ctr.intro Try.mixed Try.func12 rfl Try.okF12 ?_
 simp -implicitDefEqProofs -dsimp only [go_sem, Try.ntmps12, Try.results12]
 refine LoopT.intro (fun i : Nat => i ≤ L.length ∧ (L.take i).any (fun f => f.Id == a) = false) (fun i => ⟨[Fault.sl L, .int .i64 a, .undef, .undef, .undef, .int .i64 i, .undef, .undef, .undef, .undef, .undef, .undef, .undef, .undef, .undef, .undef, .undef, .undef, .undef, .undef], [], 0⟩) (fun i => L.length - i) 0 ⟨Nat.zero_le _, rfl⟩ ?_ (fun i hi => ?_)
 · refine Weak.cut (0) (by simp) (by simp) ?_ ?_
   · simp [LeC, LeV, ren, cutF]
   · rfl
 simp -implicitDefEqProofs -dsimp only [go_sem]
 refine condT.split (fun h1 => ?_) (fun h1 => ?_)
 · simp -implicitDefEqProofs -dsimp only [go_sem, h1]
   have hi' : i < L.length := by simpa using h1
   have hr := rows_at Fault.csl hi'
   (repeat ((repeat1' (first | simp -implicitDefEqProofs -dsimp only [go_sem, hr, Fault.cs] | simp -dsimp (disch := omega) only [wrap_i64])); repeat (with_reducible refine sideA ?_)))
   refine condT.split (fun h2 => ?_) (fun h2 => ?_) <;> (repeat ((repeat1' (first | simp -implicitDefEqProofs -dsimp only [go_sem, h2] | simp -dsimp (disch := omega) only [wrap_i64])); repeat (with_reducible refine sideA ?_)))
   · exact WeakR.drop' (by rw [fIdx, idxI_found hi' hi.2 (by simpa using h2)]) (by rfl)
   · refine ⟨i + 1, ⟨hi', by rw [List.take_succ_eq_append_getElem hi']; simp only [List.any_append, hi.2, List.any_cons, h2, List.any_nil, Bool.or_self]⟩, ?_, by omega⟩
     refine Weak.cut (0) (by simp) (by simp) ?_ ?_
     · simp [LeC, LeV, ren, cutF]
       try omega
     · rfl
 · simp -implicitDefEqProofs -dsimp only [go_sem, h1]
   have hi' : i = L.length := by simp at h1; omega
   subst hi'
   have h2 := hi.2
   rw [List.take_length] at h2
   exact WeakR.drop' (by rw [fIdx, idxI_none h2]) (by rfl)
def joinF (f g : Fault) : Fault := ⟨f.Id, f.Name, f.Bends ++ g.Bends.drop 1, max f.Slip g.Slip⟩
def connOne (L : List Fault) (i k : Nat) (g : Fault) (n : Nat) : List Fault :=
 if h : n < L.length then (if n = k then [] else if n = i then [joinF L[n] g] else [L[n]]) else []
def connT (L : List Fault) (i k : Nat) (g : Fault) : Nat → List Fault
 | 0 => []
 | n + 1 => connT L i k g n ++ connOne L i k g n
def tipEq (f g : Fault) : Bool := match f.Bends.getLast?, g.Bends.head? with
 | some a, some b => bendEq a b
 | _, _ => false
def connR (L : List Fault) (a b : Int) : Option (List Fault) :=
 if faultsB L = true then
   if h : 0 ≤ fIdx L a ∧ 0 ≤ fIdx L b ∧ fIdx L a ≠ fIdx L b ∧ (fIdx L a).toNat < L.length ∧ (fIdx L b).toNat < L.length then
     if tipEq (L[(fIdx L a).toNat]'h.2.2.2.1) (L[(fIdx L b).toNat]'h.2.2.2.2) = true ∧ faultsB (connT L (fIdx L a).toNat (fIdx L b).toNat (L[(fIdx L b).toNat]'h.2.2.2.2) L.length) = true then
       some (connT L (fIdx L a).toNat (fIdx L b).toNat (L[(fIdx L b).toNat]'h.2.2.2.2) L.length)
     else none
   else none
 else none
theorem connT_len (L : List Fault) (i k : Nat) (g : Fault) : ∀ n, (connT L i k g n).length ≤ n
 | 0 => Nat.le_refl _
 | n + 1 => by
   have := connT_len L i k g n
   have h1 : (connOne L i k g n).length ≤ 1 := by unfold connOne; split <;> (try split) <;> (try split) <;> simp
   rw [connT, List.length_append]; omega
theorem connR_no {L : List Fault} {a b : Int} (h : faultsB L = false ∨ fIdx L a = -1 ∨ fIdx L b = -1 ∨ fIdx L a = fIdx L b) : connR L a b = none := by
 unfold connR
 split
 · split
   · rename_i h1 h2
     rcases h with h | h | h | h
     · rw [h] at h1; cases h1
     · omega
     · omega
     · exact absurd h h2.2.2.1
   · rfl
 · rfl
theorem connR_yes {L : List Fault} {a b : Int} {i k : Nat} (hF : faultsB L = true) (ea : fIdx L a = i) (eb : fIdx L b = k) (hi : i < L.length) (hk : k < L.length) (hn : i ≠ k) :
   connR L a b = if tipEq L[i] L[k] = true ∧ faultsB (connT L i k L[k] L.length) = true then some (connT L i k L[k] L.length) else none := by
 unfold connR
 rw [if_pos hF, dif_pos ⟨by omega, by omega, by omega, by omega, by omega⟩]
 simp only [ea, eb, Int.toNat_natCast]
theorem tipEq_at {f g : Fault} {m : Nat} (hm : m + 1 = f.Bends.length) (hg : 0 < g.Bends.length) : tipEq f g = bendEq f.Bends[m] g.Bends[0] := by
 have h1 : f.Bends.getLast? = some f.Bends[m] := by
   rw [List.getLast?_eq_getElem?, show f.Bends.length - 1 = m by omega]
   exact List.getElem?_eq_getElem (by omega)
 have h2 : g.Bends.head? = some g.Bends[0] := by rw [List.head?_eq_getElem?]; simp
 rw [tipEq, h1, h2]
theorem fls_conn {L : List Fault} (hok : flsOk L) (hF : faultsB L = true) {i k : Nat} {g : Fault} (hg : g ∈ L) : ∀ n, flsOk (connT L i k g n)
 | 0 => fun x hx => by cases hx
 | n + 1 => fun x hx => by
   have hall := (listedB_all (Bool.and_eq_true _ _ |>.mp hF).1).1
   rw [connT, List.mem_append] at hx
   rcases hx with hx | hx
   · exact fls_conn hok hF hg n x hx
   · unfold connOne at hx
     split at hx
     · split at hx
       · cases hx
       · split at hx
         · rename_i hn _ _
           simp only [List.mem_singleton] at hx
           subst hx
           have h1 := faultB_ok (hall _ (List.getElem_mem hn))
           have h2 := faultB_ok (hall _ hg)
           refine ⟨(hok _ (List.getElem_mem hn)).1, ?_⟩
           simp [joinF]; omega
         · simp only [List.mem_singleton] at hx
           subst hx
           exact hok _ (List.getElem_mem _)
     · cases hx
end Go.Proofs
end
section
set_option maxRecDepth 100000
set_option maxHeartbeats 1000000
namespace Go.Proofs
open Go.Lv
def tCs (k : Nat) (f : Fault) : List V := [.int .i64 f.Id, .str f.Name, .osl k 0 f.Bends.length 2, .int .i64 f.Slip]
def tRows : Nat → List Fault → List V
 | _, [] => []
 | k, f :: L => tCs k f ++ tRows (k + 1) L
def tBlk (L : List Fault) : Hp := L.map fun f => some (rows Bend.cs f.Bends)
def tH (L : List Fault) : Hp := some (tRows 1 L) :: tBlk L
structure Tab (h : Hp) (b : Nat) (L : List Fault) : Prop where
 row : h[b]? = some (some (tRows (b + 1) L))
 blk : ∀ i (hi : i < L.length), h[b + 1 + i]? = some (some (rows Bend.cs L[i].Bends))
theorem tRows_len : ∀ (k : Nat) (L : List Fault), (tRows k L).length = L.length * 4
 | _, [] => rfl
 | k, f :: L => by rw [tRows, List.length_append, tRows_len (k + 1) L, List.length_cons]; show 4 + _ = _; omega
theorem tRows_map {f : Nat → R} : ∀ {k j : Nat} {L : List Fault}, (∀ i, i < L.length → f (k + i) = .to (j + i)) → (tRows k L).map (ren f 2) = tRows j L
 | _, _, [], _ => rfl
 | k, j, x :: L, h => by
   have h0 := h 0 (by simp)
   rw [Nat.add_zero, Nat.add_zero] at h0
   have ih := tRows_map (f := f) (k := k + 1) (j := j + 1) (L := L) (fun i hi => by
     have := h (i + 1) (by simp; omega)
     rw [show k + (i + 1) = k + 1 + i by omega, show j + (i + 1) = j + 1 + i by omega] at this
     exact this)
   rw [tRows, tRows, List.map_append, ih]
   simp [tCs, ren, h0]
theorem tRows_frz {f : Nat → R} : ∀ {k : Nat} {L : List Fault}, (∀ i (hi : i < L.length), f (k + i) = .frz (rows Bend.cs L[i].Bends)) → (tRows k L).map (ren f 2) = rows Fault.cs L
 | _, [], _ => rfl
 | k, x :: L, h => by
   have h0 := h 0 (by simp)
   rw [Nat.add_zero, List.getElem_cons_zero] at h0
   have ih := tRows_frz (f := f) (k := k + 1) (L := L) (fun i hi => by
     have := h (i + 1) (by simp; omega)
     rw [show k + (i + 1) = k + 1 + i by omega, List.getElem_cons_succ] at this
     exact this)
   rw [tRows, rows_cons, List.map_append, ih]
   congr 1
   simp only [tCs, Fault.cs, List.map_cons, List.map_nil, ren, h0, List.drop_zero, take_rows]
theorem tBlk_get {L : List Fault} {i : Nat} (hi : i < L.length) : (tBlk L)[i]? = some (some (rows Bend.cs L[i].Bends)) := by
 rw [tBlk, List.getElem?_map, List.getElem?_eq_getElem hi]; rfl
theorem tBlk_len (L : List Fault) : (tBlk L).length = L.length := by simp [tBlk]
theorem Tab.lt {h : Hp} {b : Nat} {L : List Fault} (T : Tab h b L) : b + L.length < h.length := by
 rcases Nat.eq_zero_or_pos L.length with e | e
 · have := (List.getElem?_eq_some_iff.1 T.row).1; omega
 · have := (List.getElem?_eq_some_iff.1 (T.blk (L.length - 1) (by omega))).1; omega
theorem Tab.of (L : List Fault) : Tab (tH L) 0 L := ⟨rfl, fun i hi => by
 rw [show 0 + 1 + i = i + 1 by omega]
 exact tBlk_get hi⟩
theorem Tab.new (h : Hp) (L : List Fault) : Tab (h ++ shH h.length (tH L)) h.length L := by
 refine ⟨?_, fun i hi => ?_⟩
 · rw [List.getElem?_append_right (Nat.le_refl _), Nat.sub_self]
   show some (shB h.length (some (tRows 1 L))) = _
   simp only [shB, Option.map_some]
   rw [tRows_map (j := h.length + 1) (fun i _ => by simp only [shf]; congr 1; omega)]
 · rw [List.getElem?_append_right (by omega), show h.length + 1 + i - h.length = i + 1 by omega]
   show ((tBlk L).map (shB h.length))[i]? = _
   rw [List.getElem?_map, tBlk_get hi]
   simp only [shB, Option.map_some, map_ren_rows]
theorem Tab.app {h : Hp} {b : Nat} {L : List Fault} (T : Tab h b L) (x : Hp) : Tab (h ++ x) b L :=
 ⟨by rw [List.getElem?_append_left (List.getElem?_eq_some_iff.1 T.row).1]; exact T.row, fun i hi => by
   rw [List.getElem?_append_left (List.getElem?_eq_some_iff.1 (T.blk i hi)).1]; exact T.blk i hi⟩
theorem Tab.snap {h : Hp} {b : Nat} {L : List Fault} (T : Tab h b L) : LeV (ren (snapR h 3) 3 (.osl b 0 L.length 4)) (Fault.sl L) := by
 refine .inl ?_
 have e : (tRows (b + 1) L).map (ren (snapR h 2) 2) = rows Fault.cs L := tRows_frz (fun i hi => by
   simp only [snapR, T.blk i hi, map_ren_rows])
 show _ = ren (snapR h 3) 3 (.osl b 0 L.length 4)
 rw [ren, show snapR h 3 b = .frz ((tRows (b + 1) L).map (ren (snapR h 2) 2)) by simp only [snapR, T.row], e]
 simp only [List.drop_zero, take_rows]
def tSel (b n : Nat) : List Nat := List.range' b (n + 1)
theorem tSel_nodup (b n : Nat) : (tSel b n).Nodup := List.nodup_range' ..
theorem tSel_len (b n : Nat) : (tSel b n).length = n + 1 := List.length_range' ..
theorem tSel_get {b n p : Nat} (h : p ≤ n) : (tSel b n)[p]? = some (b + p) := by
 rw [tSel, List.getElem?_range' (by omega)]; simp
theorem tSel_mem {b n j : Nat} : j ∈ tSel b n ↔ b ≤ j ∧ j ≤ b + n := by
 rw [tSel, List.mem_range'_1]; omega
theorem posOf_sel {b n p : Nat} (h : p ≤ n) : posOf (tSel b n) (b + p) = some p := posOf_get (tSel_nodup b n) (tSel_get h)
theorem Tab.pick {h : Hp} {b : Nat} {L : List Fault} (T : Tab h b L) : pickH (tSel b L.length) h false = tH L := by
 have e : ∀ p, p ≤ L.length → pickF (tSel b L.length) h false (b + p) = .to p := fun p hp => by rw [pickF, posOf_sel hp]
 apply List.ext_getElem?
 intro i
 rw [pickH, List.getElem?_map]
 rcases Nat.lt_or_ge L.length i with hi | hi
 · rw [List.getElem?_eq_none (by rw [tSel_len]; omega), List.getElem?_eq_none (by simp [tH, tBlk_len]; omega)]; rfl
 · rw [tSel_get hi, Option.map_some]
   cases i with
   | zero =>
     show some (pickB _ h false (b + 0)) = some (some (tRows 1 L))
     rw [Nat.add_zero, pickB, T.row]
     dsimp only
     rw [tRows_map (j := 1) (fun i hi => by rw [show b + 1 + i = b + (1 + i) by omega]; exact e _ (by omega))]
   | succ i =>
     show some (pickB _ h false (b + (i + 1))) = (tBlk L)[i]?
     rw [tBlk_get (by omega), show b + (i + 1) = b + 1 + i by omega, pickB, T.blk i (by omega)]
     dsimp only
     rw [map_ren_rows]
theorem Tab.arg {h : Hp} {b : Nat} {L : List Fault} (k : Int) : LeL (([.osl b 0 L.length 4, .int .i64 k] : List V).map (ren (pickF (tSel b L.length) h false) 3)) [.osl 0 0 L.length 4, .int .i64 k] := by
 have e : pickF (tSel b L.length) h false b = .to 0 := by
   have := posOf_sel (b := b) (n := L.length) (p := 0) (by omega)
   rw [Nat.add_zero] at this
   rw [pickF, this]
 simp [LeL, LeV, ren, e]
theorem isMb_tRows (k : Nat) (L : List Fault) : isMb (tRows k L) = false := by
 cases L with
 | nil => rfl
 | cons f L => rfl
theorem tBlk_grown : ∀ {L L' : List Fault}, L'.length = L.length → (∀ i (hi : i < L.length) (hi' : i < L'.length), L'[i].Bends.length = L[i].Bends.length) → grown (tBlk L) (tBlk L')
 | [], _, _, _ => trivial
 | x :: L, [], h, _ => by simp at h
 | x :: L, y :: L', h, hb => by
   have h0 := hb 0 (by simp) (by simp)
   refine ⟨⟨?_, by rw [isMb_rows, isMb_rows]⟩, tBlk_grown (by simpa using h) (fun i hi hi' => ?_)⟩
   · rw [rows_len (w := 2) Bend.csl, rows_len (w := 2) Bend.csl]
     simp only [List.getElem_cons_zero] at h0
     omega
   · have := hb (i + 1) (by simp; omega) (by simp; omega)
     simpa using this
theorem tab_grown {L L' : List Fault} (hl : L'.length = L.length) (hb : ∀ i (hi : i < L.length) (hi' : i < L'.length), L'[i].Bends.length = L[i].Bends.length) : grown (tH L) (tH L') :=
 ⟨⟨by rw [tRows_len, tRows_len, hl], by rw [isMb_tRows, isMb_tRows]⟩, tBlk_grown hl hb⟩
def aftT (h : Hp) (b : Nat) (L L' : List Fault) : Hp := putB h (tSel b L.length) (((tH L').take (tSel b L.length).length).map (renB (backF (tSel b L.length) h.length))) ++ ((tH L').drop (tSel b L.length).length).map (renB (backF (tSel b L.length) h.length))
theorem Tab.after {h : Hp} {b : Nat} {L L' : List Fault} (T : Tab h b L) (hl : L'.length = L.length) : Tab (aftT h b L L') b L' := by
 have hlt := T.lt
 have hH : (tH L').length = L.length + 1 := by simp [tH, tBlk_len, hl]
 have ht : (tH L').take (tSel b L.length).length = tH L' := List.take_of_length_le (by rw [tSel_len]; omega)
 have get : ∀ p (x : Option (List V)), p ≤ L.length → (tH L')[p]? = some x → (aftT h b L L')[b + p]? = some (renB (backF (tSel b L.length) h.length) x) := by
   intro p x hp hx
   rw [aftT, List.getElem?_append_left (by rw [putB_length]; omega)]
   refine putB_get _ _ _ p _ _ (tSel_nodup _ _) (tSel_get hp) ?_ (by omega)
   rw [ht, List.getElem?_map, hx]; rfl
 refine ⟨?_, fun i hi => ?_⟩
 · have := get 0 _ (by omega) rfl
   rw [Nat.add_zero] at this
   rw [this]
   simp only [renB, Option.map_some]
   rw [tRows_map (j := b + 1) (fun i hi => by
     rw [backF, tSel_get (by omega)]
     simp only []
     congr 1; omega)]
 · have := get (i + 1) (some (rows Bend.cs L'[i].Bends)) (by omega) (tBlk_get hi)
   rw [show b + 1 + i = b + (i + 1) by omega, this]
   simp only [renB, Option.map_some, map_ren_rows]
theorem Tab.other {h : Hp} {b c : Nat} {L L' M : List Fault} (T : Tab h b L) (U : Tab h c M) (hd : c + M.length < b ∨ b + L.length < c) : Tab (aftT h b L L') c M := by
 have hlt := U.lt
 have get : ∀ j, j < h.length → ¬ (b ≤ j ∧ j ≤ b + L.length) → (aftT h b L L')[j]? = h[j]? := by
   intro j hj hn
   rw [aftT, List.getElem?_append_left (by rw [putB_length]; omega), putB_other _ _ _ _ (fun h => hn (tSel_mem.1 h))]
 exact ⟨by rw [get c (by omega) (by omega)]; exact U.row, fun i hi => by rw [get _ (by omega) (by omega)]; exact U.blk i hi⟩
theorem tRows_noRo : ∀ (k : Nat) (L : List Fault), (tRows k L).all (noRoB 0) = true
 | _, [] => rfl
 | k, f :: L => by rw [tRows, List.all_append, tRows_noRo (k + 1) L]; rfl
theorem noRo_tH (L : List Fault) : NoRoH (tH L) := NoRoH.of (by
 rw [hpNoRo, tH, List.all_cons]
 show ((tRows 1 L).all (noRoB 0) && _) = true
 rw [tRows_noRo, Bool.true_and, List.all_eq_true]
 intro x hx
 rw [tBlk, List.mem_map] at hx
 obtain ⟨f, _, rfl⟩ := hx
 exact rows_noRo _)
end Go.Proofs
end
section
namespace Go.Lv

theorem ba_size (l : Array UInt8) : (ByteArray.mk l).size = l.size := rfl
end Go.Lv
end
section
set_option maxRecDepth 100000
set_option maxHeartbeats 2000000
namespace Go.Proofs
open Go.Lv
def mkAcc (n : Nat) (out : ByteArray) : ByteArray := if n = 0 then out else mkAcc (n / 10) (strOfNums [48 + ((n % 10 : Nat) : Int)] ++ out)
termination_by n
decreasing_by omega
def mkT (k : Int) : ByteArray := if k ≤ 0 then ⟨#[109, 48]⟩ else ⟨#[109]⟩ ++ mkAcc k.toNat ByteArray.empty
theorem wrap_u8 {x : Int} (h0 : 0 ≤ x) (h1 : x ≤ 255) : IntKind.u8.wrap x = x := by
 simp only [IntKind.wrap]
 simp [IntKind.bits, IntKind.signed] <;> omega
theorem markText_ok (k : Int) (hk : k ≤ 281474976710656) : Ctr Try.prog 21 [.int .i64 k] [] (.str (mkT k)) [] := by
 refine Ctr.intro Try.mixed Try.func21 rfl Try.okF21 ?_
 simp -implicitDefEqProofs -dsimp only [go_sem, Try.ntmps21, Try.results21]
 refine condT.split (fun h1 => ?_) (fun h1 => ?_) <;> simp -implicitDefEqProofs -dsimp only [go_sem, h1]
 · exact WeakR.drop' (by rw [mkT, if_pos (by simpa using h1)]) rfl
 have h1' : ¬ k ≤ 0 := by simpa using h1
 refine LoopT.intro (fun x : Nat × ByteArray => mkAcc x.1 x.2 = mkAcc k.toNat ByteArray.empty ∧ x.1 + x.2.size ≤ 281474976710656) (fun x => ⟨[.int .i64 (x.1 : Int), .undef, .undef, .str x.2, .undef, .undef, .undef, .undef, .undef, .undef, .undef, .undef, .undef, .undef, .undef, .undef, .undef, .undef, .undef, .undef], [], 0⟩) (fun x => x.1) (k.toNat, ByteArray.empty) ⟨rfl, by show k.toNat + 0 ≤ _; omega⟩ ?_ (fun x hx => ?_)
 · refine Weak.cut (0) (by simp) (by simp) ?_ ?_
   · have : ((k.toNat : Nat) : Int) = k := by omega
     simp [LeC, LeV, ren, cutF, this]
     rfl
   · rfl
 obtain ⟨n, out⟩ := x
 obtain ⟨hx1, hx2⟩ := hx
 dsimp only at hx1 hx2
 simp -implicitDefEqProofs -dsimp only [go_sem]
 refine condT.split (fun h2 => ?_) (fun h2 => ?_)
 · simp -implicitDefEqProofs -dsimp only [go_sem, h2]
   have hn : 0 < n := by simpa using h2
   have hm : (n : Int).tmod 10 = ((n % 10 : Nat) : Int) := by rw [Int.tmod_eq_emod_of_nonneg (by omega)]; omega
   have hq : (n : Int).tdiv 10 = ((n / 10 : Nat) : Int) := by rw [Int.tdiv_eq_ediv_of_nonneg (by omega)]; omega
   have hu := wrap_u8 (x := 48 + ((n % 10 : Nat) : Int)) (by omega) (by omega)
   (repeat ((repeat1' (first | simp -implicitDefEqProofs -dsimp only [go_sem, hm, hq, hu] | simp -dsimp (disch := omega) only [wrap_i64])); repeat (with_reducible refine And.intro ?_ ?_; focus (first | omega | with_reducible rfl | (show drawOk _ = true; kernel_rfl) | (simp only [rows_length, rows_cell, List.length_append, List.length_cons, List.length_nil, List.all_append, List.all_cons, List.all_nil, isCell, Nat.mul_one, Nat.one_mul, Bool.and_self]; first | done | omega) | (simp only [ByteArray.size_append, ba_size, List.size_toArray, List.length_cons, List.length_nil]; omega)))))
   have z1 : (strOfNums [48 + ((n % 10 : Nat) : Int)]).size = 1 := rfl
   refine ⟨by omega, by omega, (n / 10, strOfNums [48 + ((n % 10 : Nat) : Int)] ++ out), ⟨?_, ?_⟩, ?_, by show n / 10 < n; omega⟩
   · rw [← hx1]
     conv => rhs; rw [mkAcc, if_neg (by omega)]
   · rw [ByteArray.size_append, z1]; show n / 10 + _ ≤ _; omega
   · refine Weak.cut (0) (by simp) (by simp) ?_ ?_
     · simp [LeC, LeV, ren, cutF]
     · rfl
 · simp -implicitDefEqProofs -dsimp only [go_sem, h2]
   have hn : n = 0 := by simp at h2; omega
   subst hn
   rw [mkAcc] at hx1
   simp only [if_true] at hx1
   have z1 : (#[109] : Array UInt8).size = 1 := rfl
   have z2 : (⟨#[109]⟩ : ByteArray).size = 1 := rfl
   refine ⟨by omega, WeakR.drop' (by rw [mkT, if_neg h1', ← hx1]) rfl⟩
end Go.Proofs
end
section
set_option maxRecDepth 100000
set_option maxHeartbeats 2000000
namespace Go.Proofs
open Go.Lv
def LeU : List V → List V → Prop
 | [], [] => True
 | a :: l, b :: l' => (b = a ∨ b = .undef) ∧ LeU l l'
 | _, _ => False
theorem LeU.get : ∀ {l l' : List V}, LeU l l' → l'.length = l.length ∧ ∀ i (hi : i < l.length) (hi' : i < l'.length), l'[i] = l[i] ∨ l'[i] = .undef
 | [], [], _ => ⟨rfl, fun i hi => by simp at hi⟩
 | a :: l, b :: l', h => by
   obtain ⟨h1, h2⟩ := LeU.get h.2
   refine ⟨by simp [h1], fun i hi hi' => ?_⟩
   cases i with
   | zero => exact h.1
   | succ i => simpa using h2 i (by simpa using hi) (by simpa using hi')
 | [], _ :: _, h => h.elim
 | _ :: _, [], h => h.elim
theorem Weak.keep {t t2 : List V} {h h2 : Hp} {k : Nat} (ht : LeU t t2) (hh : h = h2) : Weak ⟨t, h, k⟩ ⟨t2, h2, k⟩ := by
 subst hh
 intro w0 m0 h0 av0 a w m I
 exact ⟨m, I.le ht.get.1 ht.get.2⟩
theorem WeakR.of_eq' {k : Nat} {v r : V} {h hout : Hp} (e : v = r) (eh : h = hout) : WeakR k v h r hout := by subst e; subst eh; exact WeakR.refl k v h
theorem tRows_app : ∀ (k : Nat) (A B : List Fault), tRows k (A ++ B) = tRows k A ++ tRows (k + A.length) B
 | _, [], _ => rfl
 | k, f :: A, B => by
   rw [List.cons_append, tRows, tRows, tRows_app (k + 1) A B, List.append_assoc, List.length_cons, show k + 1 + A.length = k + (A.length + 1) by omega]
theorem tRows_one (k : Nat) (f : Fault) : tRows k [f] = tCs k f := by simp [tRows]
theorem tRows_at {L : List Fault} {i : Nat} (k : Nat) (hi : i < L.length) : tRows k L = tRows k (L.take i) ++ (tCs (k + i) L[i] ++ tRows (k + i + 1) (L.drop (i + 1))) := by
 have e : L = L.take i ++ L[i] :: L.drop (i + 1) := by rw [← List.drop_eq_getElem_cons hi, List.take_append_drop]
 conv => lhs; rw [e, tRows_app]
 rw [List.length_take, Nat.min_eq_left (by omega), tRows]
theorem tBlk_app (A B : List Fault) : tBlk (A ++ B) = tBlk A ++ tBlk B := by simp [tBlk]
def Fault.zs : List V := [.int .i64 0, .str ByteArray.empty, .nilsl, .int .i64 0]
def fRows (L : List Fault) (i : Nat) : List V := tRows 1 (L.take i) ++ zrow ((L.length - i) * 4) Fault.zs
theorem fRows_len {L : List Fault} {i : Nat} (hi : i ≤ L.length) : (fRows L i).length = L.length * 4 := by
 simp only [fRows, List.length_append, tRows_len, zrow_len, List.length_take, Nat.min_eq_left hi]
 omega
theorem fRows_step {L : List Fault} {i : Nat} (hi : i < L.length) : splice (fRows L i) (i * 4) (tCs (1 + i) L[i]) = fRows L (i + 1) := by
 have hl : (tRows 1 (L.take i)).length = i * 4 := by rw [tRows_len, List.length_take, Nat.min_eq_left (by omega)]
 have h4 : (tCs (1 + i) L[i]).length = 4 := rfl
 unfold fRows
 rw [splice_mid0 hl, splice, List.take_zero, List.nil_append, Nat.zero_add, h4, show (4 : Nat) = Fault.zs.length from rfl, zrow_drop rfl, List.take_succ_eq_append_getElem hi, tRows_app, tRows_one, List.length_take, Nat.min_eq_left (by omega), List.append_assoc]
 rw [show (L.length - i) * Fault.zs.length - Fault.zs.length = (L.length - (i + 1)) * Fault.zs.length by rw [← Nat.sub_one_mul]; congr 1]
theorem toFaultS_ok (L : List Fault) (hl : L.length ≤ 1048576) (hb : ∀ f ∈ L, f.Bends.length ≤ 1048576) : Ctr Try.prog 6 [Fault.sl L] [] (.osl 0 0 L.length 4) (tH L) := by
 refine Ctr.intro Try.mixed Try.func6 rfl Try.okF6 ?_
 simp -implicitDefEqProofs -dsimp only [go_sem, Nat.reduceSub, Nat.reduceAdd, Nat.reduceMul, Nat.reduceLT, Nat.reduceLeDiff, Nat.reduceEqDiff, Nat.reduceDiv, Nat.reduceMod, Int.reduceToNat, Int.reduceLE, Int.reduceLT, Int.reduceBEq, Int.reduceBNe, Int.reduceNeg, Int.reduceAdd, Int.reduceSub, Int.reduceMul, reduceCtorEq, Try.ntmps6, Try.results6]
 refine ⟨by omega, by omega, by omega, ?_⟩
 refine LoopT.intro (fun i : Nat => i ≤ L.length) (fun i => ⟨[Fault.sl L, .undef, .undef, .osl 0 0 L.length 4, .int .i64 i, .undef, .undef, .undef, .undef, .undef, .undef, .undef, .undef, .undef, .undef, .undef, .undef, .undef, .undef, .undef, .undef, .undef, .undef], some (fRows L i) :: tBlk (L.take i), 0⟩) (fun i => L.length - i) 0 (Nat.zero_le _) ?_ (fun i hi => ?_)
 · refine Weak.keep (by simp [LeU]) ?_
   simp [fRows, tBlk, tRows, Fault.zs]
 have hbl : (tBlk (L.take i)).length = i := by rw [tBlk_len, List.length_take, Nat.min_eq_left hi]
 simp -implicitDefEqProofs -dsimp only [go_sem, Nat.reduceSub, Nat.reduceAdd, Nat.reduceMul, Nat.reduceLT, Nat.reduceLeDiff, Nat.reduceEqDiff, Nat.reduceDiv, Nat.reduceMod, Int.reduceToNat, Int.reduceLE, Int.reduceLT, Int.reduceBEq, Int.reduceBNe, Int.reduceNeg, Int.reduceAdd, Int.reduceSub, Int.reduceMul, reduceCtorEq]
 refine condT.split (fun h1 => ?_) (fun h1 => ?_)
 · simp -implicitDefEqProofs -dsimp only [go_sem, Nat.reduceSub, Nat.reduceAdd, Nat.reduceMul, Nat.reduceLT, Nat.reduceLeDiff, Nat.reduceEqDiff, Nat.reduceDiv, Nat.reduceMod, Int.reduceToNat, Int.reduceLE, Int.reduceLT, Int.reduceBEq, Int.reduceBNe, Int.reduceNeg, Int.reduceAdd, Int.reduceSub, Int.reduceMul, reduceCtorEq, h1]
   have hi' : i < L.length := by simpa using h1
   have hr := rows_at Fault.csl hi'
   have hw1 : IntKind.i64.wrap ((i : Int) + 1) = ((i + 1 : Nat) : Int) := by rw [wrap_i64 (by omega) (by omega)]; omega
   (repeat ((repeat1' (first | simp -implicitDefEqProofs -dsimp only [go_sem, Nat.reduceSub, Nat.reduceAdd, Nat.reduceMul, Nat.reduceLT, Nat.reduceLeDiff, Nat.reduceEqDiff, Nat.reduceDiv, Nat.reduceMod, Int.reduceToNat, Int.reduceLE, Int.reduceLT, Int.reduceBEq, Int.reduceBNe, Int.reduceNeg, Int.reduceAdd, Int.reduceSub, Int.reduceMul, reduceCtorEq, hr, Fault.cs] | simp -dsimp (disch := omega) only [wrap_i64])); repeat (with_reducible refine sideA ?_)))
   (first | refine callT.at (toFault_ok L[i] (hb _ (List.getElem_mem hi'))) ⟨leA, trivial⟩ ?_ | refine callS.at (toFault_ok L[i] (hb _ (List.getElem_mem hi'))) ⟨leA, trivial⟩ ?_)
   (repeat ((repeat1' (first | simp -implicitDefEqProofs -dsimp only [go_sem, Nat.reduceSub, Nat.reduceAdd, Nat.reduceMul, Nat.reduceLT, Nat.reduceLeDiff, Nat.reduceEqDiff, Nat.reduceDiv, Nat.reduceMod, Int.reduceToNat, Int.reduceLE, Int.reduceLT, Int.reduceBEq, Int.reduceBNe, Int.reduceNeg, Int.reduceAdd, Int.reduceSub, Int.reduceMul, reduceCtorEq, Fault.o, hbl] | simp -dsimp (disch := omega) only [wrap_i64])); repeat (with_reducible refine sideA ?_)))
   refine ⟨by rw [fRows_len hi]; omega, i + 1, hi', ?_, by omega⟩
   refine Weak.keep (by simp [LeU, hw1]) ?_
   have hs := fRows_step hi'
   rw [show 1 + i = i + 1 + 0 by omega, tCs] at hs
   rw [hs, List.take_succ_eq_append_getElem hi', tBlk_app]
   rfl
 · have hi' : i = L.length := by simp at h1; omega
   subst hi'
   (repeat ((repeat1' (first | simp -implicitDefEqProofs -dsimp only [go_sem, Nat.reduceSub, Nat.reduceAdd, Nat.reduceMul, Nat.reduceLT, Nat.reduceLeDiff, Nat.reduceEqDiff, Nat.reduceDiv, Nat.reduceMod, Int.reduceToNat, Int.reduceLE, Int.reduceLT, Int.reduceBEq, Int.reduceBNe, Int.reduceNeg, Int.reduceAdd, Int.reduceSub, Int.reduceMul, reduceCtorEq, h1] | simp -dsimp (disch := omega) only [wrap_i64])); repeat (with_reducible refine sideA ?_)))
   refine WeakR.of_eq' rfl ?_
   rw [tH, List.take_length, fRows, List.take_length, Nat.sub_self, Nat.zero_mul]
   simp [zrow]
def mkF (k : Int) (f : Fault) : Fault := ⟨k, mkT (k + 1), Bend.marks (k + 1 + 1) f.Bends.length, k + 1 + 1 + 2 * f.Bends.length⟩
def mkN (k : Int) (f : Fault) : Int := k + 1 + 1 + 2 * f.Bends.length + 1
def mkL : Int → List Fault → List Fault
 | _, [] => []
 | k, f :: L => mkF k f :: mkL (mkN k f) L
def mkE : Int → List Fault → Int
 | k, [] => k
 | k, f :: L => mkE (mkN k f) L
theorem mkL_len : ∀ (k : Int) (L : List Fault), (mkL k L).length = L.length
 | _, [] => rfl
 | k, f :: L => by rw [mkL, List.length_cons, mkL_len (mkN k f) L, List.length_cons]
theorem mkL_app : ∀ (k : Int) (A B : List Fault), mkL k (A ++ B) = mkL k A ++ mkL (mkE k A) B
 | _, [], _ => rfl
 | k, f :: A, B => by rw [List.cons_append, mkL, mkL_app (mkN k f) A B, mkL, mkE, List.cons_append]
def mkW (L : List Fault) : Nat := (L.map fun f => 3 + 2 * f.Bends.length).sum
theorem mkE_eq : ∀ (k : Int) (L : List Fault), mkE k L = k + mkW L
 | k, [] => by simp [mkE, mkW]
 | k, f :: L => by
   rw [mkE, mkE_eq (mkN k f) L, mkN]
   simp only [mkW, List.map_cons, List.sum_cons]
   omega
theorem mkW_take (L : List Fault) (i : Nat) : mkW (L.take i) ≤ mkW L := by
 conv => rhs; rw [← List.take_append_drop i L]
 simp only [mkW, List.map_append, List.sum_append]
 omega
theorem mkL_bends : ∀ (k : Int) (L : List Fault) (i : Nat) (hi : i < L.length) (hi' : i < (mkL k L).length), (mkL k L)[i].Bends.length = L[i].Bends.length
 | _, [], i, hi, _ => by simp at hi
 | k, f :: L, 0, _, _ => by simp [mkL, mkF]
 | k, f :: L, i + 1, hi, hi' => by
   have := mkL_bends (mkN k f) L i (by simpa using hi) (by rw [mkL_len]; simpa using hi)
   simpa [mkL] using this
theorem take_one {L : List Fault} {i : Nat} (hi : i < L.length) (k : Int) : mkL k (L.take (i + 1)) = mkL k (L.take i) ++ [mkF (mkE k (L.take i)) L[i]] := by
 rw [List.take_succ_eq_append_getElem hi, mkL_app]; rfl
def mRow (k : Int) (L : List Fault) (i : Nat) : List Fault := mkL k (L.take i) ++ L.drop i
theorem mRow_len (k : Int) (L : List Fault) (i : Nat) : (mRow k L i).length = L.length := by
 rw [mRow, List.length_append, mkL_len, List.length_take, List.length_drop]; omega
theorem markFaultS_ok (L : List Fault) (kk : Int) (hl : L.length ≤ 16777216) (hk : 0 ≤ kk) (hk2 : kk ≤ 16777216) (hw : mkW L ≤ 16777216) : Ctr Try.prog 9 [.osl 0 0 L.length 4, .int .i64 kk] (tH L) (.int .i64 (mkE kk L)) (tH (mkL kk L)) := by
 refine Ctr.intro Try.mixed Try.func9 rfl Try.okF9 ?_
 simp -implicitDefEqProofs -dsimp only [go_sem, Nat.reduceSub, Nat.reduceAdd, Nat.reduceMul, Nat.reduceLT, Nat.reduceLeDiff, Nat.reduceEqDiff, Nat.reduceDiv, Nat.reduceMod, Int.reduceToNat, Int.reduceLE, Int.reduceLT, Int.reduceBEq, Int.reduceBNe, Int.reduceNeg, Int.reduceAdd, Int.reduceSub, Int.reduceMul, reduceCtorEq, Try.ntmps9, Try.results9]
 refine LoopT.intro (fun i : Nat => i ≤ L.length) (fun i => ⟨[.osl 0 0 L.length 4, .int .i64 (mkE kk (L.take i)), .undef, .undef, .undef, .int .i64 i, .undef, .undef, .undef, .undef, .undef, .undef, .undef, .undef, .undef, .undef, .undef, .undef, .undef, .undef, .undef, .undef, .undef, .undef, .undef, .undef, .undef, .undef, .undef, .undef, .undef, .undef, .undef, .undef, .undef, .undef, .undef, .undef, .undef, .undef, .undef, .undef], some (tRows 1 (mRow kk L i)) :: tBlk (mRow kk L i), (tH L).length⟩) (fun i => L.length - i) 0 (Nat.zero_le _) ?_ (fun i hi => ?_)
 · exact Weak.keep (by simp [LeU, mkE]) (by simp [mRow, mkL, tH])
 generalize (tH L).length = kl
 by_cases hi' : i < L.length
 · have hd : decide ((i : Int) < (L.length : Int)) = true := decide_eq_true (by omega)
   have hrl := mRow_len kk L i
   have hmi : i < (mRow kk L i).length := by omega
   have hlen : (mkL kk (L.take i)).length = i := by rw [mkL_len, List.length_take, Nat.min_eq_left hi]
   have hget : (mRow kk L i)[i]'hmi = L[i] := by
     simp only [mRow]
     rw [List.getElem_append_right (by omega)]
     simp only [hlen, Nat.sub_self, List.getElem_drop, Nat.add_zero]
   have htake : (mRow kk L i).take i = mkL kk (L.take i) := by rw [mRow, List.take_append, hlen, Nat.sub_self, List.take_zero, List.append_nil, List.take_of_length_le (by omega)]
   have hdrop : (mRow kk L i).drop (i + 1) = L.drop (i + 1) := by
     rw [mRow, List.drop_append, hlen, List.drop_of_length_le (by omega), List.nil_append, List.drop_drop]
     congr 1; omega
   have hrow := tRows_at 1 hmi
   rw [hget, htake, hdrop] at hrow
   have hT := tBlk_get hmi
   rw [hget] at hT
   have hA : (tRows 1 (mkL kk (L.take i))).length = i * 4 := by rw [tRows_len, hlen]
   rw [hrow, tCs, Nat.add_comm 1 i]
   have hnext1 : tRows 1 (mRow kk L (i + 1)) = tRows 1 (mkL kk (L.take i)) ++ (tCs (i + 1) (mkF (mkE kk (L.take i)) L[i]) ++ tRows (1 + i + 1) (L.drop (i + 1))) := by
     rw [mRow, take_one hi', tRows_app, tRows_app, tRows_one, List.append_assoc, List.length_append, hlen, Nat.add_comm 1 i, ← Nat.add_assoc]
     simp only [List.length_cons, List.length_nil, Nat.zero_add, Nat.add_comm 1]
   have hnext2 : tBlk (mRow kk L (i + 1)) = (tBlk (mRow kk L i)).set i (some (rows Bend.cs (mkF (mkE kk (L.take i)) L[i]).Bends)) := by
     rw [mRow, take_one hi', mRow, List.drop_eq_getElem_cons hi', tBlk_app, tBlk_app, tBlk_app, List.set_append_right _ _ (by rw [tBlk_len, hlen]; exact Nat.le_refl _), tBlk_len, hlen, Nat.sub_self, List.append_assoc]
     rfl
   have hTl : (tBlk (mRow kk L i)).length = L.length := by rw [tBlk_len, hrl]
   have hE : mkE kk (L.take i) = kk + mkW (L.take i) := mkE_eq _ _
   have hWi := mkW_take L (i + 1)
   have hW2 : mkW (L.take (i + 1)) = mkW (L.take i) + (3 + 2 * L[i].Bends.length) := by
     rw [List.take_succ_eq_append_getElem hi', mkW, mkW, List.map_append, List.sum_append]; rfl
   have hEn : mkE kk (L.take (i + 1)) = mkE kk (L.take i) + 1 + 1 + 2 * (L[i].Bends.length : Int) + 1 := by rw [mkE_eq, hW2, hE]; omega
   have hfl : L[i].Bends.length ≤ 16777216 := by omega
   generalize tBlk (mRow kk L i) = T at *
   generalize tRows 1 (mkL kk (L.take i)) = A at *
   rw [Nat.add_comm 1 i] at *
   generalize tRows (i + 1 + 1) (L.drop (i + 1)) = D at *
   generalize mkE kk (L.take i) = e at *
   have hsp : ∀ (M ns : List V) (j : Nat), splice (A ++ M) (i * 4 + j) ns = A ++ splice M j ns := fun M ns j => splice_mid hA
   have hsp0 : ∀ (M ns : List V), splice (A ++ M) (i * 4) ns = A ++ splice M 0 ns := fun M ns => splice_mid0 hA
   have hdr : ∀ (M : List V) (j : Nat), (A ++ M).drop (i * 4 + j) = M.drop j := fun M j => by rw [List.drop_append, hA, List.drop_of_length_le (by omega), List.nil_append]; congr 1; omega
   (repeat ((repeat1' (first | simp -implicitDefEqProofs -dsimp only [go_sem, Nat.reduceSub, Nat.reduceAdd, Nat.reduceMul, Nat.reduceLT, Nat.reduceLeDiff, Nat.reduceEqDiff, Nat.reduceDiv, Nat.reduceMod, Int.reduceToNat, Int.reduceLE, Int.reduceLT, Int.reduceBEq, Int.reduceBNe, Int.reduceNeg, Int.reduceAdd, Int.reduceSub, Int.reduceMul, reduceCtorEq, hd, hsp, hsp0, hdr, List.length_append, hA] | simp -dsimp (disch := omega) only [wrap_i64])); repeat (with_reducible refine sideA ?_)))
   (have ct := markText_ok (e + 1) (by omega); (first | refine callT.at ct ⟨leA, trivial⟩ ?_ | refine callS.at ct ⟨leA, trivial⟩ ?_); clear ct)
   (repeat ((repeat1' (first | simp -implicitDefEqProofs -dsimp only [go_sem, Nat.reduceSub, Nat.reduceAdd, Nat.reduceMul, Nat.reduceLT, Nat.reduceLeDiff, Nat.reduceEqDiff, Nat.reduceDiv, Nat.reduceMod, Int.reduceToNat, Int.reduceLE, Int.reduceLT, Int.reduceBEq, Int.reduceBNe, Int.reduceNeg, Int.reduceAdd, Int.reduceSub, Int.reduceMul, reduceCtorEq, hsp, hsp0, hdr, List.length_append, hA] | simp -dsimp (disch := omega) only [wrap_i64])); repeat (with_reducible refine sideA ?_)))
   refine callS.lend [i + 1] false (markBendS_ok L[i].Bends (e + 1 + 1) (by omega) (by omega) (by omega)) (by simp) ⟨by simp [ren, pickF, posOf, LeV], leO, trivial⟩ (lend_one hT) (grown_one (by simp)) (.inl rfl) ?_
   (repeat ((repeat1' (first | simp -implicitDefEqProofs -dsimp only [go_sem, Nat.reduceSub, Nat.reduceAdd, Nat.reduceMul, Nat.reduceLT, Nat.reduceLeDiff, Nat.reduceEqDiff, Nat.reduceDiv, Nat.reduceMod, Int.reduceToNat, Int.reduceLE, Int.reduceLT, Int.reduceBEq, Int.reduceBNe, Int.reduceNeg, Int.reduceAdd, Int.reduceSub, Int.reduceMul, reduceCtorEq, hsp, hsp0, hdr, List.length_append, hA, map_ren_rows] | simp -dsimp (disch := omega) only [wrap_i64])); repeat (with_reducible refine sideA ?_)))
   refine ⟨i + 1, hi', ?_, by omega⟩
   refine Weak.keep (by simp [LeU, hEn]) ?_
   rw [hnext1, hnext2, mkF, tCs, Bend.marks_len]
   rfl
 · have hi2 : i = L.length := by omega
   subst hi2
   have hd : decide ((L.length : Int) < (L.length : Int)) = false := decide_eq_false (by omega)
   (repeat ((repeat1' (first | simp -implicitDefEqProofs -dsimp only [go_sem, Nat.reduceSub, Nat.reduceAdd, Nat.reduceMul, Nat.reduceLT, Nat.reduceLeDiff, Nat.reduceEqDiff, Nat.reduceDiv, Nat.reduceMod, Int.reduceToNat, Int.reduceLE, Int.reduceLT, Int.reduceBEq, Int.reduceBNe, Int.reduceNeg, Int.reduceAdd, Int.reduceSub, Int.reduceMul, reduceCtorEq, hd] | simp -dsimp (disch := omega) only [wrap_i64])); repeat (with_reducible refine sideA ?_)))
   refine WeakR.of_eq' (by rw [List.take_length]) ?_
   rw [tH, mRow, List.take_length, List.drop_length, List.append_nil]
theorem heldFaultS_ok (L : List Fault) (kk : Int) (hl : L.length ≤ 16777216) (hk : 0 ≤ kk) (hk2 : kk ≤ 16777216) (hw : mkW L ≤ 16777216) : Ctr Try.prog 10 [Fault.sl (mkL kk L), .int .i64 kk] [] (.int .i64 (mkE kk L)) [] := by
 refine Ctr.intro Try.mixed Try.func10 rfl Try.okF10 ?_
 simp -implicitDefEqProofs -dsimp only [go_sem, Nat.reduceSub, Nat.reduceAdd, Nat.reduceMul, Nat.reduceLT, Nat.reduceLeDiff, Nat.reduceEqDiff, Nat.reduceDiv, Nat.reduceMod, Int.reduceToNat, Int.reduceLE, Int.reduceLT, Int.reduceBEq, Int.reduceBNe, Int.reduceNeg, Int.reduceAdd, Int.reduceSub, Int.reduceMul, reduceCtorEq, Try.ntmps10, Try.results10]
 refine LoopT.intro (fun i : Nat => i ≤ L.length) (fun i => ⟨[Fault.sl (mkL kk L), .int .i64 (mkE kk (L.take i)), .undef, .undef, .undef, .int .i64 i, .undef, .undef, .undef, .undef, .undef, .undef, .undef, .undef, .undef, .undef, .undef, .undef, .undef, .undef, .undef, .undef, .undef, .undef, .undef, .undef, .undef, .undef, .undef, .undef, .undef, .undef, .undef, .undef, .undef, .undef, .undef, .undef, .undef, .undef, .undef, .undef, .undef, .undef, .undef, .undef, .undef, .undef, .undef, .undef], [], 0⟩) (fun i => L.length - i) 0 (Nat.zero_le _) ?_ (fun i hi => ?_)
 · exact Weak.keep (by simp [LeU, mkE]) rfl
 have hml := mkL_len kk L
 by_cases hi' : i < L.length
 · have hd : decide ((i : Int) < ((mkL kk L).length : Int)) = true := decide_eq_true (by omega)
   have hmi : i < (mkL kk L).length := by omega
   have hr := rows_at Fault.csl hmi
   have hget : (mkL kk L)[i]'hmi = mkF (mkE kk (L.take i)) L[i] := by
     have hlen : (mkL kk (L.take i)).length = i := by rw [mkL_len, List.length_take, Nat.min_eq_left hi]
     have e : mkL kk L = mkL kk (L.take i) ++ (mkF (mkE kk (L.take i)) L[i] :: mkL (mkN (mkE kk (L.take i)) L[i]) (L.drop (i + 1))) := by
       conv => lhs; rw [← List.take_append_drop i L, List.drop_eq_getElem_cons hi', mkL_app, mkL]
     simp only [e]
     rw [List.getElem_append_right (by omega)]
     simp [hlen]
   rw [hget] at hr
   have hE : mkE kk (L.take i) = kk + mkW (L.take i) := mkE_eq _ _
   have hWi := mkW_take L (i + 1)
   have hW2 : mkW (L.take (i + 1)) = mkW (L.take i) + (3 + 2 * L[i].Bends.length) := by
     rw [List.take_succ_eq_append_getElem hi', mkW, mkW, List.map_append, List.sum_append]; rfl
   have hEn : mkE kk (L.take (i + 1)) = mkE kk (L.take i) + 1 + 1 + 2 * (L[i].Bends.length : Int) + 1 := by rw [mkE_eq, hW2, hE]; omega
   have hfl : L[i].Bends.length ≤ 16777216 := by omega
   generalize mkE kk (L.take i) = e at *
   have c0 := heldBendS_ok L[i].Bends.length (e + 1 + 1) (by omega) (by omega) (by omega)
   simp only [Bend.sl, Bend.marks_len] at c0
   have hneg : decide (e + 1 + 1 + 2 * (L[i].Bends.length : Int) < 0) = false := decide_eq_false (by omega)
   (repeat ((repeat1' (first | simp -implicitDefEqProofs -dsimp only [go_sem, Nat.reduceSub, Nat.reduceAdd, Nat.reduceMul, Nat.reduceLT, Nat.reduceLeDiff, Nat.reduceEqDiff, Nat.reduceDiv, Nat.reduceMod, Int.reduceToNat, Int.reduceLE, Int.reduceLT, Int.reduceBEq, Int.reduceBNe, Int.reduceNeg, Int.reduceAdd, Int.reduceSub, Int.reduceMul, reduceCtorEq, hd, hr, Fault.cs, mkF, Bend.marks_len] | simp -dsimp (disch := omega) only [wrap_i64])); repeat (with_reducible refine sideA ?_)))
   (have ct := markText_ok (e + 1) (by omega); (first | refine callT.at ct ⟨leA, trivial⟩ ?_ | refine callS.at ct ⟨leA, trivial⟩ ?_); clear ct)
   (repeat ((repeat1' (first | simp -implicitDefEqProofs -dsimp only [go_sem, Nat.reduceSub, Nat.reduceAdd, Nat.reduceMul, Nat.reduceLT, Nat.reduceLeDiff, Nat.reduceEqDiff, Nat.reduceDiv, Nat.reduceMod, Int.reduceToNat, Int.reduceLE, Int.reduceLT, Int.reduceBEq, Int.reduceBNe, Int.reduceNeg, Int.reduceAdd, Int.reduceSub, Int.reduceMul, reduceCtorEq, beq_self_eq_true, Bend.marks_len, hr, Fault.cs, mkF] | simp -dsimp (disch := omega) only [wrap_i64])); repeat (with_reducible refine sideA ?_)))
   (first | refine callT.at (c0) ⟨leA, leA, trivial⟩ ?_ | refine callS.at (c0) ⟨leA, leA, trivial⟩ ?_)
   (repeat ((repeat1' (first | simp -implicitDefEqProofs -dsimp only [go_sem, Nat.reduceSub, Nat.reduceAdd, Nat.reduceMul, Nat.reduceLT, Nat.reduceLeDiff, Nat.reduceEqDiff, Nat.reduceDiv, Nat.reduceMod, Int.reduceToNat, Int.reduceLE, Int.reduceLT, Int.reduceBEq, Int.reduceBNe, Int.reduceNeg, Int.reduceAdd, Int.reduceSub, Int.reduceMul, reduceCtorEq, hneg, bne_self_eq_false, Bend.marks_len, hr, Fault.cs, mkF] | simp -dsimp (disch := omega) only [wrap_i64])); repeat (with_reducible refine sideA ?_)))
   refine ⟨i + 1, hi', ?_, by omega⟩
   exact Weak.keep (by simp [LeU, hEn]) rfl
 · have hi2 : i = L.length := by omega
   subst hi2
   have hd : decide ((L.length : Int) < ((mkL kk L).length : Int)) = false := decide_eq_false (by omega)
   (repeat ((repeat1' (first | simp -implicitDefEqProofs -dsimp only [go_sem, Nat.reduceSub, Nat.reduceAdd, Nat.reduceMul, Nat.reduceLT, Nat.reduceLeDiff, Nat.reduceEqDiff, Nat.reduceDiv, Nat.reduceMod, Int.reduceToNat, Int.reduceLE, Int.reduceLT, Int.reduceBEq, Int.reduceBNe, Int.reduceNeg, Int.reduceAdd, Int.reduceSub, Int.reduceMul, reduceCtorEq, hd] | simp -dsimp (disch := omega) only [wrap_i64])); repeat (with_reducible refine sideA ?_)))
   exact WeakR.drop' (by rw [List.take_length]) (by rfl)
theorem eqFaultS_ok (L : List Fault) (hl : L.length ≤ 16777216) (hb : ∀ f ∈ L, f.Bends.length ≤ 16777216) : Ctr Try.prog 8 [Fault.sl L, Fault.sl L] [] (.bool true) [] := by
 refine Ctr.intro Try.mixed Try.func8 rfl Try.okF8 ?_
 simp -implicitDefEqProofs -dsimp only [go_sem, Nat.reduceSub, Nat.reduceAdd, Nat.reduceMul, Nat.reduceLT, Nat.reduceLeDiff, Nat.reduceEqDiff, Nat.reduceDiv, Nat.reduceMod, Int.reduceToNat, Int.reduceLE, Int.reduceLT, Int.reduceBEq, Int.reduceBNe, Int.reduceNeg, Int.reduceAdd, Int.reduceSub, Int.reduceMul, reduceCtorEq, Try.ntmps8, Try.results8]
 (repeat ((repeat1' (first | simp -implicitDefEqProofs -dsimp only [go_sem, Nat.reduceSub, Nat.reduceAdd, Nat.reduceMul, Nat.reduceLT, Nat.reduceLeDiff, Nat.reduceEqDiff, Nat.reduceDiv, Nat.reduceMod, Int.reduceToNat, Int.reduceLE, Int.reduceLT, Int.reduceBEq, Int.reduceBNe, Int.reduceNeg, Int.reduceAdd, Int.reduceSub, Int.reduceMul, reduceCtorEq, bne_self_eq_false] | simp -dsimp (disch := omega) only [wrap_i64])); repeat (with_reducible refine sideA ?_)))
 refine LoopT.intro (fun i : Nat => i ≤ L.length) (fun i => ⟨[Fault.sl L, Fault.sl L, .undef, .undef, .undef, .int .i64 i, .undef, .undef, .undef, .undef, .undef, .undef, .undef, .undef, .undef, .undef, .undef, .undef, .undef, .undef, .undef, .undef, .undef, .undef, .undef, .undef, .undef], [], 0⟩) (fun i => L.length - i) 0 (Nat.zero_le _) ?_ (fun i hi => ?_)
 · exact Weak.keep (by simp [LeU]) rfl
 by_cases hi' : i < L.length
 · have hd : decide ((i : Int) < (L.length : Int)) = true := decide_eq_true (by omega)
   have hr := rows_at Fault.csl hi'
   have hw1 : IntKind.i64.wrap ((i : Int) + 1) = ((i + 1 : Nat) : Int) := by rw [wrap_i64 (by omega) (by omega)]; omega
   have hq := eqFault_ok L[i] (by have := hb _ (List.getElem_mem hi'); omega)
   (repeat ((repeat1' (first | simp -implicitDefEqProofs -dsimp only [go_sem, Nat.reduceSub, Nat.reduceAdd, Nat.reduceMul, Nat.reduceLT, Nat.reduceLeDiff, Nat.reduceEqDiff, Nat.reduceDiv, Nat.reduceMod, Int.reduceToNat, Int.reduceLE, Int.reduceLT, Int.reduceBEq, Int.reduceBNe, Int.reduceNeg, Int.reduceAdd, Int.reduceSub, Int.reduceMul, reduceCtorEq, hd, hr, Fault.cs] | simp -dsimp (disch := omega) only [wrap_i64])); repeat (with_reducible refine sideA ?_)))
   (first | refine callT.at (hq) ⟨leA, leA, trivial⟩ ?_ | refine callS.at (hq) ⟨leA, leA, trivial⟩ ?_)
   (repeat ((repeat1' (first | simp -implicitDefEqProofs -dsimp only [go_sem, Nat.reduceSub, Nat.reduceAdd, Nat.reduceMul, Nat.reduceLT, Nat.reduceLeDiff, Nat.reduceEqDiff, Nat.reduceDiv, Nat.reduceMod, Int.reduceToNat, Int.reduceLE, Int.reduceLT, Int.reduceBEq, Int.reduceBNe, Int.reduceNeg, Int.reduceAdd, Int.reduceSub, Int.reduceMul, reduceCtorEq] | simp -dsimp (disch := omega) only [wrap_i64])); repeat (with_reducible refine sideA ?_)))
   refine ⟨i + 1, hi', ?_, by omega⟩
   exact Weak.keep (by simp [LeU, hw1]) rfl
 · have hi2 : i = L.length := by omega
   subst hi2
   have hd : decide ((L.length : Int) < (L.length : Int)) = false := decide_eq_false (by omega)
   (repeat ((repeat1' (first | simp -implicitDefEqProofs -dsimp only [go_sem, Nat.reduceSub, Nat.reduceAdd, Nat.reduceMul, Nat.reduceLT, Nat.reduceLeDiff, Nat.reduceEqDiff, Nat.reduceDiv, Nat.reduceMod, Int.reduceToNat, Int.reduceLE, Int.reduceLT, Int.reduceBEq, Int.reduceBNe, Int.reduceNeg, Int.reduceAdd, Int.reduceSub, Int.reduceMul, reduceCtorEq, hd] | simp -dsimp (disch := omega) only [wrap_i64])); repeat (with_reducible refine sideA ?_)))
   exact WeakR.drop' rfl (by rfl)
def szW (f : Fault) : Nat := f.Name.size + f.Bends.length
def szT (L : List Fault) : Nat := (L.map szW).sum
theorem szT_succ {L : List Fault} {i : Nat} (hi : i < L.length) : szT (L.take (i + 1)) = szT (L.take i) + szW L[i] := by
 rw [List.take_succ_eq_append_getElem hi, szT, szT, List.map_append, List.sum_append]; rfl
theorem szT_all : ∀ {L : List Fault} {f : Fault}, f ∈ L → szW f ≤ szT L
 | x :: L, f, h => by
   simp only [szT, List.map_cons, List.sum_cons]
   rcases List.mem_cons.1 h with e | h
   · rw [e]; omega
   · have := szT_all h; simp only [szT] at this; omega
theorem mkW_szT : ∀ L : List Fault, mkW L ≤ 3 * L.length + 2 * szT L
 | [] => by simp [mkW, szT]
 | f :: L => by
   have := mkW_szT L
   simp only [mkW, szT, szW, List.map_cons, List.sum_cons, List.length_cons] at this ⊢
   omega
theorem szFault_eq (r : Fault) (hr : r.ok) (n : Int) (hn : 0 ≤ n) (hn2 : n ≤ 1048576) : Ctr Try.prog 11 [r.v, .int .i64 n] [] (.int .i64 (if n - (szW r : Int) < 0 then -1 else n - (szW r : Int))) [] := by
 obtain ⟨o0, o1, o2, o3⟩ := hr
 simp only [strR] at o1
 have hw : ((szW r : Nat) : Int) = (r.Name.size : Int) + (r.Bends.length : Int) := by simp [szW]
 rw [hw]
 have hN := o2.1
 by_cases c0 : n < (r.Name.size : Int)
 · rw [if_pos (by omega)]
   refine Ctr.intro Try.mixed Try.func11 rfl Try.okF11 ?_
   simp -implicitDefEqProofs -dsimp only [go_sem, Nat.reduceSub, Nat.reduceAdd, Nat.reduceMul, Nat.reduceLT, Nat.reduceLeDiff, Nat.reduceEqDiff, Nat.reduceDiv, Nat.reduceMod, Int.reduceToNat, Int.reduceLE, Int.reduceLT, Int.reduceBEq, Int.reduceBNe, Int.reduceNeg, Int.reduceAdd, Int.reduceSub, Int.reduceMul, reduceCtorEq, Try.ntmps11, Try.results11]
   simp -implicitDefEqProofs -dsimp only [go_sem, Nat.reduceSub, Nat.reduceAdd, Nat.reduceMul, Nat.reduceLT, Nat.reduceLeDiff, Nat.reduceEqDiff, Nat.reduceDiv, Nat.reduceMod, Int.reduceToNat, Int.reduceLE, Int.reduceLT, Int.reduceBEq, Int.reduceBNe, Int.reduceNeg, Int.reduceAdd, Int.reduceSub, Int.reduceMul, reduceCtorEq, Fault.v]
   (repeat1' (first | simp -implicitDefEqProofs -dsimp only [go_sem, Nat.reduceSub, Nat.reduceAdd, Nat.reduceMul, Nat.reduceLT, Nat.reduceLeDiff, Nat.reduceEqDiff, Nat.reduceDiv, Nat.reduceMod, Int.reduceToNat, Int.reduceLE, Int.reduceLT, Int.reduceBEq, Int.reduceBNe, Int.reduceNeg, Int.reduceAdd, Int.reduceSub, Int.reduceMul, reduceCtorEq] | simp -dsimp (disch := omega) only [wrap_i64]))
   refine condT.split (fun hh => ?_) (fun hh => ?_)
   · simp -implicitDefEqProofs -dsimp only [go_sem, Nat.reduceSub, Nat.reduceAdd, Nat.reduceMul, Nat.reduceLT, Nat.reduceLeDiff, Nat.reduceEqDiff, Nat.reduceDiv, Nat.reduceMod, Int.reduceToNat, Int.reduceLE, Int.reduceLT, Int.reduceBEq, Int.reduceBNe, Int.reduceNeg, Int.reduceAdd, Int.reduceSub, Int.reduceMul, reduceCtorEq, hh]; exact WeakR.drop' rfl (by rfl)
   · exact absurd hh (by simp; omega)
 by_cases c1 : n - (r.Name.size : Int) < (r.Bends.length : Int)
 · rw [if_pos (by omega)]
   refine Ctr.intro Try.mixed Try.func11 rfl Try.okF11 ?_
   simp -implicitDefEqProofs -dsimp only [go_sem, Nat.reduceSub, Nat.reduceAdd, Nat.reduceMul, Nat.reduceLT, Nat.reduceLeDiff, Nat.reduceEqDiff, Nat.reduceDiv, Nat.reduceMod, Int.reduceToNat, Int.reduceLE, Int.reduceLT, Int.reduceBEq, Int.reduceBNe, Int.reduceNeg, Int.reduceAdd, Int.reduceSub, Int.reduceMul, reduceCtorEq, Try.ntmps11, Try.results11]
   simp -implicitDefEqProofs -dsimp only [go_sem, Nat.reduceSub, Nat.reduceAdd, Nat.reduceMul, Nat.reduceLT, Nat.reduceLeDiff, Nat.reduceEqDiff, Nat.reduceDiv, Nat.reduceMod, Int.reduceToNat, Int.reduceLE, Int.reduceLT, Int.reduceBEq, Int.reduceBNe, Int.reduceNeg, Int.reduceAdd, Int.reduceSub, Int.reduceMul, reduceCtorEq, Fault.v]
   (repeat1' (first | simp -implicitDefEqProofs -dsimp only [go_sem, Nat.reduceSub, Nat.reduceAdd, Nat.reduceMul, Nat.reduceLT, Nat.reduceLeDiff, Nat.reduceEqDiff, Nat.reduceDiv, Nat.reduceMod, Int.reduceToNat, Int.reduceLE, Int.reduceLT, Int.reduceBEq, Int.reduceBNe, Int.reduceNeg, Int.reduceAdd, Int.reduceSub, Int.reduceMul, reduceCtorEq] | simp -dsimp (disch := omega) only [wrap_i64]))
   refine condT.split (fun hh => ?_) (fun hh => ?_)
   · exact absurd hh (by simp; omega)
   (repeat1' (first | simp -implicitDefEqProofs -dsimp only [go_sem, Nat.reduceSub, Nat.reduceAdd, Nat.reduceMul, Nat.reduceLT, Nat.reduceLeDiff, Nat.reduceEqDiff, Nat.reduceDiv, Nat.reduceMod, Int.reduceToNat, Int.reduceLE, Int.reduceLT, Int.reduceBEq, Int.reduceBNe, Int.reduceNeg, Int.reduceAdd, Int.reduceSub, Int.reduceMul, reduceCtorEq, hh] | simp -dsimp (disch := omega) only [wrap_i64]))
   (first | refine callT.at (szBendS_ok r.Bends (n - (r.Name.size : Int)) o2.1 (by omega) (by omega)) ⟨.inl rfl, .inl rfl, trivial⟩ ?_ | refine callS.at (szBendS_ok r.Bends (n - (r.Name.size : Int)) o2.1 (by omega) (by omega)) ⟨.inl rfl, .inl rfl, trivial⟩ ?_)
   rw [if_pos c1]
   simp -implicitDefEqProofs -dsimp only [go_sem, Nat.reduceSub, Nat.reduceAdd, Nat.reduceMul, Nat.reduceLT, Nat.reduceLeDiff, Nat.reduceEqDiff, Nat.reduceDiv, Nat.reduceMod, Int.reduceToNat, Int.reduceLE, Int.reduceLT, Int.reduceBEq, Int.reduceBNe, Int.reduceNeg, Int.reduceAdd, Int.reduceSub, Int.reduceMul, reduceCtorEq]
   exact WeakR.drop' rfl (by rfl)
 · rw [if_neg (by omega)]
   refine Ctr.intro Try.mixed Try.func11 rfl Try.okF11 ?_
   simp -implicitDefEqProofs -dsimp only [go_sem, Nat.reduceSub, Nat.reduceAdd, Nat.reduceMul, Nat.reduceLT, Nat.reduceLeDiff, Nat.reduceEqDiff, Nat.reduceDiv, Nat.reduceMod, Int.reduceToNat, Int.reduceLE, Int.reduceLT, Int.reduceBEq, Int.reduceBNe, Int.reduceNeg, Int.reduceAdd, Int.reduceSub, Int.reduceMul, reduceCtorEq, Try.ntmps11, Try.results11]
   simp -implicitDefEqProofs -dsimp only [go_sem, Nat.reduceSub, Nat.reduceAdd, Nat.reduceMul, Nat.reduceLT, Nat.reduceLeDiff, Nat.reduceEqDiff, Nat.reduceDiv, Nat.reduceMod, Int.reduceToNat, Int.reduceLE, Int.reduceLT, Int.reduceBEq, Int.reduceBNe, Int.reduceNeg, Int.reduceAdd, Int.reduceSub, Int.reduceMul, reduceCtorEq, Fault.v]
   (repeat1' (first | simp -implicitDefEqProofs -dsimp only [go_sem, Nat.reduceSub, Nat.reduceAdd, Nat.reduceMul, Nat.reduceLT, Nat.reduceLeDiff, Nat.reduceEqDiff, Nat.reduceDiv, Nat.reduceMod, Int.reduceToNat, Int.reduceLE, Int.reduceLT, Int.reduceBEq, Int.reduceBNe, Int.reduceNeg, Int.reduceAdd, Int.reduceSub, Int.reduceMul, reduceCtorEq] | simp -dsimp (disch := omega) only [wrap_i64]))
   refine condT.split (fun hh => ?_) (fun hh => ?_)
   · exact absurd hh (by simp; omega)
   (repeat1' (first | simp -implicitDefEqProofs -dsimp only [go_sem, Nat.reduceSub, Nat.reduceAdd, Nat.reduceMul, Nat.reduceLT, Nat.reduceLeDiff, Nat.reduceEqDiff, Nat.reduceDiv, Nat.reduceMod, Int.reduceToNat, Int.reduceLE, Int.reduceLT, Int.reduceBEq, Int.reduceBNe, Int.reduceNeg, Int.reduceAdd, Int.reduceSub, Int.reduceMul, reduceCtorEq, hh] | simp -dsimp (disch := omega) only [wrap_i64]))
   (first | refine callT.at (szBendS_ok r.Bends (n - (r.Name.size : Int)) o2.1 (by omega) (by omega)) ⟨.inl rfl, .inl rfl, trivial⟩ ?_ | refine callS.at (szBendS_ok r.Bends (n - (r.Name.size : Int)) o2.1 (by omega) (by omega)) ⟨.inl rfl, .inl rfl, trivial⟩ ?_)
   rw [if_neg c1]
   simp -implicitDefEqProofs -dsimp only [go_sem, Nat.reduceSub, Nat.reduceAdd, Nat.reduceMul, Nat.reduceLT, Nat.reduceLeDiff, Nat.reduceEqDiff, Nat.reduceDiv, Nat.reduceMod, Int.reduceToNat, Int.reduceLE, Int.reduceLT, Int.reduceBEq, Int.reduceBNe, Int.reduceNeg, Int.reduceAdd, Int.reduceSub, Int.reduceMul, reduceCtorEq]
   refine condT.split (fun hh => absurd hh (by simp; omega)) (fun hh => ?_)
   simp -implicitDefEqProofs -dsimp only [go_sem, Nat.reduceSub, Nat.reduceAdd, Nat.reduceMul, Nat.reduceLT, Nat.reduceLeDiff, Nat.reduceEqDiff, Nat.reduceDiv, Nat.reduceMod, Int.reduceToNat, Int.reduceLE, Int.reduceLT, Int.reduceBEq, Int.reduceBNe, Int.reduceNeg, Int.reduceAdd, Int.reduceSub, Int.reduceMul, reduceCtorEq, hh]
   exact WeakR.drop' (by congr 1; omega) (by rfl)
theorem szFaultS_ok (L : List Fault) (hL : lstR Fault.ok L) : ∃ z : Int, (z < 0 ∨ (0 ≤ z ∧ L.length + szT L ≤ 1048576)) ∧ Ctr Try.prog 4 [Fault.sl L, .int .i64 1048576] [] (.int .i64 z) [] := by
 have hl := hL.1
 by_cases c0 : (1048576 : Int) - L.length < 0
 · refine ⟨-1, .inl (by omega), ?_⟩
   have hw : IntKind.i64.wrap ((1048576 : Int) - L.length) = 1048576 - L.length := wrap_i64 (by omega) (by omega)
   have hd : decide ((1048576 : Int) - L.length < 0) = true := decide_eq_true c0
   refine Ctr.intro Try.mixed Try.func4 rfl Try.okF4 ?_
   simp -implicitDefEqProofs -dsimp only [go_sem, Nat.reduceSub, Nat.reduceAdd, Nat.reduceMul, Nat.reduceLT, Nat.reduceLeDiff, Nat.reduceEqDiff, Nat.reduceDiv, Nat.reduceMod, Int.reduceToNat, Int.reduceLE, Int.reduceLT, Int.reduceBEq, Int.reduceBNe, Int.reduceNeg, Int.reduceAdd, Int.reduceSub, Int.reduceMul, reduceCtorEq, Try.ntmps4, Try.results4]
   (repeat ((repeat1' (first | simp -implicitDefEqProofs -dsimp only [go_sem, Nat.reduceSub, Nat.reduceAdd, Nat.reduceMul, Nat.reduceLT, Nat.reduceLeDiff, Nat.reduceEqDiff, Nat.reduceDiv, Nat.reduceMod, Int.reduceToNat, Int.reduceLE, Int.reduceLT, Int.reduceBEq, Int.reduceBNe, Int.reduceNeg, Int.reduceAdd, Int.reduceSub, Int.reduceMul, reduceCtorEq, hw, hd] | simp -dsimp (disch := omega) only [wrap_i64])); repeat (with_reducible refine sideA ?_)))
   exact WeakR.drop' rfl (by rfl)
 have hw : IntKind.i64.wrap ((1048576 : Int) - L.length) = 1048576 - L.length := wrap_i64 (by omega) (by omega)
 have hd : decide ((1048576 : Int) - L.length < 0) = false := decide_eq_false c0
 refine ⟨if (1048576 : Int) - L.length - szT L < 0 then -1 else 1048576 - L.length - szT L, ?_, ?_⟩
 · split
   · exact .inl (by omega)
   · exact .inr ⟨by omega, by omega⟩
 have hz : ∀ i (hi : i < L.length), szT (L.take (i + 1)) ≤ szT L := by
   intro i hi
   conv => rhs; rw [← List.take_append_drop (i + 1) L]
   simp only [szT, List.map_append, List.sum_append]
   omega
 generalize hz' : (if (1048576 : Int) - L.length - szT L < 0 then (-1 : Int) else (1048576 : Int) - L.length - szT L) = z
 refine Ctr.intro Try.mixed Try.func4 rfl Try.okF4 ?_
 simp -implicitDefEqProofs -dsimp only [go_sem, Nat.reduceSub, Nat.reduceAdd, Nat.reduceMul, Nat.reduceLT, Nat.reduceLeDiff, Nat.reduceEqDiff, Nat.reduceDiv, Nat.reduceMod, Int.reduceToNat, Int.reduceLE, Int.reduceLT, Int.reduceBEq, Int.reduceBNe, Int.reduceNeg, Int.reduceAdd, Int.reduceSub, Int.reduceMul, reduceCtorEq, Try.ntmps4, Try.results4]
 (repeat ((repeat1' (first | simp -implicitDefEqProofs -dsimp only [go_sem, Nat.reduceSub, Nat.reduceAdd, Nat.reduceMul, Nat.reduceLT, Nat.reduceLeDiff, Nat.reduceEqDiff, Nat.reduceDiv, Nat.reduceMod, Int.reduceToNat, Int.reduceLE, Int.reduceLT, Int.reduceBEq, Int.reduceBNe, Int.reduceNeg, Int.reduceAdd, Int.reduceSub, Int.reduceMul, reduceCtorEq, hw, hd] | simp -dsimp (disch := omega) only [wrap_i64])); repeat (with_reducible refine sideA ?_)))
 refine LoopT.intro (fun i : Nat => i ≤ L.length ∧ (0 : Int) ≤ 1048576 - L.length - szT (L.take i)) (fun i => ⟨[Fault.sl L, .int .i64 ((1048576 : Int) - L.length - szT (L.take i)), .undef, .undef, .undef, .int .i64 i, .undef, .undef, .undef, .undef, .undef, .undef, .undef, .undef, .undef, .undef, .undef, .undef, .undef, .undef, .undef, .undef, .undef, .undef, .undef, .undef, .undef], [], 0⟩) (fun i => L.length - i) 0 ⟨Nat.zero_le _, by simp [szT]; omega⟩ ?_ (fun i hi => ?_)
 · exact Weak.keep (by simp [LeU, szT]) rfl
 obtain ⟨hi, hpos⟩ := hi
 by_cases hi' : i < L.length
 · have hd2 : decide ((i : Int) < (L.length : Int)) = true := decide_eq_true (by omega)
   have hr := rows_at Fault.csl hi'
   have hw1 : IntKind.i64.wrap ((i : Int) + 1) = ((i + 1 : Nat) : Int) := by rw [wrap_i64 (by omega) (by omega)]; omega
   have hq := szFault_eq L[i] (hL.2 _ (List.getElem_mem hi')) ((1048576 : Int) - L.length - szT (L.take i)) hpos (by omega)
   have hs := szT_succ hi'
   have hzi := hz i hi'
   (repeat ((repeat1' (first | simp -implicitDefEqProofs -dsimp only [go_sem, Nat.reduceSub, Nat.reduceAdd, Nat.reduceMul, Nat.reduceLT, Nat.reduceLeDiff, Nat.reduceEqDiff, Nat.reduceDiv, Nat.reduceMod, Int.reduceToNat, Int.reduceLE, Int.reduceLT, Int.reduceBEq, Int.reduceBNe, Int.reduceNeg, Int.reduceAdd, Int.reduceSub, Int.reduceMul, reduceCtorEq, hd2, hr, Fault.cs] | simp -dsimp (disch := omega) only [wrap_i64])); repeat (with_reducible refine sideA ?_)))
   by_cases c1 : (1048576 : Int) - L.length - szT (L.take i) - szW L[i] < 0
   · rw [if_pos c1] at hq
     rw [if_pos (by omega)] at hz'
     (first | refine callT.at (hq) ⟨leA, leA, trivial⟩ ?_ | refine callS.at (hq) ⟨leA, leA, trivial⟩ ?_)
     (repeat ((repeat1' (first | simp -implicitDefEqProofs -dsimp only [go_sem, Nat.reduceSub, Nat.reduceAdd, Nat.reduceMul, Nat.reduceLT, Nat.reduceLeDiff, Nat.reduceEqDiff, Nat.reduceDiv, Nat.reduceMod, Int.reduceToNat, Int.reduceLE, Int.reduceLT, Int.reduceBEq, Int.reduceBNe, Int.reduceNeg, Int.reduceAdd, Int.reduceSub, Int.reduceMul, reduceCtorEq] | simp -dsimp (disch := omega) only [wrap_i64])); repeat (with_reducible refine sideA ?_)))
     rw [← hz']
     exact WeakR.drop' rfl (by rfl)
   · rw [if_neg c1] at hq
     have hd3 : decide ((1048576 : Int) - L.length - szT (L.take i) - szW L[i] < 0) = false := decide_eq_false c1
     (first | refine callT.at (hq) ⟨leA, leA, trivial⟩ ?_ | refine callS.at (hq) ⟨leA, leA, trivial⟩ ?_)
     (repeat ((repeat1' (first | simp -implicitDefEqProofs -dsimp only [go_sem, Nat.reduceSub, Nat.reduceAdd, Nat.reduceMul, Nat.reduceLT, Nat.reduceLeDiff, Nat.reduceEqDiff, Nat.reduceDiv, Nat.reduceMod, Int.reduceToNat, Int.reduceLE, Int.reduceLT, Int.reduceBEq, Int.reduceBNe, Int.reduceNeg, Int.reduceAdd, Int.reduceSub, Int.reduceMul, reduceCtorEq, hd3] | simp -dsimp (disch := omega) only [wrap_i64])); repeat (with_reducible refine sideA ?_)))
     refine ⟨i + 1, ⟨hi', by omega⟩, ?_, by omega⟩
     have he : (1048576 : Int) - L.length - szT (L.take (i + 1)) = 1048576 - L.length - szT (L.take i) - szW L[i] := by omega
     exact Weak.keep (by simp [LeU, hw1, he]) rfl
 · have hi2 : i = L.length := by omega
   subst hi2
   have hd2 : decide ((L.length : Int) < (L.length : Int)) = false := decide_eq_false (by omega)
   rw [List.take_length] at hpos
   rw [if_neg (by omega)] at hz'
   (repeat ((repeat1' (first | simp -implicitDefEqProofs -dsimp only [go_sem, Nat.reduceSub, Nat.reduceAdd, Nat.reduceMul, Nat.reduceLT, Nat.reduceLeDiff, Nat.reduceEqDiff, Nat.reduceDiv, Nat.reduceMod, Int.reduceToNat, Int.reduceLE, Int.reduceLT, Int.reduceBEq, Int.reduceBNe, Int.reduceNeg, Int.reduceAdd, Int.reduceSub, Int.reduceMul, reduceCtorEq, hd2] | simp -dsimp (disch := omega) only [wrap_i64])); repeat (with_reducible refine sideA ?_)))
   exact WeakR.drop' (by rw [List.take_length, hz']) (by rfl)
end Go.Proofs
end
section
set_option maxRecDepth 100000
set_option maxHeartbeats 4000000
namespace Go.Proofs
open Go.Lv
def tabN (R : Option (List Fault)) : V := match R with
 | some M => .tup [.osl 0 0 M.length 4, .bool true]
 | none => .tup [.nilsl, .bool false]
def tabNh (R : Option (List Fault)) : Hp := match R with
 | some M => tH M
 | none => []
def tabO (R : Option (List Fault)) : V := .tup [.osl 0 0 (R.getD []).length 4, .bool R.isSome]
def tabOh (R : Option (List Fault)) : Hp := tH (R.getD [])
def selA (n j : Nat) : List Nat := List.range' 0 (n + 1) ++ [n + 1 + j]
theorem selA_nodup (n j : Nat) : (selA n j).Nodup := by
 rw [selA, List.nodup_append]
 refine ⟨List.nodup_range' .., by simp, fun a ha b hb => ?_⟩
 rw [List.mem_range'_1] at ha
 simp at hb
 omega
theorem selA_lo {n j p : Nat} (h : p ≤ n) : (selA n j)[p]? = some p := by
 rw [selA, List.getElem?_append_left (by rw [List.length_range']; omega), List.getElem?_range' (by omega)]
 simp
theorem selA_hi (n j : Nat) : (selA n j)[n + 1]? = some (n + 1 + j) := by
 rw [selA, List.getElem?_append_right (by rw [List.length_range']; exact Nat.le_refl _), List.length_range', Nat.sub_self]; rfl
theorem pickA_lo {n j p : Nat} {h : Hp} {fz : Bool} (hp : p ≤ n) : pickF (selA n j) h fz p = .to p := by rw [pickF, posOf_get (selA_nodup n j) (selA_lo hp)]
theorem pickA_hi {n j : Nat} {h : Hp} {fz : Bool} : pickF (selA n j) h fz (n + 1 + j) = .to (n + 1) := by rw [pickF, posOf_get (selA_nodup n j) (selA_hi n j)]
theorem ex_get {x : Option (List V)} {T : List Fault} {ex : Hp} {j n : Nat} (hn : n = T.length) : (x :: (tBlk T ++ ex))[n + 1 + j]? = ex[j]? := by
 rw [show n + 1 + j = (n + j) + 1 by omega, List.getElem?_cons_succ, List.getElem?_append_right (by rw [tBlk_len]; omega), tBlk_len]
 congr 1; omega
theorem lo_get {x : Option (List V)} {T : List Fault} {ex : Hp} {i : Nat} (hi : i < T.length) : (x :: (tBlk T ++ ex))[i + 1]? = some (some (rows Bend.cs T[i].Bends)) := by
 rw [List.getElem?_cons_succ, List.getElem?_append_left (by rw [tBlk_len]; exact hi), tBlk_get hi]
theorem pick_add {T : List Fault} {f : Fault} {ex : Hp} {j n : Nat} (hn : n = T.length) (hj : ex[j]? = some (some (rows Bend.cs f.Bends))) : pickH (selA n j) (some (tRows 1 T ++ tCs (n + 1 + j) f) :: (tBlk T ++ ex)) true = tH (T ++ [f]) := by
 subst hn
 apply List.ext_getElem?
 intro i
 rw [pickH, List.getElem?_map]
 have hTl : (tH (T ++ [f])).length = T.length + 2 := by simp [tH, tBlk_len]
 rcases Nat.lt_or_ge (T.length + 1) i with hi | hi
 · rw [List.getElem?_eq_none (by simp [selA, List.length_range']; omega), List.getElem?_eq_none (by omega)]; rfl
 · rcases Nat.lt_or_ge i (T.length + 1) with hi2 | hi2
   · rw [selA_lo (by omega), Option.map_some]
     cases i with
     | zero =>
       rw [pickB, List.getElem?_cons_zero]
       simp only [List.map_append]
       rw [tRows_map (j := 1) (fun i hi => pickA_lo (by omega)), tH, tRows_app, tRows_one, Nat.add_comm 1 T.length]
       simp [tCs, ren, pickA_hi]
     | succ i =>
       rw [pickB, lo_get (by omega)]
       simp only [map_ren_rows]
       show _ = (tBlk (T ++ [f]))[i]?
       rw [tBlk_app, List.getElem?_append_left (by rw [tBlk_len]; omega), tBlk_get (by omega)]
   · obtain rfl : i = T.length + 1 := by omega
     rw [selA_hi, Option.map_some, pickB, ex_get rfl, hj]
     simp only [map_ren_rows]
     show _ = (tBlk (T ++ [f]))[T.length]?
     rw [tBlk_app, List.getElem?_append_right (by rw [tBlk_len]; exact Nat.le_refl _), tBlk_len, Nat.sub_self]
     rfl
theorem pick_same {T : List Fault} {ex : Hp} {n : Nat} (hn : n = T.length) : pickH (tSel 0 n) (some (tRows 1 T) :: (tBlk T ++ ex)) true = tH T := by
 subst hn
 have e : ∀ p, p ≤ T.length → pickF (tSel 0 T.length) (some (tRows 1 T) :: (tBlk T ++ ex)) true p = .to p := fun p hp => by
   have := posOf_sel (b := 0) hp
   rw [Nat.zero_add] at this
   rw [pickF, this]
 apply List.ext_getElem?
 intro i
 rw [pickH, List.getElem?_map]
 rcases Nat.lt_or_ge T.length i with hi | hi
 · rw [List.getElem?_eq_none (by rw [tSel_len]; omega), List.getElem?_eq_none (by simp [tH, tBlk_len]; omega)]; rfl
 · rw [tSel_get hi, Option.map_some, Nat.zero_add]
   cases i with
   | zero =>
     rw [pickB, List.getElem?_cons_zero]
     simp only []
     rw [tRows_map (j := 1) (fun i hi => e _ (by omega))]
     rfl
   | succ i =>
     rw [pickB, lo_get (by omega)]
     simp only [map_ren_rows]
     show _ = (tBlk T)[i]?
     rw [tBlk_get (by omega)]
theorem pickS_zero {n : Nat} {h : Hp} {fz : Bool} : pickF (tSel 0 n) h fz 0 = .to 0 := by
 have := posOf_sel (b := 0) (n := n) (p := 0) (by omega)
 rw [Nat.zero_add] at this
 rw [pickF, this]
theorem bx_get {B : Hp} {q : Nat} (h : B.length = q) (j : Nat) (ex : Hp) : (B ++ ex)[q + j]? = ex[j]? := by
 rw [List.getElem?_append_right (by omega)]; congr 1; omega
theorem bx_set {B : Hp} {q : Nat} (h : B.length = q) (j : Nat) (ex : Hp) (b : Option (List V)) : (B ++ ex).set (q + j) b = B ++ ex.set j b := by
 rw [List.set_append_right _ _ (by omega)]; congr 2; omega
theorem tRows_kill (T : List Fault) : (tRows 1 T).map (ren (killF 0) 2) = tRows 1 T := tRows_map (fun i _ => by
 simp only [killF]
 rw [if_neg (by omega)])
theorem tBlk_kill (T : List Fault) : (tBlk T).map (killB 0) = tBlk T := by
 rw [tBlk, List.map_map]
 refine List.map_congr_left (fun f _ => ?_)
 simp only [Function.comp, killB, Option.map_some, killC, map_ren_rows]
theorem iConnectFaults_t (L : List Fault) (a b : Int) (hok : flsOk L) (hl : L.length ≤ 16777216) : Ctr Try.prog 7 [Fault.sl L, .int .i64 a, .int .i64 b] [] (tabN (connR L a b)) (tabNh (connR L a b)) := by
 have ha := faultAt_ok L a hl
 have hb := faultAt_ok L b hl
 have hA := iAreFaults_ok L hok hl
 by_cases hF : faultsB L = true
 rotate_left
 · have hF' : faultsB L = false := by simpa using hF
   rw [hF'] at hA
   rw [connR_no (.inl hF')]
   refine Ctr.intro Try.mixed Try.func7 rfl Try.okF7 ?_
   simp -implicitDefEqProofs -dsimp only [go_sem, Try.ntmps7, Try.results7]
   (first | refine callT.at (ha) ⟨leA, leA, trivial⟩ ?_ | refine callS.at (ha) ⟨leA, leA, trivial⟩ ?_)
   (repeat ((repeat1' (first | simp -implicitDefEqProofs -dsimp only [go_sem] | simp -dsimp (disch := omega) only [wrap_i64])); repeat (with_reducible refine sideA ?_)))
   (first | refine callT.at (hb) ⟨leA, leA, trivial⟩ ?_ | refine callS.at (hb) ⟨leA, leA, trivial⟩ ?_)
   (repeat ((repeat1' (first | simp -implicitDefEqProofs -dsimp only [go_sem] | simp -dsimp (disch := omega) only [wrap_i64])); repeat (with_reducible refine sideA ?_)))
   (first | refine callT.at (hA) ⟨leA, trivial⟩ ?_ | refine callS.at (hA) ⟨leA, trivial⟩ ?_)
   (repeat ((repeat1' (first | simp -implicitDefEqProofs -dsimp only [go_sem] | simp -dsimp (disch := omega) only [wrap_i64])); repeat (with_reducible refine sideA ?_)))
   exact WeakR.drop' rfl (by rfl)
 rw [hF] at hA
 rcases fIdx_cases L a with ea | ⟨i, hi, ea⟩
 · rw [ea] at ha
   rw [connR_no (.inr (.inl ea))]
   refine Ctr.intro Try.mixed Try.func7 rfl Try.okF7 ?_
   simp -implicitDefEqProofs -dsimp only [go_sem, Try.ntmps7, Try.results7]
   (first | refine callT.at (ha) ⟨leA, leA, trivial⟩ ?_ | refine callS.at (ha) ⟨leA, leA, trivial⟩ ?_)
   (repeat ((repeat1' (first | simp -implicitDefEqProofs -dsimp only [go_sem] | simp -dsimp (disch := omega) only [wrap_i64])); repeat (with_reducible refine sideA ?_)))
   (first | refine callT.at (hb) ⟨leA, leA, trivial⟩ ?_ | refine callS.at (hb) ⟨leA, leA, trivial⟩ ?_)
   (repeat ((repeat1' (first | simp -implicitDefEqProofs -dsimp only [go_sem] | simp -dsimp (disch := omega) only [wrap_i64])); repeat (with_reducible refine sideA ?_)))
   (first | refine callT.at (hA) ⟨leA, trivial⟩ ?_ | refine callS.at (hA) ⟨leA, trivial⟩ ?_)
   (repeat ((repeat1' (first | simp -implicitDefEqProofs -dsimp only [go_sem] | simp -dsimp (disch := omega) only [wrap_i64])); repeat (with_reducible refine sideA ?_)))
   exact WeakR.drop' rfl (by rfl)
 have hi0 : decide ((i : Int) < 0) = false := decide_eq_false (by omega)
 rw [ea] at ha
 rcases fIdx_cases L b with eb | ⟨k, hk, eb⟩
 · rw [eb] at hb
   rw [connR_no (.inr (.inr (.inl eb)))]
   refine Ctr.intro Try.mixed Try.func7 rfl Try.okF7 ?_
   simp -implicitDefEqProofs -dsimp only [go_sem, Try.ntmps7, Try.results7]
   (first | refine callT.at (ha) ⟨leA, leA, trivial⟩ ?_ | refine callS.at (ha) ⟨leA, leA, trivial⟩ ?_)
   (repeat ((repeat1' (first | simp -implicitDefEqProofs -dsimp only [go_sem] | simp -dsimp (disch := omega) only [wrap_i64])); repeat (with_reducible refine sideA ?_)))
   (first | refine callT.at (hb) ⟨leA, leA, trivial⟩ ?_ | refine callS.at (hb) ⟨leA, leA, trivial⟩ ?_)
   (repeat ((repeat1' (first | simp -implicitDefEqProofs -dsimp only [go_sem] | simp -dsimp (disch := omega) only [wrap_i64])); repeat (with_reducible refine sideA ?_)))
   (first | refine callT.at (hA) ⟨leA, trivial⟩ ?_ | refine callS.at (hA) ⟨leA, trivial⟩ ?_)
   (repeat ((repeat1' (first | simp -implicitDefEqProofs -dsimp only [go_sem, hi0] | simp -dsimp (disch := omega) only [wrap_i64])); repeat (with_reducible refine sideA ?_)))
   exact WeakR.drop' rfl (by rfl)
 have hk0 : decide ((k : Int) < 0) = false := decide_eq_false (by omega)
 rw [eb] at hb
 by_cases hn : i = k
 · subst hn
   have hq : ((i : Int) == (i : Int)) = true := beq_self_eq_true _
   rw [connR_no (.inr (.inr (.inr (ea.trans eb.symm))))]
   refine Ctr.intro Try.mixed Try.func7 rfl Try.okF7 ?_
   simp -implicitDefEqProofs -dsimp only [go_sem, Try.ntmps7, Try.results7]
   (first | refine callT.at (ha) ⟨leA, leA, trivial⟩ ?_ | refine callS.at (ha) ⟨leA, leA, trivial⟩ ?_)
   (repeat ((repeat1' (first | simp -implicitDefEqProofs -dsimp only [go_sem] | simp -dsimp (disch := omega) only [wrap_i64])); repeat (with_reducible refine sideA ?_)))
   (first | refine callT.at (hb) ⟨leA, leA, trivial⟩ ?_ | refine callS.at (hb) ⟨leA, leA, trivial⟩ ?_)
   (repeat ((repeat1' (first | simp -implicitDefEqProofs -dsimp only [go_sem] | simp -dsimp (disch := omega) only [wrap_i64])); repeat (with_reducible refine sideA ?_)))
   (first | refine callT.at (hA) ⟨leA, trivial⟩ ?_ | refine callS.at (hA) ⟨leA, trivial⟩ ?_)
   (repeat ((repeat1' (first | simp -implicitDefEqProofs -dsimp only [go_sem, hi0, hq] | simp -dsimp (disch := omega) only [wrap_i64])); repeat (with_reducible refine sideA ?_)))
   exact WeakR.drop' rfl (by rfl)
 have hq : ((i : Int) == (k : Int)) = false := by simp; omega
 have hri := rows_at Fault.csl hi
 have hrk := rows_at Fault.csl hk
 have hall := (listedB_all (Bool.and_eq_true _ _ |>.mp hF).1).1
 have hli := faultB_ok (hall _ (List.getElem_mem hi))
 have hlk := faultB_ok (hall _ (List.getElem_mem hk))
 obtain ⟨m, hm⟩ : ∃ m, m + 1 = L[i].Bends.length := ⟨L[i].Bends.length - 1, by omega⟩
 have hm' : m < L[i].Bends.length := by omega
 have hk' : 0 < L[k].Bends.length := by omega
 have hbm := rows_at Bend.csl hm'
 have hb0 := rows_at Bend.csl hk'
 have hmc : (L[i].Bends.length : Int) - 1 = (m : Int) := by omega
 rw [Nat.zero_mul, List.drop_zero] at hb0
 have htip := tipEq_at hm hk'
 rw [bendEq] at htip
 by_cases ht : tipEq L[i] L[k] = true
 rotate_left
 · rw [connR_yes hF ea eb hi hk hn, if_neg (fun hh => ht hh.1)]
   have ht' : tipEq L[i] L[k] = false := by simpa using ht
   rw [htip] at ht'
   refine Ctr.intro Try.mixed Try.func7 rfl Try.okF7 ?_
   simp -implicitDefEqProofs -dsimp only [go_sem, Try.ntmps7, Try.results7]
   (first | refine callT.at (ha) ⟨leA, leA, trivial⟩ ?_ | refine callS.at (ha) ⟨leA, leA, trivial⟩ ?_)
   (repeat ((repeat1' (first | simp -implicitDefEqProofs -dsimp only [go_sem] | simp -dsimp (disch := omega) only [wrap_i64])); repeat (with_reducible refine sideA ?_)))
   (first | refine callT.at (hb) ⟨leA, leA, trivial⟩ ?_ | refine callS.at (hb) ⟨leA, leA, trivial⟩ ?_)
   (repeat ((repeat1' (first | simp -implicitDefEqProofs -dsimp only [go_sem] | simp -dsimp (disch := omega) only [wrap_i64])); repeat (with_reducible refine sideA ?_)))
   (first | refine callT.at (hA) ⟨leA, trivial⟩ ?_ | refine callS.at (hA) ⟨leA, trivial⟩ ?_)
   (repeat ((repeat1' (first | simp -implicitDefEqProofs -dsimp only [go_sem, hi0, hk0, hq, hri, hrk, Fault.cs, hmc, hbm, hb0, Bend.cs, ht'] | simp -dsimp (disch := omega) only [wrap_i64])); repeat (with_reducible refine sideA ?_)))
   exact WeakR.drop' rfl (by rfl)
 have hRt : faultsB (connT L i k L[k] L.length) = true → connR L a b = some (connT L i k L[k] L.length) := fun h => by rw [connR_yes hF ea eb hi hk hn, if_pos ⟨ht, h⟩]
 have hRf : faultsB (connT L i k L[k] L.length) = false → connR L a b = none := fun h => by rw [connR_yes hF ea eb hi hk hn, if_neg (fun hh => by rw [h] at hh; cases hh.2)]
 generalize connR L a b = R at *
 rw [htip] at ht
 have hgm : L[k] ∈ L := List.getElem_mem hk
 have hokT := fun n => fls_conn hok hF (i := i) (k := k) hgm n
 have hlT := fun n => connT_len L i k L[k] n
 refine Ctr.intro Try.mixed Try.func7 rfl Try.okF7 ?_
 simp -implicitDefEqProofs -dsimp only [go_sem, Try.ntmps7, Try.results7]
 (first | refine callT.at (ha) ⟨leA, leA, trivial⟩ ?_ | refine callS.at (ha) ⟨leA, leA, trivial⟩ ?_)
 (repeat ((repeat1' (first | simp -implicitDefEqProofs -dsimp only [go_sem] | simp -dsimp (disch := omega) only [wrap_i64])); repeat (with_reducible refine sideA ?_)))
 (first | refine callT.at (hb) ⟨leA, leA, trivial⟩ ?_ | refine callS.at (hb) ⟨leA, leA, trivial⟩ ?_)
 (repeat ((repeat1' (first | simp -implicitDefEqProofs -dsimp only [go_sem] | simp -dsimp (disch := omega) only [wrap_i64])); repeat (with_reducible refine sideA ?_)))
 (first | refine callT.at (hA) ⟨leA, trivial⟩ ?_ | refine callS.at (hA) ⟨leA, trivial⟩ ?_)
 (repeat ((repeat1' (first | simp -implicitDefEqProofs -dsimp only [go_sem, hi0, hk0, hq, hri, hrk, Fault.cs, hmc, hbm, hb0, Bend.cs, ht] | simp -dsimp (disch := omega) only [wrap_i64])); repeat (with_reducible refine sideA ?_)))
 refine LoopT.intro (fun n : Nat => n ≤ L.length) (fun n => ⟨[Fault.sl L, .undef, .undef, .undef, .undef, .undef, .undef, .undef, .int .i64 i, .int .i64 k, .osl 0 0 (connT L i k L[k] n).length 4, .undef, .undef, .undef, .undef, .undef, .undef, .undef, .undef, .undef, .undef, .undef, .undef, .undef, .undef, .undef, .undef, .undef, .undef, .undef, .undef, .undef, .undef, .undef, .undef, .undef, .undef, .undef, .undef, .undef, .undef, .undef, .undef, .undef, .undef, .undef, .undef, .undef, .undef, .undef, .undef, .undef, .undef, .undef, .undef, .undef, .undef, .undef, .undef, .undef, .undef, Fault.sl L, .int .i64 L.length, .int .i64 n, .undef, .undef, .undef, .undef, .undef, .undef, .undef, .undef, .undef, .undef, .undef, .undef, .undef, .undef, .undef, .undef, .undef, .undef, .undef, .undef, .undef, .undef, .undef, .undef, .undef, .undef, .undef, .undef, .undef, .undef, .undef, .undef, .undef, .undef, .undef, .undef, .undef, .undef, .undef, .undef, .undef, .undef, .undef, .undef, .undef, .undef, .undef, .undef], some (tRows 1 (connT L i k L[k] n)) :: tBlk (connT L i k L[k] n), 0⟩) (fun n => L.length - n) 0 (Nat.zero_le _) ?_ (fun n hn' => ?_)
 · refine Weak.cut (1) (by simp) (by simp) ?_ ?_
   · simp [LeC, LeV, ren, cutF, connT]
   · rfl
 simp -implicitDefEqProofs -dsimp only [go_sem]
 refine condT.split (fun h1 => ?_) (fun h1 => ?_)
 · have hnL : n < L.length := by have := of_decide_eq_true h1; omega
   have hrn := rows_at Fault.csl hnL
   have hstep : connT L i k L[k] (n + 1) = connT L i k L[k] n ++ connOne L i k L[k] n := rfl
   have hln := faultB_ok (hall _ (List.getElem_mem hnL))
   rw [connOne, dif_pos hnL] at hstep
   by_cases hnk : n = k
   · rw [if_pos hnk, List.append_nil] at hstep
     have c1 : ((n : Int) == (k : Int)) = true := by simp; omega
     generalize hq0 : (connT L i k L[k] n).length = q at *
     have hBl : (tBlk (connT L i k L[k] n)).length = q := by rw [tBlk_len, hq0]
     have g0 := bx_get hBl 0
     have g1 := bx_get hBl 1
     have g2 := bx_get hBl 2
     have g3 := bx_get hBl 3
     have g4 := bx_get hBl 4
     have s0 := bx_set hBl 0
     have s1 := bx_set hBl 1
     have s2 := bx_set hBl 2
     rw [Nat.add_zero] at g0 s0
     have hK1 := tRows_kill (connT L i k L[k] n)
     have hK2 := tBlk_kill (connT L i k L[k] n)
     have hRl : (tRows 1 (connT L i k L[k] n)).length = q * 4 := by rw [tRows_len, hq0]
     (repeat ((repeat1' (first | simp -implicitDefEqProofs -dsimp only [go_sem, h1, hrn, Fault.cs, c1, g0, g1, g2, g3, g4, s0, s1, s2, hBl, List.append_assoc, List.length_append, hK1, hK2, hRl, List.map_append] | simp -dsimp (disch := omega) only [wrap_i64])); repeat (with_reducible refine sideA ?_)))
     refine ⟨n + 1, by omega, ?_, by omega⟩
     rw [hstep]
     refine Weak.pick (tSel 0 q) (tSel_nodup _ _) (fun j hj => by omega) ?_ (pick_same hq0.symm)
     simp [LeG, LeV, ren, pickS_zero, hq0]
   · have c1 : ((n : Int) == (k : Int)) = false := by simp; omega
     rw [if_neg hnk] at hstep
     by_cases hni : n = i
     · have c2 : ((n : Int) == (i : Int)) = true := by simp; omega
       rw [if_pos hni] at hstep
       have hdrop : (rows Bend.cs L[k].Bends).drop 2 = rows Bend.cs (L[k].Bends.drop 1) := rows_drop Bend.csl L[k].Bends 1
       have hsub : L[k].Bends.length - 1 = (L[k].Bends.drop 1).length := by simp
       have hlTn := hlT n
       generalize hq0 : (connT L i k L[k] n).length = q at *
       have hBl : (tBlk (connT L i k L[k] n)).length = q := by rw [tBlk_len, hq0]
       have g0 := bx_get hBl 0
       have g1 := bx_get hBl 1
       have g2 := bx_get hBl 2
       have g3 := bx_get hBl 3
       have g4 := bx_get hBl 4
       have s0 := bx_set hBl 0
       have s1 := bx_set hBl 1
       have s2 := bx_set hBl 2
       rw [Nat.add_zero] at g0 s0
       have hK1 := tRows_kill (connT L i k L[k] n)
       have hK2 := tBlk_kill (connT L i k L[k] n)
       have hRl : (tRows 1 (connT L i k L[k] n)).length = q * 4 := by rw [tRows_len, hq0]
       have hget : ∀ (x a : Option (List V)) (b : List V), (x :: (tBlk (connT L i k L[k] n) ++ [a, some b]))[q + 1 + 1]? = some (some b) := fun x a b => by
         rw [List.getElem?_cons_succ, g1]; rfl
       (repeat ((repeat1' (first | simp -implicitDefEqProofs -dsimp only [go_sem, h1, hrn, Fault.cs, c1, c2, hrk, hdrop, hsub, g0, g1, g2, g3, g4, s0, s1, s2, hBl, List.append_assoc, List.length_append, hK1, hK2, hRl, List.map_append] | simp -dsimp (disch := omega) only [wrap_i64])); repeat (with_reducible refine sideA ?_)))
       refine callT.at (concatBend_ok L[n].Bends (L[k].Bends.drop 1) (by omega) (by simp; omega) (by omega)) ⟨.inl ?_, trivial⟩ ?_ (.inr ⟨noRo_ok 3 rfl, noRoH_rows _⟩) ⟨?_, ?_⟩
       rotate_left
       · have hmax : (if L[k].Slip > L[n].Slip then L[k].Slip else L[n].Slip) = max L[n].Slip L[k].Slip := by
           rw [Int.max_def]; split <;> split <;> omega
         (repeat ((repeat1' (first | simp -implicitDefEqProofs -dsimp only [go_sem, hrk, Fault.cs, c1, c2, hmax, g0, g1, g2, g3, g4, s0, s1, s2, hBl, List.append_assoc, List.length_append, hK1, hK2, hRl, List.map_append] | simp -dsimp (disch := omega) only [wrap_i64])); repeat (with_reducible refine sideA ?_)))
         refine ⟨n + 1, by omega, ?_, by omega⟩
         rw [hstep]
         simp only [← List.length_append]
         refine Weak.pick (selA q 2) (selA_nodup _ _) (fun j hj => by omega) ?_ (pick_add (f := joinF L[n] L[k]) hq0.symm rfl)
         simp [LeG, LeV, ren, pickA_lo, hq0]
       · rfl
       · simp [refOk, refV, refB, hget, noOwn, rows_noOwn, rows_refV]
       · simp [ren, snapR, hget, map_ren_rows]
     · have c2 : ((n : Int) == (i : Int)) = false := by simp; omega
       rw [if_neg hni] at hstep
       have hlTn := hlT n
       generalize hq0 : (connT L i k L[k] n).length = q at *
       have hBl : (tBlk (connT L i k L[k] n)).length = q := by rw [tBlk_len, hq0]
       have g0 := bx_get hBl 0
       have g1 := bx_get hBl 1
       have g2 := bx_get hBl 2
       have g3 := bx_get hBl 3
       have g4 := bx_get hBl 4
       have s0 := bx_set hBl 0
       have s1 := bx_set hBl 1
       have s2 := bx_set hBl 2
       rw [Nat.add_zero] at g0 s0
       have hK1 := tRows_kill (connT L i k L[k] n)
       have hK2 := tBlk_kill (connT L i k L[k] n)
       have hRl : (tRows 1 (connT L i k L[k] n)).length = q * 4 := by rw [tRows_len, hq0]
       (repeat ((repeat1' (first | simp -implicitDefEqProofs -dsimp only [go_sem, h1, hrn, Fault.cs, c1, c2, hrk, g0, g1, g2, g3, g4, s0, s1, s2, hBl, List.append_assoc, List.length_append, hK1, hK2, hRl, List.map_append] | simp -dsimp (disch := omega) only [wrap_i64])); repeat (with_reducible refine sideA ?_)))
       (have ct := copiedFault_ok L[n] (by omega); (first | refine callT.at ct ⟨leA, trivial⟩ ?_ | refine callS.at ct ⟨leA, trivial⟩ ?_); clear ct)
       (repeat ((repeat1' (first | simp -implicitDefEqProofs -dsimp only [go_sem, Fault.o, g0, g1, g2, g3, g4, s0, s1, s2, hBl, List.append_assoc, List.length_append, hK1, hK2, hRl, List.map_append] | simp -dsimp (disch := omega) only [wrap_i64])); repeat (with_reducible refine sideA ?_)))
       refine ⟨n + 1, by omega, ?_, by omega⟩
       rw [hstep]
       refine Weak.pick (selA q 1) (selA_nodup _ _) (fun j hj => by omega) ?_ (pick_add hq0.symm rfl)
       simp [LeG, LeV, ren, pickA_lo, hq0]
 · have hn2 : n = L.length := by have := of_decide_eq_false h1; omega
   subst hn2
   have hlo := hlT L.length
   (repeat ((repeat1' (first | simp -implicitDefEqProofs -dsimp only [go_sem, h1] | simp -dsimp (disch := omega) only [wrap_i64])); repeat (with_reducible refine sideA ?_)))
   refine callS.at (iAreFaults_ok (connT L i k L[k] L.length) (hokT _) (by omega)) ⟨(Tab.of _).snap, trivial⟩ ?_ (.inr ⟨noRo_ok 3 rfl, NoRoH.nil⟩)
   (repeat ((repeat1' (first | simp -implicitDefEqProofs -dsimp only [go_sem] | simp -dsimp (disch := omega) only [wrap_i64])); repeat (with_reducible refine sideA ?_)))
   refine condT.split (fun h2 => ?_) (fun h2 => ?_) <;> (repeat ((repeat1' (first | simp -implicitDefEqProofs -dsimp only [go_sem, h2] | simp -dsimp (disch := omega) only [wrap_i64])); repeat (with_reducible refine sideA ?_)))
   · rw [hRf (by simpa using h2)]
     exact WeakR.drop' rfl (by rfl)
   · rw [hRt (by simpa using h2)]
     exact WeakR.of_eq' rfl rfl
end Go.Proofs
end
section
set_option maxRecDepth 100000
set_option maxHeartbeats 4000000
namespace Go.Proofs
open Go.Lv
theorem tRows_killN {d : Nat} (T : List Fault) (hd : T.length < d) : (tRows 1 T).map (ren (killF d) 2) = tRows 1 T := tRows_map (fun i _ => by
 simp only [killF]
 rw [if_neg (by omega)])
theorem tBlk_killN (d : Nat) (T : List Fault) : (tBlk T).map (killB d) = tBlk T := by
 rw [tBlk, List.map_map]
 refine List.map_congr_left (fun f _ => ?_)
 simp only [Function.comp, killB, Option.map_some, killC, map_ren_rows]
theorem sConnectFaults_t (L : List Fault) (a b : Int) (hok : flsOk L) (hl : L.length ≤ 16777216) : Ctr Try.prog 5 [Fault.sl L, .int .i64 a, .int .i64 b] [] (tabO (connR L a b)) (tabOh (connR L a b)) := by
 have ha := l18Find_ok L a hl
 have hb := l18Find_ok L b hl
 have hA := l18Good_ok L hok hl
 by_cases hF : faultsB L = true
 rotate_left
 · have hF' : faultsB L = false := by simpa using hF
   rw [hF'] at hA
   rw [connR_no (.inl hF')]
   refine Ctr.intro Try.mixed Try.func5 rfl Try.okF5 ?_
   simp -implicitDefEqProofs -dsimp only [go_sem, Try.ntmps5, Try.results5]
   (first | refine callT.at (ha) ⟨leA, leA, trivial⟩ ?_ | refine callS.at (ha) ⟨leA, leA, trivial⟩ ?_)
   (repeat ((repeat1' (first | simp -implicitDefEqProofs -dsimp only [go_sem] | simp -dsimp (disch := omega) only [wrap_i64])); repeat (with_reducible refine sideA ?_)))
   (first | refine callT.at (hb) ⟨leA, leA, trivial⟩ ?_ | refine callS.at (hb) ⟨leA, leA, trivial⟩ ?_)
   (repeat ((repeat1' (first | simp -implicitDefEqProofs -dsimp only [go_sem] | simp -dsimp (disch := omega) only [wrap_i64])); repeat (with_reducible refine sideA ?_)))
   (first | refine callT.at (hA) ⟨leA, trivial⟩ ?_ | refine callS.at (hA) ⟨leA, trivial⟩ ?_)
   (repeat ((repeat1' (first | simp -implicitDefEqProofs -dsimp only [go_sem] | simp -dsimp (disch := omega) only [wrap_i64])); repeat (with_reducible refine sideA ?_)))
   exact WeakR.refl _ _ _
 rw [hF] at hA
 rcases fIdx_cases L a with ea | ⟨i, hi, ea⟩
 · rw [ea] at ha
   rw [connR_no (.inr (.inl ea))]
   refine Ctr.intro Try.mixed Try.func5 rfl Try.okF5 ?_
   simp -implicitDefEqProofs -dsimp only [go_sem, Try.ntmps5, Try.results5]
   (first | refine callT.at (ha) ⟨leA, leA, trivial⟩ ?_ | refine callS.at (ha) ⟨leA, leA, trivial⟩ ?_)
   (repeat ((repeat1' (first | simp -implicitDefEqProofs -dsimp only [go_sem] | simp -dsimp (disch := omega) only [wrap_i64])); repeat (with_reducible refine sideA ?_)))
   (first | refine callT.at (hb) ⟨leA, leA, trivial⟩ ?_ | refine callS.at (hb) ⟨leA, leA, trivial⟩ ?_)
   (repeat ((repeat1' (first | simp -implicitDefEqProofs -dsimp only [go_sem] | simp -dsimp (disch := omega) only [wrap_i64])); repeat (with_reducible refine sideA ?_)))
   (first | refine callT.at (hA) ⟨leA, trivial⟩ ?_ | refine callS.at (hA) ⟨leA, trivial⟩ ?_)
   (repeat ((repeat1' (first | simp -implicitDefEqProofs -dsimp only [go_sem] | simp -dsimp (disch := omega) only [wrap_i64])); repeat (with_reducible refine sideA ?_)))
   exact WeakR.refl _ _ _
 have hi0 : decide ((i : Int) < 0) = false := decide_eq_false (by omega)
 rw [ea] at ha
 rcases fIdx_cases L b with eb | ⟨k, hk, eb⟩
 · rw [eb] at hb
   rw [connR_no (.inr (.inr (.inl eb)))]
   refine Ctr.intro Try.mixed Try.func5 rfl Try.okF5 ?_
   simp -implicitDefEqProofs -dsimp only [go_sem, Try.ntmps5, Try.results5]
   (first | refine callT.at (ha) ⟨leA, leA, trivial⟩ ?_ | refine callS.at (ha) ⟨leA, leA, trivial⟩ ?_)
   (repeat ((repeat1' (first | simp -implicitDefEqProofs -dsimp only [go_sem] | simp -dsimp (disch := omega) only [wrap_i64])); repeat (with_reducible refine sideA ?_)))
   (first | refine callT.at (hb) ⟨leA, leA, trivial⟩ ?_ | refine callS.at (hb) ⟨leA, leA, trivial⟩ ?_)
   (repeat ((repeat1' (first | simp -implicitDefEqProofs -dsimp only [go_sem] | simp -dsimp (disch := omega) only [wrap_i64])); repeat (with_reducible refine sideA ?_)))
   (first | refine callT.at (hA) ⟨leA, trivial⟩ ?_ | refine callS.at (hA) ⟨leA, trivial⟩ ?_)
   (repeat ((repeat1' (first | simp -implicitDefEqProofs -dsimp only [go_sem, hi0] | simp -dsimp (disch := omega) only [wrap_i64])); repeat (with_reducible refine sideA ?_)))
   exact WeakR.refl _ _ _
 have hk0 : decide ((k : Int) < 0) = false := decide_eq_false (by omega)
 rw [eb] at hb
 by_cases hn : i = k
 · subst hn
   have hq : ((i : Int) == (i : Int)) = true := beq_self_eq_true _
   rw [connR_no (.inr (.inr (.inr (ea.trans eb.symm))))]
   refine Ctr.intro Try.mixed Try.func5 rfl Try.okF5 ?_
   simp -implicitDefEqProofs -dsimp only [go_sem, Try.ntmps5, Try.results5]
   (first | refine callT.at (ha) ⟨leA, leA, trivial⟩ ?_ | refine callS.at (ha) ⟨leA, leA, trivial⟩ ?_)
   (repeat ((repeat1' (first | simp -implicitDefEqProofs -dsimp only [go_sem] | simp -dsimp (disch := omega) only [wrap_i64])); repeat (with_reducible refine sideA ?_)))
   (first | refine callT.at (hb) ⟨leA, leA, trivial⟩ ?_ | refine callS.at (hb) ⟨leA, leA, trivial⟩ ?_)
   (repeat ((repeat1' (first | simp -implicitDefEqProofs -dsimp only [go_sem] | simp -dsimp (disch := omega) only [wrap_i64])); repeat (with_reducible refine sideA ?_)))
   (first | refine callT.at (hA) ⟨leA, trivial⟩ ?_ | refine callS.at (hA) ⟨leA, trivial⟩ ?_)
   (repeat ((repeat1' (first | simp -implicitDefEqProofs -dsimp only [go_sem, hi0, hq] | simp -dsimp (disch := omega) only [wrap_i64])); repeat (with_reducible refine sideA ?_)))
   exact WeakR.refl _ _ _
 have hq : ((i : Int) == (k : Int)) = false := by simp; omega
 have hri := rows_at Fault.csl hi
 have hrk := rows_at Fault.csl hk
 have hall := (listedB_all (Bool.and_eq_true _ _ |>.mp hF).1).1
 have hli := faultB_ok (hall _ (List.getElem_mem hi))
 have hlk := faultB_ok (hall _ (List.getElem_mem hk))
 obtain ⟨m, hm⟩ : ∃ m, m + 1 = L[i].Bends.length := ⟨L[i].Bends.length - 1, by omega⟩
 have hm' : m < L[i].Bends.length := by omega
 have hk' : 0 < L[k].Bends.length := by omega
 have hbm := rows_at Bend.csl hm'
 have hb0 := rows_at Bend.csl hk'
 have hmc : (L[i].Bends.length : Int) - 1 = (m : Int) := by omega
 rw [Nat.zero_mul, List.drop_zero] at hb0
 have htip := tipEq_at hm hk'
 rw [bendEq] at htip
 by_cases ht : tipEq L[i] L[k] = true
 rotate_left
 · rw [connR_yes hF ea eb hi hk hn, if_neg (fun hh => ht hh.1)]
   have ht' : tipEq L[i] L[k] = false := by simpa using ht
   rw [htip] at ht'
   refine Ctr.intro Try.mixed Try.func5 rfl Try.okF5 ?_
   simp -implicitDefEqProofs -dsimp only [go_sem, Try.ntmps5, Try.results5]
   (first | refine callT.at (ha) ⟨leA, leA, trivial⟩ ?_ | refine callS.at (ha) ⟨leA, leA, trivial⟩ ?_)
   (repeat ((repeat1' (first | simp -implicitDefEqProofs -dsimp only [go_sem] | simp -dsimp (disch := omega) only [wrap_i64])); repeat (with_reducible refine sideA ?_)))
   (first | refine callT.at (hb) ⟨leA, leA, trivial⟩ ?_ | refine callS.at (hb) ⟨leA, leA, trivial⟩ ?_)
   (repeat ((repeat1' (first | simp -implicitDefEqProofs -dsimp only [go_sem] | simp -dsimp (disch := omega) only [wrap_i64])); repeat (with_reducible refine sideA ?_)))
   (first | refine callT.at (hA) ⟨leA, trivial⟩ ?_ | refine callS.at (hA) ⟨leA, trivial⟩ ?_)
   (repeat ((repeat1' (first | simp -implicitDefEqProofs -dsimp only [go_sem, hi0, hk0, hq, hri, hrk, Fault.cs, hmc, hbm, hb0, Bend.cs, ht'] | simp -dsimp (disch := omega) only [wrap_i64])); repeat (with_reducible refine sideA ?_)))
   exact WeakR.refl _ _ _
 have hRt : faultsB (connT L i k L[k] L.length) = true → connR L a b = some (connT L i k L[k] L.length) := fun h => by rw [connR_yes hF ea eb hi hk hn, if_pos ⟨ht, h⟩]
 have hRf : faultsB (connT L i k L[k] L.length) = false → connR L a b = none := fun h => by rw [connR_yes hF ea eb hi hk hn, if_neg (fun hh => by rw [h] at hh; cases hh.2)]
 generalize connR L a b = R at *
 rw [htip] at ht
 have hgm : L[k] ∈ L := List.getElem_mem hk
 have hokT := fun n => fls_conn hok hF (i := i) (k := k) hgm n
 have hlT := fun n => connT_len L i k L[k] n
 refine Ctr.intro Try.mixed Try.func5 rfl Try.okF5 ?_
 simp -implicitDefEqProofs -dsimp only [go_sem, Try.ntmps5, Try.results5]
 (first | refine callT.at (ha) ⟨leA, leA, trivial⟩ ?_ | refine callS.at (ha) ⟨leA, leA, trivial⟩ ?_)
 (repeat ((repeat1' (first | simp -implicitDefEqProofs -dsimp only [go_sem] | simp -dsimp (disch := omega) only [wrap_i64])); repeat (with_reducible refine sideA ?_)))
 (first | refine callT.at (hb) ⟨leA, leA, trivial⟩ ?_ | refine callS.at (hb) ⟨leA, leA, trivial⟩ ?_)
 (repeat ((repeat1' (first | simp -implicitDefEqProofs -dsimp only [go_sem] | simp -dsimp (disch := omega) only [wrap_i64])); repeat (with_reducible refine sideA ?_)))
 (first | refine callT.at (hA) ⟨leA, trivial⟩ ?_ | refine callS.at (hA) ⟨leA, trivial⟩ ?_)
 (repeat ((repeat1' (first | simp -implicitDefEqProofs -dsimp only [go_sem, hi0, hk0, hq, hri, hrk, Fault.cs, hmc, hbm, hb0, Bend.cs, ht] | simp -dsimp (disch := omega) only [wrap_i64])); repeat (with_reducible refine sideA ?_)))
 refine LoopT.intro (fun n : Nat => n ≤ L.length) (fun n => ⟨[Fault.sl L, .undef, .undef, .undef, .undef, .undef, .undef, .undef, .int .i64 i, .int .i64 k, .osl 0 0 (connT L i k L[k] n).length 4, .int .i64 n, .undef, .undef, .undef, .undef, .undef, .undef, .undef, .undef, .undef, .undef, .undef, .undef, .undef, .undef, .undef, .undef, .undef, .undef, .undef, .undef, .undef, .undef, .undef, .undef, .undef, .undef, .undef, .undef, .undef, .undef, .undef, .undef, .undef, .undef, .undef, .undef, .undef, .undef, .undef, .undef, .undef, .undef, .undef, .undef, .undef, .undef, .undef, .undef, .undef, .undef, .undef, .undef, .undef, .undef, .undef, .undef, .undef, .undef, .undef, .undef, .undef, .undef, .undef, .undef, .undef, .undef, .undef, .undef, .undef, .undef, .undef, .undef, .undef, .undef, .undef, .undef, .undef, .undef, .undef, .undef, .undef, .undef, .undef, .undef, .undef, .undef, .undef, .undef, .undef, .undef, .undef, .undef, .undef, .undef, .undef, .undef, .undef, .undef], some (tRows 1 (connT L i k L[k] n)) :: tBlk (connT L i k L[k] n), 0⟩) (fun n => L.length - n) 0 (Nat.zero_le _) ?_ (fun n hn' => ?_)
 · refine Weak.cut (1) (by simp) (by simp) ?_ ?_
   · simp [LeC, LeV, ren, cutF, connT]
   · rfl
 simp -implicitDefEqProofs -dsimp only [go_sem]
 refine condT.split (fun h1 => ?_) (fun h1 => ?_)
 · have hnL : n < L.length := by have := of_decide_eq_true h1; omega
   have hrn := rows_at Fault.csl hnL
   have hstep : connT L i k L[k] (n + 1) = connT L i k L[k] n ++ connOne L i k L[k] n := rfl
   have hln := faultB_ok (hall _ (List.getElem_mem hnL))
   rw [connOne, dif_pos hnL] at hstep
   by_cases hnk : n = k
   · rw [if_pos hnk, List.append_nil] at hstep
     have c1 : ((n : Int) == (k : Int)) = true := by simp; omega
     have c2 : ((n : Int) == (i : Int)) = false := by simp; omega
     have c3 : ((n : Int) != (k : Int)) = false := by rw [bne, c1]; rfl
     generalize hq0 : (connT L i k L[k] n).length = q at *
     have hBl : (tBlk (connT L i k L[k] n)).length = q := by rw [tBlk_len, hq0]
     have g0 := bx_get hBl 0
     have g1 := bx_get hBl 1
     have g2 := bx_get hBl 2
     have g3 := bx_get hBl 3
     have g4 := bx_get hBl 4
     have s0 := bx_set hBl 0
     have s1 := bx_set hBl 1
     have s2 := bx_set hBl 2
     rw [Nat.add_zero] at g0 s0
     have hK1 := tRows_kill (connT L i k L[k] n)
     have hK2 := tBlk_kill (connT L i k L[k] n)
     have hK3 : ∀ j, (tRows 1 (connT L i k L[k] n)).map (ren (killF (q + 1 + j)) 2) = tRows 1 (connT L i k L[k] n) := fun j => tRows_killN _ (by omega)
     have hK4 := hK3 0
     have hK5 := hK3 1
     rw [Nat.add_zero] at hK4
     have hK6 : ∀ id, (tBlk (connT L i k L[k] n)).map (killB id) = tBlk (connT L i k L[k] n) := fun id => tBlk_killN id _
     have z1 : (q = q + 1) = False := by simp
     have z2 : (q + 1 = q) = False := by simp
     have z3 : (q + 1 = q + 1 + 1) = False := by simp
     have z4 : (q + 1 + 1 = q + 1) = False := by simp
     have hRl : (tRows 1 (connT L i k L[k] n)).length = q * 4 := by rw [tRows_len, hq0]
     (repeat ((repeat1' (first | simp -implicitDefEqProofs -dsimp only [go_sem, h1, hrn, Fault.cs, c2, c3, map_ren_rows, g0, g1, g2, g3, g4, s0, s1, s2, hBl, List.append_assoc, List.length_append, hK1, hK2, hK3, hK4, hK5, hK6, z1, z2, z3, z4, hRl, List.map_append] | simp -dsimp (disch := omega) only [wrap_i64])); repeat (with_reducible refine sideA ?_)))
     refine ⟨n + 1, by omega, ?_, by omega⟩
     rw [hstep]
     refine Weak.pick (tSel 0 q) (tSel_nodup _ _) (fun j hj => by omega) ?_ (pick_same hq0.symm)
     simp [LeG, LeV, ren, pickS_zero, hq0]
   · have c1 : ((n : Int) == (k : Int)) = false := by simp; omega
     rw [if_neg hnk] at hstep
     have c3 : ((n : Int) != (k : Int)) = true := by rw [bne, c1]; rfl
     have hlTn := hlT n
     by_cases hni : n = i
     · have c2 : ((n : Int) == (i : Int)) = true := by simp; omega
       rw [if_pos hni] at hstep
       have hdrop : (rows Bend.cs L[k].Bends).drop 2 = rows Bend.cs (L[k].Bends.drop 1) := rows_drop Bend.csl L[k].Bends 1
       have hsub : L[k].Bends.length - 1 = (L[k].Bends.drop 1).length := by simp
       generalize hq0 : (connT L i k L[k] n).length = q at *
       have hBl : (tBlk (connT L i k L[k] n)).length = q := by rw [tBlk_len, hq0]
       have g0 := bx_get hBl 0
       have g1 := bx_get hBl 1
       have g2 := bx_get hBl 2
       have g3 := bx_get hBl 3
       have g4 := bx_get hBl 4
       have s0 := bx_set hBl 0
       have s1 := bx_set hBl 1
       have s2 := bx_set hBl 2
       rw [Nat.add_zero] at g0 s0
       have hK1 := tRows_kill (connT L i k L[k] n)
       have hK2 := tBlk_kill (connT L i k L[k] n)
       have hK3 : ∀ j, (tRows 1 (connT L i k L[k] n)).map (ren (killF (q + 1 + j)) 2) = tRows 1 (connT L i k L[k] n) := fun j => tRows_killN _ (by omega)
       have hK4 := hK3 0
       have hK5 := hK3 1
       rw [Nat.add_zero] at hK4
       have hK6 : ∀ id, (tBlk (connT L i k L[k] n)).map (killB id) = tBlk (connT L i k L[k] n) := fun id => tBlk_killN id _
       have z1 : (q = q + 1) = False := by simp
       have z2 : (q + 1 = q) = False := by simp
       have z3 : (q + 1 = q + 1 + 1) = False := by simp
       have z4 : (q + 1 + 1 = q + 1) = False := by simp
       have hRl : (tRows 1 (connT L i k L[k] n)).length = q * 4 := by rw [tRows_len, hq0]
       (repeat ((repeat1' (first | simp -implicitDefEqProofs -dsimp only [go_sem, h1, hrn, Fault.cs, c2, c3, hrk, hdrop, hsub, map_ren_rows, g0, g1, g2, g3, g4, s0, s1, s2, hBl, List.append_assoc, List.length_append, hK1, hK2, hK3, hK4, hK5, hK6, z1, z2, z3, z4, hRl, List.map_append] | simp -dsimp (disch := omega) only [wrap_i64])); repeat (with_reducible refine sideA ?_)))
       (have ct := l1Most_ok L[n].Slip L[k].Slip; (first | refine callT.at ct ⟨leA, leA, trivial⟩ ?_ | refine callS.at ct ⟨leA, leA, trivial⟩ ?_); clear ct)
       (repeat ((repeat1' (first | simp -implicitDefEqProofs -dsimp only [go_sem, c3, map_ren_rows, g0, g1, g2, g3, g4, s0, s1, s2, hBl, List.append_assoc, List.length_append, hK1, hK2, hK3, hK4, hK5, hK6, z1, z2, z3, z4, hRl, List.map_append] | simp -dsimp (disch := omega) only [wrap_i64])); repeat (with_reducible refine sideA ?_)))
       have e2 : rows Bend.cs L[n].Bends ++ rows Bend.cs (L[k].Bends.drop 1) = rows Bend.cs (L[n].Bends ++ L[k].Bends.drop 1) := (rowsOf_append _ _).symm
       simp only [e2, ← List.length_append]
       refine ⟨n + 1, by omega, ?_, by omega⟩
       rw [hstep]
       refine Weak.pick (selA q 1) (selA_nodup _ _) (fun j hj => by omega) ?_ (pick_add (f := joinF L[n] L[k]) hq0.symm rfl)
       simp [LeG, LeV, ren, pickA_lo, hq0]
     · have c2 : ((n : Int) == (i : Int)) = false := by simp; omega
       rw [if_neg hni] at hstep
       generalize hq0 : (connT L i k L[k] n).length = q at *
       have hBl : (tBlk (connT L i k L[k] n)).length = q := by rw [tBlk_len, hq0]
       have g0 := bx_get hBl 0
       have g1 := bx_get hBl 1
       have g2 := bx_get hBl 2
       have g3 := bx_get hBl 3
       have g4 := bx_get hBl 4
       have s0 := bx_set hBl 0
       have s1 := bx_set hBl 1
       have s2 := bx_set hBl 2
       rw [Nat.add_zero] at g0 s0
       have hK1 := tRows_kill (connT L i k L[k] n)
       have hK2 := tBlk_kill (connT L i k L[k] n)
       have hK3 : ∀ j, (tRows 1 (connT L i k L[k] n)).map (ren (killF (q + 1 + j)) 2) = tRows 1 (connT L i k L[k] n) := fun j => tRows_killN _ (by omega)
       have hK4 := hK3 0
       have hK5 := hK3 1
       rw [Nat.add_zero] at hK4
       have hK6 : ∀ id, (tBlk (connT L i k L[k] n)).map (killB id) = tBlk (connT L i k L[k] n) := fun id => tBlk_killN id _
       have z1 : (q = q + 1) = False := by simp
       have z2 : (q + 1 = q) = False := by simp
       have z3 : (q + 1 = q + 1 + 1) = False := by simp
       have z4 : (q + 1 + 1 = q + 1) = False := by simp
       have hRl : (tRows 1 (connT L i k L[k] n)).length = q * 4 := by rw [tRows_len, hq0]
       (repeat ((repeat1' (first | simp -implicitDefEqProofs -dsimp only [go_sem, h1, hrn, Fault.cs, c2, c3, map_ren_rows, g0, g1, g2, g3, g4, s0, s1, s2, hBl, List.append_assoc, List.length_append, hK1, hK2, hK3, hK4, hK5, hK6, z1, z2, z3, z4, hRl, List.map_append] | simp -dsimp (disch := omega) only [wrap_i64])); repeat (with_reducible refine sideA ?_)))
       refine ⟨n + 1, by omega, ?_, by omega⟩
       rw [hstep]
       refine Weak.pick (selA q 1) (selA_nodup _ _) (fun j hj => by omega) ?_ (pick_add (f := L[n]) hq0.symm rfl)
       simp [LeG, LeV, ren, pickA_lo, hq0]
 · have hn2 : n = L.length := by have := of_decide_eq_false h1; omega
   subst hn2
   have hlo := hlT L.length
   (repeat ((repeat1' (first | simp -implicitDefEqProofs -dsimp only [go_sem, h1] | simp -dsimp (disch := omega) only [wrap_i64])); repeat (with_reducible refine sideA ?_)))
   refine callS.at (l18Good_ok (connT L i k L[k] L.length) (hokT _) (by omega)) ⟨(Tab.of _).snap, trivial⟩ ?_ (.inr ⟨noRo_ok 3 rfl, NoRoH.nil⟩)
   (repeat ((repeat1' (first | simp -implicitDefEqProofs -dsimp only [go_sem] | simp -dsimp (disch := omega) only [wrap_i64])); repeat (with_reducible refine sideA ?_)))
   refine condT.split (fun h2 => ?_) (fun h2 => ?_) <;> (repeat ((repeat1' (first | simp -implicitDefEqProofs -dsimp only [go_sem, h2] | simp -dsimp (disch := omega) only [wrap_i64])); repeat (with_reducible refine sideA ?_)))
   · rw [hRf (by simpa using h2)]
     refine WeakR.pick [(tBlk (connT L i k L[k] L.length)).length + 1] (by simp) (fun j hj => by omega) (.inl ?_) ?_
     · simp [ren, pickF, posOf, tabO]
     · simp [pickH, pickB, tabOh, tH, tRows, tBlk]
   · rw [hRt (by simpa using h2)]
     exact WeakR.of_eq' rfl rfl
end Go.Proofs
end
section
set_option maxRecDepth 100000
set_option maxHeartbeats 4000000
namespace Go.Proofs
open Go.Lv
section
variable {P : Program} {t : List V} {h : Hp} {k : Nat} {dst : Option Tmp} {g : FuncId} {args as' : List V} {K : St → Prop} {x : Tag K}
theorem call_tab {n : Nat} {M : List Fault} (hs : Ctr P g as' [] (.osl 0 0 n 4) (tH M)) (hle : LeL (args.map (ren (snapR h 3) 3)) as')
   (hk : ∀ h', (∀ b L, Tab h b L → Tab h' b L) → Tab h' h.length M → h.length + M.length < h'.length → K (St.put ⟨t, h', k⟩ dst (.osl h.length 0 n 4))) : callS P ⟨t, h, k⟩ dst (.fn (.func g) [] []) args K x := by
 refine callS.at hs (by simpa using hle) ?_ (.inr ⟨noRo_ok 3 rfl, noRo_tH M⟩)
 have e : afterCall ⟨t, h, k⟩ dst (.osl 0 0 n 4) (tH M) = St.put ⟨t, h ++ shH h.length (tH M), k⟩ dst (.osl h.length 0 n 4) := by simp [afterCall, ren, shf]
 rw [e]
 exact hk _ (fun b L T => T.app _) (Tab.new h M) (Tab.new h M).lt
theorem call_tup {n : Nat} {M : List Fault} {bo : Bool} (hs : Ctr P g as' [] (.tup [.osl 0 0 n 4, .bool bo]) (tH M)) (hle : LeL (args.map (ren (snapR h 3) 3)) as')
   (hk : ∀ h', (∀ b L, Tab h b L → Tab h' b L) → Tab h' h.length M → h.length + M.length < h'.length → K (St.put ⟨t, h', k⟩ dst (.tup [.osl h.length 0 n 4, .bool bo]))) : callS P ⟨t, h, k⟩ dst (.fn (.func g) [] []) args K x := by
 refine callS.at hs (by simpa using hle) ?_ (.inr ⟨noRo_ok 3 rfl, noRo_tH M⟩)
 have e : afterCall ⟨t, h, k⟩ dst (.tup [.osl 0 0 n 4, .bool bo]) (tH M) = St.put ⟨t, h ++ shH h.length (tH M), k⟩ dst (.tup [.osl h.length 0 n 4, .bool bo]) := by simp [afterCall, ren, shf]
 rw [e]
 exact hk _ (fun b L T => T.app _) (Tab.new h M) (Tab.new h M).lt
theorem call_lend {b : Nat} {L L' : List Fault} {v k2 : Int} (T : Tab h b L) (hs : Ctr P g [.osl 0 0 L.length 4, .int .i64 k2] (tH L) (.int .i64 v) (tH L')) (hl : L'.length = L.length) (hb : ∀ i (hi : i < L.length) (hi' : i < L'.length), L'[i].Bends.length = L[i].Bends.length)
   (hk : ∀ h', (∀ c M, Tab h c M → (c + M.length < b ∨ b + L.length < c) → Tab h' c M) → Tab h' b L' → h'.length = h.length → K (St.put ⟨t, h', k⟩ dst (.int .i64 v))) : callS P ⟨t, h, k⟩ dst (.fn (.func g) [] []) [.osl b 0 L.length 4, .int .i64 k2] K x := by
 refine callS.lend (tSel b L.length) false hs (tSel_nodup _ _) (Tab.arg k2) T.pick (tab_grown hl hb) (.inl rfl) ?_
 have e : afterM ⟨t, h, k⟩ dst (tSel b L.length) (.int .i64 v) (tH L') = St.put ⟨t, aftT h b L L', k⟩ dst (.int .i64 v) := by simp [afterM, ren, aftT]
 rw [e]
 refine hk _ (fun c M U hd => T.other U hd) (T.after hl) ?_
 have hH : (tH L').length = L.length + 1 := by simp [tH, tBlk_len, hl]
 rw [aftT, List.length_append, putB_length, List.drop_of_length_le (by rw [tSel_len]; omega)]
 rfl
end
theorem markFaultS_nil (kk : Int) : Ctr Try.prog 9 [.sl 0 4 [], .int .i64 kk] [] (.int .i64 kk) [] := by
 refine Ctr.intro Try.mixed Try.func9 rfl Try.okF9 ?_
 simp -implicitDefEqProofs -dsimp only [go_sem, Try.ntmps9, Try.results9]
 refine LoopT.intro (fun i : Nat => i = 0) (fun i => ⟨[.sl 0 4 [], .int .i64 kk, .undef, .undef, .undef, .int .i64 0, .undef, .undef, .undef, .undef, .undef, .undef, .undef, .undef, .undef, .undef, .undef, .undef, .undef, .undef, .undef, .undef, .undef, .undef, .undef, .undef, .undef, .undef, .undef, .undef, .undef, .undef, .undef, .undef, .undef, .undef, .undef, .undef, .undef, .undef, .undef, .undef], [], 0⟩) (fun i => 0) 0 rfl ?_ (fun i hi => ?_)
 · exact Weak.keep (by simp [LeU]) rfl
 simp -implicitDefEqProofs -dsimp only [go_sem, Int.natCast_zero, Int.lt_irrefl, decide_false]
 exact WeakR.refl _ _ _
theorem Tab.snap' {h : Hp} {b n : Nat} {L : List Fault} (T : Tab h b L) (hn : n = L.length) : LeV (ren (snapR h 3) 3 (.osl b 0 n 4)) (Fault.sl L) := by subst hn; exact T.snap
theorem connR_some {L M : List Fault} {a b : Int} (h : connR L a b = some M) : faultsB M = true := by
 unfold connR at h
 split at h
 · split at h
   · split at h
     · rename_i h3
       rw [← Option.some.inj h]; exact h3.2
     · cases h
   · cases h
 · cases h
theorem mkW_small {M : List Fault} (h : faultsB M = true) : M.length ≤ 6 ∧ (∀ f ∈ M, f.Bends.length ≤ 8) ∧ mkW M ≤ 200 := by
 obtain ⟨h1, h2⟩ := listedB_all (Bool.and_eq_true _ _ |>.mp h).1
 have h3 : ∀ f ∈ M, f.Bends.length ≤ 8 := fun f hf => (faultB_ok (h1 f hf)).2
 refine ⟨h2, h3, ?_⟩
 have key : ∀ N : List Fault, (∀ f ∈ N, f.Bends.length ≤ 8) → mkW N ≤ 19 * N.length := by
   intro N
   induction N with
   | nil => intro _; simp [mkW]
   | cons f N ih =>
     intro hN
     have := ih (fun g hg => hN g (List.mem_cons_of_mem _ hg))
     have := hN f (by simp)
     simp only [mkW, List.map_cons, List.sum_cons, List.length_cons] at *
     omega
 have := key M h3
 omega
theorem fnConnectFaults_ok (L : List Fault) (a b : Int) (hL : lstR Fault.ok L) (ha : i64R a) (hb : i64R b) : Ctr Try.prog 3 [Fault.sl L, .int .i64 a, .int .i64 b] [] (.bool true) [] := by
 obtain ⟨z, hz, hsz⟩ := szFaultS_ok L hL
 by_cases hz0 : z < 0
 · have hd : decide (z < 0) = true := decide_eq_true hz0
   refine Ctr.intro Try.mixed Try.func3 rfl Try.okF3 ?_
   simp -implicitDefEqProofs -dsimp only [go_sem, Try.ntmps3, Try.results3]
   (repeat ((repeat1' (first | simp -implicitDefEqProofs -dsimp only [go_sem] | simp -dsimp (disch := omega) only [wrap_i64])); repeat (with_reducible refine sideA ?_)))
   (first | refine callT.at (hsz) ⟨leA, leA, trivial⟩ ?_ | refine callS.at (hsz) ⟨leA, leA, trivial⟩ ?_)
   (repeat ((repeat1' (first | simp -implicitDefEqProofs -dsimp only [go_sem, hd] | simp -dsimp (disch := omega) only [wrap_i64])); repeat (with_reducible refine sideA ?_)))
   exact WeakR.drop' rfl (by rfl)
 have hd : decide (z < 0) = false := decide_eq_false hz0
 have hbd := (hz.resolve_left hz0).2
 have hbl : ∀ f ∈ L, f.Bends.length ≤ 1048576 := fun f hf => by have := szT_all hf; simp only [szW] at this; omega
 have hmw := mkW_szT L
 have hto := toFaultS_ok L (by omega) hbl
 have hok : flsOk L := fun f hf => by
   have := szT_all hf
   simp only [szW] at this
   exact ⟨by simp only [strR]; omega, by omega⟩
 have hI := iConnectFaults_t L a b hok (by omega)
 have hS := sConnectFaults_t L a b hok (by omega)
 have hE := eqFaultS_ok L (by omega) (fun f hf => by have := hbl f hf; omega)
 have hM := markFaultS_ok L 1 (by omega) (by omega) (by omega) (by omega)
 have hEL : mkE 1 L = 1 + mkW L := mkE_eq 1 L
 have hRM : ∀ M, connR L a b = some M → faultsB M = true := fun M h => connR_some h
 generalize connR L a b = R at *
 cases R with
 | none =>
   have hI : Ctr Try.prog 7 [Fault.sl L, .int .i64 a, .int .i64 b] [] (.tup [.nilsl, .bool false]) [] := hI
   have hS : Ctr Try.prog 5 [Fault.sl L, .int .i64 a, .int .i64 b] [] (.tup [.osl 0 0 0 4, .bool false]) (tH []) := hS
   have hE0 := eqFaultS_ok [] (by simp) (fun f hf => by simp at hf)
   have hH0 : Ctr Try.prog 10 [.sl 0 4 [], .int .i64 1] [] (.int .i64 1) [] := heldFaultS_ok [] 1 (by simp) (by omega) (by omega) (by simp [mkW])
   refine Ctr.intro Try.mixed Try.func3 rfl Try.okF3 ?_
   simp -implicitDefEqProofs -dsimp only [go_sem, Try.ntmps3, Try.results3]
   (repeat ((repeat1' (first | simp -implicitDefEqProofs -dsimp only [go_sem] | simp -dsimp (disch := omega) only [wrap_i64])); repeat (with_reducible refine sideA ?_)))
   (first | refine callT.at (hsz) ⟨leA, leA, trivial⟩ ?_ | refine callS.at (hsz) ⟨leA, leA, trivial⟩ ?_)
   (repeat ((repeat1' (first | simp -implicitDefEqProofs -dsimp only [go_sem, hd] | simp -dsimp (disch := omega) only [wrap_i64])); repeat (with_reducible refine sideA ?_)))
   refine call_tab hto ⟨leA, trivial⟩ (fun h1 K1 T0 l1 => ?_)
   simp only [List.length_nil] at T0 l1 ⊢
   (repeat ((repeat1' (first | simp -implicitDefEqProofs -dsimp only [go_sem] | simp -dsimp (disch := omega) only [wrap_i64])); repeat (with_reducible refine sideA ?_)))
   refine call_tup (M := []) hS ⟨T0.snap, leA, leA, trivial⟩ (fun h2 K2 Tw l2 => ?_)
   (repeat ((repeat1' (first | simp -implicitDefEqProofs -dsimp only [go_sem] | simp -dsimp (disch := omega) only [wrap_i64])); repeat (with_reducible refine sideA ?_)))
   refine call_tab hto ⟨leA, trivial⟩ (fun h3 K3 Tx l3 => ?_)
   (repeat ((repeat1' (first | simp -implicitDefEqProofs -dsimp only [go_sem] | simp -dsimp (disch := omega) only [wrap_i64])); repeat (with_reducible refine sideA ?_)))
   refine callS.at hI ⟨Tx.snap, leA, leA, trivial⟩ ?_ (.inr ⟨noRo_ok 3 rfl, NoRoH.nil⟩)
   (repeat ((repeat1' (first | simp -implicitDefEqProofs -dsimp only [go_sem] | simp -dsimp (disch := omega) only [wrap_i64])); repeat (with_reducible refine sideA ?_)))
   refine callS.at hE0 ⟨le_nil, (K3 _ _ Tw).snap, trivial⟩ ?_ (.inr ⟨noRo_ok 3 rfl, NoRoH.nil⟩)
   (repeat ((repeat1' (first | simp -implicitDefEqProofs -dsimp only [go_sem] | simp -dsimp (disch := omega) only [wrap_i64])); repeat (with_reducible refine sideA ?_)))
   refine call_tab hto ⟨leA, trivial⟩ (fun h4 K4 Ty l4 => ?_)
   (repeat ((repeat1' (first | simp -implicitDefEqProofs -dsimp only [go_sem] | simp -dsimp (disch := omega) only [wrap_i64])); repeat (with_reducible refine sideA ?_)))
   refine callS.at hE ⟨(K4 _ _ Tx).snap, Ty.snap, trivial⟩ ?_ (.inr ⟨noRo_ok 3 rfl, NoRoH.nil⟩)
   (repeat ((repeat1' (first | simp -implicitDefEqProofs -dsimp only [go_sem] | simp -dsimp (disch := omega) only [wrap_i64])); repeat (with_reducible refine sideA ?_)))
   refine call_lend (K4 _ _ Tx) hM (mkL_len 1 L) (mkL_bends 1 L) (fun h5 K5 Tx5 l5 => ?_)
   have Tw5 := K5 _ _ (K4 _ _ (K3 _ _ Tw)) (by simp only [List.length_nil] at *; omega)
   have hneg : decide (mkE 1 L < 0) = false := decide_eq_false (by omega)
   (repeat ((repeat1' (first | simp -implicitDefEqProofs -dsimp only [go_sem, hneg] | simp -dsimp (disch := omega) only [wrap_i64])); repeat (with_reducible refine sideA ?_)))
   refine callS.at hE0 ⟨le_nil, Tw5.snap, trivial⟩ ?_ (.inr ⟨noRo_ok 3 rfl, NoRoH.nil⟩)
   (repeat ((repeat1' (first | simp -implicitDefEqProofs -dsimp only [go_sem] | simp -dsimp (disch := omega) only [wrap_i64])); repeat (with_reducible refine sideA ?_)))
   (have ct := markFaultS_nil 1; (first | refine callT.at ct ⟨leA, leA, trivial⟩ ?_ | refine callS.at ct ⟨leA, leA, trivial⟩ ?_); clear ct)
   (repeat ((repeat1' (first | simp -implicitDefEqProofs -dsimp only [go_sem] | simp -dsimp (disch := omega) only [wrap_i64])); repeat (with_reducible refine sideA ?_)))
   (first | refine callT.at (hH0) ⟨leA, leA, trivial⟩ ?_ | refine callS.at (hH0) ⟨leA, leA, trivial⟩ ?_)
   (repeat ((repeat1' (first | simp -implicitDefEqProofs -dsimp only [go_sem] | simp -dsimp (disch := omega) only [wrap_i64])); repeat (with_reducible refine sideA ?_)))
   refine call_tab hto ⟨leA, trivial⟩ (fun h6 K6 Tz l6 => ?_)
   (repeat ((repeat1' (first | simp -implicitDefEqProofs -dsimp only [go_sem] | simp -dsimp (disch := omega) only [wrap_i64])); repeat (with_reducible refine sideA ?_)))
   refine callS.at hI ⟨Tz.snap, leA, leA, trivial⟩ ?_ (.inr ⟨noRo_ok 3 rfl, NoRoH.nil⟩)
   (repeat ((repeat1' (first | simp -implicitDefEqProofs -dsimp only [go_sem] | simp -dsimp (disch := omega) only [wrap_i64])); repeat (with_reducible refine sideA ?_)))
   refine callS.at hE0 ⟨le_nil, (K6 _ _ Tw5).snap, trivial⟩ ?_ (.inr ⟨noRo_ok 3 rfl, NoRoH.nil⟩)
   (repeat ((repeat1' (first | simp -implicitDefEqProofs -dsimp only [go_sem] | simp -dsimp (disch := omega) only [wrap_i64])); repeat (with_reducible refine sideA ?_)))
   (first | refine callT.at (hH0) ⟨leA, leA, trivial⟩ ?_ | refine callS.at (hH0) ⟨leA, leA, trivial⟩ ?_)
   (repeat ((repeat1' (first | simp -implicitDefEqProofs -dsimp only [go_sem] | simp -dsimp (disch := omega) only [wrap_i64])); repeat (with_reducible refine sideA ?_)))
   exact WeakR.drop' rfl (by rfl)
 | some M =>
   obtain ⟨m1, m2, m3⟩ := mkW_small (hRM M rfl)
   have hI : Ctr Try.prog 7 [Fault.sl L, .int .i64 a, .int .i64 b] [] (.tup [.osl 0 0 M.length 4, .bool true]) (tH M) := hI
   have hS : Ctr Try.prog 5 [Fault.sl L, .int .i64 a, .int .i64 b] [] (.tup [.osl 0 0 M.length 4, .bool true]) (tH M) := hS
   have hE0 := eqFaultS_ok M (by omega) (fun f hf => by have := m2 f hf; omega)
   have hM0 := markFaultS_ok M 1 (by omega) (by omega) (by omega) (by omega)
   have hH0 := heldFaultS_ok M 1 (by omega) (by omega) (by omega) (by omega)
   have hEM : mkE 1 M = 1 + mkW M := mkE_eq 1 M
   have hml := mkL_len 1 M
   refine Ctr.intro Try.mixed Try.func3 rfl Try.okF3 ?_
   simp -implicitDefEqProofs -dsimp only [go_sem, Try.ntmps3, Try.results3]
   (repeat ((repeat1' (first | simp -implicitDefEqProofs -dsimp only [go_sem] | simp -dsimp (disch := omega) only [wrap_i64])); repeat (with_reducible refine sideA ?_)))
   (first | refine callT.at (hsz) ⟨leA, leA, trivial⟩ ?_ | refine callS.at (hsz) ⟨leA, leA, trivial⟩ ?_)
   (repeat ((repeat1' (first | simp -implicitDefEqProofs -dsimp only [go_sem, hd] | simp -dsimp (disch := omega) only [wrap_i64])); repeat (with_reducible refine sideA ?_)))
   refine call_tab hto ⟨leA, trivial⟩ (fun h1 K1 T0 l1 => ?_)
   simp only [List.length_nil] at T0 l1 ⊢
   (repeat ((repeat1' (first | simp -implicitDefEqProofs -dsimp only [go_sem] | simp -dsimp (disch := omega) only [wrap_i64])); repeat (with_reducible refine sideA ?_)))
   refine call_tup hS ⟨T0.snap, leA, leA, trivial⟩ (fun h2 K2 Tw l2 => ?_)
   (repeat ((repeat1' (first | simp -implicitDefEqProofs -dsimp only [go_sem] | simp -dsimp (disch := omega) only [wrap_i64])); repeat (with_reducible refine sideA ?_)))
   refine call_tab hto ⟨leA, trivial⟩ (fun h3 K3 Tx l3 => ?_)
   (repeat ((repeat1' (first | simp -implicitDefEqProofs -dsimp only [go_sem] | simp -dsimp (disch := omega) only [wrap_i64])); repeat (with_reducible refine sideA ?_)))
   refine call_tup hI ⟨Tx.snap, leA, leA, trivial⟩ (fun h4 K4 Tg l4 => ?_)
   (repeat ((repeat1' (first | simp -implicitDefEqProofs -dsimp only [go_sem] | simp -dsimp (disch := omega) only [wrap_i64])); repeat (with_reducible refine sideA ?_)))
   have Tw4 := K4 _ _ (K3 _ _ Tw)
   have Tx4 := K4 _ _ Tx
   refine callS.at hE0 ⟨Tg.snap, Tw4.snap, trivial⟩ ?_ (.inr ⟨noRo_ok 3 rfl, NoRoH.nil⟩)
   (repeat ((repeat1' (first | simp -implicitDefEqProofs -dsimp only [go_sem] | simp -dsimp (disch := omega) only [wrap_i64])); repeat (with_reducible refine sideA ?_)))
   refine call_tab hto ⟨leA, trivial⟩ (fun h5 K5 Ty l5 => ?_)
   have Tw5 := K5 _ _ Tw4
   have Tx5 := K5 _ _ Tx4
   have Tg5 := K5 _ _ Tg
   (repeat ((repeat1' (first | simp -implicitDefEqProofs -dsimp only [go_sem] | simp -dsimp (disch := omega) only [wrap_i64])); repeat (with_reducible refine sideA ?_)))
   refine callS.at hE ⟨Tx5.snap, Ty.snap, trivial⟩ ?_ (.inr ⟨noRo_ok 3 rfl, NoRoH.nil⟩)
   (repeat ((repeat1' (first | simp -implicitDefEqProofs -dsimp only [go_sem] | simp -dsimp (disch := omega) only [wrap_i64])); repeat (with_reducible refine sideA ?_)))
   refine call_lend Tx5 hM (mkL_len 1 L) (mkL_bends 1 L) (fun h6 K6 _ l6 => ?_)
   have Tw6 := K6 _ _ Tw5 (by omega)
   have Tg6 := K6 _ _ Tg5 (by omega)
   have hneg : decide (mkE 1 L < 0) = false := decide_eq_false (by omega)
   (repeat ((repeat1' (first | simp -implicitDefEqProofs -dsimp only [go_sem, hneg] | simp -dsimp (disch := omega) only [wrap_i64])); repeat (with_reducible refine sideA ?_)))
   refine callS.at hE0 ⟨Tg6.snap, Tw6.snap, trivial⟩ ?_ (.inr ⟨noRo_ok 3 rfl, NoRoH.nil⟩)
   (repeat ((repeat1' (first | simp -implicitDefEqProofs -dsimp only [go_sem] | simp -dsimp (disch := omega) only [wrap_i64])); repeat (with_reducible refine sideA ?_)))
   refine call_lend Tg6 hM0 (mkL_len 1 M) (mkL_bends 1 M) (fun h7 K7 Tg7 l7 => ?_)
   have Tw7 := K7 _ _ Tw6 (by omega)
   have hneg2 : decide (mkE 1 M < 0) = false := decide_eq_false (by omega)
   (repeat ((repeat1' (first | simp -implicitDefEqProofs -dsimp only [go_sem] | simp -dsimp (disch := omega) only [wrap_i64])); repeat (with_reducible refine sideA ?_)))
   refine callS.at hH0 ⟨Tg7.snap' hml.symm, leA, trivial⟩ ?_ (.inr ⟨noRo_ok 3 rfl, NoRoH.nil⟩)
   (repeat ((repeat1' (first | simp -implicitDefEqProofs -dsimp only [go_sem, hneg2, bne_self_eq_false] | simp -dsimp (disch := omega) only [wrap_i64])); repeat (with_reducible refine sideA ?_)))
   refine call_tab hto ⟨leA, trivial⟩ (fun h8 K8 Tz l8 => ?_)
   (repeat ((repeat1' (first | simp -implicitDefEqProofs -dsimp only [go_sem] | simp -dsimp (disch := omega) only [wrap_i64])); repeat (with_reducible refine sideA ?_)))
   refine call_tup hI ⟨Tz.snap, leA, leA, trivial⟩ (fun h9 K9 Th l9 => ?_)
   (repeat ((repeat1' (first | simp -implicitDefEqProofs -dsimp only [go_sem] | simp -dsimp (disch := omega) only [wrap_i64])); repeat (with_reducible refine sideA ?_)))
   refine callS.at hE0 ⟨Th.snap, (K9 _ _ (K8 _ _ Tw7)).snap, trivial⟩ ?_ (.inr ⟨noRo_ok 3 rfl, NoRoH.nil⟩)
   (repeat ((repeat1' (first | simp -implicitDefEqProofs -dsimp only [go_sem] | simp -dsimp (disch := omega) only [wrap_i64])); repeat (with_reducible refine sideA ?_)))
   refine callS.at hH0 ⟨(K9 _ _ (K8 _ _ Tg7)).snap' hml.symm, leA, trivial⟩ ?_ (.inr ⟨noRo_ok 3 rfl, NoRoH.nil⟩)
   (repeat ((repeat1' (first | simp -implicitDefEqProofs -dsimp only [go_sem, hneg2, bne_self_eq_false] | simp -dsimp (disch := omega) only [wrap_i64])); repeat (with_reducible refine sideA ?_)))
   exact WeakR.drop' rfl (by rfl)
end Go.Proofs
end
section
open Go.ChangeShapes Go.WideShapes
namespace Go.Lv

def ShC (P : Program) : Nat → TypeId → List V → Prop
 | 0, _, _ => False
 | n + 1, t, xs =>
   match P.underlying t with
   | some .bool => ∃ b, xs = [.bool b]
   | some (.int k) => ∃ z, xs = [.int k z] ∧ (Lit.int k z).wf = true
   | some .string => ∃ s : ByteArray, xs = [.str s] ∧ s.size ≤ maxLen
   | some (.slice e) => ∃ l cs, xs = [.sl l (P.cellsOf e) cs] ∧ l ≤ maxLen ∧ cs.length = l * P.cellsOf e ∧ ∀ i, i < l → ShC P n e ((cs.drop (i * P.cellsOf e)).take (P.cellsOf e))
   | some (.struct fs) => xs.length = P.cellsOf t ∧ ∀ f ∈ fs.toList, ShC P n f.type ((xs.drop f.offset).take (P.cellsOf f.type))
   | _ => False

def tiled (P : Program) : List Field → Nat → Nat → Bool
 | [], off, n => off == n
 | f :: fs, off, n => f.offset == off && tiled P fs (off + P.cellsOf f.type) n

def plainT (P : Program) : Nat → TypeId → Bool
 | 0, _ => false
 | n + 1, t =>
   match P.underlying t with
   | some .bool => true
   | some (.int _) => true
   | some .string => true
   | some (.slice e) => decide (0 < P.cellsOf e) && plainT P n e
   | some (.struct fs) => tiled P fs.toList 0 (P.cellsOf t) && fs.toList.all fun f => plainT P n f.type
   | _ => false

section
variable {P : Program} {w : World} {m : Nat → Nat}

def Rds (w : World) (m : Nat → Nat) (cs : List Value) (xs : List V) : Prop :=
 cs.length = xs.length ∧ ∀ i (hi : i < xs.length), RV w m [] (fun _ => False) false (cs.getD i Go.undef) xs[i]

theorem Rds.append {a b : List Value} {x y : List V} (h : Rds w m a x) (k : Rds w m b y) : Rds w m (a ++ b) (x ++ y) := by
 refine ⟨by simp [h.1, k.1], fun i hi => ?_⟩
 by_cases hlt : i < x.length
 · rw [List.getElem_append_left hlt]
   have := h.2 i hlt
   rw [List.getD_eq_getElem?_getD, List.getElem?_append_left (by rw [h.1]; exact hlt), ← List.getD_eq_getElem?_getD]
   exact this
 · rw [List.getElem_append_right (by omega)]
   have := k.2 (i - x.length) (by simp at hi; omega)
   rw [List.getD_eq_getElem?_getD, List.getElem?_append_right (by rw [h.1]; omega), ← List.getD_eq_getElem?_getD, h.1]
   exact this

theorem Rds.one {v : Value} {x : V} (h : RV w m [] (fun _ => False) false v x) : Rds w m [v] [x] :=
 ⟨rfl, fun i hi => by have : i = 0 := by simp at hi; omega
                      subst this; exact h⟩

theorem Rds.nil : Rds w m [] [] := ⟨rfl, fun i hi => by simp at hi⟩

theorem fields_sh {n : Nat} {cs : List Value} : ∀ (fs : List Field) (off : Nat), tiled P fs off cs.length = true → off ≤ cs.length →
   (∀ f ∈ fs, ∃ xs, Rds w m ((cs.drop f.offset).take (P.cellsOf f.type)) xs ∧ ShC P n f.type xs) →
   ∃ ys, Rds w m (cs.drop off) ys ∧ ∀ f ∈ fs, off ≤ f.offset ∧ ShC P n f.type ((ys.drop (f.offset - off)).take (P.cellsOf f.type))
 | [], off, ht, _, _ => by
   simp [tiled] at ht
   subst ht
   refine ⟨[], ?_, fun f hf => by simp at hf⟩
   rw [List.drop_of_length_le (Nat.le_refl _)]
   exact Rds.nil
 | f :: fs, off, ht, hle, h => by
   simp only [tiled, Bool.and_eq_true, beq_iff_eq] at ht
   obtain ⟨rfl, ht⟩ := ht
   have hlen : ∀ (fs : List Field) (o : Nat), tiled P fs o cs.length = true → o ≤ cs.length := by
     intro fs
     induction fs with
     | nil => intro o ht; simp [tiled] at ht; omega
     | cons g fs ih =>
       intro o ht
       simp only [tiled, Bool.and_eq_true, beq_iff_eq] at ht
       have := ih _ ht.2; omega
   have hk := hlen fs _ ht
   obtain ⟨x, hx1, hx2⟩ := h f (by simp)
   obtain ⟨ys, hy1, hy2⟩ := fields_sh fs _ ht hk (fun g hg => h g (by simp [hg]))
   have hxl : x.length = P.cellsOf f.type := by rw [← hx1.1]; simp; omega
   refine ⟨x ++ ys, ?_, fun g hg => ?_⟩
   · have : cs.drop f.offset = (cs.drop f.offset).take (P.cellsOf f.type) ++ cs.drop (f.offset + P.cellsOf f.type) := by
       rw [← List.drop_drop, List.take_append_drop]
     rw [this]
     exact hx1.append hy1
   · rcases List.mem_cons.1 hg with rfl | hg
     · refine ⟨Nat.le_refl _, ?_⟩
       rw [Nat.sub_self, List.drop_zero, List.take_append_of_le_length (by omega), List.take_of_length_le (by omega)]
       exact hx2
     · obtain ⟨h1, h2⟩ := hy2 g hg
       refine ⟨by omega, ?_⟩
       have : (x ++ ys).drop (g.offset - f.offset) = ys.drop (g.offset - (f.offset + P.cellsOf f.type)) := by
         rw [List.drop_append, List.drop_of_length_le (by omega), List.nil_append]
         congr 1
         omega
       rw [this]
       exact h2

theorem elems_sh {n e : Nat} {b off len : Nat} (h : ∀ i, i < len → ∃ cs xs, cs.length = P.cellsOf e ∧ (∀ j, j < P.cellsOf e → w.cell? ⟨b, off + (i * P.cellsOf e + j), none⟩ = cs[j]?) ∧ Rds w m cs xs ∧ ShC P n e xs) :
   ∀ k, k ≤ len → ∃ xs : List V, xs.length = k * P.cellsOf e ∧ (∀ j (hj : j < xs.length), ∃ v, w.cell? ⟨b, off + j, none⟩ = some v ∧ RV w m [] (fun _ => False) false v xs[j]) ∧
     ∀ i, i < k → ShC P n e ((xs.drop (i * P.cellsOf e)).take (P.cellsOf e))
 | 0, _ => ⟨[], by simp, fun j hj => by simp at hj, fun i hi => by omega⟩
 | k + 1, hk => by
   obtain ⟨xs, h1, h2, h3⟩ := elems_sh h k (by omega)
   obtain ⟨cs, ys, g1, g2, g3, g4⟩ := h k (by omega)
   have hyl : ys.length = P.cellsOf e := by rw [← g3.1, g1]
   refine ⟨xs ++ ys, by simp [h1, hyl, Nat.add_mul], fun j hj => ?_, fun i hi => ?_⟩
   · by_cases hlt : j < xs.length
     · rw [List.getElem_append_left hlt]
       exact h2 j hlt
     · rw [List.getElem_append_right (by omega)]
       have hj' : j - xs.length < ys.length := by simp at hj; omega
       have hr := g3.2 _ hj'
       have hc := g2 (j - xs.length) (by omega)
       have e1 : off + (k * P.cellsOf e + (j - xs.length)) = off + j := by omega
       rw [e1] at hc
       have hcl : j - xs.length < cs.length := by omega
       rw [List.getElem?_eq_getElem hcl] at hc
       refine ⟨_, hc, ?_⟩
       simpa [List.getD_eq_getElem?_getD, hcl] using hr
   · by_cases e2 : i = k
     · subst e2
       rw [← h1, List.drop_left, List.take_of_length_le (by omega)]
       exact g4
     · have hm : i * P.cellsOf e + P.cellsOf e ≤ xs.length := mul_room (n := k) (by omega) h1
       rw [List.drop_append_of_le_length (by omega), List.take_append_of_le_length (by simp; omega)]
       exact h3 i (by omega)

theorem trod_sh {H : Type} {enc : TypeId × Value → H} {spare : Nat → Bool} {held : Bool} : ∀ (n : Nat) (fuel : Nat) (t : TypeId) (cs : List Value) (x : DataW H × List MemPlace),
   DataW.trod enc P w 0 spare held fuel t cs = some x → plainT P n t = true → ∃ xs, Rds w m cs xs ∧ ShC P n t xs
 | 0, fuel, t, cs, x, _, hp => by simp [plainT] at hp
 | n + 1, fuel, t, cs, x, hx, hp => by
   unfold plainT at hp
   split at hp
   · rename_i hu
     obtain ⟨b, rfl, _⟩ := DataW.trod_bool hu hx
     exact ⟨[.bool b], Rds.one (.bool b), by unfold ShC; rw [hu]; exact ⟨b, rfl⟩⟩
   · rename_i k hu
     obtain ⟨z, rfl, _, hw⟩ := DataW.trod_int hu hx
     exact ⟨[.int k z], Rds.one (.int k z), by unfold ShC; rw [hu]; exact ⟨z, rfl, hw⟩⟩
   · rename_i hu
     obtain ⟨s, rfl, _, hs⟩ := DataW.trod_string hu hx
     exact ⟨[.str s], Rds.one (.str s), by unfold ShC; rw [hu]; exact ⟨s, rfl, hs⟩⟩
   · rename_i e hu
     simp only [Bool.and_eq_true, decide_eq_true_eq] at hp
     obtain ⟨hpos, hp⟩ := hp
     rcases Deep.open_slice hu hx with ⟨rfl, _⟩ | ⟨a, len, cap, mm, f, D, Pl, rfl, _, hle, hcap, hmm, _, hel⟩
     · refine ⟨[.sl 0 (P.cellsOf e) []], Rds.one (.slz _ _ _), ?_⟩
       unfold ShC; rw [hu]
       exact ⟨0, [], rfl, Nat.zero_le _, by simp, fun i hi => by omega⟩
     · by_cases h0 : len = 0
       · subst h0
         refine ⟨[.sl 0 (P.cellsOf e) []], Rds.one (.slz _ _ _), ?_⟩
         unfold ShC; rw [hu]
         exact ⟨0, [], rfl, Nat.zero_le _, by simp, fun i hi => by omega⟩
       · have hml : len ≤ mm := by rw [hmm]; split <;> omega
         obtain ⟨b, off, spot⟩ := a
         have hspot : spot = none := by
           obtain ⟨cs', hc, _⟩ := hel 0 (by omega)
           obtain ⟨_, hcl, hat⟩ := World.cells?_some hc
           have h1 := hat 0 hpos
           rw [List.getElem?_eq_getElem (by omega)] at h1
           simpa [Addr.add] using World.cell?_spot h1
         subst hspot
         have hall : ∀ i, i < len → ∃ cs xs, cs.length = P.cellsOf e ∧ (∀ j, j < P.cellsOf e → w.cell? ⟨b, off + (i * P.cellsOf e + j), none⟩ = cs[j]?) ∧ Rds w m cs xs ∧ ShC P n e xs := by
           intro i hi
           obtain ⟨cs', hc, ht⟩ := hel i (by omega)
           obtain ⟨_, hcl, hat⟩ := World.cells?_some hc
           obtain ⟨xs, h1, h2⟩ := trod_sh n _ e cs' _ ht hp
           refine ⟨cs', xs, hcl, fun j hj => ?_, h1, h2⟩
           have := hat j hj
           rw [Addr.add_lit, Addr.add_lit] at this
           rw [← this, Nat.add_assoc]
         obtain ⟨xs, h1, h2, h3⟩ := elems_sh hall len (Nat.le_refl _)
         refine ⟨[.sl len (P.cellsOf e) xs], Rds.one (.sl b off len cap (P.cellsOf e) xs (fun j => (w.cell? ⟨b, off + j, none⟩).getD Go.undef) h1 (fun _ h => h) hle (fun j hj => ?_) (fun j hj => ?_)), ?_⟩
         · obtain ⟨v, hv, _⟩ := h2 j hj
           simp [hv]
         · obtain ⟨v, hv, hr⟩ := h2 j hj
           simpa [hv] using hr
         · unfold ShC; rw [hu]
           exact ⟨len, xs, rfl, by omega, h1, h3⟩
   · rename_i fs hu
     simp only [Bool.and_eq_true, List.all_eq_true] at hp
     obtain ⟨xs, f, _, _, hl, hxl, hf⟩ := DataW.trod_struct hu hx
     have hfs : ∀ g ∈ fs.toList, ∃ ys, Rds w m ((cs.drop g.offset).take (P.cellsOf g.type)) ys ∧ ShC P n g.type ys := by
       intro g hg
       obtain ⟨i, hi, rfl⟩ := List.getElem_of_mem hg
       have hi' : i < fs.size := by simpa using hi
       have h1 := hf i fs[i] (Array.getElem?_eq_getElem hi')
       rw [List.getElem?_eq_getElem (by omega)] at h1
       exact trod_sh n _ _ _ _ (by simpa using h1) (hp.2 _ hg)
     obtain ⟨ys, h1, h2⟩ := fields_sh fs.toList 0 (by rw [hl]; exact hp.1) (Nat.zero_le _) hfs
     rw [List.drop_zero] at h1
     refine ⟨ys, h1, ?_⟩
     unfold ShC; rw [hu]
     exact ⟨by rw [← h1.1, hl], fun g hg => by simpa using (h2 g hg).2⟩
   · cases hp

end
section
variable {P : Program} {W : World}

theorem Rds.get {m : Nat → Nat} {a : List Value} {x : List V} (h : Rds W m a x) : a.length = x.length := h.1

theorem arg_one {H : Type} {enc : TypeId × Value → H} {spare : Nat → Bool} {held : Bool} {n : Nat} {t : TypeId} {v : Value} {d : DataW H} {p : List MemPlace} (m : Nat → Nat)
   (hv : v.cells = #[v]) (h : DataW.Trod enc P W 0 spare held t v d p) (hp : plainT P n t = true) : ∃ x, RV W m [] (fun _ => False) true v x ∧ ShC P n t [x] := by
 obtain ⟨fuel, hf⟩ := h
 rw [hv] at hf
 obtain ⟨xs, h1, h2⟩ := trod_sh (m := m) n fuel t _ _ hf hp
 match xs, h1 with
 | [x], h1 => exact ⟨x, by have := h1.2 0 (by simp); exact this.weak, h2⟩
 | [], h1 => simp [Rds] at h1
 | _ :: _ :: _, h1 => simp [Rds] at h1

theorem law_walk {f : FuncId} {xs : List V} {vs : Array Value} (m : Nat → Nat) (hc : Ctr P f xs [] (.bool true) []) (hgl : GL W (fun _ => False)) (hsz : vs.size = xs.length)
   (hr : ∀ i (hi : i < xs.length), RV W m [] (fun _ => False) true (vs.getD i Go.undef) xs[i]) :
   Calls P f vs W fun e w' => e = .returned (.bool true) ∧ RowKit.Below W.heap.size W w' := by
 refine (hc.2 W vs m (fun _ => False) ⟨fun i j ci cj h => by simp at h, fun id cs h => by simp at h, fun id cs h => by simp at h⟩ (fun b h => h.elim) hgl hsz hr).mono ?_
 rintro e w' ⟨v, m', rfl, hE, _, hv, _⟩
 refine ⟨by cases hv; rfl, hE.os, hE.tape, hE.output, hE.size, fun k hk => hE.block k hk (fun ⟨id, cs, h, _⟩ => by simp at h)⟩

end
end Go.Lv
end
section
namespace Go.Lv

theorem shC_struct {P : Program} {t : TypeId} {n : Nat} {xs : List V} {fs : Array Field} (hs : P.underlying t = some (.struct fs)) (h : ShC P (n + 1) t xs) : xs.length = P.cellsOf t ∧ ∀ f ∈ fs.toList, ShC P n f.type ((xs.drop f.offset).take (P.cellsOf f.type)) := by
 simp only [ShC, hs] at h
 exact h

theorem shC_int {P : Program} {t : TypeId} {n : Nat} {xs : List V} (hs : P.underlying t = some (.int .i64)) (h : ShC P (n + 1) t xs) : ∃ z, xs = [.int .i64 z] ∧ i64R z := by
 simp only [ShC, hs] at h
 obtain ⟨z, h1, h2⟩ := h
 refine ⟨z, h1, ?_⟩
 simp [Lit.wf, IntKind.min, IntKind.max, IntKind.signed, IntKind.bits] at h2
 exact h2

theorem shC_str {P : Program} {t : TypeId} {n : Nat} {xs : List V} (hs : P.underlying t = some .string) (h : ShC P (n + 1) t xs) : ∃ s, xs = [.str s] ∧ strR s := by
 simp only [ShC, hs] at h
 obtain ⟨s, h1, h2⟩ := h
 exact ⟨s, h1, h2⟩

theorem shC_list {P : Program} {t e : TypeId} {n : Nat} {xs : List V} (hs : P.underlying t = some (.slice e)) {α : Type} {cs : α → List V} {w : Nat} (hw : P.cellsOf e = w) {ok : α → Prop}
   (he : ∀ ys, ShC P n e ys → ∃ a, ys = cs a ∧ ok a) (h : ShC P (n + 1) t xs) : ∃ L : List α, xs = [.sl L.length w (rows cs L)] ∧ lstR ok L := by
 simp only [ShC, hs, hw] at h
 obtain ⟨l, ys, rfl, hl, hlen, hel⟩ := h
 suffices ∀ (l : Nat) (ys : List V), ys.length = l * w → (∀ i, i < l → ShC P n e ((ys.drop (i * w)).take w)) → ∃ L : List α, L.length = l ∧ rows cs L = ys ∧ ∀ x ∈ L, ok x by
   obtain ⟨L, h1, h2, h3⟩ := this l ys hlen hel
   exact ⟨L, by rw [h1, h2], by rw [h1]; exact hl, h3⟩
 intro l
 induction l with
 | zero => intro ys h1 _; exact ⟨[], rfl, by simp at h1; simp [rows, h1], fun x hx => by simp at hx⟩
 | succ l ih =>
   intro ys h1 h2
   obtain ⟨a, ha, hoa⟩ := he _ (h2 0 (by omega))
   rw [Nat.zero_mul, List.drop_zero] at ha
   obtain ⟨L, h3, h4, h5⟩ := ih (ys.drop w) (by rw [List.length_drop, h1, Nat.succ_mul]; omega) (fun i hi => by
     have := h2 (i + 1) (by omega)
     rw [List.drop_drop]
     rwa [Nat.succ_mul, Nat.add_comm] at this)
   refine ⟨a :: L, by simp [h3], ?_, ?_⟩
   · rw [rows_cons, h4, ← ha, List.take_append_drop]
   · intro x hx
     rcases List.mem_cons.1 hx with rfl | hx
     · exact hoa
     · exact h5 x hx

end Go.Lv
end
