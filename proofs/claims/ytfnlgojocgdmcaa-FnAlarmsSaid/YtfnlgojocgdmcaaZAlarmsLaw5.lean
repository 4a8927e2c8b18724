/-
  A part of the proof: texts put together by a program of the prover. Conditions: none.
-/
import Derived.Test.YtfnlgojocgdmcaaZAlarmsLaw4
import Derived.ProofKit
import Derived.Deep.Slices
set_option linter.unusedSimpArgs false
set_option linter.unusedVariables false
section
set_option linter.unusedSimpArgs false
set_option linter.unusedVariables false
set_option maxRecDepth 100000
set_option maxHeartbeats 1000000
namespace Go.Proofs
open Go.Lv
def ltI (x y : Int) : Bool := decide (x < y)
theorem isNaNI_ok (a : Int) : Ctr Try.prog 170 [.int .i64 a] [] (.bool false) [] := by
 refine Ctr.intro Try.mixed Try.func170 rfl Try.okF170 ?_
 simp -implicitDefEqProofs -dsimp only [go_sem, Try.ntmps170, Try.results170]
 exact WeakR.drop' (by simp) (by rfl)
theorem lessInt_ok (a b : Int) : Ctr Try.prog 210 [.int .i64 a, .int .i64 b] [] (.bool (decide (a < b))) [] := by
 refine Ctr.intro Try.mixed Try.func210 rfl Try.okF210 ?_
 simp -implicitDefEqProofs -dsimp only [go_sem, Try.ntmps210, Try.results210]
 repeat (with_reducible refine sideA ?_)
 (first | refine callT.at (isNaNI_ok a) ⟨leA, trivial⟩ ?_ | refine callS.at (isNaNI_ok a) ⟨leA, trivial⟩ ?_)
 (repeat ((repeat1' (first | simp -implicitDefEqProofs -dsimp only [go_sem] | simp -dsimp (disch := omega) only [wrap_i64])); repeat (with_reducible refine sideA ?_)))
 exact WeakR.drop' rfl (by rfl)
theorem insertionInt_ok (L : List Int) (hl : L.length ≤ 19) :
   Ctr Try.prog 204 [.osl 0 0 L.length 1, .int .i64 0, .int .i64 L.length] [some (rows IntS.cs L)] (.tup []) [some (rows IntS.cs (insSort ltI L))] := by
 rw [show ltI = fun x y : Int => decide (x < y) from rfl]
 generalize hlt : (fun x y : Int => decide (x < y)) = lt
 have ltv : ∀ x y, lt x y = decide (x < y) := fun x y => by rw [← hlt]
 refine Ctr.intro Try.mixed Try.func204 rfl Try.okF204 ?_
 simp -implicitDefEqProofs -dsimp only [go_sem, Try.ntmps204, Try.results204]
 refine LoopT.intro (fun i : Nat => 1 ≤ i ∧ (i ≤ 1 ∨ i ≤ L.length)) (fun i => ⟨[.osl 0 0 L.length 1, .int .i64 0, .int .i64 L.length, .undef, .undef, .undef, .int .i64 i, .undef, .undef, .undef, .undef, .undef, .undef, .undef, .undef, .undef, .undef, .undef, .undef, .undef, .undef, .undef, .undef, .undef, .undef, .undef, .undef, .undef, .undef, .undef, .undef, .undef, .undef, .undef, .undef, .undef, .undef, .undef, .undef, .undef, .undef, .undef, .undef, .undef, .undef, .undef, .undef, .undef, .undef], [some (rows IntS.cs (srtS lt L i))], 1⟩) (fun i => L.length - i) 1 ⟨Nat.le_refl _, .inl (Nat.le_refl _)⟩ ?_ (fun i hi => ?_)
 · refine Weak.cut (1) (by simp) (by simp) ?_ ?_
   · (simp [LeC, LeV, ren, cutF]; rfl)
   · rw [srtS_one]; simp [cutH, cutB, map_ren_rows]
 simp -implicitDefEqProofs -dsimp only [go_sem]
 refine condT.split (fun h1 => ?_) (fun h1 => ?_)
 · simp -implicitDefEqProofs -dsimp only [go_sem, h1]
   have hi' : i < L.length := by simpa using h1
   have hS : (insSort lt (L.take i)).length = i := by rw [insSort_len]; simp; omega
   rw [srtS_mid hi']
   refine LoopT.intro (fun j : Nat => j ≤ i ∧ posK lt (insSort lt (L.take i)) L[i] i = posK lt (insSort lt (L.take i)) L[i] j) (fun j => ⟨[.osl 0 0 L.length 1, .int .i64 0, .int .i64 L.length, .undef, .undef, .undef, .int .i64 i, .int .i64 j, .undef, .undef, .undef, .undef, .undef, .undef, .undef, .undef, .undef, .undef, .undef, .undef, .undef, .undef, .undef, .undef, .undef, .undef, .undef, .undef, .undef, .undef, .undef, .undef, .undef, .undef, .undef, .undef, .undef, .undef, .undef, .undef, .undef, .undef, .undef, .undef, .undef, .undef, .undef, .undef, .undef], [some (rows IntS.cs (midS (insSort lt (L.take i)) (L.drop (i + 1)) L[i] j))], 1⟩) (fun j => j) i ⟨Nat.le_refl _, rfl⟩ ?_ (fun j hj => ?_)
   · refine Weak.cut (1) (by simp) (by simp) ?_ ?_
     · simp [LeC, LeV, ren, cutF]
     · simp [cutH, cutB, map_ren_rows]
   have hml : ∀ j, (midS (insSort lt (L.take i)) (L.drop (i + 1)) L[i] j).length = L.length := fun j => by rw [midS_len, hS, List.length_drop]; omega
   simp -implicitDefEqProofs -dsimp only [go_sem]
   refine ⟨by kernel_rfl, ?_⟩
   cases j with
   | zero =>
     have hz : ((0 : Nat) : Int) = 0 := rfl
     (repeat ((repeat1' (first | simp -implicitDefEqProofs -dsimp only [go_sem, hz] | simp -dsimp (disch := omega) only [wrap_i64])); repeat (with_reducible refine sideA ?_)))
     refine ⟨i + 1, ⟨by omega, .inr hi'⟩, ?_, by omega⟩
     refine Weak.cut (1) (by simp) (by simp) ?_ ?_
     · simp [LeC, LeV, ren, cutF]
     · rw [srtS_next (j := 0) hi' hj.2]
       simp [cutH, cutB, map_ren_rows]
   | succ j =>
     have hjS : j < (insSort lt (L.take i)).length := by rw [hS]; omega
     have hg : decide ((0 : Int) < ((j + 1 : Nat) : Int)) = true := decide_eq_true (by omega)
     have hw1 : IntKind.i64.wrap (((j + 1 : Nat) : Int) - 1) = (j : Int) := by rw [wrap_i64 (by omega) (by omega)]; omega
     have hk1 : j + 1 < (midS (insSort lt (L.take i)) (L.drop (i + 1)) L[i] (j + 1)).length := by rw [hml]; omega
     have hk0 : j < (midS (insSort lt (L.take i)) (L.drop (i + 1)) L[i] (j + 1)).length := by rw [hml]; omega
     have g1 := midS_get (S := insSort lt (L.take i)) (R := L.drop (i + 1)) (x := L[i]) (j := j + 1) (by omega) hk1
     have g0 := midS_get_below (R := L.drop (i + 1)) (x := L[i]) hjS hk0
     have hr1 := rows_at IntS.csl hk1
     have hr0 := rows_at IntS.csl hk0
     have hlr := rows_len (w := 1) IntS.csl (midS (insSort lt (L.take i)) (L.drop (i + 1)) L[i] (j + 1))
     rw [g1] at hr1
     rw [g0] at hr0
     rw [hml] at hlr
     (repeat ((repeat1' (first | simp -implicitDefEqProofs -dsimp only [go_sem, hg, hw1, hr1, hr0, hlr, IntS.cs] | simp -dsimp (disch := omega) only [wrap_i64])); repeat (with_reducible refine sideA ?_)))
     (first | refine callT.at (lessInt_ok L[i] (insSort lt (L.take i))[j]) ⟨leA, leA, trivial⟩ ?_ | refine callS.at (lessInt_ok L[i] (insSort lt (L.take i))[j]) ⟨leA, leA, trivial⟩ ?_)
     simp -implicitDefEqProofs -dsimp only [go_sem]
     have hlx := ltv L[i] (insSort lt (L.take i))[j]
     rw [← hlx]
     refine condT.split (fun h2 => ?_) (fun h2 => ?_)
     · have s1 := splice_row IntS.csl hk1 (insSort lt (L.take i))[j]
       have s2 := splice_row (L := (midS (insSort lt (L.take i)) (L.drop (i + 1)) L[i] (j + 1)).set (j + 1) (insSort lt (L.take i))[j]) IntS.csl (by rw [List.length_set]; exact hk0) L[i]
       rw [midS_swap hjS] at s2
       simp only [IntS.cs] at s1 s2
       (repeat ((repeat1' (first | simp -implicitDefEqProofs -dsimp only [go_sem, h2, hw1, hr1, hr0, hlr, IntS.cs] | simp -dsimp (disch := omega) only [wrap_i64])); repeat (with_reducible refine sideA ?_)))
       have hl2 : (rows IntS.cs ((midS (insSort lt (L.take i)) (L.drop (i + 1)) L[i] (j + 1)).set (j + 1) (insSort lt (L.take i))[j])).length = L.length * 1 := by rw [rows_len (w := 1) IntS.csl, List.length_set, hml]
       rw [s1, s2]
       refine ⟨by rw [hl2]; omega, j, ⟨by omega, hj.2.trans (posK_down hjS h2)⟩, ?_, by omega⟩
       refine Weak.cut (1) (by simp) (by simp) ?_ ?_
       · simp [LeC, LeV, ren, cutF]
       · simp [cutH, cutB, map_ren_rows]
     · simp -implicitDefEqProofs -dsimp only [go_sem, h2]
       have hp := posK_stay hjS h2
       refine ⟨i + 1, ⟨by omega, .inr hi'⟩, ?_, by omega⟩
       refine Weak.cut (1) (by simp) (by simp) ?_ ?_
       · rw [wrap_i64 (by omega) (by omega)]; simp [LeC, LeV, ren, cutF]
       · rw [srtS_next hi' (hj.2.trans hp)]
         simp [cutH, cutB, map_ren_rows]
 · simp -implicitDefEqProofs -dsimp only [go_sem, h1]
   have h1' : L.length ≤ i := by simp at h1; omega
   rw [srtS_end lt L h1']
   exact WeakR.refl _ _ _
theorem len64_ok (n : Nat) (hn : n ≤ 12) : Ctr Try.prog 200 [.int .u64 n] [] (.int .i64 (if n = 0 then 0 else if n = 1 then 1 else if n ≤ 3 then 2 else if n ≤ 7 then 3 else 4)) [] := by
 have c1 : decide ((4294967296 : Int) ≤ (n : Int)) = false := by simp; omega
 have c2 : decide ((65536 : Int) ≤ (n : Int)) = false := by simp; omega
 have c3 : decide ((256 : Int) ≤ (n : Int)) = false := by simp; omega
 refine Ctr.intro Try.mixed Try.func200 rfl Try.okF200 ?_
 simp -implicitDefEqProofs -dsimp only [go_sem, Try.ntmps200, Try.results200]
 (repeat ((repeat1' (first | simp -implicitDefEqProofs -dsimp only [go_sem, c1, c2, c3] | simp -dsimp (disch := omega) only [wrap_i64])); repeat (with_reducible refine sideA ?_)))
 have hc : n = 0 ∨ n = 1 ∨ n = 2 ∨ n = 3 ∨ n = 4 ∨ n = 5 ∨ n = 6 ∨ n = 7 ∨ n = 8 ∨ n = 9 ∨ n = 10 ∨ n = 11 ∨ n = 12 := by omega
 rcases hc with rfl | rfl | rfl | rfl | rfl | rfl | rfl | rfl | rfl | rfl | rfl | rfl | rfl <;> exact ⟨by decide, WeakR.drop' (by first | rfl | kernel_rfl) (by rfl)⟩
theorem len_ok (n : Nat) (hn : n ≤ 12) : Ctr Try.prog 172 [.int .u64 n] [] (.int .i64 (if n = 0 then 0 else if n = 1 then 1 else if n ≤ 3 then 2 else if n ≤ 7 then 3 else 4)) [] := by
 refine Ctr.intro Try.mixed Try.func172 rfl Try.okF172 ?_
 simp -implicitDefEqProofs -dsimp only [go_sem, Try.ntmps172, Try.results172]
 (repeat ((repeat1' (first | simp -implicitDefEqProofs -dsimp only [go_sem] | simp -dsimp (disch := omega) only [wrap_i64])); repeat (with_reducible refine sideA ?_)))
 (first | refine callT.at (len64_ok n hn) ⟨leA, trivial⟩ ?_ | refine callS.at (len64_ok n hn) ⟨leA, trivial⟩ ?_)
 (repeat ((repeat1' (first | simp -implicitDefEqProofs -dsimp only [go_sem] | simp -dsimp (disch := omega) only [wrap_i64])); repeat (with_reducible refine sideA ?_)))
 exact WeakR.drop' rfl (by rfl)
theorem pdqInt_ok (L : List Int) (z : Int) (hl : L.length ≤ 12) : Ctr Try.prog 182 [.osl 0 0 L.length 1, .int .i64 0, .int .i64 L.length, .int .i64 z] [some (rows IntS.cs L)] (.tup []) [some (rows IntS.cs (insSort ltI L))] := by
 have c1 : decide ((L.length : Int) ≤ 12) = true := by simp; omega
 refine Ctr.intro Try.mixed Try.func182 rfl Try.okF182 ?_
 simp -implicitDefEqProofs -dsimp only [go_sem, Try.ntmps182, Try.results182]
 (repeat ((repeat1' (first | simp -implicitDefEqProofs -dsimp only [go_sem] | simp -dsimp (disch := omega) only [wrap_i64])); repeat (with_reducible refine sideA ?_)))
 refine LoopT.intro (fun _ : Unit => True) (fun _ => ⟨[.osl 0 0 L.length 1, .int .i64 0, .int .i64 L.length, .int .i64 z, .undef, .undef, .undef, .undef, .bool true, .bool true, .undef, .undef, .undef, .undef, .undef, .undef, .undef, .undef, .undef, .undef, .undef, .undef, .undef, .undef, .undef, .undef, .undef, .undef, .undef, .undef, .undef, .undef, .undef, .undef, .undef, .undef, .undef, .undef, .undef, .undef, .undef, .undef, .undef, .undef, .undef, .undef, .undef, .undef, .undef, .undef, .undef, .undef, .undef, .undef, .undef, .undef, .undef, .undef, .undef, .undef, .undef, .undef, .undef, .undef, .undef, .undef, .undef, .undef, .undef, .undef, .undef, .undef, .undef, .undef, .undef, .undef, .undef, .undef, .undef, .undef, .undef, .undef, .undef, .undef, .undef, .undef, .undef, .undef, .undef, .undef, .undef, .undef, .undef, .undef, .undef, .undef, .undef, .undef, .undef, .undef, .undef, .undef, .undef, .undef, .undef, .undef, .undef, .undef, .undef, .undef, .undef, .undef, .undef, .undef, .undef, .undef, .undef, .undef, .undef, .undef, .undef, .undef, .undef, .undef, .undef, .undef, .undef, .undef, .undef, .undef, .undef, .undef, .undef, .undef], [some (rows IntS.cs L)], 1⟩) (fun _ => 0) () trivial ?_ (fun _ _ => ?_)
 · refine Weak.cut (1) (by simp) (by simp) ?_ ?_
   · simp [LeC, LeV, ren, cutF]
   · simp [cutH, cutB, map_ren_rows]
 (repeat ((repeat1' (first | simp -implicitDefEqProofs -dsimp only [go_sem, c1, Int.sub_zero] | simp -dsimp (disch := omega) only [wrap_i64])); repeat (with_reducible refine sideA ?_)))
 refine callS.lend [0] false ( insertionInt_ok L (by omega)) (by decide) ⟨leO, leO, leO, trivial⟩ lendA ( grown_one (by simp [rows_length, insSort_len])) (.inl rfl) ?_
 (repeat ((repeat1' (first | simp -implicitDefEqProofs -dsimp only [go_sem] | simp -dsimp (disch := omega) only [wrap_i64])); repeat (with_reducible refine sideA ?_)))
 exact WeakR.refl _ _ _
theorem sortInt_ok (L : List Int) (hl : L.length ≤ 12) : Ctr Try.prog 139 [.osl 0 0 L.length 1] [some (rows IntS.cs L)] (.tup []) [some (rows IntS.cs (insSort ltI L))] := by
 have hw : IntKind.u64.wrap (L.length : Int) = (L.length : Int) := by simp [IntKind.wrap, IntKind.bits, IntKind.signed]; omega
 refine Ctr.intro Try.mixed Try.func139 rfl Try.okF139 ?_
 simp -implicitDefEqProofs -dsimp only [go_sem, Try.ntmps139, Try.results139]
 (repeat ((repeat1' (first | simp -implicitDefEqProofs -dsimp only [go_sem, hw] | simp -dsimp (disch := omega) only [wrap_i64])); repeat (with_reducible refine sideA ?_)))
 (first | refine callT.at (len_ok L.length hl) ⟨leA, trivial⟩ ?_ | refine callS.at (len_ok L.length hl) ⟨leA, trivial⟩ ?_)
 (repeat ((repeat1' (first | simp -implicitDefEqProofs -dsimp only [go_sem] | simp -dsimp (disch := omega) only [wrap_i64])); repeat (with_reducible refine sideA ?_)))
 refine callS.lend [0] false ( pdqInt_ok L _ hl) (by decide) ⟨leO, leO, leO, leO, trivial⟩ lendA ( grown_one (by simp [rows_length, insSort_len])) (.inl rfl) ?_
 (repeat ((repeat1' (first | simp -implicitDefEqProofs -dsimp only [go_sem] | simp -dsimp (disch := omega) only [wrap_i64])); repeat (with_reducible refine sideA ?_)))
 exact WeakR.refl _ _ _
end Go.Proofs
end
section
set_option linter.unusedSimpArgs false
set_option linter.unusedVariables false
set_option maxRecDepth 100000
set_option maxHeartbeats 2000000
namespace Go.Proofs
open Go.Lv
theorem vBig_ok (L : List Int) : Ctr Try.prog 17 [ByteS.sl L] [] (.bool (decide (65536 < (L.length : Int)))) [] := by
 refine Ctr.intro Try.mixed Try.func17 rfl Try.okF17 ?_
 simp -implicitDefEqProofs -dsimp only [go_sem, Try.ntmps17, Try.results17]
 (repeat ((repeat1' (first | simp -implicitDefEqProofs -dsimp only [go_sem] | simp -dsimp (disch := omega) only [wrap_i64])); repeat (with_reducible refine sideA ?_)))
 exact WeakR.drop' rfl (by rfl)
theorem vHeard_ok (L : List Heard) (hl : L.length ≤ 1048576) : Ctr Try.prog 134 [Heard.sl L, Heard.sl L] [] (.bool true) [] := by
 refine Ctr.intro Try.mixed Try.func134 rfl Try.okF134 ?_
 simp -implicitDefEqProofs -dsimp only [go_sem, Try.ntmps134, Try.results134]
 (repeat ((repeat1' (first | simp -implicitDefEqProofs -dsimp only [go_sem] | simp -dsimp (disch := omega) only [wrap_i64])); repeat (with_reducible refine sideA ?_)))
 refine LoopT.intro (fun i : Nat => i ≤ L.length) (fun i => ⟨[Heard.sl L, Heard.sl L, .undef, .undef, .undef, .int .i64 i, .undef, .undef, .undef, .undef, .undef, .undef, .undef, .undef, .undef, .undef, .undef, .undef, .undef, .undef, .undef, .undef, .undef, .undef, .undef, .undef], [], 0⟩) (fun i => L.length - i) 0 (Nat.zero_le _) ?_ (fun i hi => ?_)
 · refine Weak.cut (0) (by simp) (by simp) ?_ ?_
   · simp [LeC, LeV, ren, cutF]
   · rfl
 simp -implicitDefEqProofs -dsimp only [go_sem]
 refine condT.split (fun h1 => ?_) (fun h1 => ?_)
 · have hi' : i < L.length := by simpa using h1
   have hr := rows_at Heard.csl hi'
   (repeat ((repeat1' (first | simp -implicitDefEqProofs -dsimp only [go_sem, h1, hr, Heard.cs] | simp -dsimp (disch := omega) only [wrap_i64])); repeat (with_reducible refine sideA ?_)))
   refine ⟨i + 1, hi', ?_, by omega⟩
   refine Weak.cut (0) (by simp) (by simp) ?_ ?_
   · simp [LeC, LeV, ren, cutF]
   · rfl
 · (repeat ((repeat1' (first | simp -implicitDefEqProofs -dsimp only [go_sem, h1] | simp -dsimp (disch := omega) only [wrap_i64])); repeat (with_reducible refine sideA ?_)))
   exact WeakR.drop' rfl (by rfl)
theorem vAlarm_ok (a : Alarm) (hl : a.Heard.length ≤ 1048576) : Ctr Try.prog 52 [a.v, a.v] [] (.bool true) [] := by
 refine Ctr.intro Try.mixed Try.func52 rfl Try.okF52 ?_
 simp -implicitDefEqProofs -dsimp only [go_sem, Try.ntmps52, Try.results52]
 (repeat ((repeat1' (first | simp -implicitDefEqProofs -dsimp only [go_sem, Alarm.v] | simp -dsimp (disch := omega) only [wrap_i64])); repeat (with_reducible refine sideA ?_)))
 (first | refine callT.at (vHeard_ok a.Heard hl) ⟨leA, leA, trivial⟩ ?_ | refine callS.at (vHeard_ok a.Heard hl) ⟨leA, leA, trivial⟩ ?_)
 (repeat ((repeat1' (first | simp -implicitDefEqProofs -dsimp only [go_sem] | simp -dsimp (disch := omega) only [wrap_i64])); repeat (with_reducible refine sideA ?_)))
 exact WeakR.drop' rfl (by rfl)
def naA (n : Int) : Alarm := if inB' n 0 1000000 = true then ⟨n, 0, [], 0, 0⟩ else zA
def naV (n : Int) : V := .tup [(naA n).v, .bool (inB' n 0 1000000)]
theorem naV_no {n : Int} (h : inB' n 0 1000000 = false) : WeakR 0 (.tup [zeroA, .bool false]) [] (naV n) [] := by
 have e : naV n = .tup [zA.v, .bool false] := by simp [naV, naA, h]
 rw [e]
 exact frzTA zeroALe
theorem naV_yes {n : Int} (h : inB' n 0 1000000 = true) : naV n = .tup [.agg [.int .i64 n, .int .i64 0, .sl 0 2 [], .int .i64 0, .int .i64 0], .bool true] := by simp [naV, naA, h, Alarm.v, rows_nil]
theorem sNewAF (n : Int) : Ctr Try.prog 62 [.int .i64 n] [] (naV n) [] := by
 cases h : inB' n 0 1000000 with
 | false =>
   refine Ctr.weak (r := .tup [zeroA, .bool false]) (hout := []) ?_ (naV_no h)
   refine Ctr.intro Try.mixed Try.func62 rfl Try.okF62 ?_
   simp -implicitDefEqProofs -dsimp only [go_sem, Try.ntmps62, Try.results62]
   (repeat ((repeat1' (first | simp -implicitDefEqProofs -dsimp only [go_sem] | simp -dsimp (disch := omega) only [wrap_i64])); repeat (with_reducible refine sideA ?_)))
   (first | refine callT.at (l2Tick_ok n) ⟨leA, trivial⟩ ?_ | refine callS.at (l2Tick_ok n) ⟨leA, trivial⟩ ?_)
   (repeat ((repeat1' (first | simp -implicitDefEqProofs -dsimp only [go_sem, h] | simp -dsimp (disch := omega) only [wrap_i64])); repeat (with_reducible refine sideA ?_)))
   exact WeakR.drop' rfl (by rfl)
 | true =>
   rw [naV_yes h]
   refine Ctr.intro Try.mixed Try.func62 rfl Try.okF62 ?_
   simp -implicitDefEqProofs -dsimp only [go_sem, Try.ntmps62, Try.results62]
   (repeat ((repeat1' (first | simp -implicitDefEqProofs -dsimp only [go_sem] | simp -dsimp (disch := omega) only [wrap_i64])); repeat (with_reducible refine sideA ?_)))
   (first | refine callT.at (l2Tick_ok n) ⟨leA, trivial⟩ ?_ | refine callS.at (l2Tick_ok n) ⟨leA, trivial⟩ ?_)
   (repeat ((repeat1' (first | simp -implicitDefEqProofs -dsimp only [go_sem, h] | simp -dsimp (disch := omega) only [wrap_i64])); repeat (with_reducible refine sideA ?_)))
   refine WeakR.pick [] (by decide) (fun j hj => by omega) (.inl ?_) rfl
   simp [ren, pickF, posOf, frzR]
theorem iNewAF (n : Int) : Ctr Try.prog 61 [.int .i64 n] [] (naV n) [] := by
 cases h : inB' n 0 1000000 with
 | false =>
   refine Ctr.weak (r := .tup [zeroA, .bool false]) (hout := []) ?_ (naV_no h)
   refine Ctr.intro Try.mixed Try.func61 rfl Try.okF61 ?_
   simp -implicitDefEqProofs -dsimp only [go_sem, Try.ntmps61, Try.results61]
   (repeat ((repeat1' (first | simp -implicitDefEqProofs -dsimp only [go_sem] | simp -dsimp (disch := omega) only [wrap_i64])); repeat (with_reducible refine sideA ?_)))
   (first | refine callT.at (isTick_ok n) ⟨leA, trivial⟩ ?_ | refine callS.at (isTick_ok n) ⟨leA, trivial⟩ ?_)
   (repeat ((repeat1' (first | simp -implicitDefEqProofs -dsimp only [go_sem, h] | simp -dsimp (disch := omega) only [wrap_i64])); repeat (with_reducible refine sideA ?_)))
   exact WeakR.drop' rfl (by rfl)
 | true =>
   rw [naV_yes h]
   refine Ctr.weak (r := .tup [.agg [.int .i64 n, .int .i64 0, .nilsl, .int .i64 0, .int .i64 0], .bool true]) (hout := []) ?_ (frzTA (LeV.agg ⟨.inl rfl, .inl rfl, LeE.nil, .inl rfl, .inl rfl, trivial⟩))
   refine Ctr.intro Try.mixed Try.func61 rfl Try.okF61 ?_
   simp -implicitDefEqProofs -dsimp only [go_sem, Try.ntmps61, Try.results61]
   (repeat ((repeat1' (first | simp -implicitDefEqProofs -dsimp only [go_sem] | simp -dsimp (disch := omega) only [wrap_i64])); repeat (with_reducible refine sideA ?_)))
   (first | refine callT.at (isTick_ok n) ⟨leA, trivial⟩ ?_ | refine callS.at (isTick_ok n) ⟨leA, trivial⟩ ?_)
   (repeat ((repeat1' (first | simp -implicitDefEqProofs -dsimp only [go_sem, h] | simp -dsimp (disch := omega) only [wrap_i64])); repeat (with_reducible refine sideA ?_)))
   exact WeakR.drop' rfl (by rfl)
def stationsA (a : Alarm) : List Int := a.Heard.map Heard.Station
theorem iHeardBy_ok (a : Alarm) (ha : alarmB a = true) : Ctr Try.prog 55 [a.v] [] (.tup [IntS.sl (insSort ltI (stationsA a)), .bool true]) [] := by
 have hl := (alarmB_ok ha).len
 refine Ctr.intro Try.mixed Try.func55 rfl Try.okF55 ?_
 simp -implicitDefEqProofs -dsimp only [go_sem, Try.ntmps55, Try.results55]
 (repeat ((repeat1' (first | simp -implicitDefEqProofs -dsimp only [go_sem, Alarm.v] | simp -dsimp (disch := omega) only [wrap_i64])); repeat (with_reducible refine sideA ?_)))
 (first | refine callT.at (iIsAlarm_ok a (by omega)) ⟨leA, trivial⟩ ?_ | refine callS.at (iIsAlarm_ok a (by omega)) ⟨leA, trivial⟩ ?_)
 (repeat ((repeat1' (first | simp -implicitDefEqProofs -dsimp only [go_sem, ha] | simp -dsimp (disch := omega) only [wrap_i64])); repeat (with_reducible refine sideA ?_)))
 refine LoopT.intro (fun i : Nat => i ≤ a.Heard.length) (fun i => ⟨[.undef, .undef, .undef, .undef, .osl 0 0 i 1, .undef, .undef, .undef, .undef, .undef, .undef, .undef, Heard.sl a.Heard, .int .i64 a.Heard.length, .int .i64 i, .undef, .undef, .undef, .undef, .undef, .undef, .undef, .undef, .undef, .undef, .undef, .undef], [some (rows IntS.cs ((stationsA a).take i))], 0⟩) (fun i => a.Heard.length - i) 0 (Nat.zero_le _) ?_ (fun i hi => ?_)
 · refine Weak.pick [1] (by decide) (fun j hj => by omega) ?_ ?_
   · simp [LeG, LeC, LeV, ren, pickF, posOf]
   · simp [pickH, pickB, rows_nil]
 simp -implicitDefEqProofs -dsimp only [go_sem]
 refine condT.split (fun h1 => ?_) (fun h1 => ?_)
 · have hi' : i < a.Heard.length := by simpa using h1
   have hr := rows_at Heard.csl hi'
   have his : i < (stationsA a).length := by simpa [stationsA] using hi'
   have hsn : rows IntS.cs ((stationsA a).take i) ++ [.int .i64 a.Heard[i].Station] = rows IntS.cs ((stationsA a).take (i + 1)) := by
     rw [List.take_succ_eq_append_getElem his]
     have e : (stationsA a)[i] = a.Heard[i].Station := by simp [stationsA]
     rw [e]
     exact rows_snoc (cs := IntS.cs) ((stationsA a).take i) a.Heard[i].Station
   have hrl : (rows IntS.cs ((stationsA a).take i)).length = i := by rw [rows_length, List.length_take]; omega
   (repeat ((repeat1' (first | simp -implicitDefEqProofs -dsimp only [go_sem, h1, hr, Heard.cs, hsn] | simp -dsimp (disch := omega) only [wrap_i64])); repeat (with_reducible refine sideA ?_)))
   refine ⟨i + 1, hi', ?_, by omega⟩
   refine Weak.cut (1) (by simp) (by simp) ?_ ?_
   · simp [LeC, LeV, ren, cutF]
   · simp [cutH, cutB, map_ren_rows]
 · have hi' : i = a.Heard.length := by simp at h1; omega
   subst hi'
   have hsl : (stationsA a).length = a.Heard.length := by simp [stationsA]
   have htk : (stationsA a).take a.Heard.length = stationsA a := by rw [← hsl, List.take_length]
   rw [htk]
   have hs := sortInt_ok (stationsA a) (by omega)
   rw [hsl] at hs
   (repeat ((repeat1' (first | simp -implicitDefEqProofs -dsimp only [go_sem, h1] | simp -dsimp (disch := omega) only [wrap_i64])); repeat (with_reducible refine sideA ?_)))
   refine callS.lend [0] false ( hs) (by decide) ⟨leO, trivial⟩ lendA ( grown_one (by simp [rows_length, insSort_len])) (.inl rfl) ?_
   (repeat ((repeat1' (first | simp -implicitDefEqProofs -dsimp only [go_sem, map_ren_rows] | simp -dsimp (disch := omega) only [wrap_i64])); repeat (with_reducible refine sideA ?_)))
   have hzl : (insSort ltI (stationsA a)).length = a.Heard.length := by rw [insSort_len, hsl]
   have hzt := take_rows (cs := IntS.cs) (w := 1) (insSort ltI (stationsA a))
   rw [Nat.mul_one, hzl] at hzt
   refine WeakR.pick [] (by decide) (fun j hj => by omega) (.inl ?_) rfl
   simp [ren, pickF, posOf, frzR, hzl, hzt, map_ren_rows]
theorem iMissing2_ok (a : Alarm) (ha : alarmB a = true) (hs : a.State ≠ 3) (hl : a.Heard.length = 2) : Ctr Try.prog 56 [a.v] [] (.tup [.int .i64 1, .bool true]) [] := by
 have h3 : (a.State == 3) = false := by simp [hs]
 refine Ctr.intro Try.mixed Try.func56 rfl Try.okF56 ?_
 simp -implicitDefEqProofs -dsimp only [go_sem, Try.ntmps56, Try.results56]
 (repeat ((repeat1' (first | simp -implicitDefEqProofs -dsimp only [go_sem, Alarm.v] | simp -dsimp (disch := omega) only [wrap_i64])); repeat (with_reducible refine sideA ?_)))
 (first | refine callT.at (iIsAlarm_ok a (by omega)) ⟨leA, trivial⟩ ?_ | refine callS.at (iIsAlarm_ok a (by omega)) ⟨leA, trivial⟩ ?_)
 (repeat ((repeat1' (first | simp -implicitDefEqProofs -dsimp only [go_sem, ha, h3, hl] | simp -dsimp (disch := omega) only [wrap_i64])); repeat (with_reducible refine sideA ?_)))
 exact WeakR.drop' (by simp) (by rfl)
end Go.Proofs
end
section
set_option linter.unusedSimpArgs false
set_option linter.unusedVariables false
set_option maxRecDepth 100000
set_option maxHeartbeats 1000000
namespace Go.Proofs
open Go.Lv
structure Cur where
 a : Int
 s : Int
def Cur.cs (B : List Int) (c : Cur) : List V := [ByteS.sl B, .int .i64 c.a, .int .u64 c.s]
def CB (B : List Int) : Prop := lstR u8R B
def Cur.le (c : Cur) (k : Int) : Prop := 0 ≤ c.a ∧ c.a ≤ k
theorem Cur.ren (B : List Int) (c : Cur) (f : Nat → R) (d : Nat) : (c.cs B).map (Go.Lv.ren f d) = c.cs B := by cases d <;> simp [Cur.cs, Go.Lv.ren]
theorem lendCur {B : List Int} {c : Cur} {h : Hp} {id : Nat} (hid : h[id]? = some (some (c.cs B))) : pickH [id] h false = [some (c.cs B)] := by
 simp only [pickH, List.map_cons, List.map_nil, pickB, hid, Cur.ren]
theorem lendCur2 {α : Type} {cs : α → List V} {w : Nat} [FlatP cs w] {L : List α} {B : List Int} {c : Cur} {h : Hp} {i j : Nat} (hi : h[i]? = some (some (c.cs B))) (hj : h[j]? = some (some (rows cs L))) : pickH [i, j] h false = [some (c.cs B), some (rows cs L)] := by
 simp only [pickH, List.map_cons, List.map_nil, pickB, hi, hj, Cur.ren, map_ren_rows]
theorem growCur (B : List Int) (c c' : Cur) : grown [some (c.cs B)] [some (c'.cs B)] := ⟨⟨rfl, rfl⟩, trivial⟩
theorem growCur2 {α : Type} {cs : α → List V} {L : List α} (B : List Int) (c c' : Cur) : grown [some (c.cs B), some (rows cs L)] [some (c'.cs B), some (rows cs L)] := ⟨⟨rfl, rfl⟩, ⟨rfl, rfl⟩, trivial⟩
theorem andI_255 (x : Int) : 0 ≤ andI .u64 x 255 ∧ andI .u64 x 255 ≤ 255 := by
 have h : ∀ y : BitVec 64, (y &&& BitVec.ofInt 64 255).toNat ≤ 255 := fun y => by
   rw [BitVec.toNat_and]
   exact Nat.le_trans Nat.and_le_right (by decide)
 have hb : (BitVec.ofInt 64 x &&& BitVec.ofInt 64 255).toNat ≤ 255 := h _
 have hw : andI .u64 x 255 = (((BitVec.ofInt 64 x &&& BitVec.ofInt 64 255).toNat : Nat) : Int) := by
   unfold andI
   show IntKind.u64.wrap (((BitVec.ofInt 64 x &&& BitVec.ofInt 64 255).toNat : Nat) : Int) = _
   generalize (BitVec.ofInt 64 x &&& BitVec.ofInt 64 255).toNat = n at hb
   simp [IntKind.wrap, IntKind.bits, IntKind.signed]
   omega
 rw [hw]
 omega
def nextB (B : List Int) (c : Cur) : Int := if c.a < B.length then B.getD c.a.toNat 0 else 0
def nextS (B : List Int) (c : Cur) : Int := IntKind.u64.wrap (IntKind.u64.wrap (IntKind.u64.wrap (c.s * 6364136223846793005) + IntKind.u64.wrap (nextB B c)) + 101717)
def nextC (B : List Int) (c : Cur) : Cur := ⟨c.a + 1, nextS B c⟩
def nextV (B : List Int) (c : Cur) : Int := if c.a < B.length then nextB B c else andI .u64 (shrI .u64 (nextS B c) 40) 255
theorem nextB_bd {B : List Int} (hB : CB B) {c : Cur} (h : 0 ≤ c.a) : 0 ≤ nextB B c ∧ nextB B c ≤ 255 := by
 unfold nextB
 split
 · have hi : c.a.toNat < B.length := by omega
   have := hB.2 _ (List.getElem_mem hi)
   simpa [List.getD, hi, u8R] using this
 · omega
theorem nextV_bd {B : List Int} (hB : CB B) {c : Cur} (h : 0 ≤ c.a) : 0 ≤ nextV B c ∧ nextV B c ≤ 255 := by
 unfold nextV
 split
 · exact nextB_bd hB h
 · exact andI_255 _
theorem next_ok {B : List Int} (hB : CB B) {c : Cur} (hc : c.le 4611686018427387904) : Ctr Try.prog 158 [.ptr 0 0] [some (c.cs B)] (.int .i64 (nextV B c)) [some ((nextC B c).cs B)] := by
 obtain ⟨a, s⟩ := c
 obtain ⟨ha, hak⟩ := hc
 dsimp only at ha hak
 have hw : IntKind.i64.wrap (a + 1) = a + 1 := wrap_i64 (by omega) (by omega)
 have hbl := hB.1
 by_cases h1 : a < B.length
 · obtain ⟨i, rfl⟩ : ∃ i : Nat, a = i := ⟨a.toNat, by omega⟩
   have hi : i < B.length := by omega
   have hr := rows_at ByteS.csl hi
   obtain ⟨b0, b1⟩ : 0 ≤ B[i] ∧ B[i] ≤ 255 := by have := hB.2 _ (List.getElem_mem hi); simpa [u8R] using this
   have hwb : IntKind.i64.wrap B[i] = B[i] := wrap_i64 (by omega) (by omega)
   have hd : decide ((i : Int) < (B.length : Int)) = true := by simp; omega
   have hd2 : decide ((i : Int) + 1 ≤ (B.length : Int)) = true := by simp; omega
   have e1 : nextB B ⟨i, s⟩ = B[i] := by simp [nextB, h1, List.getD, hi]
   have e2 : nextV B ⟨i, s⟩ = B[i] := by simp [nextV, h1, e1]
   rw [nextC, nextS, e1, e2]
   refine Ctr.intro Try.mixed Try.func158 rfl Try.okF158 ?_
   simp -implicitDefEqProofs -dsimp only [go_sem, Try.ntmps158, Try.results158]
   (repeat ((repeat1' (first | simp -implicitDefEqProofs -dsimp only [go_sem, Cur.cs, hw, hd, hd2, hr, ByteS.cs, hwb] | simp -dsimp (disch := omega) only [wrap_i64])); repeat (with_reducible refine sideA ?_)))
   exact WeakR.refl _ _ _
 · have hd : decide (a < (B.length : Int)) = false := by simp; omega
   have hd2 : decide (a + 1 ≤ (B.length : Int)) = false := by simp; omega
   have e3 : nextV B ⟨a, s⟩ = andI .u64 (shrI .u64 (nextS B ⟨a, s⟩) 40) 255 := by simp [nextV, h1]
   have e4 : nextB B ⟨a, s⟩ = 0 := by simp [nextB, h1]
   rw [nextC, e3]
   rw [nextS, e4]
   obtain ⟨e1, e2⟩ := andI_255 (shrI .u64 (IntKind.u64.wrap (IntKind.u64.wrap (IntKind.u64.wrap (s * 6364136223846793005) + IntKind.u64.wrap 0) + 101717)) 40)
   generalize hq : andI .u64 (shrI .u64 (IntKind.u64.wrap (IntKind.u64.wrap (IntKind.u64.wrap (s * 6364136223846793005) + IntKind.u64.wrap 0) + 101717)) 40) 255 = q at e1 e2 ⊢
   have hwq : IntKind.i64.wrap q = q := wrap_i64 (by omega) (by omega)
   refine Ctr.intro Try.mixed Try.func158 rfl Try.okF158 ?_
   simp -implicitDefEqProofs -dsimp only [go_sem, Try.ntmps158, Try.results158]
   (repeat ((repeat1' (first | simp -implicitDefEqProofs -dsimp only [go_sem, Cur.cs, hw, hd, hd2, hq] | simp -dsimp (disch := omega) only [wrap_i64])); repeat (with_reducible refine sideA ?_)))
   exact WeakR.refl _ _ _
def pickV (B : List Int) (n : Int) (c : Cur) : Int := if n ≤ 1 then 0 else if 200 < n then (nextV B c * 256 + nextV B (nextC B c)).tmod n else (nextV B c).tmod n
def pickC (B : List Int) (n : Int) (c : Cur) : Cur := if n ≤ 1 then c else if 200 < n then nextC B (nextC B c) else nextC B c
theorem pickC_le {B : List Int} {n k : Int} {c : Cur} (h : c.le k) : (pickC B n c).le (k + 2) := by
 unfold pickC nextC Cur.le at *
 split
 · omega
 · split <;> (simp only []; omega)
theorem pickV_bd {B : List Int} (hB : CB B) {n : Int} {c : Cur} (h : 0 ≤ c.a) : 0 ≤ pickV B n c ∧ (1 ≤ n → pickV B n c < n) := by
 have h1 := nextV_bd hB h
 have h2 := nextV_bd hB (c := nextC B c) (by simp [nextC]; omega)
 unfold pickV
 split
 · omega
 · split
   · exact ⟨Int.tmod_nonneg _ (by omega), fun _ => Int.tmod_lt_of_pos _ (by omega)⟩
   · exact ⟨Int.tmod_nonneg _ (by omega), fun _ => Int.tmod_lt_of_pos _ (by omega)⟩
theorem pick_ok {B : List Int} (hB : CB B) {c : Cur} (hc : c.le 4611686018427387903) (n : Int) (hn : n ≤ 1000000000) : Ctr Try.prog 90 [.ptr 0 0, .int .i64 n] [some (c.cs B)] (.int .i64 (pickV B n c)) [some ((pickC B n c).cs B)] := by
 obtain ⟨r1, r2⟩ := nextV_bd hB hc.1
 have hc1 : (nextC B c).le 4611686018427387904 := by obtain ⟨h, h'⟩ := hc; exact ⟨by simp [nextC]; omega, by simp [nextC]; omega⟩
 obtain ⟨q1, q2⟩ := nextV_bd hB hc1.1
 have p4 := next_ok hB (c := c) ⟨hc.1, by have := hc.2; omega⟩
 have q4 := next_ok hB hc1
 by_cases h1 : n ≤ 1
 · have hd : decide (n ≤ 1) = true := by simp [h1]
   rw [pickV, pickC, if_pos h1, if_pos h1]
   refine Ctr.intro Try.mixed Try.func90 rfl Try.okF90 ?_
   simp -implicitDefEqProofs -dsimp only [go_sem, Try.ntmps90, Try.results90]
   (repeat ((repeat1' (first | simp -implicitDefEqProofs -dsimp only [go_sem, hd] | simp -dsimp (disch := omega) only [wrap_i64])); repeat (with_reducible refine sideA ?_)))
   exact WeakR.refl _ _ _
 have hd : decide (n ≤ 1) = false := by simp; omega
 by_cases h2 : 200 < n
 · have hd2 : decide (200 < n) = true := by simp [h2]
   have hw : IntKind.i64.wrap (nextV B c * 256) = nextV B c * 256 := wrap_i64 (by omega) (by omega)
   have hw2 : IntKind.i64.wrap (nextV B c * 256 + nextV B (nextC B c)) = nextV B c * 256 + nextV B (nextC B c) := wrap_i64 (by omega) (by omega)
   rw [pickV, pickC, if_neg h1, if_neg h1, if_pos h2, if_pos h2]
   refine Ctr.intro Try.mixed Try.func90 rfl Try.okF90 ?_
   simp -implicitDefEqProofs -dsimp only [go_sem, Try.ntmps90, Try.results90]
   (repeat ((repeat1' (first | simp -implicitDefEqProofs -dsimp only [go_sem, hd] | simp -dsimp (disch := omega) only [wrap_i64])); repeat (with_reducible refine sideA ?_)))
   refine callS.lend [0] false p4 (by decide) ⟨leO, trivial⟩ (lendCur rfl) (growCur B _ _) (.inl rfl) ?_
   (repeat ((repeat1' (first | simp -implicitDefEqProofs -dsimp only [go_sem, hd2, hw, Cur.ren] | simp -dsimp (disch := omega) only [wrap_i64])); repeat (with_reducible refine sideA ?_)))
   refine callS.lend [0] false q4 (by decide) ⟨leO, trivial⟩ (lendCur rfl) (growCur B _ _) (.inl rfl) ?_
   (repeat ((repeat1' (first | simp -implicitDefEqProofs -dsimp only [go_sem, hw2, Cur.ren] | simp -dsimp (disch := omega) only [wrap_i64])); repeat (with_reducible refine sideA ?_)))
   exact WeakR.refl _ _ _
 · have hd2 : decide (200 < n) = false := by simp [h2]
   rw [pickV, pickC, if_neg h1, if_neg h1, if_neg h2, if_neg h2]
   refine Ctr.intro Try.mixed Try.func90 rfl Try.okF90 ?_
   simp -implicitDefEqProofs -dsimp only [go_sem, Try.ntmps90, Try.results90]
   (repeat ((repeat1' (first | simp -implicitDefEqProofs -dsimp only [go_sem, hd] | simp -dsimp (disch := omega) only [wrap_i64])); repeat (with_reducible refine sideA ?_)))
   refine callS.lend [0] false p4 (by decide) ⟨leO, trivial⟩ (lendCur rfl) (growCur B _ _) (.inl rfl) ?_
   (repeat ((repeat1' (first | simp -implicitDefEqProofs -dsimp only [go_sem, hd2, Cur.ren] | simp -dsimp (disch := omega) only [wrap_i64])); repeat (with_reducible refine sideA ?_)))
   exact WeakR.refl _ _ _
def oneV (B : List Int) (n : Int) (c : Cur) : Bool := pickV B n c == 0
theorem one_ok {B : List Int} (hB : CB B) {c : Cur} (hc : c.le 4611686018427387903) (n : Int) (hn : n ≤ 1000000000) : Ctr Try.prog 91 [.ptr 0 0, .int .i64 n] [some (c.cs B)] (.bool (oneV B n c)) [some ((pickC B n c).cs B)] := by
 refine Ctr.intro Try.mixed Try.func91 rfl Try.okF91 ?_
 simp -implicitDefEqProofs -dsimp only [go_sem, Try.ntmps91, Try.results91]
 (repeat ((repeat1' (first | simp -implicitDefEqProofs -dsimp only [go_sem] | simp -dsimp (disch := omega) only [wrap_i64])); repeat (with_reducible refine sideA ?_)))
 refine callS.lend [0] false (pick_ok hB hc n hn) (by decide) ⟨leO, leO, trivial⟩ (lendCur rfl) (growCur B _ _) (.inl rfl) ?_
 (repeat ((repeat1' (first | simp -implicitDefEqProofs -dsimp only [go_sem, Cur.ren] | simp -dsimp (disch := omega) only [wrap_i64])); repeat (with_reducible refine sideA ?_)))
 exact WeakR.refl _ _ _
def amongV (B : List Int) (K : List Int) (c : Cur) : Int := K.getD (pickV B K.length c).toNat 0
theorem amongV_mem {B : List Int} (hB : CB B) {K : List Int} (hK : 0 < K.length) {c : Cur} (h : 0 ≤ c.a) : amongV B K c ∈ K := by
 obtain ⟨h1, h2⟩ := pickV_bd hB (n := K.length) h
 have hi : (pickV B K.length c).toNat < K.length := by omega
 simp [amongV, List.getD, hi]
theorem among_ok {B : List Int} (hB : CB B) {c : Cur} (hc : c.le 4611686018427387903) (K : List Int) (hK0 : 0 < K.length) (hK : K.length ≤ 1000000000) : Ctr Try.prog 97 [.ptr 0 0, .osl 1 0 K.length 1] [some (c.cs B), some (rows IntS.cs K)] (.int .i64 (amongV B K c)) [some ((pickC B K.length c).cs B), some (rows IntS.cs K)] := by
 obtain ⟨h1, h2⟩ := pickV_bd hB (n := K.length) hc.1
 obtain ⟨i, hi'⟩ : ∃ i : Nat, pickV B K.length c = i := ⟨(pickV B K.length c).toNat, by omega⟩
 have hi : i < K.length := by omega
 have hr := rows_at IntS.csl hi
 have e : amongV B K c = K[i] := by simp [amongV, hi', List.getD, hi]
 have hp := pick_ok hB hc K.length (by omega)
 rw [hi'] at hp
 rw [e]
 refine Ctr.intro Try.mixed Try.func97 rfl Try.okF97 ?_
 simp -implicitDefEqProofs -dsimp only [go_sem, Try.ntmps97, Try.results97]
 (repeat ((repeat1' (first | simp -implicitDefEqProofs -dsimp only [go_sem] | simp -dsimp (disch := omega) only [wrap_i64])); repeat (with_reducible refine sideA ?_)))
 refine callS.lend [0] false hp (by decide) ⟨leO, leO, trivial⟩ (lendCur rfl) (growCur B _ _) (.inl rfl) ?_
 (repeat ((repeat1' (first | simp -implicitDefEqProofs -dsimp only [go_sem, Cur.ren, hr, IntS.cs] | simp -dsimp (disch := omega) only [wrap_i64])); repeat (with_reducible refine sideA ?_)))
 exact WeakR.refl _ _ _
end Go.Proofs
end
section
set_option linter.unusedSimpArgs false
set_option linter.unusedVariables false
set_option maxRecDepth 100000
namespace Go.Proofs
open Go.Lv
structure QuakeRow where
 Id : Int
 Tick : Int
 X : Int
 Y : Int
 Deep : Int
 Size : Int
 Grade : Int
def QuakeRow.cs (r : QuakeRow) : List V := [.int .i64 r.Id, .int .i64 r.Tick, .int .i64 r.X, .int .i64 r.Y, .int .i64 r.Deep, .int .i64 r.Size, .int .i64 r.Grade]
def QuakeRow.v (r : QuakeRow) : V := .agg [.int .i64 r.Id, .int .i64 r.Tick, .int .i64 r.X, .int .i64 r.Y, .int .i64 r.Deep, .int .i64 r.Size, .int .i64 r.Grade]
theorem QuakeRow.csl (a : QuakeRow) : a.cs.length = 7 := rfl
theorem QuakeRow.csp (a : QuakeRow) : a.cs.all (noOwn 2) = true := rfl
instance : FlatP QuakeRow.cs 7 := ⟨fun _ => rfl, fun _ d => by cases d <;> rfl, fun _ => rfl, fun _ => rfl⟩
def QuakeRow.ok (r : QuakeRow) : Prop := i64R r.Id ∧ i64R r.Tick ∧ i64R r.X ∧ i64R r.Y ∧ i64R r.Deep ∧ i64R r.Size ∧ i64R r.Grade
abbrev QuakeRow.rows (L : List QuakeRow) : List V := Go.Lv.rows QuakeRow.cs L
abbrev QuakeRow.sl (L : List QuakeRow) : V := .sl L.length 7 (Go.Lv.rows QuakeRow.cs L)
abbrev QuakeRow.zs : List V := [.int .i64 0, .int .i64 0, .int .i64 0, .int .i64 0, .int .i64 0, .int .i64 0, .int .i64 0]
def QuakeRow.mk1 (k : Int) : QuakeRow := ⟨k, k + 1, k + 1 + 1, k + 1 + 1 + 1, k + 1 + 1 + 1 + 1, k + 1 + 1 + 1 + 1 + 1, k + 1 + 1 + 1 + 1 + 1 + 1⟩
def QuakeRow.marks (k : Int) (n : Nat) : List QuakeRow := (List.range n).map fun i : Nat => QuakeRow.mk1 (k + 7 * (i : Int))
@[simp] theorem QuakeRow.marks_len (k : Int) (n : Nat) : (QuakeRow.marks k n).length = n := by simp [QuakeRow.marks]
end Go.Proofs
end
section
set_option linter.unusedSimpArgs false
set_option linter.unusedVariables false
set_option maxRecDepth 100000
set_option maxHeartbeats 2000000
namespace Go.Proofs
open Go.Lv
theorem curq_le {k : Int} (h : 0 ≤ k) : (Cur.mk 0 0).le k := ⟨by simp, by simpa using h⟩
end Go.Proofs
end
section
set_option linter.unusedSimpArgs false
set_option linter.unusedVariables false
set_option maxRecDepth 100000
set_option maxHeartbeats 2000000
namespace Go.Proofs
open Go.Lv
theorem lmonoA {c : Cur} {a b : Int} (h : c.le a) (hab : a ≤ b) : c.le b := ⟨h.1, Int.le_trans h.2 hab⟩
theorem i64mem {K : List Int} {v : Int} (h : v ∈ K) (hk : ∀ x ∈ K, i64R x) : i64R v := hk v h
def astP (B : List Int) (k : Int) (r : V) (hout : Hp) : Prop := ∃ (s : AlarmStep) (c : Cur), s.ok ∧ c.le k ∧ r = s.v ∧ hout = [some (c.cs B)]
def astP1 (B : List Int) (k : Int) (L : List Heard) (r : V) (hout : Hp) : Prop := ∃ (s : AlarmStep) (c : Cur), s.ok ∧ c.le k ∧ r = s.v ∧ hout = [some (c.cs B), some (rows Heard.cs L)]
theorem ast_fin {B : List Int} {k : Int} {h : Hp} {K v : Int} {c : Cur} (h0 : h[0]? = some (some (c.cs B))) (hK : i64R K) (hv : i64R v) (hc : c.le k) : RelR 1 (.agg [.int .i64 K, .int .i64 v]) h (astP B k) := by
 refine ⟨_, _, ⟨⟨K, v⟩, c, ⟨hK, hv⟩, hc, rfl, rfl⟩, WeakR.pick [0] (by decide) (fun j hj => by cases j <;> simp_all) (.inl rfl) ?_⟩
 simp only [pickH, List.map_cons, List.map_nil, pickB, h0, Cur.ren]
theorem ast_fin1 {B : List Int} {k : Int} {L : List Heard} {h : Hp} {K v : Int} {c : Cur} (h0 : h[0]? = some (some (c.cs B))) (h1 : h[1]? = some (some (rows Heard.cs L))) (hK : i64R K) (hv : i64R v) (hc : c.le k) : RelR 2 (.agg [.int .i64 K, .int .i64 v]) h (astP1 B k L) := by
 refine ⟨_, _, ⟨⟨K, v⟩, c, ⟨hK, hv⟩, hc, rfl, rfl⟩, WeakR.pick [0, 1] (by decide) (fun j hj => by rcases j with _ | _ | j <;> first | rfl | omega) (.inl rfl) ?_⟩
 simp only [pickH, List.map_cons, List.map_nil, pickB, h0, h1, Cur.ren, map_ren_rows]
theorem alarmStep_ok {B : List Int} (hB : CB B) {k : Int} (hk : k ≤ 1000000) {c : Cur} (hc : c.le k) (a : Alarm) : CtrP Try.prog 128 [.ptr 0 0, a.v] [some (c.cs B)] (astP B (k + 20)) := by
 have hcb : ∀ {c' : Cur} {k' : Int}, c'.le k' → k' ≤ 4000000 → c'.le 4611686018427387903 := fun h h' => ⟨h.1, by have := h.2; omega⟩
 refine CtrP.intro Try.mixed Try.func128 rfl Try.okF128 ?_
 simp -implicitDefEqProofs -dsimp only [go_sem, Try.ntmps128, Try.results128]
 (repeat ((repeat1' (first | simp -implicitDefEqProofs -dsimp only [go_sem, Alarm.v] | simp -dsimp (disch := omega) only [wrap_i64])); repeat (with_reducible refine sideA ?_)))
 have pc1 := one_ok hB (hcb hc (by omega)) 40 (by omega); have hc1 := pickC_le (B := B) (n := 40) hc; generalize oneV B 40 c = vc1 at pc1; generalize pickC B 40 c = c1 at pc1 hc1; refine callS.lend [0] false pc1 (by decide) ⟨leO, leO, trivial⟩ (lendCur rfl) (growCur B _ _) (.inl rfl) ?_
 (repeat ((repeat1' (first | simp -implicitDefEqProofs -dsimp only [go_sem, Cur.ren, map_ren_rows] | simp -dsimp (disch := omega) only [wrap_i64])); repeat (with_reducible refine sideA ?_)))
 refine condT.split (fun h1 => ?_) (fun h1 => ?_)
 · (repeat ((repeat1' (first | simp -implicitDefEqProofs -dsimp only [go_sem, h1] | simp -dsimp (disch := omega) only [wrap_i64])); repeat (with_reducible refine sideA ?_)))
   have pc2 := among_ok hB (hcb hc1 (by omega)) [0, 6, 3] (by simp) (by simp); have hc2 := pickC_le (B := B) (n := (([0, 6, 3] : List Int).length : Int)) hc1; have pvc2 := amongV_mem hB (K := [0, 6, 3]) (by simp) hc1.1; generalize amongV B [0, 6, 3] c1 = vc2 at pc2 pvc2; generalize pickC B (([0, 6, 3] : List Int).length : Int) c1 = c2 at pc2 hc2; (first | refine callS.lend [0, 3] false pc2 (by decide) ⟨leO, leO, trivial⟩ (lendCur2 rfl rfl) (growCur2 B _ _) (.inl rfl) ?_ | refine callS.lend [0, 4] false pc2 (by decide) ⟨leO, leO, trivial⟩ (lendCur2 rfl rfl) (growCur2 B _ _) (.inl rfl) ?_ | refine callS.lend [0, 5] false pc2 (by decide) ⟨leO, leO, trivial⟩ (lendCur2 rfl rfl) (growCur2 B _ _) (.inl rfl) ?_ | refine callS.lend [0, 6] false pc2 (by decide) ⟨leO, leO, trivial⟩ (lendCur2 rfl rfl) (growCur2 B _ _) (.inl rfl) ?_ | refine callS.lend [0, 7] false pc2 (by decide) ⟨leO, leO, trivial⟩ (lendCur2 rfl rfl) (growCur2 B _ _) (.inl rfl) ?_ | refine callS.lend [0, 8] false pc2 (by decide) ⟨leO, leO, trivial⟩ (lendCur2 rfl rfl) (growCur2 B _ _) (.inl rfl) ?_)
   (repeat ((repeat1' (first | simp -implicitDefEqProofs -dsimp only [go_sem, Cur.ren, map_ren_rows] | simp -dsimp (disch := omega) only [wrap_i64])); repeat (with_reducible refine sideA ?_)))
   have pc3 := among_ok hB (hcb hc2 (by omega)) [0, 1, -1, 100] (by simp) (by simp); have hc3 := pickC_le (B := B) (n := (([0, 1, -1, 100] : List Int).length : Int)) hc2; have pvc3 := amongV_mem hB (K := [0, 1, -1, 100]) (by simp) hc2.1; generalize amongV B [0, 1, -1, 100] c2 = vc3 at pc3 pvc3; generalize pickC B (([0, 1, -1, 100] : List Int).length : Int) c2 = c3 at pc3 hc3; (first | refine callS.lend [0, 3] false pc3 (by decide) ⟨leO, leO, trivial⟩ (lendCur2 rfl rfl) (growCur2 B _ _) (.inl rfl) ?_ | refine callS.lend [0, 4] false pc3 (by decide) ⟨leO, leO, trivial⟩ (lendCur2 rfl rfl) (growCur2 B _ _) (.inl rfl) ?_ | refine callS.lend [0, 5] false pc3 (by decide) ⟨leO, leO, trivial⟩ (lendCur2 rfl rfl) (growCur2 B _ _) (.inl rfl) ?_ | refine callS.lend [0, 6] false pc3 (by decide) ⟨leO, leO, trivial⟩ (lendCur2 rfl rfl) (growCur2 B _ _) (.inl rfl) ?_ | refine callS.lend [0, 7] false pc3 (by decide) ⟨leO, leO, trivial⟩ (lendCur2 rfl rfl) (growCur2 B _ _) (.inl rfl) ?_ | refine callS.lend [0, 8] false pc3 (by decide) ⟨leO, leO, trivial⟩ (lendCur2 rfl rfl) (growCur2 B _ _) (.inl rfl) ?_)
   (repeat ((repeat1' (first | simp -implicitDefEqProofs -dsimp only [go_sem, Cur.ren, map_ren_rows] | simp -dsimp (disch := omega) only [wrap_i64])); repeat (with_reducible refine sideA ?_)))
   exact ast_fin rfl (i64mem pvc2 (by simp [i64R])) (i64mem pvc3 (by simp [i64R])) (lmonoA hc3 (by simp only [List.length_cons, List.length_nil] at *; omega))
 · (repeat ((repeat1' (first | simp -implicitDefEqProofs -dsimp only [go_sem, h1] | simp -dsimp (disch := omega) only [wrap_i64])); repeat (with_reducible refine sideA ?_)))
   have pc2 := pick_ok hB (hcb hc1 (by omega)) 8 (by omega); have hc2 := pickC_le (B := B) (n := 8) hc1; have pvc2 := pickV_bd hB (n := 8) hc1.1; generalize pickV B 8 c1 = vc2 at pc2 pvc2; generalize pickC B 8 c1 = c2 at pc2 hc2; refine callS.lend [0] false pc2 (by decide) ⟨leO, leO, trivial⟩ (lendCur rfl) (growCur B _ _) (.inl rfl) ?_
   have hv8 : vc2 = 0 ∨ vc2 = 1 ∨ vc2 = 2 ∨ vc2 = 3 ∨ vc2 = 4 ∨ vc2 = 5 ∨ vc2 = 6 ∨ vc2 = 7 := by omega
   rcases hv8 with rfl | rfl | rfl | rfl | rfl | rfl | rfl | rfl
   all_goals (repeat ((repeat1' (first | simp -implicitDefEqProofs -dsimp only [go_sem, Cur.ren, map_ren_rows] | simp -dsimp (disch := omega) only [wrap_i64])); repeat (with_reducible refine sideA ?_)))
   all_goals first
     | exact ast_fin rfl (by simp [i64R]) (by simp [i64R]) (lmonoA hc2 (by omega))
     | (have pc3 := among_ok hB (hcb hc2 (by omega)) [1, 50, 200, 499, 500, 501, 1001, 1000001, 0] (by simp) (by simp); have hc3 := pickC_le (B := B) (n := (([1, 50, 200, 499, 500, 501, 1001, 1000001, 0] : List Int).length : Int)) hc2; have pvc3 := amongV_mem hB (K := [1, 50, 200, 499, 500, 501, 1001, 1000001, 0]) (by simp) hc2.1; generalize amongV B [1, 50, 200, 499, 500, 501, 1001, 1000001, 0] c2 = vc3 at pc3 pvc3; generalize pickC B (([1, 50, 200, 499, 500, 501, 1001, 1000001, 0] : List Int).length : Int) c2 = c3 at pc3 hc3; (first | refine callS.lend [0, 3] false pc3 (by decide) ⟨leO, leO, trivial⟩ (lendCur2 rfl rfl) (growCur2 B _ _) (.inl rfl) ?_ | refine callS.lend [0, 4] false pc3 (by decide) ⟨leO, leO, trivial⟩ (lendCur2 rfl rfl) (growCur2 B _ _) (.inl rfl) ?_ | refine callS.lend [0, 5] false pc3 (by decide) ⟨leO, leO, trivial⟩ (lendCur2 rfl rfl) (growCur2 B _ _) (.inl rfl) ?_ | refine callS.lend [0, 6] false pc3 (by decide) ⟨leO, leO, trivial⟩ (lendCur2 rfl rfl) (growCur2 B _ _) (.inl rfl) ?_ | refine callS.lend [0, 7] false pc3 (by decide) ⟨leO, leO, trivial⟩ (lendCur2 rfl rfl) (growCur2 B _ _) (.inl rfl) ?_ | refine callS.lend [0, 8] false pc3 (by decide) ⟨leO, leO, trivial⟩ (lendCur2 rfl rfl) (growCur2 B _ _) (.inl rfl) ?_)
        (repeat ((repeat1' (first | simp -implicitDefEqProofs -dsimp only [go_sem, Cur.ren, map_ren_rows] | simp -dsimp (disch := omega) only [wrap_i64])); repeat (with_reducible refine sideA ?_)))
        exact ast_fin rfl (by simp [i64R]) (i64mem pvc3 (by simp [i64R])) (lmonoA hc3 (by simp only [List.length_cons, List.length_nil] at *; omega)))
     | (have pc3 := among_ok hB (hcb hc2 (by omega)) [1, 2, 3, 4, 5, 6, 7, 8, 9, 99, 100] (by simp) (by simp); have hc3 := pickC_le (B := B) (n := (([1, 2, 3, 4, 5, 6, 7, 8, 9, 99, 100] : List Int).length : Int)) hc2; have pvc3 := amongV_mem hB (K := [1, 2, 3, 4, 5, 6, 7, 8, 9, 99, 100]) (by simp) hc2.1; generalize amongV B [1, 2, 3, 4, 5, 6, 7, 8, 9, 99, 100] c2 = vc3 at pc3 pvc3; generalize pickC B (([1, 2, 3, 4, 5, 6, 7, 8, 9, 99, 100] : List Int).length : Int) c2 = c3 at pc3 hc3; (first | refine callS.lend [0, 3] false pc3 (by decide) ⟨leO, leO, trivial⟩ (lendCur2 rfl rfl) (growCur2 B _ _) (.inl rfl) ?_ | refine callS.lend [0, 4] false pc3 (by decide) ⟨leO, leO, trivial⟩ (lendCur2 rfl rfl) (growCur2 B _ _) (.inl rfl) ?_ | refine callS.lend [0, 5] false pc3 (by decide) ⟨leO, leO, trivial⟩ (lendCur2 rfl rfl) (growCur2 B _ _) (.inl rfl) ?_ | refine callS.lend [0, 6] false pc3 (by decide) ⟨leO, leO, trivial⟩ (lendCur2 rfl rfl) (growCur2 B _ _) (.inl rfl) ?_ | refine callS.lend [0, 7] false pc3 (by decide) ⟨leO, leO, trivial⟩ (lendCur2 rfl rfl) (growCur2 B _ _) (.inl rfl) ?_ | refine callS.lend [0, 8] false pc3 (by decide) ⟨leO, leO, trivial⟩ (lendCur2 rfl rfl) (growCur2 B _ _) (.inl rfl) ?_)
        (repeat ((repeat1' (first | simp -implicitDefEqProofs -dsimp only [go_sem, Cur.ren, map_ren_rows] | simp -dsimp (disch := omega) only [wrap_i64])); repeat (with_reducible refine sideA ?_)))
        exact ast_fin rfl (by simp [i64R]) (i64mem pvc3 (by simp [i64R])) (lmonoA hc3 (by simp only [List.length_cons, List.length_nil] at *; omega)))
theorem alarmStepM_ok {B : List Int} (hB : CB B) {k : Int} (hk : k ≤ 1000000) {c : Cur} (hc : c.le k) (a : Alarm) : CtrP Try.prog 128 [.ptr 0 0, .agg (a.oc 1)] [some (c.cs B), some (rows Heard.cs a.Heard)] (astP1 B (k + 20) a.Heard) := by
 have hcb : ∀ {c' : Cur} {k' : Int}, c'.le k' → k' ≤ 4000000 → c'.le 4611686018427387903 := fun h h' => ⟨h.1, by have := h.2; omega⟩
 refine CtrP.intro Try.mixed Try.func128 rfl Try.okF128 ?_
 simp -implicitDefEqProofs -dsimp only [go_sem, Try.ntmps128, Try.results128]
 (repeat ((repeat1' (first | simp -implicitDefEqProofs -dsimp only [go_sem, Alarm.oc] | simp -dsimp (disch := omega) only [wrap_i64])); repeat (with_reducible refine sideA ?_)))
 have pc1 := one_ok hB (hcb hc (by omega)) 40 (by omega); have hc1 := pickC_le (B := B) (n := 40) hc; generalize oneV B 40 c = vc1 at pc1; generalize pickC B 40 c = c1 at pc1 hc1; refine callS.lend [0] false pc1 (by decide) ⟨leO, leO, trivial⟩ (lendCur rfl) (growCur B _ _) (.inl rfl) ?_
 (repeat ((repeat1' (first | simp -implicitDefEqProofs -dsimp only [go_sem, Cur.ren, map_ren_rows] | simp -dsimp (disch := omega) only [wrap_i64])); repeat (with_reducible refine sideA ?_)))
 refine condT.split (fun h1 => ?_) (fun h1 => ?_)
 · (repeat ((repeat1' (first | simp -implicitDefEqProofs -dsimp only [go_sem, h1] | simp -dsimp (disch := omega) only [wrap_i64])); repeat (with_reducible refine sideA ?_)))
   have pc2 := among_ok hB (hcb hc1 (by omega)) [0, 6, 3] (by simp) (by simp); have hc2 := pickC_le (B := B) (n := (([0, 6, 3] : List Int).length : Int)) hc1; have pvc2 := amongV_mem hB (K := [0, 6, 3]) (by simp) hc1.1; generalize amongV B [0, 6, 3] c1 = vc2 at pc2 pvc2; generalize pickC B (([0, 6, 3] : List Int).length : Int) c1 = c2 at pc2 hc2; (first | refine callS.lend [0, 3] false pc2 (by decide) ⟨leO, leO, trivial⟩ (lendCur2 rfl rfl) (growCur2 B _ _) (.inl rfl) ?_ | refine callS.lend [0, 4] false pc2 (by decide) ⟨leO, leO, trivial⟩ (lendCur2 rfl rfl) (growCur2 B _ _) (.inl rfl) ?_ | refine callS.lend [0, 5] false pc2 (by decide) ⟨leO, leO, trivial⟩ (lendCur2 rfl rfl) (growCur2 B _ _) (.inl rfl) ?_ | refine callS.lend [0, 6] false pc2 (by decide) ⟨leO, leO, trivial⟩ (lendCur2 rfl rfl) (growCur2 B _ _) (.inl rfl) ?_ | refine callS.lend [0, 7] false pc2 (by decide) ⟨leO, leO, trivial⟩ (lendCur2 rfl rfl) (growCur2 B _ _) (.inl rfl) ?_ | refine callS.lend [0, 8] false pc2 (by decide) ⟨leO, leO, trivial⟩ (lendCur2 rfl rfl) (growCur2 B _ _) (.inl rfl) ?_)
   (repeat ((repeat1' (first | simp -implicitDefEqProofs -dsimp only [go_sem, Cur.ren, map_ren_rows] | simp -dsimp (disch := omega) only [wrap_i64])); repeat (with_reducible refine sideA ?_)))
   have pc3 := among_ok hB (hcb hc2 (by omega)) [0, 1, -1, 100] (by simp) (by simp); have hc3 := pickC_le (B := B) (n := (([0, 1, -1, 100] : List Int).length : Int)) hc2; have pvc3 := amongV_mem hB (K := [0, 1, -1, 100]) (by simp) hc2.1; generalize amongV B [0, 1, -1, 100] c2 = vc3 at pc3 pvc3; generalize pickC B (([0, 1, -1, 100] : List Int).length : Int) c2 = c3 at pc3 hc3; (first | refine callS.lend [0, 3] false pc3 (by decide) ⟨leO, leO, trivial⟩ (lendCur2 rfl rfl) (growCur2 B _ _) (.inl rfl) ?_ | refine callS.lend [0, 4] false pc3 (by decide) ⟨leO, leO, trivial⟩ (lendCur2 rfl rfl) (growCur2 B _ _) (.inl rfl) ?_ | refine callS.lend [0, 5] false pc3 (by decide) ⟨leO, leO, trivial⟩ (lendCur2 rfl rfl) (growCur2 B _ _) (.inl rfl) ?_ | refine callS.lend [0, 6] false pc3 (by decide) ⟨leO, leO, trivial⟩ (lendCur2 rfl rfl) (growCur2 B _ _) (.inl rfl) ?_ | refine callS.lend [0, 7] false pc3 (by decide) ⟨leO, leO, trivial⟩ (lendCur2 rfl rfl) (growCur2 B _ _) (.inl rfl) ?_ | refine callS.lend [0, 8] false pc3 (by decide) ⟨leO, leO, trivial⟩ (lendCur2 rfl rfl) (growCur2 B _ _) (.inl rfl) ?_)
   (repeat ((repeat1' (first | simp -implicitDefEqProofs -dsimp only [go_sem, Cur.ren, map_ren_rows] | simp -dsimp (disch := omega) only [wrap_i64])); repeat (with_reducible refine sideA ?_)))
   exact ast_fin1 rfl rfl (i64mem pvc2 (by simp [i64R])) (i64mem pvc3 (by simp [i64R])) (lmonoA hc3 (by simp only [List.length_cons, List.length_nil] at *; omega))
 · (repeat ((repeat1' (first | simp -implicitDefEqProofs -dsimp only [go_sem, h1] | simp -dsimp (disch := omega) only [wrap_i64])); repeat (with_reducible refine sideA ?_)))
   have pc2 := pick_ok hB (hcb hc1 (by omega)) 8 (by omega); have hc2 := pickC_le (B := B) (n := 8) hc1; have pvc2 := pickV_bd hB (n := 8) hc1.1; generalize pickV B 8 c1 = vc2 at pc2 pvc2; generalize pickC B 8 c1 = c2 at pc2 hc2; refine callS.lend [0] false pc2 (by decide) ⟨leO, leO, trivial⟩ (lendCur rfl) (growCur B _ _) (.inl rfl) ?_
   have hv8 : vc2 = 0 ∨ vc2 = 1 ∨ vc2 = 2 ∨ vc2 = 3 ∨ vc2 = 4 ∨ vc2 = 5 ∨ vc2 = 6 ∨ vc2 = 7 := by omega
   rcases hv8 with rfl | rfl | rfl | rfl | rfl | rfl | rfl | rfl
   all_goals (repeat ((repeat1' (first | simp -implicitDefEqProofs -dsimp only [go_sem, Cur.ren, map_ren_rows] | simp -dsimp (disch := omega) only [wrap_i64])); repeat (with_reducible refine sideA ?_)))
   all_goals first
     | exact ast_fin1 rfl rfl (by simp [i64R]) (by simp [i64R]) (lmonoA hc2 (by omega))
     | (have pc3 := among_ok hB (hcb hc2 (by omega)) [1, 50, 200, 499, 500, 501, 1001, 1000001, 0] (by simp) (by simp); have hc3 := pickC_le (B := B) (n := (([1, 50, 200, 499, 500, 501, 1001, 1000001, 0] : List Int).length : Int)) hc2; have pvc3 := amongV_mem hB (K := [1, 50, 200, 499, 500, 501, 1001, 1000001, 0]) (by simp) hc2.1; generalize amongV B [1, 50, 200, 499, 500, 501, 1001, 1000001, 0] c2 = vc3 at pc3 pvc3; generalize pickC B (([1, 50, 200, 499, 500, 501, 1001, 1000001, 0] : List Int).length : Int) c2 = c3 at pc3 hc3; (first | refine callS.lend [0, 3] false pc3 (by decide) ⟨leO, leO, trivial⟩ (lendCur2 rfl rfl) (growCur2 B _ _) (.inl rfl) ?_ | refine callS.lend [0, 4] false pc3 (by decide) ⟨leO, leO, trivial⟩ (lendCur2 rfl rfl) (growCur2 B _ _) (.inl rfl) ?_ | refine callS.lend [0, 5] false pc3 (by decide) ⟨leO, leO, trivial⟩ (lendCur2 rfl rfl) (growCur2 B _ _) (.inl rfl) ?_ | refine callS.lend [0, 6] false pc3 (by decide) ⟨leO, leO, trivial⟩ (lendCur2 rfl rfl) (growCur2 B _ _) (.inl rfl) ?_ | refine callS.lend [0, 7] false pc3 (by decide) ⟨leO, leO, trivial⟩ (lendCur2 rfl rfl) (growCur2 B _ _) (.inl rfl) ?_ | refine callS.lend [0, 8] false pc3 (by decide) ⟨leO, leO, trivial⟩ (lendCur2 rfl rfl) (growCur2 B _ _) (.inl rfl) ?_)
        (repeat ((repeat1' (first | simp -implicitDefEqProofs -dsimp only [go_sem, Cur.ren, map_ren_rows] | simp -dsimp (disch := omega) only [wrap_i64])); repeat (with_reducible refine sideA ?_)))
        exact ast_fin1 rfl rfl (by simp [i64R]) (i64mem pvc3 (by simp [i64R])) (lmonoA hc3 (by simp only [List.length_cons, List.length_nil] at *; omega)))
     | (have pc3 := among_ok hB (hcb hc2 (by omega)) [1, 2, 3, 4, 5, 6, 7, 8, 9, 99, 100] (by simp) (by simp); have hc3 := pickC_le (B := B) (n := (([1, 2, 3, 4, 5, 6, 7, 8, 9, 99, 100] : List Int).length : Int)) hc2; have pvc3 := amongV_mem hB (K := [1, 2, 3, 4, 5, 6, 7, 8, 9, 99, 100]) (by simp) hc2.1; generalize amongV B [1, 2, 3, 4, 5, 6, 7, 8, 9, 99, 100] c2 = vc3 at pc3 pvc3; generalize pickC B (([1, 2, 3, 4, 5, 6, 7, 8, 9, 99, 100] : List Int).length : Int) c2 = c3 at pc3 hc3; (first | refine callS.lend [0, 3] false pc3 (by decide) ⟨leO, leO, trivial⟩ (lendCur2 rfl rfl) (growCur2 B _ _) (.inl rfl) ?_ | refine callS.lend [0, 4] false pc3 (by decide) ⟨leO, leO, trivial⟩ (lendCur2 rfl rfl) (growCur2 B _ _) (.inl rfl) ?_ | refine callS.lend [0, 5] false pc3 (by decide) ⟨leO, leO, trivial⟩ (lendCur2 rfl rfl) (growCur2 B _ _) (.inl rfl) ?_ | refine callS.lend [0, 6] false pc3 (by decide) ⟨leO, leO, trivial⟩ (lendCur2 rfl rfl) (growCur2 B _ _) (.inl rfl) ?_ | refine callS.lend [0, 7] false pc3 (by decide) ⟨leO, leO, trivial⟩ (lendCur2 rfl rfl) (growCur2 B _ _) (.inl rfl) ?_ | refine callS.lend [0, 8] false pc3 (by decide) ⟨leO, leO, trivial⟩ (lendCur2 rfl rfl) (growCur2 B _ _) (.inl rfl) ?_)
        (repeat ((repeat1' (first | simp -implicitDefEqProofs -dsimp only [go_sem, Cur.ren, map_ren_rows] | simp -dsimp (disch := omega) only [wrap_i64])); repeat (with_reducible refine sideA ?_)))
        exact ast_fin1 rfl rfl (by simp [i64R]) (i64mem pvc3 (by simp [i64R])) (lmonoA hc3 (by simp only [List.length_cons, List.length_nil] at *; omega)))
end Go.Proofs
end
section
set_option linter.unusedSimpArgs false
set_option linter.unusedVariables false
set_option maxRecDepth 100000
set_option maxHeartbeats 2000000
namespace Go.Proofs
open Go.Lv
def alarmP (B : List Int) (k : Int) (r : V) (hout : Hp) : Prop := ∃ (a : Alarm) (c : Cur), a.ok ∧ a.Heard.length ≤ 100 ∧ c.le k ∧ r = a.v ∧ hout = [some (c.cs B)]
theorem Alarm.leM {h : Hp} {r : Alarm} {i : Nat} (h1 : h[i]? = some (some (rows Heard.cs r.Heard))) : LeV (ren (snapR h 3) 3 (.agg (r.oc i))) r.v := by
 refine .inl ?_
 simp only [Alarm.oc, Alarm.v, ren, List.map_cons, List.map_nil, snapR, h1, map_ren_rows, List.drop_zero, take_rows]
theorem aB_aok {a : Alarm} (h : alarmB a = true) : a.ok ∧ a.Heard.length ≤ 8 := by
 have A := alarmB_ok h
 have h1 := A.now
 have h2 := A.state
 have h3 := A.canc
 have h4 := A.given
 have h5 := A.len
 refine ⟨⟨⟨by omega, by omega⟩, ⟨by omega, by omega⟩, ⟨by omega, fun x hx => ?_⟩, ⟨by omega, by omega⟩, ⟨by omega, by omega⟩⟩, h5⟩
 have := heardB_iff.1 (A.heard x hx)
 exact ⟨⟨by omega, by omega⟩, ⟨by omega, by omega⟩⟩
def getT : List (Nat × St) → Nat → Option St
 | [], _ => none
 | p :: l, m => if Nat.beq p.1 m = true then some p.2 else getT l m
def gA (s0 : St) (l : List (Nat × St)) (m : Nat) (s : St) : Prop := cond (Nat.beq m 0) (some s0 = some s) (getT l m = some s)
def tabA (B : List Int) (a : Alarm) (c5 c6 c7 : Cur) (v6 v7 : Int) : List (Nat × St) :=
 [(0, ⟨[.ptr 0 0, .undef, .ptr 1 0, .ptr 2 0, .undef, .undef, .undef, .undef, .undef, .undef, .undef, .undef, .undef, .undef, .undef, .undef, .undef, .undef, .undef, .undef, .undef, .undef, .undef, .undef, .undef, .undef, .undef, .undef, .undef, .undef, .undef, .undef, .undef, .undef, .undef, .undef, .undef, .undef, .undef, .undef, .undef, .undef, .undef, .undef, .undef, .undef, .undef, .undef, .undef, .undef, .undef, .undef, .undef, .undef, .undef, .undef, .undef, .undef, .undef, .undef, .undef, .undef, .undef, .undef, .undef, .undef, .undef, .undef, .undef, .undef], [some (c5.cs B), some [.int .i64 0, .int .i64 0, .nilsl, .int .i64 0, .int .i64 0], some (a.oc 3), some (rows Heard.cs a.Heard)], 1⟩),
  (1, ⟨[.ptr 0 0, .undef, .ptr 1 0, .ptr 2 0, .undef, .undef, .undef, .undef, .undef, .undef, .undef, .undef, .undef, .undef, .undef, .undef, .undef, .undef, .undef, .undef, .undef, .undef, .undef, .undef, .undef, .undef, .undef, .undef, .undef, .undef, .undef, .undef, .undef, .undef, .undef, .undef, .undef, .undef, .undef, .undef, .undef, .undef, .undef, .undef, .undef, .undef, .undef, .undef, .undef, .undef, .undef, .undef, .ptr 2 2, .undef, .undef, .undef, .undef, .undef, .undef, .undef, .undef, .undef, .undef, .undef, .undef, .undef, .undef, .undef, .undef, .undef], [some (c5.cs B), some [.int .i64 0, .int .i64 0, .nilsl, .int .i64 0, .int .i64 0], some (a.oc 3), some (rows Heard.cs a.Heard)], 1⟩),
  (5, ⟨[.ptr 0 0, .undef, .ptr 1 0, .ptr 2 0, .undef, .undef, .undef, .undef, .undef, .undef, .undef, .undef, .undef, .undef, .undef, .undef, .undef, .undef, .undef, .undef, .undef, .undef, .undef, .undef, .undef, .undef, .undef, .undef, .undef, .undef, .undef, .undef, .undef, .undef, .undef, .undef, .undef, .undef, .undef, .undef, .undef, .undef, .undef, .undef, .undef, .undef, .undef, .undef, .undef, .undef, .undef, .undef, .ptr 2 2, .undef, .ptr 0 0, .undef, .undef, .undef, .undef, .undef, .undef, .undef, .undef, .undef, .undef, .undef, .undef, .undef, .undef, .undef], [some (c5.cs B), some [.int .i64 0, .int .i64 0, .nilsl, .int .i64 0, .int .i64 0], some (a.oc 3), some (rows Heard.cs a.Heard)], 1⟩),
  (37, ⟨[.ptr 0 0, .undef, .ptr 1 0, .ptr 2 0, .undef, .undef, .undef, .undef, .undef, .undef, .undef, .undef, .undef, .undef, .undef, .undef, .undef, .undef, .undef, .undef, .undef, .undef, .undef, .undef, .undef, .undef, .undef, .undef, .undef, .undef, .undef, .undef, .undef, .undef, .undef, .undef, .undef, .undef, .undef, .undef, .undef, .undef, .undef, .undef, .undef, .undef, .undef, .undef, .undef, .undef, .undef, .undef, .ptr 2 2, .undef, .ptr 0 0, .undef, .undef, .ptr 0 0, .undef, .undef, .undef, .undef, .undef, .undef, .undef, .undef, .undef, .undef, .undef, .undef], [some (c5.cs B), some [.int .i64 0, .int .i64 0, .nilsl, .int .i64 0, .int .i64 0], some (a.oc 3), some (rows Heard.cs a.Heard)], 1⟩),
  (101, ⟨[.ptr 0 0, .undef, .ptr 1 0, .ptr 2 0, .undef, .undef, .undef, .undef, .undef, .undef, .undef, .undef, .undef, .undef, .undef, .undef, .undef, .undef, .undef, .undef, .undef, .undef, .undef, .undef, .undef, .undef, .undef, .undef, .undef, .undef, .undef, .undef, .undef, .undef, .undef, .undef, .undef, .undef, .undef, .undef, .undef, .undef, .undef, .undef, .undef, .undef, .undef, .undef, .undef, .undef, .undef, .undef, .ptr 2 2, .undef, .ptr 0 0, .undef, .undef, .ptr 0 0, .ptr 2 0, .undef, .undef, .undef, .undef, .undef, .undef, .undef, .undef, .undef, .undef, .undef], [some (c5.cs B), some [.int .i64 0, .int .i64 0, .nilsl, .int .i64 0, .int .i64 0], some (a.oc 3), some (rows Heard.cs a.Heard)], 1⟩),
  (357, ⟨[.ptr 0 0, .undef, .ptr 1 0, .ptr 2 0, .undef, .undef, .undef, .undef, .undef, .undef, .undef, .undef, .undef, .undef, .undef, .undef, .undef, .undef, .undef, .undef, .undef, .undef, .undef, .undef, .undef, .undef, .undef, .undef, .undef, .undef, .undef, .undef, .undef, .undef, .undef, .undef, .undef, .undef, .undef, .undef, .undef, .undef, .undef, .undef, .undef, .undef, .undef, .undef, .undef, .undef, .undef, .undef, .ptr 2 2, .undef, .ptr 0 0, .undef, .undef, .ptr 0 0, .ptr 2 0, .undef, .ptr 2 0, .undef, .undef, .undef, .undef, .undef, .undef, .undef, .undef, .undef], [some (c5.cs B), some [.int .i64 0, .int .i64 0, .nilsl, .int .i64 0, .int .i64 0], some (a.oc 3), some (rows Heard.cs a.Heard)], 1⟩),
  (359, ⟨[.ptr 0 0, .undef, .ptr 1 0, .ptr 2 0, .undef, .undef, .undef, .undef, .undef, .undef, .undef, .undef, .undef, .undef, .undef, .undef, .undef, .undef, .undef, .undef, .undef, .undef, .undef, .undef, .undef, .undef, .undef, .undef, .undef, .undef, .undef, .undef, .undef, .undef, .undef, .undef, .undef, .undef, .undef, .undef, .undef, .undef, .undef, .undef, .undef, .undef, .undef, .undef, .undef, .undef, .undef, .undef, .undef, .osl 3 0 a.Heard.length 2, .ptr 0 0, .undef, .undef, .ptr 0 0, .ptr 2 0, .undef, .ptr 2 0, .undef, .undef, .undef, .undef, .undef, .undef, .undef, .undef, .undef], [some (c5.cs B), some [.int .i64 0, .int .i64 0, .nilsl, .int .i64 0, .int .i64 0], some (a.oc 3), some (rows Heard.cs a.Heard)], 1⟩),
  (365, ⟨[.ptr 0 0, .undef, .ptr 1 0, .ptr 2 0, .undef, .undef, .undef, .undef, .undef, .undef, .undef, .undef, .undef, .undef, .undef, .undef, .undef, .undef, .undef, .undef, .undef, .undef, .undef, .undef, .undef, .undef, .undef, .undef, .undef, .undef, .undef, .undef, .undef, .undef, .undef, .undef, .undef, .undef, .undef, .undef, .undef, .undef, .undef, .undef, .undef, .undef, .undef, .undef, .undef, .undef, .undef, .undef, .ptr 2 2, .undef, .ptr 0 0, .osl 4 0 3 1, .undef, .ptr 0 0, .ptr 2 0, .undef, .ptr 2 0, .undef, .undef, .undef, .undef, .undef, .undef, .undef, .undef, .undef], [some (c5.cs B), some [.int .i64 0, .int .i64 0, .nilsl, .int .i64 0, .int .i64 0], some (a.oc 3), some (rows Heard.cs a.Heard), some (rows IntS.cs [0, 1, 50])], 1⟩),
  (367, ⟨[.ptr 0 0, .undef, .ptr 1 0, .ptr 2 0, .undef, .undef, .undef, .undef, .undef, .undef, .undef, .undef, .undef, .undef, .undef, .undef, .undef, .undef, .undef, .undef, .undef, .undef, .undef, .undef, .undef, .undef, .undef, .undef, .undef, .undef, .undef, .undef, .undef, .undef, .undef, .undef, .undef, .undef, .undef, .undef, .undef, .undef, .undef, .undef, .undef, .undef, .undef, .undef, .undef, .undef, .undef, .undef, .undef, .osl 3 0 a.Heard.length 2, .ptr 0 0, .osl 4 0 3 1, .undef, .ptr 0 0, .ptr 2 0, .undef, .ptr 2 0, .undef, .undef, .undef, .undef, .undef, .undef, .undef, .undef, .undef], [some (c5.cs B), some [.int .i64 0, .int .i64 0, .nilsl, .int .i64 0, .int .i64 0], some (a.oc 3), some (rows Heard.cs a.Heard), some (rows IntS.cs [0, 1, 50])], 1⟩),
  (381, ⟨[.ptr 0 0, .undef, .ptr 1 0, .ptr 2 0, .undef, .undef, .undef, .undef, .undef, .undef, .undef, .undef, .undef, .undef, .undef, .undef, .undef, .undef, .undef, .undef, .undef, .undef, .undef, .undef, .undef, .undef, .undef, .undef, .undef, .undef, .undef, .undef, .undef, .undef, .undef, .undef, .undef, .undef, .undef, .undef, .undef, .undef, .undef, .undef, .undef, .undef, .undef, .undef, .undef, .undef, .undef, .undef, .ptr 2 2, .undef, .undef, .undef, .int .i64 v6, .ptr 0 0, .ptr 2 0, .undef, .ptr 2 0, .undef, .undef, .undef, .undef, .undef, .undef, .undef, .undef, .undef], [some (c6.cs B), some [.int .i64 0, .int .i64 0, .nilsl, .int .i64 0, .int .i64 0], some (a.oc 3), some (rows Heard.cs a.Heard)], 1⟩),
  (383, ⟨[.ptr 0 0, .undef, .ptr 1 0, .ptr 2 0, .undef, .undef, .undef, .undef, .undef, .undef, .undef, .undef, .undef, .undef, .undef, .undef, .undef, .undef, .undef, .undef, .undef, .undef, .undef, .undef, .undef, .undef, .undef, .undef, .undef, .undef, .undef, .undef, .undef, .undef, .undef, .undef, .undef, .undef, .undef, .undef, .undef, .undef, .undef, .undef, .undef, .undef, .undef, .undef, .undef, .undef, .undef, .undef, .undef, .osl 3 0 a.Heard.length 2, .undef, .undef, .int .i64 v6, .ptr 0 0, .ptr 2 0, .undef, .ptr 2 0, .undef, .undef, .undef, .undef, .undef, .undef, .undef, .undef, .undef], [some (c6.cs B), some [.int .i64 0, .int .i64 0, .nilsl, .int .i64 0, .int .i64 0], some (a.oc 3), some (rows Heard.cs a.Heard)], 1⟩),
  (485, ⟨[.ptr 0 0, .undef, .ptr 1 0, .ptr 2 0, .undef, .undef, .undef, .undef, .undef, .undef, .undef, .undef, .undef, .undef, .undef, .undef, .undef, .undef, .undef, .undef, .undef, .undef, .undef, .undef, .undef, .undef, .undef, .undef, .undef, .undef, .undef, .undef, .undef, .undef, .undef, .undef, .undef, .undef, .undef, .undef, .undef, .undef, .undef, .undef, .undef, .undef, .undef, .undef, .undef, .undef, .undef, .undef, .ptr 2 2, .undef, .ptr 0 0, .undef, .undef, .ptr 0 0, .undef, .int .i64 a.Now, .ptr 2 0, .undef, .undef, .undef, .undef, .undef, .undef, .undef, .undef, .undef], [some (c5.cs B), some [.int .i64 0, .int .i64 0, .nilsl, .int .i64 0, .int .i64 0], some (a.oc 3), some (rows Heard.cs a.Heard)], 1⟩),
  (487, ⟨[.ptr 0 0, .undef, .ptr 1 0, .ptr 2 0, .undef, .undef, .undef, .undef, .undef, .undef, .undef, .undef, .undef, .undef, .undef, .undef, .undef, .undef, .undef, .undef, .undef, .undef, .undef, .undef, .undef, .undef, .undef, .undef, .undef, .undef, .undef, .undef, .undef, .undef, .undef, .undef, .undef, .undef, .undef, .undef, .undef, .undef, .undef, .undef, .undef, .undef, .undef, .undef, .undef, .undef, .undef, .undef, .undef, .osl 3 0 a.Heard.length 2, .ptr 0 0, .undef, .undef, .ptr 0 0, .undef, .int .i64 a.Now, .ptr 2 0, .undef, .undef, .undef, .undef, .undef, .undef, .undef, .undef, .undef], [some (c5.cs B), some [.int .i64 0, .int .i64 0, .nilsl, .int .i64 0, .int .i64 0], some (a.oc 3), some (rows Heard.cs a.Heard)], 1⟩),
  (493, ⟨[.ptr 0 0, .undef, .ptr 1 0, .ptr 2 0, .undef, .undef, .undef, .undef, .undef, .undef, .undef, .undef, .undef, .undef, .undef, .undef, .undef, .undef, .undef, .undef, .undef, .undef, .undef, .undef, .undef, .undef, .undef, .undef, .undef, .undef, .undef, .undef, .undef, .undef, .undef, .undef, .undef, .undef, .undef, .undef, .undef, .undef, .undef, .undef, .undef, .undef, .undef, .undef, .undef, .undef, .undef, .undef, .ptr 2 2, .undef, .ptr 0 0, .osl 4 0 3 1, .undef, .ptr 0 0, .undef, .int .i64 a.Now, .ptr 2 0, .undef, .undef, .undef, .undef, .undef, .undef, .undef, .undef, .undef], [some (c5.cs B), some [.int .i64 0, .int .i64 0, .nilsl, .int .i64 0, .int .i64 0], some (a.oc 3), some (rows Heard.cs a.Heard), some (rows IntS.cs [0, 1, 50])], 1⟩),
  (495, ⟨[.ptr 0 0, .undef, .ptr 1 0, .ptr 2 0, .undef, .undef, .undef, .undef, .undef, .undef, .undef, .undef, .undef, .undef, .undef, .undef, .undef, .undef, .undef, .undef, .undef, .undef, .undef, .undef, .undef, .undef, .undef, .undef, .undef, .undef, .undef, .undef, .undef, .undef, .undef, .undef, .undef, .undef, .undef, .undef, .undef, .undef, .undef, .undef, .undef, .undef, .undef, .undef, .undef, .undef, .undef, .undef, .undef, .osl 3 0 a.Heard.length 2, .ptr 0 0, .osl 4 0 3 1, .undef, .ptr 0 0, .undef, .int .i64 a.Now, .ptr 2 0, .undef, .undef, .undef, .undef, .undef, .undef, .undef, .undef, .undef], [some (c5.cs B), some [.int .i64 0, .int .i64 0, .nilsl, .int .i64 0, .int .i64 0], some (a.oc 3), some (rows Heard.cs a.Heard), some (rows IntS.cs [0, 1, 50])], 1⟩),
  (509, ⟨[.ptr 0 0, .undef, .ptr 1 0, .ptr 2 0, .undef, .undef, .undef, .undef, .undef, .undef, .undef, .undef, .undef, .undef, .undef, .undef, .undef, .undef, .undef, .undef, .undef, .undef, .undef, .undef, .undef, .undef, .undef, .undef, .undef, .undef, .undef, .undef, .undef, .undef, .undef, .undef, .undef, .undef, .undef, .undef, .undef, .undef, .undef, .undef, .undef, .undef, .undef, .undef, .undef, .undef, .undef, .undef, .ptr 2 2, .undef, .undef, .undef, .int .i64 v6, .ptr 0 0, .undef, .int .i64 a.Now, .ptr 2 0, .undef, .undef, .undef, .undef, .undef, .undef, .undef, .undef, .undef], [some (c6.cs B), some [.int .i64 0, .int .i64 0, .nilsl, .int .i64 0, .int .i64 0], some (a.oc 3), some (rows Heard.cs a.Heard)], 1⟩),
  (511, ⟨[.ptr 0 0, .undef, .ptr 1 0, .ptr 2 0, .undef, .undef, .undef, .undef, .undef, .undef, .undef, .undef, .undef, .undef, .undef, .undef, .undef, .undef, .undef, .undef, .undef, .undef, .undef, .undef, .undef, .undef, .undef, .undef, .undef, .undef, .undef, .undef, .undef, .undef, .undef, .undef, .undef, .undef, .undef, .undef, .undef, .undef, .undef, .undef, .undef, .undef, .undef, .undef, .undef, .undef, .undef, .undef, .undef, .osl 3 0 a.Heard.length 2, .undef, .undef, .int .i64 v6, .ptr 0 0, .undef, .int .i64 a.Now, .ptr 2 0, .undef, .undef, .undef, .undef, .undef, .undef, .undef, .undef, .undef], [some (c6.cs B), some [.int .i64 0, .int .i64 0, .nilsl, .int .i64 0, .int .i64 0], some (a.oc 3), some (rows Heard.cs a.Heard)], 1⟩),
  (869, ⟨[.ptr 0 0, .undef, .ptr 1 0, .ptr 2 0, .undef, .undef, .undef, .undef, .undef, .undef, .undef, .undef, .undef, .undef, .undef, .undef, .undef, .undef, .undef, .undef, .undef, .undef, .undef, .undef, .undef, .undef, .undef, .undef, .undef, .undef, .undef, .undef, .undef, .undef, .undef, .undef, .undef, .undef, .undef, .undef, .undef, .undef, .undef, .undef, .undef, .undef, .undef, .undef, .undef, .undef, .undef, .undef, .ptr 2 2, .undef, .ptr 0 0, .undef, .undef, .ptr 0 0, .ptr 2 0, .undef, .undef, .int .i64 a.Now, .undef, .undef, .undef, .undef, .undef, .undef, .undef, .undef], [some (c5.cs B), some [.int .i64 0, .int .i64 0, .nilsl, .int .i64 0, .int .i64 0], some (a.oc 3), some (rows Heard.cs a.Heard)], 1⟩),
  (871, ⟨[.ptr 0 0, .undef, .ptr 1 0, .ptr 2 0, .undef, .undef, .undef, .undef, .undef, .undef, .undef, .undef, .undef, .undef, .undef, .undef, .undef, .undef, .undef, .undef, .undef, .undef, .undef, .undef, .undef, .undef, .undef, .undef, .undef, .undef, .undef, .undef, .undef, .undef, .undef, .undef, .undef, .undef, .undef, .undef, .undef, .undef, .undef, .undef, .undef, .undef, .undef, .undef, .undef, .undef, .undef, .undef, .undef, .osl 3 0 a.Heard.length 2, .ptr 0 0, .undef, .undef, .ptr 0 0, .ptr 2 0, .undef, .undef, .int .i64 a.Now, .undef, .undef, .undef, .undef, .undef, .undef, .undef, .undef], [some (c5.cs B), some [.int .i64 0, .int .i64 0, .nilsl, .int .i64 0, .int .i64 0], some (a.oc 3), some (rows Heard.cs a.Heard)], 1⟩),
  (877, ⟨[.ptr 0 0, .undef, .ptr 1 0, .ptr 2 0, .undef, .undef, .undef, .undef, .undef, .undef, .undef, .undef, .undef, .undef, .undef, .undef, .undef, .undef, .undef, .undef, .undef, .undef, .undef, .undef, .undef, .undef, .undef, .undef, .undef, .undef, .undef, .undef, .undef, .undef, .undef, .undef, .undef, .undef, .undef, .undef, .undef, .undef, .undef, .undef, .undef, .undef, .undef, .undef, .undef, .undef, .undef, .undef, .ptr 2 2, .undef, .ptr 0 0, .osl 4 0 3 1, .undef, .ptr 0 0, .ptr 2 0, .undef, .undef, .int .i64 a.Now, .undef, .undef, .undef, .undef, .undef, .undef, .undef, .undef], [some (c5.cs B), some [.int .i64 0, .int .i64 0, .nilsl, .int .i64 0, .int .i64 0], some (a.oc 3), some (rows Heard.cs a.Heard), some (rows IntS.cs [0, 1, 50])], 1⟩),
  (879, ⟨[.ptr 0 0, .undef, .ptr 1 0, .ptr 2 0, .undef, .undef, .undef, .undef, .undef, .undef, .undef, .undef, .undef, .undef, .undef, .undef, .undef, .undef, .undef, .undef, .undef, .undef, .undef, .undef, .undef, .undef, .undef, .undef, .undef, .undef, .undef, .undef, .undef, .undef, .undef, .undef, .undef, .undef, .undef, .undef, .undef, .undef, .undef, .undef, .undef, .undef, .undef, .undef, .undef, .undef, .undef, .undef, .undef, .osl 3 0 a.Heard.length 2, .ptr 0 0, .osl 4 0 3 1, .undef, .ptr 0 0, .ptr 2 0, .undef, .undef, .int .i64 a.Now, .undef, .undef, .undef, .undef, .undef, .undef, .undef, .undef], [some (c5.cs B), some [.int .i64 0, .int .i64 0, .nilsl, .int .i64 0, .int .i64 0], some (a.oc 3), some (rows Heard.cs a.Heard), some (rows IntS.cs [0, 1, 50])], 1⟩),
  (893, ⟨[.ptr 0 0, .undef, .ptr 1 0, .ptr 2 0, .undef, .undef, .undef, .undef, .undef, .undef, .undef, .undef, .undef, .undef, .undef, .undef, .undef, .undef, .undef, .undef, .undef, .undef, .undef, .undef, .undef, .undef, .undef, .undef, .undef, .undef, .undef, .undef, .undef, .undef, .undef, .undef, .undef, .undef, .undef, .undef, .undef, .undef, .undef, .undef, .undef, .undef, .undef, .undef, .undef, .undef, .undef, .undef, .ptr 2 2, .undef, .undef, .undef, .int .i64 v6, .ptr 0 0, .ptr 2 0, .undef, .undef, .int .i64 a.Now, .undef, .undef, .undef, .undef, .undef, .undef, .undef, .undef], [some (c6.cs B), some [.int .i64 0, .int .i64 0, .nilsl, .int .i64 0, .int .i64 0], some (a.oc 3), some (rows Heard.cs a.Heard)], 1⟩),
  (895, ⟨[.ptr 0 0, .undef, .ptr 1 0, .ptr 2 0, .undef, .undef, .undef, .undef, .undef, .undef, .undef, .undef, .undef, .undef, .undef, .undef, .undef, .undef, .undef, .undef, .undef, .undef, .undef, .undef, .undef, .undef, .undef, .undef, .undef, .undef, .undef, .undef, .undef, .undef, .undef, .undef, .undef, .undef, .undef, .undef, .undef, .undef, .undef, .undef, .undef, .undef, .undef, .undef, .undef, .undef, .undef, .undef, .undef, .osl 3 0 a.Heard.length 2, .undef, .undef, .int .i64 v6, .ptr 0 0, .ptr 2 0, .undef, .undef, .int .i64 a.Now, .undef, .undef, .undef, .undef, .undef, .undef, .undef, .undef], [some (c6.cs B), some [.int .i64 0, .int .i64 0, .nilsl, .int .i64 0, .int .i64 0], some (a.oc 3), some (rows Heard.cs a.Heard)], 1⟩),
  (997, ⟨[.ptr 0 0, .undef, .ptr 1 0, .ptr 2 0, .undef, .undef, .undef, .undef, .undef, .undef, .undef, .undef, .undef, .undef, .undef, .undef, .undef, .undef, .undef, .undef, .undef, .undef, .undef, .undef, .undef, .undef, .undef, .undef, .undef, .undef, .undef, .undef, .undef, .undef, .undef, .undef, .undef, .undef, .undef, .undef, .undef, .undef, .undef, .undef, .undef, .undef, .undef, .undef, .undef, .undef, .undef, .undef, .ptr 2 2, .undef, .ptr 0 0, .undef, .undef, .ptr 0 0, .undef, .int .i64 a.Now, .undef, .int .i64 a.Now, .undef, .undef, .undef, .undef, .undef, .undef, .undef, .undef], [some (c5.cs B), some [.int .i64 0, .int .i64 0, .nilsl, .int .i64 0, .int .i64 0], some (a.oc 3), some (rows Heard.cs a.Heard)], 1⟩),
  (999, ⟨[.ptr 0 0, .undef, .ptr 1 0, .ptr 2 0, .undef, .undef, .undef, .undef, .undef, .undef, .undef, .undef, .undef, .undef, .undef, .undef, .undef, .undef, .undef, .undef, .undef, .undef, .undef, .undef, .undef, .undef, .undef, .undef, .undef, .undef, .undef, .undef, .undef, .undef, .undef, .undef, .undef, .undef, .undef, .undef, .undef, .undef, .undef, .undef, .undef, .undef, .undef, .undef, .undef, .undef, .undef, .undef, .undef, .osl 3 0 a.Heard.length 2, .ptr 0 0, .undef, .undef, .ptr 0 0, .undef, .int .i64 a.Now, .undef, .int .i64 a.Now, .undef, .undef, .undef, .undef, .undef, .undef, .undef, .undef], [some (c5.cs B), some [.int .i64 0, .int .i64 0, .nilsl, .int .i64 0, .int .i64 0], some (a.oc 3), some (rows Heard.cs a.Heard)], 1⟩),
  (1005, ⟨[.ptr 0 0, .undef, .ptr 1 0, .ptr 2 0, .undef, .undef, .undef, .undef, .undef, .undef, .undef, .undef, .undef, .undef, .undef, .undef, .undef, .undef, .undef, .undef, .undef, .undef, .undef, .undef, .undef, .undef, .undef, .undef, .undef, .undef, .undef, .undef, .undef, .undef, .undef, .undef, .undef, .undef, .undef, .undef, .undef, .undef, .undef, .undef, .undef, .undef, .undef, .undef, .undef, .undef, .undef, .undef, .ptr 2 2, .undef, .ptr 0 0, .osl 4 0 3 1, .undef, .ptr 0 0, .undef, .int .i64 a.Now, .undef, .int .i64 a.Now, .undef, .undef, .undef, .undef, .undef, .undef, .undef, .undef], [some (c5.cs B), some [.int .i64 0, .int .i64 0, .nilsl, .int .i64 0, .int .i64 0], some (a.oc 3), some (rows Heard.cs a.Heard), some (rows IntS.cs [0, 1, 50])], 1⟩),
  (1007, ⟨[.ptr 0 0, .undef, .ptr 1 0, .ptr 2 0, .undef, .undef, .undef, .undef, .undef, .undef, .undef, .undef, .undef, .undef, .undef, .undef, .undef, .undef, .undef, .undef, .undef, .undef, .undef, .undef, .undef, .undef, .undef, .undef, .undef, .undef, .undef, .undef, .undef, .undef, .undef, .undef, .undef, .undef, .undef, .undef, .undef, .undef, .undef, .undef, .undef, .undef, .undef, .undef, .undef, .undef, .undef, .undef, .undef, .osl 3 0 a.Heard.length 2, .ptr 0 0, .osl 4 0 3 1, .undef, .ptr 0 0, .undef, .int .i64 a.Now, .undef, .int .i64 a.Now, .undef, .undef, .undef, .undef, .undef, .undef, .undef, .undef], [some (c5.cs B), some [.int .i64 0, .int .i64 0, .nilsl, .int .i64 0, .int .i64 0], some (a.oc 3), some (rows Heard.cs a.Heard), some (rows IntS.cs [0, 1, 50])], 1⟩),
  (1021, ⟨[.ptr 0 0, .undef, .ptr 1 0, .ptr 2 0, .undef, .undef, .undef, .undef, .undef, .undef, .undef, .undef, .undef, .undef, .undef, .undef, .undef, .undef, .undef, .undef, .undef, .undef, .undef, .undef, .undef, .undef, .undef, .undef, .undef, .undef, .undef, .undef, .undef, .undef, .undef, .undef, .undef, .undef, .undef, .undef, .undef, .undef, .undef, .undef, .undef, .undef, .undef, .undef, .undef, .undef, .undef, .undef, .ptr 2 2, .undef, .undef, .undef, .int .i64 v6, .ptr 0 0, .undef, .int .i64 a.Now, .undef, .int .i64 a.Now, .undef, .undef, .undef, .undef, .undef, .undef, .undef, .undef], [some (c6.cs B), some [.int .i64 0, .int .i64 0, .nilsl, .int .i64 0, .int .i64 0], some (a.oc 3), some (rows Heard.cs a.Heard)], 1⟩),
  (1023, ⟨[.ptr 0 0, .undef, .ptr 1 0, .ptr 2 0, .undef, .undef, .undef, .undef, .undef, .undef, .undef, .undef, .undef, .undef, .undef, .undef, .undef, .undef, .undef, .undef, .undef, .undef, .undef, .undef, .undef, .undef, .undef, .undef, .undef, .undef, .undef, .undef, .undef, .undef, .undef, .undef, .undef, .undef, .undef, .undef, .undef, .undef, .undef, .undef, .undef, .undef, .undef, .undef, .undef, .undef, .undef, .undef, .undef, .osl 3 0 a.Heard.length 2, .undef, .undef, .int .i64 v6, .ptr 0 0, .undef, .int .i64 a.Now, .undef, .int .i64 a.Now, .undef, .undef, .undef, .undef, .undef, .undef, .undef, .undef], [some (c6.cs B), some [.int .i64 0, .int .i64 0, .nilsl, .int .i64 0, .int .i64 0], some (a.oc 3), some (rows Heard.cs a.Heard)], 1⟩),
  (1893, ⟨[.ptr 0 0, .undef, .ptr 1 0, .ptr 2 0, .undef, .undef, .undef, .undef, .undef, .undef, .undef, .undef, .undef, .undef, .undef, .undef, .undef, .undef, .undef, .undef, .undef, .undef, .undef, .undef, .undef, .undef, .undef, .undef, .undef, .undef, .undef, .undef, .undef, .undef, .undef, .undef, .undef, .undef, .undef, .undef, .undef, .undef, .undef, .undef, .undef, .undef, .undef, .undef, .undef, .undef, .undef, .undef, .ptr 2 2, .undef, .ptr 0 0, .undef, .undef, .ptr 0 0, .ptr 2 0, .undef, .undef, .undef, .int .i64 (a.Now + 1), .undef, .undef, .undef, .undef, .undef, .undef, .undef], [some (c5.cs B), some [.int .i64 0, .int .i64 0, .nilsl, .int .i64 0, .int .i64 0], some (a.oc 3), some (rows Heard.cs a.Heard)], 1⟩),
  (1895, ⟨[.ptr 0 0, .undef, .ptr 1 0, .ptr 2 0, .undef, .undef, .undef, .undef, .undef, .undef, .undef, .undef, .undef, .undef, .undef, .undef, .undef, .undef, .undef, .undef, .undef, .undef, .undef, .undef, .undef, .undef, .undef, .undef, .undef, .undef, .undef, .undef, .undef, .undef, .undef, .undef, .undef, .undef, .undef, .undef, .undef, .undef, .undef, .undef, .undef, .undef, .undef, .undef, .undef, .undef, .undef, .undef, .undef, .osl 3 0 a.Heard.length 2, .ptr 0 0, .undef, .undef, .ptr 0 0, .ptr 2 0, .undef, .undef, .undef, .int .i64 (a.Now + 1), .undef, .undef, .undef, .undef, .undef, .undef, .undef], [some (c5.cs B), some [.int .i64 0, .int .i64 0, .nilsl, .int .i64 0, .int .i64 0], some (a.oc 3), some (rows Heard.cs a.Heard)], 1⟩),
  (1901, ⟨[.ptr 0 0, .undef, .ptr 1 0, .ptr 2 0, .undef, .undef, .undef, .undef, .undef, .undef, .undef, .undef, .undef, .undef, .undef, .undef, .undef, .undef, .undef, .undef, .undef, .undef, .undef, .undef, .undef, .undef, .undef, .undef, .undef, .undef, .undef, .undef, .undef, .undef, .undef, .undef, .undef, .undef, .undef, .undef, .undef, .undef, .undef, .undef, .undef, .undef, .undef, .undef, .undef, .undef, .undef, .undef, .ptr 2 2, .undef, .ptr 0 0, .osl 4 0 3 1, .undef, .ptr 0 0, .ptr 2 0, .undef, .undef, .undef, .int .i64 (a.Now + 1), .undef, .undef, .undef, .undef, .undef, .undef, .undef], [some (c5.cs B), some [.int .i64 0, .int .i64 0, .nilsl, .int .i64 0, .int .i64 0], some (a.oc 3), some (rows Heard.cs a.Heard), some (rows IntS.cs [0, 1, 50])], 1⟩),
  (1903, ⟨[.ptr 0 0, .undef, .ptr 1 0, .ptr 2 0, .undef, .undef, .undef, .undef, .undef, .undef, .undef, .undef, .undef, .undef, .undef, .undef, .undef, .undef, .undef, .undef, .undef, .undef, .undef, .undef, .undef, .undef, .undef, .undef, .undef, .undef, .undef, .undef, .undef, .undef, .undef, .undef, .undef, .undef, .undef, .undef, .undef, .undef, .undef, .undef, .undef, .undef, .undef, .undef, .undef, .undef, .undef, .undef, .undef, .osl 3 0 a.Heard.length 2, .ptr 0 0, .osl 4 0 3 1, .undef, .ptr 0 0, .ptr 2 0, .undef, .undef, .undef, .int .i64 (a.Now + 1), .undef, .undef, .undef, .undef, .undef, .undef, .undef], [some (c5.cs B), some [.int .i64 0, .int .i64 0, .nilsl, .int .i64 0, .int .i64 0], some (a.oc 3), some (rows Heard.cs a.Heard), some (rows IntS.cs [0, 1, 50])], 1⟩),
  (1917, ⟨[.ptr 0 0, .undef, .ptr 1 0, .ptr 2 0, .undef, .undef, .undef, .undef, .undef, .undef, .undef, .undef, .undef, .undef, .undef, .undef, .undef, .undef, .undef, .undef, .undef, .undef, .undef, .undef, .undef, .undef, .undef, .undef, .undef, .undef, .undef, .undef, .undef, .undef, .undef, .undef, .undef, .undef, .undef, .undef, .undef, .undef, .undef, .undef, .undef, .undef, .undef, .undef, .undef, .undef, .undef, .undef, .ptr 2 2, .undef, .undef, .undef, .int .i64 v6, .ptr 0 0, .ptr 2 0, .undef, .undef, .undef, .int .i64 (a.Now + 1), .undef, .undef, .undef, .undef, .undef, .undef, .undef], [some (c6.cs B), some [.int .i64 0, .int .i64 0, .nilsl, .int .i64 0, .int .i64 0], some (a.oc 3), some (rows Heard.cs a.Heard)], 1⟩),
  (1919, ⟨[.ptr 0 0, .undef, .ptr 1 0, .ptr 2 0, .undef, .undef, .undef, .undef, .undef, .undef, .undef, .undef, .undef, .undef, .undef, .undef, .undef, .undef, .undef, .undef, .undef, .undef, .undef, .undef, .undef, .undef, .undef, .undef, .undef, .undef, .undef, .undef, .undef, .undef, .undef, .undef, .undef, .undef, .undef, .undef, .undef, .undef, .undef, .undef, .undef, .undef, .undef, .undef, .undef, .undef, .undef, .undef, .undef, .osl 3 0 a.Heard.length 2, .undef, .undef, .int .i64 v6, .ptr 0 0, .ptr 2 0, .undef, .undef, .undef, .int .i64 (a.Now + 1), .undef, .undef, .undef, .undef, .undef, .undef, .undef], [some (c6.cs B), some [.int .i64 0, .int .i64 0, .nilsl, .int .i64 0, .int .i64 0], some (a.oc 3), some (rows Heard.cs a.Heard)], 1⟩),
  (2021, ⟨[.ptr 0 0, .undef, .ptr 1 0, .ptr 2 0, .undef, .undef, .undef, .undef, .undef, .undef, .undef, .undef, .undef, .undef, .undef, .undef, .undef, .undef, .undef, .undef, .undef, .undef, .undef, .undef, .undef, .undef, .undef, .undef, .undef, .undef, .undef, .undef, .undef, .undef, .undef, .undef, .undef, .undef, .undef, .undef, .undef, .undef, .undef, .undef, .undef, .undef, .undef, .undef, .undef, .undef, .undef, .undef, .ptr 2 2, .undef, .ptr 0 0, .undef, .undef, .ptr 0 0, .undef, .int .i64 a.Now, .undef, .undef, .int .i64 (a.Now + 1), .undef, .undef, .undef, .undef, .undef, .undef, .undef], [some (c5.cs B), some [.int .i64 0, .int .i64 0, .nilsl, .int .i64 0, .int .i64 0], some (a.oc 3), some (rows Heard.cs a.Heard)], 1⟩),
  (2023, ⟨[.ptr 0 0, .undef, .ptr 1 0, .ptr 2 0, .undef, .undef, .undef, .undef, .undef, .undef, .undef, .undef, .undef, .undef, .undef, .undef, .undef, .undef, .undef, .undef, .undef, .undef, .undef, .undef, .undef, .undef, .undef, .undef, .undef, .undef, .undef, .undef, .undef, .undef, .undef, .undef, .undef, .undef, .undef, .undef, .undef, .undef, .undef, .undef, .undef, .undef, .undef, .undef, .undef, .undef, .undef, .undef, .undef, .osl 3 0 a.Heard.length 2, .ptr 0 0, .undef, .undef, .ptr 0 0, .undef, .int .i64 a.Now, .undef, .undef, .int .i64 (a.Now + 1), .undef, .undef, .undef, .undef, .undef, .undef, .undef], [some (c5.cs B), some [.int .i64 0, .int .i64 0, .nilsl, .int .i64 0, .int .i64 0], some (a.oc 3), some (rows Heard.cs a.Heard)], 1⟩),
  (2029, ⟨[.ptr 0 0, .undef, .ptr 1 0, .ptr 2 0, .undef, .undef, .undef, .undef, .undef, .undef, .undef, .undef, .undef, .undef, .undef, .undef, .undef, .undef, .undef, .undef, .undef, .undef, .undef, .undef, .undef, .undef, .undef, .undef, .undef, .undef, .undef, .undef, .undef, .undef, .undef, .undef, .undef, .undef, .undef, .undef, .undef, .undef, .undef, .undef, .undef, .undef, .undef, .undef, .undef, .undef, .undef, .undef, .ptr 2 2, .undef, .ptr 0 0, .osl 4 0 3 1, .undef, .ptr 0 0, .undef, .int .i64 a.Now, .undef, .undef, .int .i64 (a.Now + 1), .undef, .undef, .undef, .undef, .undef, .undef, .undef], [some (c5.cs B), some [.int .i64 0, .int .i64 0, .nilsl, .int .i64 0, .int .i64 0], some (a.oc 3), some (rows Heard.cs a.Heard), some (rows IntS.cs [0, 1, 50])], 1⟩),
  (2031, ⟨[.ptr 0 0, .undef, .ptr 1 0, .ptr 2 0, .undef, .undef, .undef, .undef, .undef, .undef, .undef, .undef, .undef, .undef, .undef, .undef, .undef, .undef, .undef, .undef, .undef, .undef, .undef, .undef, .undef, .undef, .undef, .undef, .undef, .undef, .undef, .undef, .undef, .undef, .undef, .undef, .undef, .undef, .undef, .undef, .undef, .undef, .undef, .undef, .undef, .undef, .undef, .undef, .undef, .undef, .undef, .undef, .undef, .osl 3 0 a.Heard.length 2, .ptr 0 0, .osl 4 0 3 1, .undef, .ptr 0 0, .undef, .int .i64 a.Now, .undef, .undef, .int .i64 (a.Now + 1), .undef, .undef, .undef, .undef, .undef, .undef, .undef], [some (c5.cs B), some [.int .i64 0, .int .i64 0, .nilsl, .int .i64 0, .int .i64 0], some (a.oc 3), some (rows Heard.cs a.Heard), some (rows IntS.cs [0, 1, 50])], 1⟩),
  (2045, ⟨[.ptr 0 0, .undef, .ptr 1 0, .ptr 2 0, .undef, .undef, .undef, .undef, .undef, .undef, .undef, .undef, .undef, .undef, .undef, .undef, .undef, .undef, .undef, .undef, .undef, .undef, .undef, .undef, .undef, .undef, .undef, .undef, .undef, .undef, .undef, .undef, .undef, .undef, .undef, .undef, .undef, .undef, .undef, .undef, .undef, .undef, .undef, .undef, .undef, .undef, .undef, .undef, .undef, .undef, .undef, .undef, .ptr 2 2, .undef, .undef, .undef, .int .i64 v6, .ptr 0 0, .undef, .int .i64 a.Now, .undef, .undef, .int .i64 (a.Now + 1), .undef, .undef, .undef, .undef, .undef, .undef, .undef], [some (c6.cs B), some [.int .i64 0, .int .i64 0, .nilsl, .int .i64 0, .int .i64 0], some (a.oc 3), some (rows Heard.cs a.Heard)], 1⟩),
  (2047, ⟨[.ptr 0 0, .undef, .ptr 1 0, .ptr 2 0, .undef, .undef, .undef, .undef, .undef, .undef, .undef, .undef, .undef, .undef, .undef, .undef, .undef, .undef, .undef, .undef, .undef, .undef, .undef, .undef, .undef, .undef, .undef, .undef, .undef, .undef, .undef, .undef, .undef, .undef, .undef, .undef, .undef, .undef, .undef, .undef, .undef, .undef, .undef, .undef, .undef, .undef, .undef, .undef, .undef, .undef, .undef, .undef, .undef, .osl 3 0 a.Heard.length 2, .undef, .undef, .int .i64 v6, .ptr 0 0, .undef, .int .i64 a.Now, .undef, .undef, .int .i64 (a.Now + 1), .undef, .undef, .undef, .undef, .undef, .undef, .undef], [some (c6.cs B), some [.int .i64 0, .int .i64 0, .nilsl, .int .i64 0, .int .i64 0], some (a.oc 3), some (rows Heard.cs a.Heard)], 1⟩),
  (4069, ⟨[.ptr 0 0, .undef, .ptr 1 0, .ptr 2 0, .undef, .undef, .undef, .undef, .undef, .undef, .undef, .undef, .undef, .undef, .undef, .undef, .undef, .undef, .undef, .undef, .undef, .undef, .undef, .undef, .undef, .undef, .undef, .undef, .undef, .undef, .undef, .undef, .undef, .undef, .undef, .undef, .undef, .undef, .undef, .undef, .undef, .undef, .undef, .undef, .undef, .undef, .undef, .undef, .undef, .undef, .undef, .undef, .ptr 2 2, .undef, .ptr 0 0, .undef, .undef, .ptr 0 0, .undef, .undef, .undef, .undef, .undef, .osl 4 0 3 1, .undef, .undef, .undef, .undef, .undef, .undef], [some (c5.cs B), some [.int .i64 0, .int .i64 0, .nilsl, .int .i64 0, .int .i64 0], some (a.oc 3), some (rows Heard.cs a.Heard), some (rows IntS.cs [0, a.Now, a.Now + 1])], 1⟩),
  (4071, ⟨[.ptr 0 0, .undef, .ptr 1 0, .ptr 2 0, .undef, .undef, .undef, .undef, .undef, .undef, .undef, .undef, .undef, .undef, .undef, .undef, .undef, .undef, .undef, .undef, .undef, .undef, .undef, .undef, .undef, .undef, .undef, .undef, .undef, .undef, .undef, .undef, .undef, .undef, .undef, .undef, .undef, .undef, .undef, .undef, .undef, .undef, .undef, .undef, .undef, .undef, .undef, .undef, .undef, .undef, .undef, .undef, .undef, .osl 3 0 a.Heard.length 2, .ptr 0 0, .undef, .undef, .ptr 0 0, .undef, .undef, .undef, .undef, .undef, .osl 4 0 3 1, .undef, .undef, .undef, .undef, .undef, .undef], [some (c5.cs B), some [.int .i64 0, .int .i64 0, .nilsl, .int .i64 0, .int .i64 0], some (a.oc 3), some (rows Heard.cs a.Heard), some (rows IntS.cs [0, a.Now, a.Now + 1])], 1⟩),
  (4077, ⟨[.ptr 0 0, .undef, .ptr 1 0, .ptr 2 0, .undef, .undef, .undef, .undef, .undef, .undef, .undef, .undef, .undef, .undef, .undef, .undef, .undef, .undef, .undef, .undef, .undef, .undef, .undef, .undef, .undef, .undef, .undef, .undef, .undef, .undef, .undef, .undef, .undef, .undef, .undef, .undef, .undef, .undef, .undef, .undef, .undef, .undef, .undef, .undef, .undef, .undef, .undef, .undef, .undef, .undef, .undef, .undef, .ptr 2 2, .undef, .ptr 0 0, .osl 4 0 3 1, .undef, .ptr 0 0, .undef, .undef, .undef, .undef, .undef, .osl 5 0 3 1, .undef, .undef, .undef, .undef, .undef, .undef], [some (c5.cs B), some [.int .i64 0, .int .i64 0, .nilsl, .int .i64 0, .int .i64 0], some (a.oc 3), some (rows Heard.cs a.Heard), some (rows IntS.cs [0, 1, 50]), some (rows IntS.cs [0, a.Now, a.Now + 1])], 1⟩),
  (4079, ⟨[.ptr 0 0, .undef, .ptr 1 0, .ptr 2 0, .undef, .undef, .undef, .undef, .undef, .undef, .undef, .undef, .undef, .undef, .undef, .undef, .undef, .undef, .undef, .undef, .undef, .undef, .undef, .undef, .undef, .undef, .undef, .undef, .undef, .undef, .undef, .undef, .undef, .undef, .undef, .undef, .undef, .undef, .undef, .undef, .undef, .undef, .undef, .undef, .undef, .undef, .undef, .undef, .undef, .undef, .undef, .undef, .undef, .osl 3 0 a.Heard.length 2, .ptr 0 0, .osl 4 0 3 1, .undef, .ptr 0 0, .undef, .undef, .undef, .undef, .undef, .osl 5 0 3 1, .undef, .undef, .undef, .undef, .undef, .undef], [some (c5.cs B), some [.int .i64 0, .int .i64 0, .nilsl, .int .i64 0, .int .i64 0], some (a.oc 3), some (rows Heard.cs a.Heard), some (rows IntS.cs [0, 1, 50]), some (rows IntS.cs [0, a.Now, a.Now + 1])], 1⟩),
  (4093, ⟨[.ptr 0 0, .undef, .ptr 1 0, .ptr 2 0, .undef, .undef, .undef, .undef, .undef, .undef, .undef, .undef, .undef, .undef, .undef, .undef, .undef, .undef, .undef, .undef, .undef, .undef, .undef, .undef, .undef, .undef, .undef, .undef, .undef, .undef, .undef, .undef, .undef, .undef, .undef, .undef, .undef, .undef, .undef, .undef, .undef, .undef, .undef, .undef, .undef, .undef, .undef, .undef, .undef, .undef, .undef, .undef, .ptr 2 2, .undef, .undef, .undef, .int .i64 v6, .ptr 0 0, .undef, .undef, .undef, .undef, .undef, .osl 4 0 3 1, .undef, .undef, .undef, .undef, .undef, .undef], [some (c6.cs B), some [.int .i64 0, .int .i64 0, .nilsl, .int .i64 0, .int .i64 0], some (a.oc 3), some (rows Heard.cs a.Heard), some (rows IntS.cs [0, a.Now, a.Now + 1])], 1⟩),
  (4095, ⟨[.ptr 0 0, .undef, .ptr 1 0, .ptr 2 0, .undef, .undef, .undef, .undef, .undef, .undef, .undef, .undef, .undef, .undef, .undef, .undef, .undef, .undef, .undef, .undef, .undef, .undef, .undef, .undef, .undef, .undef, .undef, .undef, .undef, .undef, .undef, .undef, .undef, .undef, .undef, .undef, .undef, .undef, .undef, .undef, .undef, .undef, .undef, .undef, .undef, .undef, .undef, .undef, .undef, .undef, .undef, .undef, .undef, .osl 3 0 a.Heard.length 2, .undef, .undef, .int .i64 v6, .ptr 0 0, .undef, .undef, .undef, .undef, .undef, .osl 4 0 3 1, .undef, .undef, .undef, .undef, .undef, .undef], [some (c6.cs B), some [.int .i64 0, .int .i64 0, .nilsl, .int .i64 0, .int .i64 0], some (a.oc 3), some (rows Heard.cs a.Heard), some (rows IntS.cs [0, a.Now, a.Now + 1])], 1⟩),
  (8189, ⟨[.ptr 0 0, .undef, .ptr 1 0, .ptr 2 0, .undef, .undef, .undef, .undef, .undef, .undef, .undef, .undef, .undef, .undef, .undef, .undef, .undef, .undef, .undef, .undef, .undef, .undef, .undef, .undef, .undef, .undef, .undef, .undef, .undef, .undef, .undef, .undef, .undef, .undef, .undef, .undef, .undef, .undef, .undef, .undef, .undef, .undef, .undef, .undef, .undef, .undef, .undef, .undef, .undef, .undef, .undef, .undef, .ptr 2 2, .undef, .undef, .undef, .int .i64 v6, .undef, .undef, .undef, .undef, .undef, .undef, .undef, .int .i64 v7, .undef, .undef, .undef, .undef, .undef], [some (c7.cs B), some [.int .i64 0, .int .i64 0, .nilsl, .int .i64 0, .int .i64 0], some (a.oc 3), some (rows Heard.cs a.Heard)], 1⟩),
  (8191, ⟨[.ptr 0 0, .undef, .ptr 1 0, .ptr 2 0, .undef, .undef, .undef, .undef, .undef, .undef, .undef, .undef, .undef, .undef, .undef, .undef, .undef, .undef, .undef, .undef, .undef, .undef, .undef, .undef, .undef, .undef, .undef, .undef, .undef, .undef, .undef, .undef, .undef, .undef, .undef, .undef, .undef, .undef, .undef, .undef, .undef, .undef, .undef, .undef, .undef, .undef, .undef, .undef, .undef, .undef, .undef, .undef, .undef, .osl 3 0 a.Heard.length 2, .undef, .undef, .int .i64 v6, .undef, .undef, .undef, .undef, .undef, .undef, .undef, .int .i64 v7, .undef, .undef, .undef, .undef, .undef], [some (c7.cs B), some [.int .i64 0, .int .i64 0, .nilsl, .int .i64 0, .int .i64 0], some (a.oc 3), some (rows Heard.cs a.Heard)], 1⟩),
  (16381, ⟨[.ptr 0 0, .undef, .ptr 1 0, .ptr 2 0, .undef, .undef, .undef, .undef, .undef, .undef, .undef, .undef, .undef, .undef, .undef, .undef, .undef, .undef, .undef, .undef, .undef, .undef, .undef, .undef, .undef, .undef, .undef, .undef, .undef, .undef, .undef, .undef, .undef, .undef, .undef, .undef, .undef, .undef, .undef, .undef, .undef, .undef, .undef, .undef, .undef, .undef, .undef, .undef, .undef, .undef, .undef, .undef, .ptr 2 2, .undef, .undef, .undef, .undef, .undef, .undef, .undef, .undef, .undef, .undef, .undef, .undef, .agg [.int .i64 v6, .int .i64 v7], .undef, .undef, .undef, .undef], [some (c7.cs B), some [.int .i64 0, .int .i64 0, .nilsl, .int .i64 0, .int .i64 0], some (a.oc 3), some (rows Heard.cs a.Heard)], 1⟩),
  (16383, ⟨[.ptr 0 0, .undef, .ptr 1 0, .ptr 2 0, .undef, .undef, .undef, .undef, .undef, .undef, .undef, .undef, .undef, .undef, .undef, .undef, .undef, .undef, .undef, .undef, .undef, .undef, .undef, .undef, .undef, .undef, .undef, .undef, .undef, .undef, .undef, .undef, .undef, .undef, .undef, .undef, .undef, .undef, .undef, .undef, .undef, .undef, .undef, .undef, .undef, .undef, .undef, .undef, .undef, .undef, .undef, .undef, .undef, .osl 3 0 a.Heard.length 2, .undef, .undef, .undef, .undef, .undef, .undef, .undef, .undef, .undef, .undef, .undef, .agg [.int .i64 v6, .int .i64 v7], .undef, .undef, .undef, .undef], [some (c7.cs B), some [.int .i64 0, .int .i64 0, .nilsl, .int .i64 0, .int .i64 0], some (a.oc 3), some (rows Heard.cs a.Heard)], 1⟩),
  (32765, ⟨[.ptr 0 0, .undef, .ptr 1 0, .ptr 2 0, .undef, .undef, .undef, .undef, .undef, .undef, .undef, .undef, .undef, .undef, .undef, .undef, .undef, .undef, .undef, .undef, .undef, .undef, .undef, .undef, .undef, .undef, .undef, .undef, .undef, .undef, .undef, .undef, .undef, .undef, .undef, .undef, .undef, .undef, .undef, .undef, .undef, .undef, .undef, .undef, .undef, .undef, .undef, .undef, .undef, .undef, .undef, .undef, .ptr 2 2, .undef, .undef, .undef, .undef, .undef, .undef, .undef, .undef, .undef, .undef, .undef, .undef, .undef, .osl 4 0 1 2, .undef, .undef, .undef], [some (c7.cs B), some [.int .i64 0, .int .i64 0, .nilsl, .int .i64 0, .int .i64 0], some (a.oc 3), some (rows Heard.cs a.Heard), some [.int .i64 v6, .int .i64 v7]], 1⟩),
  (32767, ⟨[.ptr 0 0, .undef, .ptr 1 0, .ptr 2 0, .undef, .undef, .undef, .undef, .undef, .undef, .undef, .undef, .undef, .undef, .undef, .undef, .undef, .undef, .undef, .undef, .undef, .undef, .undef, .undef, .undef, .undef, .undef, .undef, .undef, .undef, .undef, .undef, .undef, .undef, .undef, .undef, .undef, .undef, .undef, .undef, .undef, .undef, .undef, .undef, .undef, .undef, .undef, .undef, .undef, .undef, .undef, .undef, .undef, .osl 3 0 a.Heard.length 2, .undef, .undef, .undef, .undef, .undef, .undef, .undef, .undef, .undef, .undef, .undef, .undef, .osl 4 0 1 2, .undef, .undef, .undef], [some (c7.cs B), some [.int .i64 0, .int .i64 0, .nilsl, .int .i64 0, .int .i64 0], some (a.oc 3), some (rows Heard.cs a.Heard), some [.int .i64 v6, .int .i64 v7]], 1⟩),
  (65535, ⟨[.ptr 0 0, .undef, .ptr 1 0, .ptr 2 0, .undef, .undef, .undef, .undef, .undef, .undef, .undef, .undef, .undef, .undef, .undef, .undef, .undef, .undef, .undef, .undef, .undef, .undef, .undef, .undef, .undef, .undef, .undef, .undef, .undef, .undef, .undef, .undef, .undef, .undef, .undef, .undef, .undef, .undef, .undef, .undef, .undef, .undef, .undef, .undef, .undef, .undef, .undef, .undef, .undef, .undef, .undef, .undef, .undef, .undef, .undef, .undef, .undef, .undef, .undef, .undef, .undef, .undef, .undef, .undef, .undef, .undef, .undef, .osl 3 0 (a.Heard.length + 1) 2, .undef, .undef], [some (c7.cs B), some [.int .i64 0, .int .i64 0, .nilsl, .int .i64 0, .int .i64 0], some [.int .i64 a.Now, .int .i64 a.State, .undef, .int .i64 a.Given, .int .i64 a.Cancelled], some (rows Heard.cs (a.Heard ++ [⟨v6, v7⟩]))], 1⟩),
  (131071, ⟨[.ptr 0 0, .undef, .ptr 1 0, .ptr 2 0, .undef, .undef, .undef, .undef, .undef, .undef, .undef, .undef, .undef, .undef, .undef, .undef, .undef, .undef, .undef, .undef, .undef, .undef, .undef, .undef, .undef, .undef, .undef, .undef, .undef, .undef, .undef, .undef, .undef, .undef, .undef, .undef, .undef, .undef, .undef, .undef, .undef, .undef, .undef, .undef, .undef, .undef, .undef, .undef, .undef, .undef, .undef, .undef, .undef, .undef, .undef, .undef, .undef, .undef, .undef, .undef, .undef, .undef, .undef, .undef, .undef, .undef, .undef, .osl 3 0 (a.Heard.length + 1) 2, .ptr 2 2, .undef], [some (c7.cs B), some [.int .i64 0, .int .i64 0, .nilsl, .int .i64 0, .int .i64 0], some [.int .i64 a.Now, .int .i64 a.State, .undef, .int .i64 a.Given, .int .i64 a.Cancelled], some (rows Heard.cs (a.Heard ++ [⟨v6, v7⟩]))], 1⟩),
  (262143, ⟨[.ptr 0 0, .undef, .ptr 1 0, .ptr 2 0, .undef, .undef, .undef, .undef, .undef, .undef, .undef, .undef, .undef, .undef, .undef, .undef, .undef, .undef, .undef, .undef, .undef, .undef, .undef, .undef, .undef, .undef, .undef, .undef, .undef, .undef, .undef, .undef, .undef, .undef, .undef, .undef, .undef, .undef, .undef, .undef, .undef, .undef, .undef, .undef, .undef, .undef, .undef, .undef, .undef, .undef, .undef, .undef, .undef, .undef, .undef, .undef, .undef, .undef, .undef, .undef, .undef, .undef, .undef, .undef, .undef, .undef, .undef, .undef, .undef, .undef], [some (c7.cs B), some [.int .i64 0, .int .i64 0, .nilsl, .int .i64 0, .int .i64 0], some [.int .i64 a.Now, .int .i64 a.State, .osl 3 0 (a.Heard.length + 1) 2, .int .i64 a.Given, .int .i64 a.Cancelled], some (rows Heard.cs (a.Heard ++ [⟨v6, v7⟩]))], 1⟩)]
theorem alarm_fin {B : List Int} {k : Int} {h : Hp} {r : V} {c : Cur} (a : Alarm) (h0 : h[0]? = some (some (c.cs B))) (hle : LeV (ren (pickF [0] h true) 3 r) a.v) (ha : a.ok) (hl : a.Heard.length ≤ 100) (hc : c.le k) : RelR 1 r h (alarmP B k) := by
 refine ⟨_, _, ⟨a, c, ha, hl, hc, rfl, rfl⟩, WeakR.pick [0] (by decide) (fun j hj => by cases j <;> simp_all) hle ?_⟩
 simp only [pickH, List.map_cons, List.map_nil, pickB, h0, Cur.ren]
theorem alarm_sn (a : Alarm) (x : Heard) {h : Hp} (h3 : h[3]? = some (some (rows Heard.cs (a.Heard ++ [x])))) : (⟨a.Now, a.State, a.Heard ++ [x], a.Given, a.Cancelled⟩ : Alarm).v = ren (pickF [0] h true) 3 (.agg [.int .i64 a.Now, .int .i64 a.State, .osl 3 0 (a.Heard.length + 1) 2, .int .i64 a.Given, .int .i64 a.Cancelled]) := by
 generalize hW : a.Heard ++ [x] = W at *
 have hl : a.Heard.length + 1 = W.length := by rw [← hW]; simp
 rw [hl]
 simp [ren, pickF, posOf, frzR, h3, map_ren_rows, take_rows, Alarm.v]
theorem l2TickA_ok (n : Int) : Ctr Try.prog 143 [.int .i64 n] [] (.bool (inB' n 0 1000000)) [] := by
 refine Ctr.intro Try.mixed Try.func143 rfl Try.okF143 ?_
 simp -implicitDefEqProofs -dsimp only [go_sem, Try.ntmps143, Try.results143]
 (repeat ((repeat1' (first | simp -implicitDefEqProofs -dsimp only [go_sem] | simp -dsimp (disch := omega) only [wrap_i64])); repeat (with_reducible refine sideA ?_)))
 (first | refine callT.at (l1In_ok n 0 1000000) ⟨(by first | exact leA | exact Alarm.leM (r := a) (i := 3) rfl), (by first | exact leA | exact Alarm.leM (r := a) (i := 3) rfl), (by first | exact leA | exact Alarm.leM (r := a) (i := 3) rfl), trivial⟩ ?_ | refine callS.at (l1In_ok n 0 1000000) ⟨(by first | exact leA | exact Alarm.leM (r := a) (i := 3) rfl), (by first | exact leA | exact Alarm.leM (r := a) (i := 3) rfl), (by first | exact leA | exact Alarm.leM (r := a) (i := 3) rfl), trivial⟩ ?_)
 (repeat ((repeat1' (first | simp -implicitDefEqProofs -dsimp only [go_sem] | simp -dsimp (disch := omega) only [wrap_i64])); repeat (with_reducible refine sideA ?_)))
 exact WeakR.drop' rfl (by rfl)
theorem sNewAlarm_ok (n : Int) (h : inB' n 0 1000000 = true) : Ctr Try.prog 62 [.int .i64 n] [] (.tup [.agg [.int .i64 n, .int .i64 0, .osl 0 0 0 2, .int .i64 0, .int .i64 0], .bool true]) [some []] := by
 refine Ctr.intro Try.mixed Try.func62 rfl Try.okF62 ?_
 simp -implicitDefEqProofs -dsimp only [go_sem, Try.ntmps62, Try.results62]
 (repeat ((repeat1' (first | simp -implicitDefEqProofs -dsimp only [go_sem] | simp -dsimp (disch := omega) only [wrap_i64])); repeat (with_reducible refine sideA ?_)))
 (first | refine callT.at (l2TickA_ok n) ⟨(by first | exact leA | exact Alarm.leM (r := a) (i := 3) rfl), trivial⟩ ?_ | refine callS.at (l2TickA_ok n) ⟨(by first | exact leA | exact Alarm.leM (r := a) (i := 3) rfl), trivial⟩ ?_)
 (repeat ((repeat1' (first | simp -implicitDefEqProofs -dsimp only [go_sem, h] | simp -dsimp (disch := omega) only [wrap_i64])); repeat (with_reducible refine sideA ?_)))
 refine WeakR.pick [1] (by decide) (fun j hj => by omega) (.inl ?_) ?_
 · simp [ren, pickF, posOf]
 · simp [pickH, pickB]
theorem alarm_ok {B : List Int} (hB : CB B) {k : Int} (hk : k ≤ 100000) {c : Cur} (hc : c.le k) : CtrP Try.prog 127 [.ptr 0 0] [some (c.cs B)] (alarmP B (k + 2000)) := by
 have hcb : ∀ {c' : Cur} {k' : Int}, c'.le k' → k' ≤ 4000000 → c'.le 4611686018427387903 := fun h h' => ⟨h.1, by have := h.2; omega⟩
 refine CtrP.intro Try.mixed Try.func127 rfl Try.okF127 ?_
 simp -implicitDefEqProofs -dsimp only [go_sem, Try.ntmps127, Try.results127]
 (repeat ((repeat1' (first | simp -implicitDefEqProofs -dsimp only [go_sem] | simp -dsimp (disch := omega) only [wrap_i64])); repeat (with_reducible refine sideA ?_)))
 have pc1 := among_ok hB (hcb hc (by omega)) [0, 0, 1000, 999000] (by simp) (by simp); have hc1 := pickC_le (B := B) (n := (([0, 0, 1000, 999000] : List Int).length : Int)) hc; have pvc1 := amongV_mem hB (K := [0, 0, 1000, 999000]) (by simp) hc.1; generalize amongV B [0, 0, 1000, 999000] c = vc1 at pc1 pvc1; generalize pickC B (([0, 0, 1000, 999000] : List Int).length : Int) c = c1 at pc1 hc1; (first | refine callS.lend [0, 2] false pc1 (by decide) ⟨leO, leO, trivial⟩ (lendCur2 rfl rfl) (growCur2 B _ _) (.inl rfl) ?_)
 (repeat ((repeat1' (first | simp -implicitDefEqProofs -dsimp only [go_sem, Cur.ren, map_ren_rows] | simp -dsimp (disch := omega) only [wrap_i64])); repeat (with_reducible refine sideA ?_)))
 have hv1 : 0 ≤ vc1 ∧ vc1 ≤ 999000 := by
   simp at pvc1
   rcases pvc1 with rfl | rfl | rfl <;> omega
 have hb0 : alarmB ⟨vc1, 0, [], 0, 0⟩ = true := by
   simp [alarmB, acountB, inB', stateB, listB, freshB]
   omega
 (first | refine callT.at (sNewAlarm_ok vc1 (inB'_iff.2 ⟨by omega, by omega⟩)) ⟨(by first | exact leA | exact Alarm.leM (r := a) (i := 3) rfl), trivial⟩ ?_ | refine callS.at (sNewAlarm_ok vc1 (inB'_iff.2 ⟨by omega, by omega⟩)) ⟨(by first | exact leA | exact Alarm.leM (r := a) (i := 3) rfl), trivial⟩ ?_)
 (repeat ((repeat1' (first | simp -implicitDefEqProofs -dsimp only [go_sem, Cur.ren, map_ren_rows] | simp -dsimp (disch := omega) only [wrap_i64])); repeat (with_reducible refine sideA ?_)))
 have pc2 := pick_ok hB (hcb hc1 (by omega)) 20 (by omega); have hc2 := pickC_le (B := B) (n := 20) hc1; have pvc2 := pickV_bd hB (n := 20) hc1.1; generalize pickV B 20 c1 = vc2 at pc2 pvc2; generalize pickC B 20 c1 = c2 at pc2 hc2; refine callS.lend [0] false pc2 (by decide) ⟨leO, leO, trivial⟩ (lendCur rfl) (growCur B _ _) (.inl rfl) ?_
 (repeat ((repeat1' (first | simp -implicitDefEqProofs -dsimp only [go_sem, Cur.ren, map_ren_rows] | simp -dsimp (disch := omega) only [wrap_i64])); repeat (with_reducible refine sideA ?_)))
 obtain ⟨n0, hn0⟩ : ∃ n : Nat, vc2 = n := ⟨vc2.toNat, by omega⟩
 subst hn0
 refine LoopT.intro (fun x : Nat × Alarm × Cur => x.1 ≤ 20 ∧ alarmB x.2.1 = true ∧ x.2.2.le (k + 100 + 30 * (20 - (x.1 : Int)))) (fun x => ⟨[.ptr 0 0, .undef, .ptr 1 0, .ptr 2 0, .undef, .int .i64 x.1, .undef, .undef, .undef, .undef, .undef, .undef, .undef, .undef, .undef, .undef, .undef, .undef, .undef, .undef, .undef, .undef, .undef, .undef, .undef, .undef, .undef, .undef, .undef, .undef, .undef, .undef, .undef, .undef, .undef, .undef, .undef, .undef, .undef, .undef, .undef, .undef, .undef, .undef, .undef, .undef, .undef, .undef, .undef, .undef, .undef, .undef, .undef, .undef, .undef, .undef, .undef, .undef, .undef, .undef, .undef, .undef, .undef, .undef, .undef, .undef, .undef, .undef, .undef, .undef], [some (x.2.2.cs B), some [.int .i64 0, .int .i64 0, .nilsl, .int .i64 0, .int .i64 0], some (x.2.1.oc 3), some (rows Heard.cs x.2.1.Heard)], 1⟩) (fun x => x.1) (n0, ⟨vc1, 0, [], 0, 0⟩, c2) ⟨by simp only []; omega, hb0, lmonoA hc2 (by simp only [List.length_cons, List.length_nil] at *; omega)⟩ ?_ (fun x hx => ?_)
 · refine Weak.pick [0, 1, 4, 3] (by decide) (fun j hj => by cases j <;> simp_all) ?_ ?_
   · simp [LeG, LeC, LeV, ren, pickF, posOf]
   · simp [pickH, pickB, Cur.ren, ren, pickF, posOf, Alarm.oc, rows_nil]
 obtain ⟨n, a, c3⟩ := x
 obtain ⟨x1, haB, hc3⟩ := hx
 dsimp only at x1 haB hc3
 obtain ⟨ha, hal⟩ := aB_aok haB
 simp -implicitDefEqProofs -dsimp only [go_sem]
 refine condT.split (fun h1 => ?_) (fun h1 => ?_)
 · have hn : 0 < n := by have := of_decide_eq_true h1; omega
   (repeat ((repeat1' (first | simp -implicitDefEqProofs -dsimp only [go_sem, h1, Alarm.oc] | simp -dsimp (disch := omega) only [wrap_i64])); repeat (with_reducible refine sideA ?_)))
   refine clT.tree (fun s2 => (∃ (c4 : Cur), c4.le (k + 100 + 30 * (20 - (n : Int)) + 20) ∧ s2 = ⟨[.ptr 0 0, .undef, .ptr 1 0, .ptr 2 0, .undef, .int .i64 n, .undef, .bool false, .undef, .undef, .undef, .undef, .undef, .undef, .undef, .undef, .undef, .undef, .undef, .undef, .undef, .undef, .undef, .undef, .undef, .undef, .undef, .undef, .undef, .undef, .undef, .undef, .undef, .undef, .undef, .undef, .undef, .undef, .undef, .undef, .undef, .undef, .undef, .undef, .undef, .undef, .undef, .undef, .undef, .undef, .undef, .undef, .undef, .undef, .undef, .undef, .undef, .undef, .undef, .undef, .undef, .undef, .undef, .undef, .undef, .undef, .undef, .undef, .undef, .undef], [some (c4.cs B), some [.int .i64 0, .int .i64 0, .nilsl, .int .i64 0, .int .i64 0], some (a.oc 3), some (rows Heard.cs a.Heard)], 1⟩) ∨ (∃ (a' : Alarm) (c4 : Cur), alarmB a' = true ∧ c4.le (k + 100 + 30 * (20 - (n : Int)) + 20) ∧ s2 = ⟨[.ptr 0 0, .undef, .ptr 1 0, .ptr 2 0, .undef, .int .i64 n, .ptr 4 0, .bool true, .undef, .undef, .undef, .undef, .undef, .undef, .undef, .undef, .undef, .undef, .undef, .undef, .undef, .undef, .undef, .undef, .undef, .undef, .undef, .undef, .undef, .undef, .undef, .undef, .undef, .undef, .undef, .undef, .undef, .undef, .undef, .undef, .undef, .undef, .undef, .undef, .undef, .undef, .undef, .undef, .undef, .undef, .undef, .undef, .undef, .undef, .undef, .undef, .undef, .undef, .undef, .undef, .undef, .undef, .undef, .undef, .undef, .undef, .undef, .undef, .undef, .undef], [some (c4.cs B), some [.int .i64 0, .int .i64 0, .nilsl, .int .i64 0, .int .i64 0], some (a.oc 3), some (rows Heard.cs a.Heard), some (a'.oc 5), some (rows Heard.cs a'.Heard)], 1⟩)) (.take 1 (.alt 0 (.alt 2 (.alt 3 (.alt 4 (.take 5 (.take 6 (.take 7 (.alt 8 (.alt 9 (.alt 10 .done .stop) .stop) .stop)))) (.alt 8 (.alt 4 (.take 5 (.take 6 (.take 7 (.alt 9 (.alt 10 .done .stop) .stop)))) .stop) .stop)) (.alt 8 (.alt 3 (.alt 4 (.take 5 (.take 6 (.take 7 (.alt 9 (.alt 10 .done .stop) .stop)))) .stop) .stop) .stop)) (.alt 8 (.alt 2 (.alt 3 (.alt 4 (.take 5 (.take 6 (.take 7 (.alt 9 (.alt 10 .done .stop) .stop)))) .stop) .stop) .stop) .stop)) (.alt 2 (.alt 0 (.alt 3 (.alt 4 (.take 5 (.take 6 (.take 7 (.alt 8 (.alt 9 (.alt 10 .done .stop) .stop) .stop)))) (.alt 8 (.alt 4 (.take 5 (.take 6 (.take 7 (.alt 9 (.alt 10 .done .stop) .stop)))) .stop) .stop)) (.alt 8 (.alt 3 (.alt 4 (.take 5 (.take 6 (.take 7 (.alt 9 (.alt 10 .done .stop) .stop)))) .stop) .stop) .stop)) (.alt 3 (.alt 0 (.alt 4 (.take 5 (.take 6 (.take 7 (.alt 8 (.alt 9 (.alt 10 .done .stop) .stop) .stop)))) (.alt 8 (.alt 4 (.take 5 (.take 6 (.take 7 (.alt 9 (.alt 10 .done .stop) .stop)))) .stop) .stop)) (.alt 8 (.alt 0 (.alt 4 (.take 5 (.take 6 (.take 7 (.alt 9 (.alt 10 .done .stop) .stop)))) .stop) .stop) .stop)) (.alt 8 (.alt 0 (.alt 3 (.alt 4 (.take 5 (.take 6 (.take 7 (.alt 9 (.alt 10 .done .stop) .stop)))) .stop) .stop) (.alt 3 (.alt 0 (.alt 4 (.take 5 (.take 6 (.take 7 (.alt 9 (.alt 10 .done .stop) .stop)))) .stop) .stop) .stop)) .stop))) (.alt 8 (.alt 0 (.alt 2 (.alt 3 (.alt 4 (.take 5 (.take 6 (.take 7 (.alt 9 (.alt 10 .done .stop) .stop)))) .stop) .stop) .stop) (.alt 2 (.alt 0 (.alt 3 (.alt 4 (.take 5 (.take 6 (.take 7 (.alt 9 (.alt 10 .done .stop) .stop)))) .stop) .stop) (.alt 3 (.alt 0 (.alt 4 (.take 5 (.take 6 (.take 7 (.alt 9 (.alt 10 .done .stop) .stop)))) .stop) .stop) .stop)) .stop)) .stop)))) (by kernel_rfl) (fun s2 hs2 => ?_) ?_
   · have hn1 : ((n - 1 : Nat) : Int) = (n : Int) - 1 := by omega
     rcases hs2 with ⟨c4, hc4, rfl⟩ | ⟨a', c4, haB', hc4, rfl⟩
     · (repeat ((repeat1' (first | simp -implicitDefEqProofs -dsimp only [go_sem, Alarm.oc] | simp -dsimp (disch := omega) only [wrap_i64])); repeat (with_reducible refine sideA ?_)))
       refine ⟨(n - 1, a, c4), ⟨by simp only []; omega, haB, lmonoA hc4 (by simp only []; omega)⟩, ?_, by simp only []; omega⟩
       refine Weak.cut (4) (by simp) (by simp) ?_ ?_
       · simp [LeC, LeV, ren, cutF, hn1]
       · simp [cutH, cutB, cutF, Cur.ren, ren, Alarm.oc, map_ren_rows]
     · (repeat ((repeat1' (first | simp -implicitDefEqProofs -dsimp only [go_sem, Alarm.oc] | simp -dsimp (disch := omega) only [wrap_i64])); repeat (with_reducible refine sideA ?_)))
       refine ⟨(n - 1, a', c4), ⟨by simp only []; omega, haB', lmonoA hc4 (by simp only []; omega)⟩, ?_, by simp only []; omega⟩
       refine Weak.pick [0, 1, 2, 5] (by decide) (fun j hj => by cases j <;> simp_all) ?_ ?_
       · simp [LeG, LeC, LeV, ren, pickF, posOf, hn1]
       · simp [pickH, pickB, pickF, posOf, Cur.ren, ren, Alarm.oc, map_ren_rows]
   · (repeat ((repeat1' (first | simp -implicitDefEqProofs -dsimp only [go_sem] | simp -dsimp (disch := omega) only [wrap_i64])); repeat (with_reducible refine sideA ?_)))
     repeat' (first | (refine callS.rel [0, 3] (alarmStepM_ok hB (by omega) hc3 a) (by decide) ⟨leO, leO, trivial⟩ (lendCur2 rfl rfl) rfl (fun r hout hΦ => ?_); obtain ⟨s, c4, hs, hc4, rfl, rfl⟩ := hΦ; refine ⟨growCur2 B _ _, ?_⟩; have cs := sStepAlarm_ok a s.Kind s.Value (by omega); rcases hst : stepO a s.Kind s.Value with _ | a' <;> rw [hst] at cs <;> simp only [stR, stRh] at cs <;> (repeat ((repeat1' (first | simp -implicitDefEqProofs -dsimp only [go_sem, Cur.ren, AlarmStep.v, map_ren_rows] | simp -dsimp (disch := omega) only [wrap_i64])); repeat (with_reducible refine sideA ?_)))) | ((first | refine callT.at (cs) ⟨(by first | exact leA | exact Alarm.leM (r := a) (i := 3) rfl), (by first | exact leA | exact Alarm.leM (r := a) (i := 3) rfl), trivial⟩ ?_ | refine callS.at (cs) ⟨(by first | exact leA | exact Alarm.leM (r := a) (i := 3) rfl), (by first | exact leA | exact Alarm.leM (r := a) (i := 3) rfl), trivial⟩ ?_); (repeat ((repeat1' (first | simp -implicitDefEqProofs -dsimp only [go_sem, Cur.ren, zeroA, Alarm.o, map_ren_rows] | simp -dsimp (disch := omega) only [wrap_i64])); repeat (with_reducible refine sideA ?_)))) | (refine And.intro ?_ ?_) | exact trivial)
     all_goals first
       | (refine ⟨_, .inl ⟨c4, lmonoA hc4 (by omega), rfl⟩, ?_⟩
          refine Weak.cut 4 (by simp) (by simp) ?_ ?_
          · (simp [LeC, LeV, ren, cutF]; done)
          · (simp [cutH, cutB, cutF, Cur.ren, ren, Alarm.oc, map_ren_rows]; done))
       | (refine ⟨_, .inr ⟨a', c4, (stepO_ok hst).1, lmonoA hc4 (by omega), rfl⟩, ?_⟩
          refine Weak.pick [0, 1, 2, 3, 5, 4] (by decide) (fun j hj => by cases j <;> simp_all) ?_ ?_
          · (simp [LeG, LeC, LeV, ren, pickF, posOf]; done)
          · (simp [pickH, pickB, pickF, posOf, frzR, Cur.ren, ren, Alarm.oc, map_ren_rows, take_rows]; done))
       | (refine ⟨_, .inr ⟨a', c4, (stepO_ok hst).1, lmonoA hc4 (by omega), rfl⟩, ?_⟩
          refine Weak.pick [0, 1, 2, 3, 4, 5] (by decide) (fun j hj => by cases j <;> simp_all) ?_ ?_
          · (simp [LeG, LeC, LeV, ren, pickF, posOf]; done)
          · (simp [pickH, pickB, pickF, posOf, frzR, Cur.ren, ren, Alarm.oc, map_ren_rows, take_rows]; done))
       | skip
 · have A := alarmB_ok haB
   have e1 := A.now
   have e2 := A.given
   have e3 := A.canc
   obtain ⟨wk1, wk2, wk3, wk4, wk5⟩ := ha
   (repeat ((repeat1' (first | simp -implicitDefEqProofs -dsimp only [go_sem, h1, Alarm.oc] | simp -dsimp (disch := omega) only [wrap_i64])); repeat (with_reducible refine sideA ?_)))
   have pc5 := pick_ok hB (hcb hc3 (by omega)) 32 (by omega); have hc5 := pickC_le (B := B) (n := 32) hc3; have pvc5 := pickV_bd hB (n := 32) hc3.1; generalize pickV B 32 c3 = vc5 at pc5 pvc5; generalize pickC B 32 c3 = c5 at pc5 hc5; refine callS.lend [0] false pc5 (by decide) ⟨leO, leO, trivial⟩ (lendCur rfl) (growCur B _ _) (.inl rfl) ?_
   (repeat ((repeat1' (first | simp -implicitDefEqProofs -dsimp only [go_sem, Cur.ren, map_ren_rows] | simp -dsimp (disch := omega) only [wrap_i64])); repeat (with_reducible refine sideA ?_)))
   refine condT.split (fun h3 => ?_) (fun h3 => ?_)
   · (repeat ((repeat1' (first | simp -implicitDefEqProofs -dsimp only [go_sem, h3] | simp -dsimp (disch := omega) only [wrap_i64])); repeat (with_reducible refine sideA ?_)))
     have pc6 := among_ok hB (hcb hc5 (by omega)) [-1, 0, 1000001] (by simp) (by simp); have hc6 := pickC_le (B := B) (n := (([-1, 0, 1000001] : List Int).length : Int)) hc5; have pvc6 := amongV_mem hB (K := [-1, 0, 1000001]) (by simp) hc5.1; generalize amongV B [-1, 0, 1000001] c5 = vc6 at pc6 pvc6; generalize pickC B (([-1, 0, 1000001] : List Int).length : Int) c5 = c6 at pc6 hc6; (first | refine callS.lend [0, 3] false pc6 (by decide) ⟨leO, leO, trivial⟩ (lendCur2 rfl rfl) (growCur2 B _ _) (.inl rfl) ?_ | refine callS.lend [0, 4] false pc6 (by decide) ⟨leO, leO, trivial⟩ (lendCur2 rfl rfl) (growCur2 B _ _) (.inl rfl) ?_ | refine callS.lend [0, 5] false pc6 (by decide) ⟨leO, leO, trivial⟩ (lendCur2 rfl rfl) (growCur2 B _ _) (.inl rfl) ?_ | refine callS.lend [0, 6] false pc6 (by decide) ⟨leO, leO, trivial⟩ (lendCur2 rfl rfl) (growCur2 B _ _) (.inl rfl) ?_ | refine callS.lend [0, 7] false pc6 (by decide) ⟨leO, leO, trivial⟩ (lendCur2 rfl rfl) (growCur2 B _ _) (.inl rfl) ?_ | refine callS.lend [0, 8] false pc6 (by decide) ⟨leO, leO, trivial⟩ (lendCur2 rfl rfl) (growCur2 B _ _) (.inl rfl) ?_)
     (repeat ((repeat1' (first | simp -implicitDefEqProofs -dsimp only [go_sem, Cur.ren, map_ren_rows] | simp -dsimp (disch := omega) only [wrap_i64])); repeat (with_reducible refine sideA ?_)))
     have hv6 : i64R vc6 := i64mem pvc6 (by simp [i64R])
     refine alarm_fin ⟨vc6, a.State, a.Heard, a.Given, a.Cancelled⟩ rfl (.inl ?_) ⟨hv6, wk2, wk3, wk4, wk5⟩ (by simp only []; omega) (lmonoA hc6 (by simp only [List.length_cons, List.length_nil] at *; omega))
     simp [ren, pickF, posOf, frzR, map_ren_rows, take_rows, Alarm.v]
   · (repeat ((repeat1' (first | simp -implicitDefEqProofs -dsimp only [go_sem, h3] | simp -dsimp (disch := omega) only [wrap_i64])); repeat (with_reducible refine sideA ?_)))
     refine condT.split (fun h4 => ?_) (fun h4 => ?_)
     · (repeat ((repeat1' (first | simp -implicitDefEqProofs -dsimp only [go_sem, h4] | simp -dsimp (disch := omega) only [wrap_i64])); repeat (with_reducible refine sideA ?_)))
       have pc6 := pick_ok hB (hcb hc5 (by omega)) 5 (by omega); have hc6 := pickC_le (B := B) (n := 5) hc5; have pvc6 := pickV_bd hB (n := 5) hc5.1; generalize pickV B 5 c5 = vc6 at pc6 pvc6; generalize pickC B 5 c5 = c6 at pc6 hc6; refine callS.lend [0] false pc6 (by decide) ⟨leO, leO, trivial⟩ (lendCur rfl) (growCur B _ _) (.inl rfl) ?_
       (repeat ((repeat1' (first | simp -implicitDefEqProofs -dsimp only [go_sem, Cur.ren, map_ren_rows] | simp -dsimp (disch := omega) only [wrap_i64])); repeat (with_reducible refine sideA ?_)))
       refine alarm_fin ⟨a.Now, vc6, a.Heard, a.Given, a.Cancelled⟩ rfl (.inl ?_) ⟨wk1, ⟨by simp only []; omega, by simp only []; omega⟩, wk3, wk4, wk5⟩ (by simp only []; omega) (lmonoA hc6 (by omega))
       simp [ren, pickF, posOf, frzR, map_ren_rows, take_rows, Alarm.v]
     · (repeat ((repeat1' (first | simp -implicitDefEqProofs -dsimp only [go_sem, h4] | simp -dsimp (disch := omega) only [wrap_i64])); repeat (with_reducible refine sideA ?_)))
       refine condT.split (fun h5 => ?_) (fun h5 => ?_)
       · have hw : IntKind.i64.wrap (a.Given + 1) = a.Given + 1 := wrap_i64 (by omega) (by omega)
         (repeat ((repeat1' (first | simp -implicitDefEqProofs -dsimp only [go_sem, h5, hw] | simp -dsimp (disch := omega) only [wrap_i64])); repeat (with_reducible refine sideA ?_)))
         refine alarm_fin ⟨a.Now, a.State, a.Heard, a.Given, a.Given + 1⟩ rfl (.inl ?_) ⟨wk1, wk2, wk3, wk4, ⟨by simp only []; omega, by simp only []; omega⟩⟩ (by simp only []; omega) (lmonoA hc5 (by omega))
         simp [ren, pickF, posOf, frzR, map_ren_rows, take_rows, Alarm.v]
       · (repeat ((repeat1' (first | simp -implicitDefEqProofs -dsimp only [go_sem, h5] | simp -dsimp (disch := omega) only [wrap_i64])); repeat (with_reducible refine sideA ?_)))
         refine condT.split (fun h6 => ?_) (fun h6 => ?_)
         · (repeat ((repeat1' (first | simp -implicitDefEqProofs -dsimp only [go_sem, h6] | simp -dsimp (disch := omega) only [wrap_i64])); repeat (with_reducible refine sideA ?_)))
           have p6 := among_ok hB (hcb hc5 (by omega)) [0, 1, 50] (by simp) (by simp)
           have hc6 := pickC_le (B := B) (n := (([0, 1, 50] : List Int).length : Int)) hc5
           have m6 := amongV_mem hB (K := [0, 1, 50]) (by simp) hc5.1
           generalize amongV B [0, 1, 50] c5 = v6 at p6 m6
           generalize pickC B (([0, 1, 50] : List Int).length : Int) c5 = c6 at p6 hc6
           have p7 := among_ok hB (hcb hc6 (by omega)) [0, a.Now, a.Now + 1] (by simp) (by simp)
           have hc7 := pickC_le (B := B) (n := (([0, a.Now, a.Now + 1] : List Int).length : Int)) hc6
           have m7 := amongV_mem hB (K := [0, a.Now, a.Now + 1]) (by simp) hc6.1
           generalize amongV B [0, a.Now, a.Now + 1] c6 = v7 at p7 m7
           generalize pickC B (([0, a.Now, a.Now + 1] : List Int).length : Int) c6 = c7 at p7 hc7
           have hv7 : i64R v7 := by
             simp at m7
             rcases m7 with rfl | rfl | rfl <;> exact ⟨by omega, by omega⟩
           have hx : Heard.ok ⟨v6, v7⟩ := ⟨i64mem m6 (by simp [i64R]), hv7⟩
           have hsn : rows Heard.cs a.Heard ++ [.int .i64 v6, .int .i64 v7] = rows Heard.cs (a.Heard ++ [⟨v6, v7⟩]) := rows_snoc (cs := Heard.cs) a.Heard ⟨v6, v7⟩
           refine clT.graph [(262143, []), (131071, [17]), (65535, [16]), (32767, [15]), (32765, [1]), (16383, [14]), (16381, [1, 14]), (8191, [13]), (8189, [1, 13]), (4095, [12]), (4093, [1, 12]), (4079, [4]), (4077, [1, 4]), (4071, [3]), (4069, [1, 3]), (2047, [11]), (2045, [1, 11]), (2031, [4, 11]), (2029, [1, 4, 11]), (2023, [3, 11]), (2021, [1, 3, 11]), (1919, [7]), (1917, [1, 7]), (1903, [4, 7]), (1901, [1, 4, 7]), (1895, [3, 7]), (1893, [1, 3, 7]), (1023, [10]), (1021, [10]), (1007, [10]), (1005, [10]), (999, [10]), (997, [10]), (895, [10]), (893, [10]), (879, [10]), (877, [10]), (871, [10]), (869, [10]), (511, [9]), (509, [1, 9]), (495, [4, 9]), (493, [1, 4, 9]), (487, [3, 9]), (485, [1, 3, 9]), (383, [7, 9]), (381, [1, 7, 9]), (367, [4, 7, 9]), (365, [1, 4, 7, 9]), (359, [3, 7, 9]), (357, [1, 3, 7, 9]), (101, [8]), (37, [6]), (5, [5]), (1, [2]), (0, [0])] (gA _ (tabA B a c5 c6 c7 v6 v7)) (by kernel_rfl) rfl ?_
           refine ⟨fun s hs => ?_, fun s hs => ?_, fun s hs => ?_, fun s hs => ?_, fun s hs => ?_, fun s hs => ?_, fun s hs => ?_, fun s hs => ?_, fun s hs => ?_, fun s hs => ?_, fun s hs => ?_, fun s hs => ?_, fun s hs => ?_, fun s hs => ?_, fun s hs => ?_, fun s hs => ?_, fun s hs => ?_, fun s hs => ?_, fun s hs => ?_, fun s hs => ?_, fun s hs => ?_, fun s hs => ?_, fun s hs => ?_, fun s hs => ?_, fun s hs => ?_, fun s hs => ?_, fun s hs => ?_, fun s hs => ?_, fun s hs => ?_, fun s hs => ?_, fun s hs => ?_, fun s hs => ?_, fun s hs => ?_, fun s hs => ?_, fun s hs => ?_, fun s hs => ?_, fun s hs => ?_, fun s hs => ?_, fun s hs => ?_, fun s hs => ?_, fun s hs => ?_, fun s hs => ?_, fun s hs => ?_, fun s hs => ?_, fun s hs => ?_, fun s hs => ?_, fun s hs => ?_, fun s hs => ?_, fun s hs => ?_, fun s hs => ?_, fun s hs => ?_, fun s hs => ?_, fun s hs => ?_, fun s hs => ?_, fun s hs => ?_, fun s hs => ?_, trivial⟩
           · obtain rfl := Option.some.inj (show some _ = some s from hs)
             (repeat ((repeat1' (first | simp -implicitDefEqProofs -dsimp only [go_sem, take_rows] | simp -dsimp (disch := omega) only [wrap_i64])); repeat (with_reducible refine sideA ?_)))
             refine alarm_fin ⟨a.Now, a.State, a.Heard ++ [⟨v6, v7⟩], a.Given, a.Cancelled⟩ rfl (.inl ?_) ⟨wk1, wk2, ⟨by simp only [List.length_append, List.length_cons, List.length_nil]; omega, fun y hy => ?_⟩, wk4, wk5⟩ (by simp only [List.length_append, List.length_cons, List.length_nil]; omega) (lmonoA hc7 (by simp only [List.length_cons, List.length_nil] at *; omega))
             · exact alarm_sn a ⟨v6, v7⟩ rfl
             · rcases List.mem_append.1 hy with h | h
               · exact wk3.2 y h
               · rw [List.mem_singleton.1 h]; exact hx
           all_goals (obtain rfl := Option.some.inj (show some _ = some s from hs))
           all_goals (repeat' (first | exact trivial | refine nextA_cons rfl ?_ ?_))
           all_goals (repeat ((repeat1' (first | simp -implicitDefEqProofs -dsimp only [go_sem, Alarm.oc, hsn, take_rows] | simp -dsimp (disch := omega) only [wrap_i64])); repeat (with_reducible refine sideA ?_)))
           all_goals (try ((first | refine callS.lend [0, 4] false p7 (by decide) ⟨leO, leO, trivial⟩ (lendCur2 rfl rfl) (growCur2 B _ _) (.inl rfl) ?_ | refine callS.lend [0, 4] false p6 (by decide) ⟨leO, leO, trivial⟩ (lendCur2 rfl rfl) (growCur2 B _ _) (.inl rfl) ?_); (repeat ((repeat1' (first | simp -implicitDefEqProofs -dsimp only [go_sem, Cur.ren, map_ren_rows, Alarm.oc, hsn, take_rows] | simp -dsimp (disch := omega) only [wrap_i64])); repeat (with_reducible refine sideA ?_)))))
           refine ⟨_, rfl, Weak.pk [0, 1, 2, 3] ?_ ?_⟩
           rotate_left 2
           refine ⟨_, rfl, Weak.pk [0, 1, 2, 3] ?_ ?_⟩
           rotate_left 2
           refine ⟨_, rfl, Weak.pk [0, 1, 2, 3] ?_ ?_⟩
           rotate_left 2
           refine ⟨_, rfl, Weak.pk [0, 1, 2, 3, 4] ?_ ?_⟩
           rotate_left 2
           refine ⟨_, rfl, Weak.pk [0, 1, 2, 3, 4] ?_ ?_⟩
           rotate_left 2
           refine ⟨_, rfl, Weak.pk [0, 1, 2, 3] ?_ ?_⟩
           rotate_left 2
           refine ⟨_, rfl, Weak.pk [0, 1, 2, 3, 4] ?_ ?_⟩
           rotate_left 2
           refine ⟨_, rfl, Weak.pk [0, 1, 2, 3] ?_ ?_⟩
           rotate_left 2
           refine ⟨_, rfl, Weak.pk [0, 1, 2, 3] ?_ ?_⟩
           rotate_left 2
           refine ⟨_, rfl, Weak.pk [0, 1, 2, 3] ?_ ?_⟩
           rotate_left 2
           refine ⟨_, rfl, Weak.pk [0, 1, 2, 3] ?_ ?_⟩
           rotate_left 2
           refine ⟨_, rfl, Weak.pk [0, 1, 2, 3, 4] ?_ ?_⟩
           rotate_left 2
           refine ⟨_, rfl, Weak.pk [0, 1, 2, 3] ?_ ?_⟩
           rotate_left 2
           refine ⟨_, rfl, Weak.pk [0, 1, 2, 3, 5] ?_ ?_⟩
           rotate_left 2
           refine ⟨_, rfl, Weak.pk [0, 1, 2, 3, 4, 5] ?_ ?_⟩
           rotate_left 2
           refine ⟨_, rfl, Weak.pk [0, 1, 2, 3, 5] ?_ ?_⟩
           rotate_left 2
           refine ⟨_, rfl, Weak.pk [0, 1, 2, 3, 5, 4] ?_ ?_⟩
           rotate_left 2
           refine ⟨_, rfl, Weak.pk [0, 1, 2, 3, 4] ?_ ?_⟩
           rotate_left 2
           refine ⟨_, rfl, Weak.pk [0, 1, 2, 3, 5, 4] ?_ ?_⟩
           rotate_left 2
           refine ⟨_, rfl, Weak.pk [0, 1, 2, 3, 4] ?_ ?_⟩
           rotate_left 2
           refine ⟨_, rfl, Weak.pk [0, 1, 2, 3] ?_ ?_⟩
           rotate_left 2
           refine ⟨_, rfl, Weak.pk [0, 1, 2, 3, 4] ?_ ?_⟩
           rotate_left 2
           refine ⟨_, rfl, Weak.pk [0, 1, 2, 3] ?_ ?_⟩
           rotate_left 2
           refine ⟨_, rfl, Weak.pk [0, 1, 2, 3, 4, 5] ?_ ?_⟩
           rotate_left 2
           refine ⟨_, rfl, Weak.pk [0, 1, 2, 3, 4] ?_ ?_⟩
           rotate_left 2
           refine ⟨_, rfl, Weak.pk [0, 1, 2, 3] ?_ ?_⟩
           rotate_left 2
           refine ⟨_, rfl, Weak.pk [0, 1, 2, 3, 4, 5] ?_ ?_⟩
           rotate_left 2
           refine ⟨_, rfl, Weak.pk [0, 1, 2, 3, 4] ?_ ?_⟩
           rotate_left 2
           refine ⟨_, rfl, Weak.pk [0, 1, 2, 3, 4] ?_ ?_⟩
           rotate_left 2
           refine ⟨_, rfl, Weak.pk [0, 1, 2, 3] ?_ ?_⟩
           rotate_left 2
           refine ⟨_, rfl, Weak.pk [0, 1, 2, 3, 4] ?_ ?_⟩
           rotate_left 2
           refine ⟨_, rfl, Weak.pk [0, 1, 2, 3, 4] ?_ ?_⟩
           rotate_left 2
           refine ⟨_, rfl, Weak.pk [0, 1, 2, 3] ?_ ?_⟩
           rotate_left 2
           refine ⟨_, rfl, Weak.pk [0, 1, 2, 3] ?_ ?_⟩
           rotate_left 2
           refine ⟨_, rfl, Weak.pk [0, 1, 2, 3] ?_ ?_⟩
           rotate_left 2
           refine ⟨_, rfl, Weak.pk [0, 1, 2, 3] ?_ ?_⟩
           rotate_left 2
           refine ⟨_, rfl, Weak.pk [0, 1, 2, 3, 4] ?_ ?_⟩
           rotate_left 2
           refine ⟨_, rfl, Weak.pk [0, 1, 2, 3, 4] ?_ ?_⟩
           rotate_left 2
           refine ⟨_, rfl, Weak.pk [0, 1, 2, 3] ?_ ?_⟩
           rotate_left 2
           refine ⟨_, rfl, Weak.pk [0, 1, 2, 3, 4] ?_ ?_⟩
           rotate_left 2
           refine ⟨_, rfl, Weak.pk [0, 1, 2, 3, 4] ?_ ?_⟩
           rotate_left 2
           refine ⟨_, rfl, Weak.pk [0, 1, 2, 3] ?_ ?_⟩
           rotate_left 2
           refine ⟨_, rfl, Weak.pk [0, 1, 2, 3] ?_ ?_⟩
           rotate_left 2
           refine ⟨_, rfl, Weak.pk [0, 1, 2, 3, 4] ?_ ?_⟩
           rotate_left 2
           refine ⟨_, rfl, Weak.pk [0, 1, 2, 3] ?_ ?_⟩
           rotate_left 2
           refine ⟨_, rfl, Weak.pk [0, 1, 2, 3] ?_ ?_⟩
           rotate_left 2
           refine ⟨_, rfl, Weak.pk [0, 1, 2, 3] ?_ ?_⟩
           rotate_left 2
           refine ⟨_, rfl, Weak.pk [0, 1, 2, 3, 4] ?_ ?_⟩
           rotate_left 2
           refine ⟨_, rfl, Weak.pk [0, 1, 2, 3, 4] ?_ ?_⟩
           rotate_left 2
           refine ⟨_, rfl, Weak.pk [0, 1, 2, 3] ?_ ?_⟩
           rotate_left 2
           refine ⟨_, rfl, Weak.pk [0, 1, 2, 3] ?_ ?_⟩
           rotate_left 2
           refine ⟨_, rfl, Weak.pk [0, 1, 2, 3] ?_ ?_⟩
           rotate_left 2
           refine ⟨_, rfl, Weak.pk [0, 1, 2, 3] ?_ ?_⟩
           rotate_left 2
           refine ⟨_, rfl, Weak.pk [0, 1, 2, 3, 4] ?_ ?_⟩
           rotate_left 2
           refine ⟨_, rfl, Weak.pk [0, 1, 2, 3, 4] ?_ ?_⟩
           rotate_left 2
           refine ⟨_, rfl, Weak.pk [0, 1, 2, 3] ?_ ?_⟩
           rotate_left 2
           refine ⟨_, rfl, Weak.pk [0, 1, 2, 3] ?_ ?_⟩
           rotate_left 2
           refine ⟨_, rfl, Weak.pk [0, 1, 2, 3] ?_ ?_⟩
           rotate_left 2
           refine ⟨_, rfl, Weak.pk [0, 1, 2, 3] ?_ ?_⟩
           rotate_left 2
           refine ⟨_, rfl, Weak.pk [0, 1, 2, 3] ?_ ?_⟩
           rotate_left 2
           refine ⟨_, rfl, Weak.pk [0, 1, 2, 3] ?_ ?_⟩
           rotate_left 2
           refine ⟨_, rfl, Weak.pk [0, 1, 2, 3, 4] ?_ ?_⟩
           rotate_left 2
           refine ⟨_, rfl, Weak.pk [0, 1, 2, 3, 4] ?_ ?_⟩
           rotate_left 2
           refine ⟨_, rfl, Weak.pk [0, 1, 2, 3] ?_ ?_⟩
           rotate_left 2
           refine ⟨_, rfl, Weak.pk [0, 1, 2, 3, 4] ?_ ?_⟩
           rotate_left 2
           refine ⟨_, rfl, Weak.pk [0, 1, 2, 3, 4] ?_ ?_⟩
           rotate_left 2
           refine ⟨_, rfl, Weak.pk [0, 1, 2, 3] ?_ ?_⟩
           rotate_left 2
           refine ⟨_, rfl, Weak.pk [0, 1, 2, 3] ?_ ?_⟩
           rotate_left 2
           refine ⟨_, rfl, Weak.pk [0, 1, 2, 3, 4] ?_ ?_⟩
           rotate_left 2
           refine ⟨_, rfl, Weak.pk [0, 1, 2, 3] ?_ ?_⟩
           rotate_left 2
           refine ⟨_, rfl, Weak.pk [0, 1, 2, 3] ?_ ?_⟩
           rotate_left 2
           refine ⟨_, rfl, Weak.pk [0, 1, 2, 3] ?_ ?_⟩
           rotate_left 2
           refine ⟨_, rfl, Weak.pk [0, 1, 2, 3] ?_ ?_⟩
           rotate_left 2
           refine ⟨_, rfl, Weak.pk [0, 1, 2, 3] ?_ ?_⟩
           rotate_left 2
           refine ⟨_, rfl, Weak.pk [0, 1, 2, 3] ?_ ?_⟩
           rotate_left 2
           refine ⟨_, rfl, Weak.pk [0, 1, 2, 3] ?_ ?_⟩
           rotate_left 2
           refine ⟨_, rfl, Weak.pk [0, 1, 2, 3, 4] ?_ ?_⟩
           rotate_left 2
           refine ⟨_, rfl, Weak.pk [0, 1, 2, 3, 4] ?_ ?_⟩
           rotate_left 2
           refine ⟨_, rfl, Weak.pk [0, 1, 2, 3, 4] ?_ ?_⟩
           rotate_left 2
           refine ⟨_, rfl, Weak.pk [0, 1, 2, 3] ?_ ?_⟩
           rotate_left 2
           refine ⟨_, rfl, Weak.pk [0, 1, 2, 3, 4] ?_ ?_⟩
           rotate_left 2
           refine ⟨_, rfl, Weak.pk [0, 1, 2, 3, 4] ?_ ?_⟩
           rotate_left 2
           refine ⟨_, rfl, Weak.pk [0, 1, 2, 3, 4] ?_ ?_⟩
           rotate_left 2
           refine ⟨_, rfl, Weak.pk [0, 1, 2, 3] ?_ ?_⟩
           rotate_left 2
           refine ⟨_, rfl, Weak.pk [0, 1, 2, 3] ?_ ?_⟩
           rotate_left 2
           refine ⟨_, rfl, Weak.pk [0, 1, 2, 3] ?_ ?_⟩
           rotate_left 2
           refine ⟨_, rfl, Weak.pk [0, 1, 2, 3, 4] ?_ ?_⟩
           rotate_left 2
           refine ⟨_, rfl, Weak.pk [0, 1, 2, 3] ?_ ?_⟩
           rotate_left 2
           refine ⟨_, rfl, Weak.pk [0, 1, 2, 3] ?_ ?_⟩
           rotate_left 2
           refine ⟨_, rfl, Weak.pk [0, 1, 2, 3] ?_ ?_⟩
           rotate_left 2
           refine ⟨_, rfl, Weak.pk [0, 1, 2, 3] ?_ ?_⟩
           rotate_left 2
           refine ⟨_, rfl, Weak.pk [0, 1, 2, 3] ?_ ?_⟩
           rotate_left 2
           refine ⟨_, rfl, Weak.pk [0, 1, 2, 3] ?_ ?_⟩
           rotate_left 2
           refine ⟨_, rfl, Weak.pk [0, 1, 2, 3] ?_ ?_⟩
           rotate_left 2
           all_goals (first | rfl | (simp [LeG, LeC, LeV, ren, pickF, posOf, Alarm.oc, hsn, take_rows]; done) | (simp [pickH, pickB, pickF, posOf, Cur.ren, ren, map_ren_rows, rows, IntS.cs, Alarm.oc, hsn, take_rows]; done) | (simp [pickH, pickB, pickF, posOf, Cur.ren, ren, map_ren_rows, Alarm.oc, hsn, take_rows]; done) | (simp [pickH, pickB, pickF, posOf, Cur.ren, ren, map_ren_rows, Alarm.oc, hsn, take_rows] <;> rfl))
         · (repeat ((repeat1' (first | simp -implicitDefEqProofs -dsimp only [go_sem, h6] | simp -dsimp (disch := omega) only [wrap_i64])); repeat (with_reducible refine sideA ?_)))
           refine alarm_fin a rfl (.inl ?_) ⟨wk1, wk2, wk3, wk4, wk5⟩ (by omega) (lmonoA hc5 (by omega))
           simp [ren, pickF, posOf, frzR, map_ren_rows, take_rows, Alarm.v]
end Go.Proofs
end
section
set_option linter.unusedSimpArgs false
set_option linter.unusedVariables false
set_option maxRecDepth 100000
set_option maxHeartbeats 2000000
namespace Go.Proofs
open Go.Lv
def dNewAP (r : V) (hout : Hp) : Prop := ∃ n : Int, r = .int .i64 n ∧ hout = []
def dStepAP (r : V) (hout : Hp) : Prop := ∃ (a : Alarm) (s : AlarmStep), a.ok ∧ a.Heard.length ≤ 100 ∧ s.ok ∧ r = .tup [a.v, s.v] ∧ hout = []
def dRunAP (r : V) (hout : Hp) : Prop := ∃ (a : Alarm) (S : List AlarmStep), a.ok ∧ a.Heard.length ≤ 100 ∧ (∀ s ∈ S, s.ok) ∧ S.length ≤ 60 ∧ r = .tup [a.v, AlarmStep.sl S] ∧ hout = []
theorem fin_runa {h : Hp} {i : Nat} {a : Alarm} {S : List AlarmStep} (hi : h[i]? = some (some (rows AlarmStep.cs S))) : WeakR 0 (.tup [a.v, .osl i 0 S.length 2]) h (.tup [a.v, AlarmStep.sl S]) [] := by
 refine WeakR.pick [] (by decide) (fun j hj => by omega) (.inl ?_) ?_
 · simp [ren, pickF, posOf, frzR, hi, take_rows, map_ren_rows, Alarm.v]
 · rfl
def tickP (B : List Int) (k : Int) (r : V) (hout : Hp) : Prop := ∃ (n : Int) (c : Cur), c.le k ∧ r = .int .i64 n ∧ hout = [some (c.cs B)]
theorem tick_ok {B : List Int} (hB : CB B) {k : Int} (hk : k ≤ 1000000) {c : Cur} (hc : c.le k) : CtrP Try.prog 142 [.ptr 0 0] [some (c.cs B)] (tickP B (k + 2)) := by
 have hcb : ∀ {c' : Cur} {k' : Int}, c'.le k' → k' ≤ 4000000 → c'.le 4611686018427387903 := fun h h' => ⟨h.1, by have := h.2; omega⟩
 refine CtrP.intro Try.mixed Try.func142 rfl Try.okF142 ?_
 simp -implicitDefEqProofs -dsimp only [go_sem, Try.ntmps142, Try.results142]
 (repeat ((repeat1' (first | simp -implicitDefEqProofs -dsimp only [go_sem] | simp -dsimp (disch := omega) only [wrap_i64])); repeat (with_reducible refine sideA ?_)))
 have pc1 := among_ok hB (hcb hc (by omega)) [0, 1, 100, 105, 500, 2000, 60000, 999990, 1000000, 1000001, -1, 110] (by simp) (by simp); have hc1 := pickC_le (B := B) (n := (([0, 1, 100, 105, 500, 2000, 60000, 999990, 1000000, 1000001, -1, 110] : List Int).length : Int)) hc; have pvc1 := amongV_mem hB (K := [0, 1, 100, 105, 500, 2000, 60000, 999990, 1000000, 1000001, -1, 110]) (by simp) hc.1; generalize amongV B [0, 1, 100, 105, 500, 2000, 60000, 999990, 1000000, 1000001, -1, 110] c = vc1 at pc1 pvc1; generalize pickC B (([0, 1, 100, 105, 500, 2000, 60000, 999990, 1000000, 1000001, -1, 110] : List Int).length : Int) c = c1 at pc1 hc1; (first | refine callS.lend [0, 1] false pc1 (by decide) ⟨leO, leO, trivial⟩ (lendCur2 rfl rfl) (growCur2 B _ _) (.inl rfl) ?_)
 (repeat ((repeat1' (first | simp -implicitDefEqProofs -dsimp only [go_sem, Cur.ren, map_ren_rows] | simp -dsimp (disch := omega) only [wrap_i64])); repeat (with_reducible refine sideA ?_)))
 refine ⟨_, _, ⟨vc1, c1, lmonoA hc1 (by simp only [List.length_cons, List.length_nil] at *; omega), rfl, rfl⟩, WeakR.pick [0] (by decide) (fun j hj => by cases j <;> simp_all) (.inl rfl) ?_⟩
 simp [pickH, pickB, Cur.ren]
theorem drawNewAlarm_ok {B : List Int} (hB : CB B) : CtrP Try.prog 60 [ByteS.sl B] [] dNewAP := by
 have hcb : ∀ {c' : Cur} {k' : Int}, c'.le k' → k' ≤ 4000000 → c'.le 4611686018427387903 := fun h h' => ⟨h.1, by have := h.2; omega⟩
 obtain ⟨c, hcd⟩ : ∃ c : Cur, c = ⟨0, 0⟩ := ⟨_, rfl⟩
 have hc : c.le 0 := by rw [hcd]; exact curq_le (by omega)
 have hcc : c.cs B = [ByteS.sl B, .int .i64 0, .int .u64 0] := by rw [hcd]; rfl
 refine CtrP.intro Try.mixed Try.func60 rfl Try.okF60 ?_
 simp -implicitDefEqProofs -dsimp only [go_sem, Try.ntmps60, Try.results60]
 (repeat ((repeat1' (first | simp -implicitDefEqProofs -dsimp only [go_sem, ByteS.sl] | simp -dsimp (disch := omega) only [wrap_i64])); repeat (with_reducible refine sideA ?_)))
 rw [← ByteS.sl, ← hcc]
 refine callS.rel [0] (tick_ok hB (by omega) hc) (by decide) ⟨leO, trivial⟩ (lendCur rfl) rfl (fun r hout hΦ => ?_)
 obtain ⟨n, c1, hc1, rfl, rfl⟩ := hΦ
 refine ⟨⟨⟨rfl, rfl⟩, trivial⟩, ?_⟩
 (repeat ((repeat1' (first | simp -implicitDefEqProofs -dsimp only [go_sem, Cur.ren, map_ren_rows] | simp -dsimp (disch := omega) only [wrap_i64])); repeat (with_reducible refine sideA ?_)))
 exact ⟨_, _, ⟨n, rfl, rfl⟩, WeakR.drop' rfl rfl⟩
theorem drawStepAlarm_ok {B : List Int} (hB : CB B) : CtrP Try.prog 49 [ByteS.sl B] [] dStepAP := by
 have hcb : ∀ {c' : Cur} {k' : Int}, c'.le k' → k' ≤ 4000000 → c'.le 4611686018427387903 := fun h h' => ⟨h.1, by have := h.2; omega⟩
 obtain ⟨c, hcd⟩ : ∃ c : Cur, c = ⟨0, 0⟩ := ⟨_, rfl⟩
 have hc : c.le 0 := by rw [hcd]; exact curq_le (by omega)
 have hcc : c.cs B = [ByteS.sl B, .int .i64 0, .int .u64 0] := by rw [hcd]; rfl
 refine CtrP.intro Try.mixed Try.func49 rfl Try.okF49 ?_
 simp -implicitDefEqProofs -dsimp only [go_sem, Try.ntmps49, Try.results49]
 (repeat ((repeat1' (first | simp -implicitDefEqProofs -dsimp only [go_sem, ByteS.sl] | simp -dsimp (disch := omega) only [wrap_i64])); repeat (with_reducible refine sideA ?_)))
 rw [← ByteS.sl, ← hcc]
 refine callS.rel [2] (alarm_ok hB (by omega) hc) (by decide) ⟨leO, trivial⟩ (lendCur rfl) rfl (fun r hout hΦ => ?_)
 obtain ⟨a, c1, ha, hl, hc1, rfl, rfl⟩ := hΦ
 refine ⟨⟨⟨rfl, rfl⟩, trivial⟩, ?_⟩
 (repeat ((repeat1' (first | simp -implicitDefEqProofs -dsimp only [go_sem, Cur.ren, map_ren_rows, Alarm.v] | simp -dsimp (disch := omega) only [wrap_i64])); repeat (with_reducible refine sideA ?_)))
 have cw := alarmStep_ok hB (by omega) hc1 a
 refine clT.tree (fun s2 => ∃ (s : AlarmStep) (c2 : Cur), s.ok ∧ s2 = ⟨[.undef, .undef, .ptr 0 0, .ptr 1 0, .undef, .undef, .undef, .undef, .undef, .undef, .undef, .undef, .undef, .undef, .undef], [some a.cs, some s.cs], 0⟩) (.take 1 (.alt 0 (.alt 2 (.alt 3 (.alt 4 (.alt 5 .done .stop) .stop) .stop) .stop) (.alt 2 (.alt 0 (.alt 3 (.alt 4 (.alt 5 .done .stop) .stop) .stop) (.alt 3 (.alt 0 (.alt 4 (.alt 5 .done .stop) .stop) .stop) .stop)) .stop))) (by kernel_rfl) (fun s2 hs2 => ?_) ?_
 · obtain ⟨s, c2, hsk, rfl⟩ := hs2
   (repeat ((repeat1' (first | simp -implicitDefEqProofs -dsimp only [go_sem, Alarm.cs, AlarmStep.cs] | simp -dsimp (disch := omega) only [wrap_i64])); repeat (with_reducible refine sideA ?_)))
   exact ⟨_, _, ⟨a, s, ha, hl, hsk, rfl, rfl⟩, WeakR.drop' rfl (by simp [noOwn, rows_noOwn, Alarm.v, AlarmStep.v])⟩
 · (repeat ((repeat1' (first | simp -implicitDefEqProofs -dsimp only [go_sem, Alarm.cs] | simp -dsimp (disch := omega) only [wrap_i64])); repeat (with_reducible refine sideA ?_)))
   repeat' (first | (refine callS.rel [2] cw (by decide) ⟨leO, leO, trivial⟩ (lendCur rfl) rfl (fun r hout hΦ => ?_); obtain ⟨s, c4, hsk, hc4, rfl, rfl⟩ := hΦ; refine ⟨⟨⟨rfl, rfl⟩, trivial⟩, ?_⟩; (repeat ((repeat1' (first | simp -implicitDefEqProofs -dsimp only [go_sem, Cur.ren, AlarmStep.v, Alarm.v] | simp -dsimp (disch := omega) only [wrap_i64])); repeat (with_reducible refine sideA ?_)))) | (refine And.intro ?_ ?_) | exact trivial)
   all_goals
     refine ⟨_, ⟨s, c4, hsk, rfl⟩, ?_⟩
     refine Weak.cut (2) (by simp) (by simp) ?_ ?_
     · simp [LeC, LeV, ren, cutF]
     · simp [cutH, cutB, ren, map_ren_rows, Alarm.cs, AlarmStep.cs]
theorem drawRunAlarm_ok {B : List Int} (hB : CB B) : CtrP Try.prog 57 [ByteS.sl B] [] dRunAP := by
 have hcb : ∀ {c' : Cur} {k' : Int}, c'.le k' → k' ≤ 4000000 → c'.le 4611686018427387903 := fun h h' => ⟨h.1, by have := h.2; omega⟩
 obtain ⟨c, hcd⟩ : ∃ c : Cur, c = ⟨0, 0⟩ := ⟨_, rfl⟩
 have hc : c.le 0 := by rw [hcd]; exact curq_le (by omega)
 have hcc : c.cs B = [ByteS.sl B, .int .i64 0, .int .u64 0] := by rw [hcd]; rfl
 refine CtrP.intro Try.mixed Try.func57 rfl Try.okF57 ?_
 simp -implicitDefEqProofs -dsimp only [go_sem, Try.ntmps57, Try.results57]
 (repeat ((repeat1' (first | simp -implicitDefEqProofs -dsimp only [go_sem, ByteS.sl] | simp -dsimp (disch := omega) only [wrap_i64])); repeat (with_reducible refine sideA ?_)))
 rw [← ByteS.sl, ← hcc]
 refine callS.rel [1] (alarm_ok hB (by omega) hc) (by decide) ⟨leO, trivial⟩ (lendCur rfl) rfl (fun r hout hΦ => ?_)
 obtain ⟨a, c1, ha, hl, hc1, rfl, rfl⟩ := hΦ
 refine ⟨⟨⟨rfl, rfl⟩, trivial⟩, ?_⟩
 (repeat ((repeat1' (first | simp -implicitDefEqProofs -dsimp only [go_sem, Cur.ren, map_ren_rows, Alarm.v] | simp -dsimp (disch := omega) only [wrap_i64])); repeat (with_reducible refine sideA ?_)))
 have pc2 := pick_ok hB (hcb hc1 (by omega)) 12 (by omega); have hc2 := pickC_le (B := B) (n := 12) hc1; have pvc2 := pickV_bd hB (n := 12) hc1.1; generalize pickV B 12 c1 = vc2 at pc2 pvc2; generalize pickC B 12 c1 = c2 at pc2 hc2; refine callS.lend [1] false pc2 (by decide) ⟨leO, leO, trivial⟩ (lendCur rfl) (growCur B _ _) (.inl rfl) ?_
 (repeat ((repeat1' (first | simp -implicitDefEqProofs -dsimp only [go_sem, Cur.ren, map_ren_rows] | simp -dsimp (disch := omega) only [wrap_i64])); repeat (with_reducible refine sideA ?_)))
 obtain ⟨n0, hn0⟩ : ∃ n : Nat, vc2 = n := ⟨vc2.toNat, by omega⟩
 subst hn0
 refine LoopT.intro (fun x : Nat × List AlarmStep × Cur => x.1 ≤ 12 ∧ x.2.1.length + x.1 ≤ 12 ∧ (∀ s ∈ x.2.1, s.ok) ∧ x.2.2.le (3000 + 30 * (12 - (x.1 : Int)))) (fun x => ⟨[.undef, .undef, .ptr 0 0, .undef, .ptr 1 0, .ptr 2 0, .osl 3 0 x.2.1.length 2, .int .i64 x.1, .undef, .undef, .undef, .undef, .undef, .undef, .undef, .undef, .undef, .undef, .undef, .undef, .undef, .undef, .undef, .undef, .undef, .undef, .undef, .undef, .undef, .undef, .undef, .undef, .undef, .undef, .undef, .undef, .undef, .undef, .undef, .undef], [some [.int .i64 0, .int .i64 0, .nilsl, .int .i64 0, .int .i64 0], some (x.2.2.cs B), some a.cs, some (rows AlarmStep.cs x.2.1)], 0⟩) (fun x => x.1) (n0, [], c2) ⟨by simp only []; omega, by simp only [List.length_nil]; omega, fun y hy => by simp at hy, lmonoA hc2 (by simp only []; omega)⟩ ?_ (fun x hx => ?_)
 · refine Weak.cut (4) (by simp) (by simp) ?_ ?_
   · simp [LeC, LeV, ren, cutF]
   · simp [cutH, cutB, Cur.ren, ren, map_ren_rows, Alarm.cs, rows_nil]
 obtain ⟨n, S, c3⟩ := x
 obtain ⟨y0, y1, y3, hc3⟩ := hx
 dsimp only at y0 y1 y3 hc3
 simp -implicitDefEqProofs -dsimp only [go_sem]
 refine condT.split (fun h1 => ?_) (fun h1 => ?_)
 · have hn : 0 < n := by have := of_decide_eq_true h1; omega
   (repeat ((repeat1' (first | simp -implicitDefEqProofs -dsimp only [go_sem, h1, Alarm.cs] | simp -dsimp (disch := omega) only [wrap_i64])); repeat (with_reducible refine sideA ?_)))
   refine callS.rel [1] (alarmStep_ok hB (by omega) hc3 a) (by decide) ⟨leO, leO, trivial⟩ (lendCur rfl) rfl (fun r hout hΦ => ?_)
   obtain ⟨s, c4, hsk, hc4, rfl, rfl⟩ := hΦ
   refine ⟨⟨⟨rfl, rfl⟩, trivial⟩, ?_⟩
   have hsn : rows AlarmStep.cs S ++ [.int .i64 s.Kind, .int .i64 s.Value] = rows AlarmStep.cs (S ++ [s]) := rows_snoc (cs := AlarmStep.cs) S s
   (repeat ((repeat1' (first | simp -implicitDefEqProofs -dsimp only [go_sem, Cur.ren, AlarmStep.v, map_ren_rows, hsn] | simp -dsimp (disch := omega) only [wrap_i64])); repeat (with_reducible refine sideA ?_)))
   have hn1 : ((n - 1 : Nat) : Int) = (n : Int) - 1 := by omega
   have hSs : ∀ y ∈ S ++ [s], y.ok := fun y hy => by
     rcases List.mem_append.1 hy with h | h
     · exact y3 y h
     · rw [List.mem_singleton.1 h]; exact hsk
   have hSl : (S ++ [s]).length = S.length + 1 := by simp
   refine ⟨(n - 1, S ++ [s], c4), ⟨by simp only []; omega, by simp only []; omega, hSs, lmonoA hc4 (by simp only []; omega)⟩, ?_, by simp only []; omega⟩
   refine Weak.cut (4) (by simp) (by simp) ?_ ?_
   · simp [LeC, LeV, ren, cutF, hn1]
   · simp [cutH, cutB, cutF, Cur.ren, ren, map_ren_rows, Alarm.cs]
 · (repeat ((repeat1' (first | simp -implicitDefEqProofs -dsimp only [go_sem, h1, Alarm.cs] | simp -dsimp (disch := omega) only [wrap_i64])); repeat (with_reducible refine sideA ?_)))
   have pc5 := one_ok hB (hcb hc3 (by omega)) 24 (by omega); have hc5 := pickC_le (B := B) (n := 24) hc3; generalize oneV B 24 c3 = vc5 at pc5; generalize pickC B 24 c3 = c5 at pc5 hc5; refine callS.lend [1] false pc5 (by decide) ⟨leO, leO, trivial⟩ (lendCur rfl) (growCur B _ _) (.inl rfl) ?_
   (repeat ((repeat1' (first | simp -implicitDefEqProofs -dsimp only [go_sem, Cur.ren, map_ren_rows] | simp -dsimp (disch := omega) only [wrap_i64])); repeat (with_reducible refine sideA ?_)))
   refine condT.split (fun h2 => ?_) (fun h2 => ?_)
   · (repeat ((repeat1' (first | simp -implicitDefEqProofs -dsimp only [go_sem, h2] | simp -dsimp (disch := omega) only [wrap_i64])); repeat (with_reducible refine sideA ?_)))
     refine LoopT.intro (fun x : List AlarmStep × Cur => x.1.length ≤ 41 ∧ (∀ s ∈ x.1, s.ok) ∧ x.2.le (4000 + 3 * (x.1.length : Int))) (fun x => ⟨[.undef, .undef, .ptr 0 0, .undef, .ptr 1 0, .ptr 2 0, .osl 3 0 x.1.length 2, .undef, .undef, .undef, .undef, .undef, .undef, .undef, .undef, .undef, .undef, .undef, .undef, .undef, .undef, .undef, .undef, .undef, .undef, .undef, .undef, .undef, .undef, .undef, .undef, .undef, .undef, .undef, .undef, .undef, .undef, .undef, .undef, .undef], [some [.int .i64 0, .int .i64 0, .nilsl, .int .i64 0, .int .i64 0], some (x.2.cs B), some a.cs, some (rows AlarmStep.cs x.1)], 0⟩) (fun x => 42 - x.1.length) (S, c5) ⟨by simp only []; omega, y3, lmonoA hc5 (by simp only []; omega)⟩ ?_ (fun x hx => ?_)
     · refine Weak.cut (4) (by simp) (by simp) ?_ ?_
       · simp [LeC, LeV, ren, cutF]
       · simp [cutH, cutB, Cur.ren, ren, map_ren_rows, Alarm.cs]
     obtain ⟨S2, c7⟩ := x
     obtain ⟨z0, z1, hc7⟩ := hx
     dsimp only at z0 z1 hc7
     (repeat ((repeat1' (first | simp -implicitDefEqProofs -dsimp only [go_sem, Alarm.cs] | simp -dsimp (disch := omega) only [wrap_i64])); repeat (with_reducible refine sideA ?_)))
     have pc8 := pick_ok hB (hcb hc7 (by omega)) 2 (by omega); have hc8 := pickC_le (B := B) (n := 2) hc7; have pvc8 := pickV_bd hB (n := 2) hc7.1; generalize pickV B 2 c7 = vc8 at pc8 pvc8; generalize pickC B 2 c7 = c8 at pc8 hc8; refine callS.lend [1] false pc8 (by decide) ⟨leO, leO, trivial⟩ (lendCur rfl) (growCur B _ _) (.inl rfl) ?_
     have hw8 : IntKind.i64.wrap (40 + vc8) = 40 + vc8 := wrap_i64 (by omega) (by omega)
     have hsn : rows AlarmStep.cs S2 ++ [.int .i64 1, .int .i64 1] = rows AlarmStep.cs (S2 ++ [⟨1, 1⟩]) := rows_snoc (cs := AlarmStep.cs) S2 ⟨1, 1⟩
     (repeat ((repeat1' (first | simp -implicitDefEqProofs -dsimp only [go_sem, Cur.ren, map_ren_rows, hw8] | simp -dsimp (disch := omega) only [wrap_i64])); repeat (with_reducible refine sideA ?_)))
     refine condT.split (fun h5 => ?_) (fun h5 => ?_)
     · have hl5 : S2.length < 41 := by have := of_decide_eq_true h5; omega
       (repeat ((repeat1' (first | simp -implicitDefEqProofs -dsimp only [go_sem, h5, hsn] | simp -dsimp (disch := omega) only [wrap_i64])); repeat (with_reducible refine sideA ?_)))
       refine ⟨(S2 ++ [⟨1, 1⟩], c8), ⟨by simp only [List.length_append, List.length_cons, List.length_nil]; omega, fun y hy => ?_, lmonoA hc8 (by simp only [List.length_append, List.length_cons, List.length_nil]; omega)⟩, ?_, by simp only [List.length_append, List.length_cons, List.length_nil]; omega⟩
       · rcases List.mem_append.1 hy with h | h
         · exact z1 y h
         · rw [List.mem_singleton.1 h]; simp [AlarmStep.ok, i64R]
       · refine Weak.cut (4) (by simp) (by simp) ?_ ?_
         · simp [LeC, LeV, ren, cutF]
         · simp [cutH, cutB, Cur.ren, ren, map_ren_rows, Alarm.cs]
     · (repeat ((repeat1' (first | simp -implicitDefEqProofs -dsimp only [go_sem, h5] | simp -dsimp (disch := omega) only [wrap_i64])); repeat (with_reducible refine sideA ?_)))
       exact ⟨_, _, ⟨a, S2, ha, hl, z1, by omega, rfl, rfl⟩, fin_runa rfl⟩
   · (repeat ((repeat1' (first | simp -implicitDefEqProofs -dsimp only [go_sem, h2] | simp -dsimp (disch := omega) only [wrap_i64])); repeat (with_reducible refine sideA ?_)))
     exact ⟨_, _, ⟨a, S, ha, hl, y3, by omega, rfl, rfl⟩, fin_runa rfl⟩
end Go.Proofs
end
section
set_option linter.unusedSimpArgs false
set_option linter.unusedVariables false
set_option maxRecDepth 100000
set_option maxHeartbeats 4000000
namespace Go.Proofs
open Go.Lv
theorem sIsAlarm_ok (a : Alarm) (hl : a.Heard.length ≤ 281474976710656) : Ctr Try.prog 54 [a.v] [] (.bool (alarmB a)) [] := by
 refine Ctr.intro Try.mixed Try.func54 rfl Try.okF54 ?_
 simp -implicitDefEqProofs -dsimp only [go_sem, Try.ntmps54, Try.results54]
 (repeat ((repeat1' (first | simp -implicitDefEqProofs -dsimp only [go_sem, Alarm.v] | simp -dsimp (disch := omega) only [wrap_i64])); repeat (with_reducible refine sideA ?_)))
 (first | refine callT.at (l21Good_ok a hl) ⟨leA, trivial⟩ ?_ | refine callS.at (l21Good_ok a hl) ⟨leA, trivial⟩ ?_)
 (repeat ((repeat1' (first | simp -implicitDefEqProofs -dsimp only [go_sem] | simp -dsimp (disch := omega) only [wrap_i64])); repeat (with_reducible refine sideA ?_)))
 exact WeakR.drop' rfl (by rfl)
theorem stepO_len {a : Alarm} {k v : Int} : ((stepO a k v).getD zA).Heard.length ≤ 100 := by
 cases h : stepO a k v with
 | none => simp [zA]
 | some b =>
   have := (aB_aok (stepO_ok h).1).2
   simp only [Option.getD_some]
   omega
theorem raA_len (a : Alarm) (L : List AlarmStep) : (raA a L).Heard.length ≤ 100 := by
 unfold raA
 split
 · rename_i hb
   have ha : alarmB a = true := by simp [runB] at hb; exact hb.1
   have := (runF_ok ha L L.length (Nat.le_refl _)).1
   rw [List.take_length] at this
   have := (aB_aok this).2
   omega
 · simp [zA]
theorem naA_len (n : Int) : (naA n).Heard.length ≤ 100 := by
 unfold naA
 split <;> simp [zA]
theorem fnAlarmsLaw_ok (L : List Int) (hL : lstR ByteS.ok L) : Ctr Try.prog 7 [ByteS.sl L] [] (.bool true) [] := by
 have hB : CB L := hL
 refine Ctr.intro Try.mixed Try.func7 rfl Try.okF7 ?_
 simp -implicitDefEqProofs -dsimp only [go_sem, Try.ntmps7, Try.results7]
 (repeat ((repeat1' (first | simp -implicitDefEqProofs -dsimp only [go_sem] | simp -dsimp (disch := omega) only [wrap_i64])); repeat (with_reducible refine sideA ?_)))
 (first | refine callT.at (vBig_ok L) ⟨leA, trivial⟩ ?_ | refine callS.at (vBig_ok L) ⟨leA, trivial⟩ ?_)
 (repeat ((repeat1' (first | simp -implicitDefEqProofs -dsimp only [go_sem] | simp -dsimp (disch := omega) only [wrap_i64])); repeat (with_reducible refine sideA ?_)))
 refine condT.split (fun h1 => ?_) (fun h1 => ?_) <;> (repeat ((repeat1' (first | simp -implicitDefEqProofs -dsimp only [go_sem, h1] | simp -dsimp (disch := omega) only [wrap_i64])); repeat (with_reducible refine sideA ?_)))
 · exact WeakR.drop' rfl (by rfl)
 refine callS.rel [] (drawStepAlarm_ok hB) (by decide) ⟨leO, trivial⟩ rfl rfl (fun r hout hΦ => ?_)
 obtain ⟨a, s, ha, hal, hs, rfl, rfl⟩ := hΦ
 refine ⟨trivial, ?_⟩
 (repeat ((repeat1' (first | simp -implicitDefEqProofs -dsimp only [go_sem, Alarm.v, AlarmStep.v] | simp -dsimp (disch := omega) only [wrap_i64])); repeat (with_reducible refine sideA ?_)))
 have hi1 := (iStepAlarm_ok a s.Kind s.Value (by omega)).weak frzAi
 have hs1 := (sStepAlarm_ok a s.Kind s.Value (by omega)).weak (frzA _)
 have l1 := stepO_len (a := a) (k := s.Kind) (v := s.Value)
 cases hst : stepO a s.Kind s.Value with
 | none =>
   rw [hst] at hi1 hs1
   simp only [alV, Option.getD_none, Option.isSome_none] at hi1 hs1
   (first | refine callT.at (hi1) ⟨leA, leA, trivial⟩ ?_ | refine callS.at (hi1) ⟨leA, leA, trivial⟩ ?_)
   (repeat ((repeat1' (first | simp -implicitDefEqProofs -dsimp only [go_sem, Alarm.v] | simp -dsimp (disch := omega) only [wrap_i64])); repeat (with_reducible refine sideA ?_)))
   (first | refine callT.at (hs1) ⟨leA, leA, trivial⟩ ?_ | refine callS.at (hs1) ⟨leA, leA, trivial⟩ ?_)
   (repeat ((repeat1' (first | simp -implicitDefEqProofs -dsimp only [go_sem, Alarm.v] | simp -dsimp (disch := omega) only [wrap_i64])); repeat (with_reducible refine sideA ?_)))
   (first | refine callT.at (vAlarm_ok zA (by decide)) ⟨leA, leA, trivial⟩ ?_ | refine callS.at (vAlarm_ok zA (by decide)) ⟨leA, leA, trivial⟩ ?_)
   (repeat ((repeat1' (first | simp -implicitDefEqProofs -dsimp only [go_sem] | simp -dsimp (disch := omega) only [wrap_i64])); repeat (with_reducible refine sideA ?_)))
   (first | refine callT.at (iIsAlarm_ok a (by omega)) ⟨leA, trivial⟩ ?_ | refine callS.at (iIsAlarm_ok a (by omega)) ⟨leA, trivial⟩ ?_)
   (repeat ((repeat1' (first | simp -implicitDefEqProofs -dsimp only [go_sem] | simp -dsimp (disch := omega) only [wrap_i64])); repeat (with_reducible refine sideA ?_)))
   (first | refine callT.at (sIsAlarm_ok a (by omega)) ⟨leA, trivial⟩ ?_ | refine callS.at (sIsAlarm_ok a (by omega)) ⟨leA, trivial⟩ ?_)
   (repeat ((repeat1' (first | simp -implicitDefEqProofs -dsimp only [go_sem] | simp -dsimp (disch := omega) only [wrap_i64])); repeat (with_reducible refine sideA ?_)))
   refine callS.rel [] (drawRunAlarm_ok hB) (by decide) ⟨leO, trivial⟩ rfl rfl (fun r hout hΦ => ?_)
   obtain ⟨a2, S, ha2, hal2, hS, hSl, rfl, rfl⟩ := hΦ
   refine ⟨trivial, ?_⟩
   (repeat ((repeat1' (first | simp -implicitDefEqProofs -dsimp only [go_sem, Alarm.v] | simp -dsimp (disch := omega) only [wrap_i64])); repeat (with_reducible refine sideA ?_)))
   have hir := iRunAF a2 S (by omega) (by omega)
   have hsr := sRunAF a2 S (by omega) (by omega)
   have r1 := raA_len a2 S
   simp only [raV] at hir hsr
   have hrun : runB a2 S = true → alarmB a2 = true ∧ S.length ≤ 40 ∧ raA a2 S = (runF a2 S).al ∧ raN a2 S = (runF a2 S).n := fun h => ⟨by simp [runB] at h; exact h.1, by simp [runB] at h; exact h.2, by simp [raA, h], by simp [raN, h]⟩
   generalize raA a2 S = rw0 at hir hsr r1 hrun
   generalize raN a2 S = rn at hir hsr hrun
   generalize runB a2 S = rb at hir hsr hrun
   (first | refine callT.at (hir) ⟨leA, leA, trivial⟩ ?_ | refine callS.at (hir) ⟨leA, leA, trivial⟩ ?_)
   (repeat ((repeat1' (first | simp -implicitDefEqProofs -dsimp only [go_sem, Alarm.v] | simp -dsimp (disch := omega) only [wrap_i64])); repeat (with_reducible refine sideA ?_)))
   (first | refine callT.at (hsr) ⟨leA, leA, trivial⟩ ?_ | refine callS.at (hsr) ⟨leA, leA, trivial⟩ ?_)
   (repeat ((repeat1' (first | simp -implicitDefEqProofs -dsimp only [go_sem, Alarm.v] | simp -dsimp (disch := omega) only [wrap_i64])); repeat (with_reducible refine sideA ?_)))
   (first | refine callT.at (vAlarm_ok rw0 (by omega)) ⟨leA, leA, trivial⟩ ?_ | refine callS.at (vAlarm_ok rw0 (by omega)) ⟨leA, leA, trivial⟩ ?_)
   (repeat ((repeat1' (first | simp -implicitDefEqProofs -dsimp only [go_sem] | simp -dsimp (disch := omega) only [wrap_i64])); repeat (with_reducible refine sideA ?_)))
   cases rb with
   | false =>
     (repeat ((repeat1' (first | simp -implicitDefEqProofs -dsimp only [go_sem] | simp -dsimp (disch := omega) only [wrap_i64])); repeat (with_reducible refine sideA ?_)))
     refine callS.rel [] (drawNewAlarm_ok hB) (by decide) ⟨leO, trivial⟩ rfl rfl (fun r hout hΦ => ?_)
     obtain ⟨n, rfl, rfl⟩ := hΦ
     refine ⟨trivial, ?_⟩
     (repeat ((repeat1' (first | simp -implicitDefEqProofs -dsimp only [go_sem] | simp -dsimp (disch := omega) only [wrap_i64])); repeat (with_reducible refine sideA ?_)))
     have hin := iNewAF n
     have hsn := sNewAF n
     have n1 := naA_len n
     simp only [naV] at hin hsn
     generalize naA n = nw at hin hsn n1
     generalize inB' n 0 1000000 = nb at hin hsn
     (first | refine callT.at (hin) ⟨leA, trivial⟩ ?_ | refine callS.at (hin) ⟨leA, trivial⟩ ?_)
     (repeat ((repeat1' (first | simp -implicitDefEqProofs -dsimp only [go_sem, Alarm.v] | simp -dsimp (disch := omega) only [wrap_i64])); repeat (with_reducible refine sideA ?_)))
     (first | refine callT.at (hsn) ⟨leA, trivial⟩ ?_ | refine callS.at (hsn) ⟨leA, trivial⟩ ?_)
     (repeat ((repeat1' (first | simp -implicitDefEqProofs -dsimp only [go_sem, Alarm.v] | simp -dsimp (disch := omega) only [wrap_i64])); repeat (with_reducible refine sideA ?_)))
     cases nb with
     | false =>
       (repeat ((repeat1' (first | simp -implicitDefEqProofs -dsimp only [go_sem] | simp -dsimp (disch := omega) only [wrap_i64])); repeat (with_reducible refine sideA ?_)))
       repeat' (first | ((first | refine callT.at (vAlarm_ok nw (by omega)) ⟨leA, leA, trivial⟩ ?_ | refine callS.at (vAlarm_ok nw (by omega)) ⟨leA, leA, trivial⟩ ?_); (repeat ((repeat1' (first | simp -implicitDefEqProofs -dsimp only [go_sem, Alarm.v] | simp -dsimp (disch := omega) only [wrap_i64])); repeat (with_reducible refine sideA ?_)))))
       exact WeakR.drop' (by simp) (by rfl)
     | true =>
       (repeat ((repeat1' (first | simp -implicitDefEqProofs -dsimp only [go_sem] | simp -dsimp (disch := omega) only [wrap_i64])); repeat (with_reducible refine sideA ?_)))
       repeat' (first | ((first | refine callT.at (vAlarm_ok nw (by omega)) ⟨leA, leA, trivial⟩ ?_ | refine callS.at (vAlarm_ok nw (by omega)) ⟨leA, leA, trivial⟩ ?_); (repeat ((repeat1' (first | simp -implicitDefEqProofs -dsimp only [go_sem, Alarm.v] | simp -dsimp (disch := omega) only [wrap_i64])); repeat (with_reducible refine sideA ?_)))))
       exact WeakR.drop' (by simp) (by rfl)
   | true =>
     obtain ⟨haB2, hS40, hrw, hrn⟩ := hrun rfl
     (repeat ((repeat1' (first | simp -implicitDefEqProofs -dsimp only [go_sem, Alarm.v] | simp -dsimp (disch := omega) only [wrap_i64])); repeat (with_reducible refine sideA ?_)))
     refine LoopT.intro (fun i : Nat => i ≤ S.length) (fun i => ⟨[ByteS.sl L, .undef, .undef, .undef, .undef, .undef, .undef, .undef, .undef, .undef, .undef, .undef, .undef, .undef, AlarmStep.sl S, .ptr 0 0, .int .i64 rn, .undef, .undef, .undef, .undef, .ptr 1 0, .int .i64 (runF a2 (S.take i)).n, .int .i64 i, .undef, .undef, .undef, .undef, .undef, .undef, .undef, .undef, .undef, .undef, .undef, .undef, .undef, .undef, .undef, .undef, .undef, .undef, .undef, .undef, .undef, .undef, .undef, .undef, .undef, .undef, .undef, .undef, .undef, .undef, .undef, .undef, .undef, .undef, .undef, .undef, .undef, .undef, .undef, .undef, .undef, .undef, .undef, .undef, .undef, .undef, .undef, .undef, .undef, .undef, .undef, .undef, .undef, .undef, .undef, .undef, .undef, .undef, .undef, .undef, .undef, .undef, .undef, .undef, .undef, .undef, .undef, .undef, .undef, .undef, .undef, .undef, .undef, .undef, .undef, .undef, .undef, .undef, .undef, .undef, .undef, .undef, .undef, .undef, .undef, .undef, .undef, .undef, .undef, .undef, .undef, .undef, .undef, .undef, .undef, .undef, .undef, .undef, .undef, .undef, .undef, .undef, .undef, .undef, .undef, .undef, .undef, .undef, .undef, .undef, .undef, .undef, .undef, .undef, .undef, .undef, .undef, .undef, .undef, .undef, .undef, .undef, .undef, .undef, .undef, .undef, .undef, .undef, .undef, .undef, .undef, .undef, .undef, .undef, .undef, .undef, .undef, .undef, .undef, .undef, .undef, .undef, .undef, .undef, .undef, .undef, .undef, .undef, .undef, .undef, .undef, .undef, .undef, .undef, .undef, .undef, .undef, .undef, .undef, .undef, .undef, .undef, .undef, .undef, .undef, .undef, .undef, .undef, .undef, .undef, .undef, .undef, .undef, .undef, .undef, .undef, .undef, .undef, .undef, .undef, .undef, .undef, .undef, .undef, .undef, .undef, .undef, .undef, .undef, .undef, .undef, .undef, .undef, .undef, .undef, .undef, .undef, .undef, .undef, .undef, .undef, .undef, .undef, .undef, .undef, .undef, .undef, .undef, .undef, .undef], [some rw0.cs, some (runF a2 (S.take i)).al.cs], 0⟩) (fun i => S.length - i) 0 (Nat.zero_le _) ?_ (fun i hi => ?_)
     · refine Weak.pick [5, 7] (by decide) (fun j hj => by omega) ?_ ?_
       · simp [LeG, LeC, LeV, ren, pickF, posOf, runF]
       · simp [pickH, pickB, pickF, posOf, ren, map_ren_rows, Alarm.cs, runF]
     obtain ⟨q1, q2, q3⟩ := runF_ok haB2 S i hi
     simp -implicitDefEqProofs -dsimp only [go_sem]
     refine condT.split (fun g1 => ?_) (fun g1 => ?_)
     · have hi' : i < S.length := by simpa using g1
       have hr := rows_at AlarmStep.csl hi'
       have hw1 : IntKind.i64.wrap (((runF a2 (S.take i)).n : Int) + 1) = (((runF a2 (S.take i)).n + 1 : Nat) : Int) := by rw [wrap_i64 (by omega) (by omega)]; omega
       have htk := runF_take (a := a2) hi'
       generalize hx : runF a2 (S.take i) = x at *
       have xp := (alarmB_ok q1).len
       have ci := (iStepAlarm_ok x.al S[i].Kind S[i].Value (by omega)).weak frzAi
       unfold runStep at htk
       (repeat ((repeat1' (first | simp -implicitDefEqProofs -dsimp only [go_sem, g1, hr, AlarmStep.cs, Alarm.cs] | simp -dsimp (disch := omega) only [wrap_i64])); repeat (with_reducible refine sideA ?_)))
       rcases hst : stepO x.al S[i].Kind S[i].Value with _ | b2
       · rw [hst] at ci htk
         simp only [alV, Option.getD_none, Option.isSome_none] at ci
         (first | refine callT.at (ci) ⟨leA, leA, trivial⟩ ?_ | refine callS.at (ci) ⟨leA, leA, trivial⟩ ?_)
         (repeat ((repeat1' (first | simp -implicitDefEqProofs -dsimp only [go_sem, Alarm.v] | simp -dsimp (disch := omega) only [wrap_i64])); repeat (with_reducible refine sideA ?_)))
         refine ⟨i + 1, hi', ?_, by omega⟩
         refine Weak.cut (2) (by simp) (by simp) ?_ ?_
         · simp [LeC, LeV, ren, cutF, htk]
         · simp [cutH, cutB, cutF, ren, map_ren_rows, Alarm.cs, htk]
       · rw [hst] at ci htk
         simp only [alV, Option.getD_some, Option.isSome_some] at ci
         (first | refine callT.at (ci) ⟨leA, leA, trivial⟩ ?_ | refine callS.at (ci) ⟨leA, leA, trivial⟩ ?_)
         (repeat ((repeat1' (first | simp -implicitDefEqProofs -dsimp only [go_sem, Alarm.v, hw1] | simp -dsimp (disch := omega) only [wrap_i64])); repeat (with_reducible refine sideA ?_)))
         refine ⟨i + 1, hi', ?_, by omega⟩
         refine Weak.cut (2) (by simp) (by simp) ?_ ?_
         · simp [LeC, LeV, ren, cutF, htk]
         · simp [cutH, cutB, cutF, ren, map_ren_rows, Alarm.cs, htk]
     · have hi' : i = S.length := by simp at g1; omega
       subst hi'
       rw [List.take_length]
       rw [← hrw, ← hrn]
       (repeat ((repeat1' (first | simp -implicitDefEqProofs -dsimp only [go_sem, g1, Alarm.cs] | simp -dsimp (disch := omega) only [wrap_i64])); repeat (with_reducible refine sideA ?_)))
       (first | refine callT.at (vAlarm_ok rw0 (by omega)) ⟨leA, leA, trivial⟩ ?_ | refine callS.at (vAlarm_ok rw0 (by omega)) ⟨leA, leA, trivial⟩ ?_)
       (repeat ((repeat1' (first | simp -implicitDefEqProofs -dsimp only [go_sem] | simp -dsimp (disch := omega) only [wrap_i64])); repeat (with_reducible refine sideA ?_)))
       refine callS.rel [] (drawNewAlarm_ok hB) (by decide) ⟨leO, trivial⟩ rfl rfl (fun r hout hΦ => ?_)
       obtain ⟨n, rfl, rfl⟩ := hΦ
       refine ⟨trivial, ?_⟩
       (repeat ((repeat1' (first | simp -implicitDefEqProofs -dsimp only [go_sem] | simp -dsimp (disch := omega) only [wrap_i64])); repeat (with_reducible refine sideA ?_)))
       have hin := iNewAF n
       have hsn := sNewAF n
       have n1 := naA_len n
       simp only [naV] at hin hsn
       generalize naA n = nw at hin hsn n1
       generalize inB' n 0 1000000 = nb at hin hsn
       (first | refine callT.at (hin) ⟨leA, trivial⟩ ?_ | refine callS.at (hin) ⟨leA, trivial⟩ ?_)
       (repeat ((repeat1' (first | simp -implicitDefEqProofs -dsimp only [go_sem, Alarm.v] | simp -dsimp (disch := omega) only [wrap_i64])); repeat (with_reducible refine sideA ?_)))
       (first | refine callT.at (hsn) ⟨leA, trivial⟩ ?_ | refine callS.at (hsn) ⟨leA, trivial⟩ ?_)
       (repeat ((repeat1' (first | simp -implicitDefEqProofs -dsimp only [go_sem, Alarm.v] | simp -dsimp (disch := omega) only [wrap_i64])); repeat (with_reducible refine sideA ?_)))
       cases nb with
       | false =>
         (repeat ((repeat1' (first | simp -implicitDefEqProofs -dsimp only [go_sem] | simp -dsimp (disch := omega) only [wrap_i64])); repeat (with_reducible refine sideA ?_)))
         repeat' (first | ((first | refine callT.at (vAlarm_ok nw (by omega)) ⟨leA, leA, trivial⟩ ?_ | refine callS.at (vAlarm_ok nw (by omega)) ⟨leA, leA, trivial⟩ ?_); (repeat ((repeat1' (first | simp -implicitDefEqProofs -dsimp only [go_sem, Alarm.v] | simp -dsimp (disch := omega) only [wrap_i64])); repeat (with_reducible refine sideA ?_)))))
         exact WeakR.drop' (by simp) (by rfl)
       | true =>
         (repeat ((repeat1' (first | simp -implicitDefEqProofs -dsimp only [go_sem] | simp -dsimp (disch := omega) only [wrap_i64])); repeat (with_reducible refine sideA ?_)))
         repeat' (first | ((first | refine callT.at (vAlarm_ok nw (by omega)) ⟨leA, leA, trivial⟩ ?_ | refine callS.at (vAlarm_ok nw (by omega)) ⟨leA, leA, trivial⟩ ?_); (repeat ((repeat1' (first | simp -implicitDefEqProofs -dsimp only [go_sem, Alarm.v] | simp -dsimp (disch := omega) only [wrap_i64])); repeat (with_reducible refine sideA ?_)))))
         exact WeakR.drop' (by simp) (by rfl)
 | some b =>
   rw [hst] at hi1 hs1 l1
   simp only [alV, Option.getD_some, Option.isSome_some] at hi1 hs1 l1
   have hbB := (stepO_ok hst).1
   have haB := (stepA_cases hst).1
   obtain ⟨k1, k2, k3⟩ := alarm_keep hst
   (first | refine callT.at (hi1) ⟨leA, leA, trivial⟩ ?_ | refine callS.at (hi1) ⟨leA, leA, trivial⟩ ?_)
   (repeat ((repeat1' (first | simp -implicitDefEqProofs -dsimp only [go_sem, Alarm.v] | simp -dsimp (disch := omega) only [wrap_i64])); repeat (with_reducible refine sideA ?_)))
   (first | refine callT.at (hs1) ⟨leA, leA, trivial⟩ ?_ | refine callS.at (hs1) ⟨leA, leA, trivial⟩ ?_)
   (repeat ((repeat1' (first | simp -implicitDefEqProofs -dsimp only [go_sem, Alarm.v] | simp -dsimp (disch := omega) only [wrap_i64])); repeat (with_reducible refine sideA ?_)))
   (first | refine callT.at (vAlarm_ok b (by omega)) ⟨leA, leA, trivial⟩ ?_ | refine callS.at (vAlarm_ok b (by omega)) ⟨leA, leA, trivial⟩ ?_)
   (repeat ((repeat1' (first | simp -implicitDefEqProofs -dsimp only [go_sem] | simp -dsimp (disch := omega) only [wrap_i64])); repeat (with_reducible refine sideA ?_)))
   (first | refine callT.at (iIsAlarm_ok a (by omega)) ⟨leA, trivial⟩ ?_ | refine callS.at (iIsAlarm_ok a (by omega)) ⟨leA, trivial⟩ ?_)
   (repeat ((repeat1' (first | simp -implicitDefEqProofs -dsimp only [go_sem] | simp -dsimp (disch := omega) only [wrap_i64])); repeat (with_reducible refine sideA ?_)))
   (first | refine callT.at (sIsAlarm_ok a (by omega)) ⟨leA, trivial⟩ ?_ | refine callS.at (sIsAlarm_ok a (by omega)) ⟨leA, trivial⟩ ?_)
   (repeat ((repeat1' (first | simp -implicitDefEqProofs -dsimp only [go_sem] | simp -dsimp (disch := omega) only [wrap_i64])); repeat (with_reducible refine sideA ?_)))
   (first | refine callT.at (iIsAlarm_ok b (by omega)) ⟨leA, trivial⟩ ?_ | refine callS.at (iIsAlarm_ok b (by omega)) ⟨leA, trivial⟩ ?_)
   (repeat ((repeat1' (first | simp -implicitDefEqProofs -dsimp only [go_sem, hbB] | simp -dsimp (disch := omega) only [wrap_i64])); repeat (with_reducible refine sideA ?_)))
   by_cases hg : a.Given < b.Given
   · have g1 : decide (a.Given < b.Given) = true := decide_eq_true hg
     obtain ⟨a1, a2, a3, a4, x, a5, a6, a7, a8⟩ := alarm_given hst hg
     have hk2 : (s.Kind != 2) = false := by simp [a1]
     have hsl : (insSort ltI (stationsA b)).length = 3 := by rw [insSort_len]; simp [stationsA, a4]
     have h0l : 0 < b.Heard.length := by omega
     have hx0 : b.Heard[0] = x := by rw [List.getElem?_eq_getElem h0l] at a5; exact Option.some.inj a5
     have hr1 := rows_drop_at (cs := Heard.cs) Heard.csl h0l 1
     rw [hx0] at hr1
     have hbn := (alarmB_ok hbB).now
     have hwx : IntKind.i64.wrap (b.Now - x.Tick) = b.Now - x.Tick := wrap_i64 (by omega) (by omega)
     have hdx : decide (500 < b.Now - x.Tick) = false := decide_eq_false (by omega)
     (repeat ((repeat1' (first | simp -implicitDefEqProofs -dsimp only [go_sem, g1] | simp -dsimp (disch := omega) only [wrap_i64])); repeat (with_reducible refine sideA ?_)))
     (first | refine callT.at (iHeardBy_ok b hbB) ⟨leA, trivial⟩ ?_ | refine callS.at (iHeardBy_ok b hbB) ⟨leA, trivial⟩ ?_)
     (repeat ((repeat1' (first | simp -implicitDefEqProofs -dsimp only [go_sem] | simp -dsimp (disch := omega) only [wrap_i64])); repeat (with_reducible refine sideA ?_)))
     (first | refine callT.at (iMissing2_ok a haB a2 a3) ⟨leA, trivial⟩ ?_ | refine callS.at (iMissing2_ok a haB a2 a3) ⟨leA, trivial⟩ ?_)
     have hc3 : (((3 : Nat) : Int) != 3) = false := by decide
     have ht2 : List.take 2 (rows Heard.cs b.Heard) = [.int .i64 x.Station, .int .i64 x.Tick] := by
       cases hbh : b.Heard with
       | nil => rw [hbh] at h0l; exact absurd h0l (by decide)
       | cons y tl =>
         simp only [hbh, List.getElem_cons_zero] at hx0
         subst hx0
         rw [rows_cons]
         rfl
     (repeat ((repeat1' (first | simp -implicitDefEqProofs -dsimp only [go_sem, hk2, hsl, a4, ht2, hwx, hdx, hc3, List.drop_succ_cons, List.drop_zero, List.length_cons, List.length_nil] | simp -dsimp (disch := omega) only [wrap_i64])); repeat (with_reducible refine sideA ?_)))
     have g4a : decide (b.Now < a.Now) = false := decide_eq_false (by omega)
     have g4b : decide (b.Cancelled < a.Cancelled) = false := decide_eq_false (by omega)
     have g4c : decide (b.Given < a.Given) = false := decide_eq_false (by omega)
     (repeat ((repeat1' (first | simp -implicitDefEqProofs -dsimp only [go_sem, g4a, g4b, g4c] | simp -dsimp (disch := omega) only [wrap_i64])); repeat (with_reducible refine sideA ?_)))
     refine callS.rel [] (drawRunAlarm_ok hB) (by decide) ⟨leO, trivial⟩ rfl rfl (fun r hout hΦ => ?_)
     obtain ⟨a2, S, ha2, hal2, hS, hSl, rfl, rfl⟩ := hΦ
     refine ⟨trivial, ?_⟩
     (repeat ((repeat1' (first | simp -implicitDefEqProofs -dsimp only [go_sem, Alarm.v] | simp -dsimp (disch := omega) only [wrap_i64])); repeat (with_reducible refine sideA ?_)))
     have hir := iRunAF a2 S (by omega) (by omega)
     have hsr := sRunAF a2 S (by omega) (by omega)
     have r1 := raA_len a2 S
     simp only [raV] at hir hsr
     have hrun : runB a2 S = true → alarmB a2 = true ∧ S.length ≤ 40 ∧ raA a2 S = (runF a2 S).al ∧ raN a2 S = (runF a2 S).n := fun h => ⟨by simp [runB] at h; exact h.1, by simp [runB] at h; exact h.2, by simp [raA, h], by simp [raN, h]⟩
     generalize raA a2 S = rw0 at hir hsr r1 hrun
     generalize raN a2 S = rn at hir hsr hrun
     generalize runB a2 S = rb at hir hsr hrun
     (first | refine callT.at (hir) ⟨leA, leA, trivial⟩ ?_ | refine callS.at (hir) ⟨leA, leA, trivial⟩ ?_)
     (repeat ((repeat1' (first | simp -implicitDefEqProofs -dsimp only [go_sem, Alarm.v] | simp -dsimp (disch := omega) only [wrap_i64])); repeat (with_reducible refine sideA ?_)))
     (first | refine callT.at (hsr) ⟨leA, leA, trivial⟩ ?_ | refine callS.at (hsr) ⟨leA, leA, trivial⟩ ?_)
     (repeat ((repeat1' (first | simp -implicitDefEqProofs -dsimp only [go_sem, Alarm.v] | simp -dsimp (disch := omega) only [wrap_i64])); repeat (with_reducible refine sideA ?_)))
     (first | refine callT.at (vAlarm_ok rw0 (by omega)) ⟨leA, leA, trivial⟩ ?_ | refine callS.at (vAlarm_ok rw0 (by omega)) ⟨leA, leA, trivial⟩ ?_)
     (repeat ((repeat1' (first | simp -implicitDefEqProofs -dsimp only [go_sem] | simp -dsimp (disch := omega) only [wrap_i64])); repeat (with_reducible refine sideA ?_)))
     cases rb with
     | false =>
       (repeat ((repeat1' (first | simp -implicitDefEqProofs -dsimp only [go_sem] | simp -dsimp (disch := omega) only [wrap_i64])); repeat (with_reducible refine sideA ?_)))
       refine callS.rel [] (drawNewAlarm_ok hB) (by decide) ⟨leO, trivial⟩ rfl rfl (fun r hout hΦ => ?_)
       obtain ⟨n, rfl, rfl⟩ := hΦ
       refine ⟨trivial, ?_⟩
       (repeat ((repeat1' (first | simp -implicitDefEqProofs -dsimp only [go_sem] | simp -dsimp (disch := omega) only [wrap_i64])); repeat (with_reducible refine sideA ?_)))
       have hin := iNewAF n
       have hsn := sNewAF n
       have n1 := naA_len n
       simp only [naV] at hin hsn
       generalize naA n = nw at hin hsn n1
       generalize inB' n 0 1000000 = nb at hin hsn
       (first | refine callT.at (hin) ⟨leA, trivial⟩ ?_ | refine callS.at (hin) ⟨leA, trivial⟩ ?_)
       (repeat ((repeat1' (first | simp -implicitDefEqProofs -dsimp only [go_sem, Alarm.v] | simp -dsimp (disch := omega) only [wrap_i64])); repeat (with_reducible refine sideA ?_)))
       (first | refine callT.at (hsn) ⟨leA, trivial⟩ ?_ | refine callS.at (hsn) ⟨leA, trivial⟩ ?_)
       (repeat ((repeat1' (first | simp -implicitDefEqProofs -dsimp only [go_sem, Alarm.v] | simp -dsimp (disch := omega) only [wrap_i64])); repeat (with_reducible refine sideA ?_)))
       cases nb with
       | false =>
         (repeat ((repeat1' (first | simp -implicitDefEqProofs -dsimp only [go_sem] | simp -dsimp (disch := omega) only [wrap_i64])); repeat (with_reducible refine sideA ?_)))
         repeat' (first | ((first | refine callT.at (vAlarm_ok nw (by omega)) ⟨leA, leA, trivial⟩ ?_ | refine callS.at (vAlarm_ok nw (by omega)) ⟨leA, leA, trivial⟩ ?_); (repeat ((repeat1' (first | simp -implicitDefEqProofs -dsimp only [go_sem, Alarm.v] | simp -dsimp (disch := omega) only [wrap_i64])); repeat (with_reducible refine sideA ?_)))))
         exact WeakR.drop' (by simp) (by rfl)
       | true =>
         (repeat ((repeat1' (first | simp -implicitDefEqProofs -dsimp only [go_sem] | simp -dsimp (disch := omega) only [wrap_i64])); repeat (with_reducible refine sideA ?_)))
         repeat' (first | ((first | refine callT.at (vAlarm_ok nw (by omega)) ⟨leA, leA, trivial⟩ ?_ | refine callS.at (vAlarm_ok nw (by omega)) ⟨leA, leA, trivial⟩ ?_); (repeat ((repeat1' (first | simp -implicitDefEqProofs -dsimp only [go_sem, Alarm.v] | simp -dsimp (disch := omega) only [wrap_i64])); repeat (with_reducible refine sideA ?_)))))
         exact WeakR.drop' (by simp) (by rfl)
     | true =>
       obtain ⟨haB2, hS40, hrw, hrn⟩ := hrun rfl
       (repeat ((repeat1' (first | simp -implicitDefEqProofs -dsimp only [go_sem, Alarm.v] | simp -dsimp (disch := omega) only [wrap_i64])); repeat (with_reducible refine sideA ?_)))
       refine LoopT.intro (fun i : Nat => i ≤ S.length) (fun i => ⟨[ByteS.sl L, .undef, .undef, .undef, .undef, .undef, .undef, .undef, .undef, .undef, .undef, .undef, .undef, .undef, AlarmStep.sl S, .ptr 0 0, .int .i64 rn, .undef, .undef, .undef, .undef, .ptr 1 0, .int .i64 (runF a2 (S.take i)).n, .int .i64 i, .undef, .undef, .undef, .undef, .undef, .undef, .undef, .undef, .undef, .undef, .undef, .undef, .undef, .undef, .undef, .undef, .undef, .undef, .undef, .undef, .undef, .undef, .undef, .undef, .undef, .undef, .undef, .undef, .undef, .undef, .undef, .undef, .undef, .undef, .undef, .undef, .undef, .undef, .undef, .undef, .undef, .undef, .undef, .undef, .undef, .undef, .undef, .undef, .undef, .undef, .undef, .undef, .undef, .undef, .undef, .undef, .undef, .undef, .undef, .undef, .undef, .undef, .undef, .undef, .undef, .undef, .undef, .undef, .undef, .undef, .undef, .undef, .undef, .undef, .undef, .undef, .undef, .undef, .undef, .undef, .undef, .undef, .undef, .undef, .undef, .undef, .undef, .undef, .undef, .undef, .undef, .undef, .undef, .undef, .undef, .undef, .undef, .undef, .undef, .undef, .undef, .undef, .undef, .undef, .undef, .undef, .undef, .undef, .undef, .undef, .undef, .undef, .undef, .undef, .undef, .undef, .undef, .undef, .undef, .undef, .undef, .undef, .undef, .undef, .undef, .undef, .undef, .undef, .undef, .undef, .undef, .undef, .undef, .undef, .undef, .undef, .undef, .undef, .undef, .undef, .undef, .undef, .undef, .undef, .undef, .undef, .undef, .undef, .undef, .undef, .undef, .undef, .undef, .undef, .undef, .undef, .undef, .undef, .undef, .undef, .undef, .undef, .undef, .undef, .undef, .undef, .undef, .undef, .undef, .undef, .undef, .undef, .undef, .undef, .undef, .undef, .undef, .undef, .undef, .undef, .undef, .undef, .undef, .undef, .undef, .undef, .undef, .undef, .undef, .undef, .undef, .undef, .undef, .undef, .undef, .undef, .undef, .undef, .undef, .undef, .undef, .undef, .undef, .undef, .undef, .undef, .undef, .undef, .undef, .undef], [some rw0.cs, some (runF a2 (S.take i)).al.cs], 0⟩) (fun i => S.length - i) 0 (Nat.zero_le _) ?_ (fun i hi => ?_)
       · refine Weak.pick [5, 7] (by decide) (fun j hj => by omega) ?_ ?_
         · simp [LeG, LeC, LeV, ren, pickF, posOf, runF]
         · simp [pickH, pickB, pickF, posOf, ren, map_ren_rows, Alarm.cs, runF]
       obtain ⟨q1, q2, q3⟩ := runF_ok haB2 S i hi
       simp -implicitDefEqProofs -dsimp only [go_sem]
       refine condT.split (fun g1 => ?_) (fun g1 => ?_)
       · have hi' : i < S.length := by simpa using g1
         have hr := rows_at AlarmStep.csl hi'
         have hw1 : IntKind.i64.wrap (((runF a2 (S.take i)).n : Int) + 1) = (((runF a2 (S.take i)).n + 1 : Nat) : Int) := by rw [wrap_i64 (by omega) (by omega)]; omega
         have htk := runF_take (a := a2) hi'
         generalize hx : runF a2 (S.take i) = x at *
         have xp := (alarmB_ok q1).len
         have ci := (iStepAlarm_ok x.al S[i].Kind S[i].Value (by omega)).weak frzAi
         unfold runStep at htk
         (repeat ((repeat1' (first | simp -implicitDefEqProofs -dsimp only [go_sem, g1, hr, AlarmStep.cs, Alarm.cs] | simp -dsimp (disch := omega) only [wrap_i64])); repeat (with_reducible refine sideA ?_)))
         rcases hst : stepO x.al S[i].Kind S[i].Value with _ | b2
         · rw [hst] at ci htk
           simp only [alV, Option.getD_none, Option.isSome_none] at ci
           (first | refine callT.at (ci) ⟨leA, leA, trivial⟩ ?_ | refine callS.at (ci) ⟨leA, leA, trivial⟩ ?_)
           (repeat ((repeat1' (first | simp -implicitDefEqProofs -dsimp only [go_sem, Alarm.v] | simp -dsimp (disch := omega) only [wrap_i64])); repeat (with_reducible refine sideA ?_)))
           refine ⟨i + 1, hi', ?_, by omega⟩
           refine Weak.cut (2) (by simp) (by simp) ?_ ?_
           · simp [LeC, LeV, ren, cutF, htk]
           · simp [cutH, cutB, cutF, ren, map_ren_rows, Alarm.cs, htk]
         · rw [hst] at ci htk
           simp only [alV, Option.getD_some, Option.isSome_some] at ci
           (first | refine callT.at (ci) ⟨leA, leA, trivial⟩ ?_ | refine callS.at (ci) ⟨leA, leA, trivial⟩ ?_)
           (repeat ((repeat1' (first | simp -implicitDefEqProofs -dsimp only [go_sem, Alarm.v, hw1] | simp -dsimp (disch := omega) only [wrap_i64])); repeat (with_reducible refine sideA ?_)))
           refine ⟨i + 1, hi', ?_, by omega⟩
           refine Weak.cut (2) (by simp) (by simp) ?_ ?_
           · simp [LeC, LeV, ren, cutF, htk]
           · simp [cutH, cutB, cutF, ren, map_ren_rows, Alarm.cs, htk]
       · have hi' : i = S.length := by simp at g1; omega
         subst hi'
         rw [List.take_length]
         rw [← hrw, ← hrn]
         (repeat ((repeat1' (first | simp -implicitDefEqProofs -dsimp only [go_sem, g1, Alarm.cs] | simp -dsimp (disch := omega) only [wrap_i64])); repeat (with_reducible refine sideA ?_)))
         (first | refine callT.at (vAlarm_ok rw0 (by omega)) ⟨leA, leA, trivial⟩ ?_ | refine callS.at (vAlarm_ok rw0 (by omega)) ⟨leA, leA, trivial⟩ ?_)
         (repeat ((repeat1' (first | simp -implicitDefEqProofs -dsimp only [go_sem] | simp -dsimp (disch := omega) only [wrap_i64])); repeat (with_reducible refine sideA ?_)))
         refine callS.rel [] (drawNewAlarm_ok hB) (by decide) ⟨leO, trivial⟩ rfl rfl (fun r hout hΦ => ?_)
         obtain ⟨n, rfl, rfl⟩ := hΦ
         refine ⟨trivial, ?_⟩
         (repeat ((repeat1' (first | simp -implicitDefEqProofs -dsimp only [go_sem] | simp -dsimp (disch := omega) only [wrap_i64])); repeat (with_reducible refine sideA ?_)))
         have hin := iNewAF n
         have hsn := sNewAF n
         have n1 := naA_len n
         simp only [naV] at hin hsn
         generalize naA n = nw at hin hsn n1
         generalize inB' n 0 1000000 = nb at hin hsn
         (first | refine callT.at (hin) ⟨leA, trivial⟩ ?_ | refine callS.at (hin) ⟨leA, trivial⟩ ?_)
         (repeat ((repeat1' (first | simp -implicitDefEqProofs -dsimp only [go_sem, Alarm.v] | simp -dsimp (disch := omega) only [wrap_i64])); repeat (with_reducible refine sideA ?_)))
         (first | refine callT.at (hsn) ⟨leA, trivial⟩ ?_ | refine callS.at (hsn) ⟨leA, trivial⟩ ?_)
         (repeat ((repeat1' (first | simp -implicitDefEqProofs -dsimp only [go_sem, Alarm.v] | simp -dsimp (disch := omega) only [wrap_i64])); repeat (with_reducible refine sideA ?_)))
         cases nb with
         | false =>
           (repeat ((repeat1' (first | simp -implicitDefEqProofs -dsimp only [go_sem] | simp -dsimp (disch := omega) only [wrap_i64])); repeat (with_reducible refine sideA ?_)))
           repeat' (first | ((first | refine callT.at (vAlarm_ok nw (by omega)) ⟨leA, leA, trivial⟩ ?_ | refine callS.at (vAlarm_ok nw (by omega)) ⟨leA, leA, trivial⟩ ?_); (repeat ((repeat1' (first | simp -implicitDefEqProofs -dsimp only [go_sem, Alarm.v] | simp -dsimp (disch := omega) only [wrap_i64])); repeat (with_reducible refine sideA ?_)))))
           exact WeakR.drop' (by simp) (by rfl)
         | true =>
           (repeat ((repeat1' (first | simp -implicitDefEqProofs -dsimp only [go_sem] | simp -dsimp (disch := omega) only [wrap_i64])); repeat (with_reducible refine sideA ?_)))
           repeat' (first | ((first | refine callT.at (vAlarm_ok nw (by omega)) ⟨leA, leA, trivial⟩ ?_ | refine callS.at (vAlarm_ok nw (by omega)) ⟨leA, leA, trivial⟩ ?_); (repeat ((repeat1' (first | simp -implicitDefEqProofs -dsimp only [go_sem, Alarm.v] | simp -dsimp (disch := omega) only [wrap_i64])); repeat (with_reducible refine sideA ?_)))))
           exact WeakR.drop' (by simp) (by rfl)
   · have g1 : decide (a.Given < b.Given) = false := decide_eq_false hg
     (repeat ((repeat1' (first | simp -implicitDefEqProofs -dsimp only [go_sem, g1] | simp -dsimp (disch := omega) only [wrap_i64])); repeat (with_reducible refine sideA ?_)))
     have g4a : decide (b.Now < a.Now) = false := decide_eq_false (by omega)
     have g4b : decide (b.Cancelled < a.Cancelled) = false := decide_eq_false (by omega)
     have g4c : decide (b.Given < a.Given) = false := decide_eq_false (by omega)
     (repeat ((repeat1' (first | simp -implicitDefEqProofs -dsimp only [go_sem, g4a, g4b, g4c] | simp -dsimp (disch := omega) only [wrap_i64])); repeat (with_reducible refine sideA ?_)))
     refine callS.rel [] (drawRunAlarm_ok hB) (by decide) ⟨leO, trivial⟩ rfl rfl (fun r hout hΦ => ?_)
     obtain ⟨a2, S, ha2, hal2, hS, hSl, rfl, rfl⟩ := hΦ
     refine ⟨trivial, ?_⟩
     (repeat ((repeat1' (first | simp -implicitDefEqProofs -dsimp only [go_sem, Alarm.v] | simp -dsimp (disch := omega) only [wrap_i64])); repeat (with_reducible refine sideA ?_)))
     have hir := iRunAF a2 S (by omega) (by omega)
     have hsr := sRunAF a2 S (by omega) (by omega)
     have r1 := raA_len a2 S
     simp only [raV] at hir hsr
     have hrun : runB a2 S = true → alarmB a2 = true ∧ S.length ≤ 40 ∧ raA a2 S = (runF a2 S).al ∧ raN a2 S = (runF a2 S).n := fun h => ⟨by simp [runB] at h; exact h.1, by simp [runB] at h; exact h.2, by simp [raA, h], by simp [raN, h]⟩
     generalize raA a2 S = rw0 at hir hsr r1 hrun
     generalize raN a2 S = rn at hir hsr hrun
     generalize runB a2 S = rb at hir hsr hrun
     (first | refine callT.at (hir) ⟨leA, leA, trivial⟩ ?_ | refine callS.at (hir) ⟨leA, leA, trivial⟩ ?_)
     (repeat ((repeat1' (first | simp -implicitDefEqProofs -dsimp only [go_sem, Alarm.v] | simp -dsimp (disch := omega) only [wrap_i64])); repeat (with_reducible refine sideA ?_)))
     (first | refine callT.at (hsr) ⟨leA, leA, trivial⟩ ?_ | refine callS.at (hsr) ⟨leA, leA, trivial⟩ ?_)
     (repeat ((repeat1' (first | simp -implicitDefEqProofs -dsimp only [go_sem, Alarm.v] | simp -dsimp (disch := omega) only [wrap_i64])); repeat (with_reducible refine sideA ?_)))
     (first | refine callT.at (vAlarm_ok rw0 (by omega)) ⟨leA, leA, trivial⟩ ?_ | refine callS.at (vAlarm_ok rw0 (by omega)) ⟨leA, leA, trivial⟩ ?_)
     (repeat ((repeat1' (first | simp -implicitDefEqProofs -dsimp only [go_sem] | simp -dsimp (disch := omega) only [wrap_i64])); repeat (with_reducible refine sideA ?_)))
     cases rb with
     | false =>
       (repeat ((repeat1' (first | simp -implicitDefEqProofs -dsimp only [go_sem] | simp -dsimp (disch := omega) only [wrap_i64])); repeat (with_reducible refine sideA ?_)))
       refine callS.rel [] (drawNewAlarm_ok hB) (by decide) ⟨leO, trivial⟩ rfl rfl (fun r hout hΦ => ?_)
       obtain ⟨n, rfl, rfl⟩ := hΦ
       refine ⟨trivial, ?_⟩
       (repeat ((repeat1' (first | simp -implicitDefEqProofs -dsimp only [go_sem] | simp -dsimp (disch := omega) only [wrap_i64])); repeat (with_reducible refine sideA ?_)))
       have hin := iNewAF n
       have hsn := sNewAF n
       have n1 := naA_len n
       simp only [naV] at hin hsn
       generalize naA n = nw at hin hsn n1
       generalize inB' n 0 1000000 = nb at hin hsn
       (first | refine callT.at (hin) ⟨leA, trivial⟩ ?_ | refine callS.at (hin) ⟨leA, trivial⟩ ?_)
       (repeat ((repeat1' (first | simp -implicitDefEqProofs -dsimp only [go_sem, Alarm.v] | simp -dsimp (disch := omega) only [wrap_i64])); repeat (with_reducible refine sideA ?_)))
       (first | refine callT.at (hsn) ⟨leA, trivial⟩ ?_ | refine callS.at (hsn) ⟨leA, trivial⟩ ?_)
       (repeat ((repeat1' (first | simp -implicitDefEqProofs -dsimp only [go_sem, Alarm.v] | simp -dsimp (disch := omega) only [wrap_i64])); repeat (with_reducible refine sideA ?_)))
       cases nb with
       | false =>
         (repeat ((repeat1' (first | simp -implicitDefEqProofs -dsimp only [go_sem] | simp -dsimp (disch := omega) only [wrap_i64])); repeat (with_reducible refine sideA ?_)))
         repeat' (first | ((first | refine callT.at (vAlarm_ok nw (by omega)) ⟨leA, leA, trivial⟩ ?_ | refine callS.at (vAlarm_ok nw (by omega)) ⟨leA, leA, trivial⟩ ?_); (repeat ((repeat1' (first | simp -implicitDefEqProofs -dsimp only [go_sem, Alarm.v] | simp -dsimp (disch := omega) only [wrap_i64])); repeat (with_reducible refine sideA ?_)))))
         exact WeakR.drop' (by simp) (by rfl)
       | true =>
         (repeat ((repeat1' (first | simp -implicitDefEqProofs -dsimp only [go_sem] | simp -dsimp (disch := omega) only [wrap_i64])); repeat (with_reducible refine sideA ?_)))
         repeat' (first | ((first | refine callT.at (vAlarm_ok nw (by omega)) ⟨leA, leA, trivial⟩ ?_ | refine callS.at (vAlarm_ok nw (by omega)) ⟨leA, leA, trivial⟩ ?_); (repeat ((repeat1' (first | simp -implicitDefEqProofs -dsimp only [go_sem, Alarm.v] | simp -dsimp (disch := omega) only [wrap_i64])); repeat (with_reducible refine sideA ?_)))))
         exact WeakR.drop' (by simp) (by rfl)
     | true =>
       obtain ⟨haB2, hS40, hrw, hrn⟩ := hrun rfl
       (repeat ((repeat1' (first | simp -implicitDefEqProofs -dsimp only [go_sem, Alarm.v] | simp -dsimp (disch := omega) only [wrap_i64])); repeat (with_reducible refine sideA ?_)))
       refine LoopT.intro (fun i : Nat => i ≤ S.length) (fun i => ⟨[ByteS.sl L, .undef, .undef, .undef, .undef, .undef, .undef, .undef, .undef, .undef, .undef, .undef, .undef, .undef, AlarmStep.sl S, .ptr 0 0, .int .i64 rn, .undef, .undef, .undef, .undef, .ptr 1 0, .int .i64 (runF a2 (S.take i)).n, .int .i64 i, .undef, .undef, .undef, .undef, .undef, .undef, .undef, .undef, .undef, .undef, .undef, .undef, .undef, .undef, .undef, .undef, .undef, .undef, .undef, .undef, .undef, .undef, .undef, .undef, .undef, .undef, .undef, .undef, .undef, .undef, .undef, .undef, .undef, .undef, .undef, .undef, .undef, .undef, .undef, .undef, .undef, .undef, .undef, .undef, .undef, .undef, .undef, .undef, .undef, .undef, .undef, .undef, .undef, .undef, .undef, .undef, .undef, .undef, .undef, .undef, .undef, .undef, .undef, .undef, .undef, .undef, .undef, .undef, .undef, .undef, .undef, .undef, .undef, .undef, .undef, .undef, .undef, .undef, .undef, .undef, .undef, .undef, .undef, .undef, .undef, .undef, .undef, .undef, .undef, .undef, .undef, .undef, .undef, .undef, .undef, .undef, .undef, .undef, .undef, .undef, .undef, .undef, .undef, .undef, .undef, .undef, .undef, .undef, .undef, .undef, .undef, .undef, .undef, .undef, .undef, .undef, .undef, .undef, .undef, .undef, .undef, .undef, .undef, .undef, .undef, .undef, .undef, .undef, .undef, .undef, .undef, .undef, .undef, .undef, .undef, .undef, .undef, .undef, .undef, .undef, .undef, .undef, .undef, .undef, .undef, .undef, .undef, .undef, .undef, .undef, .undef, .undef, .undef, .undef, .undef, .undef, .undef, .undef, .undef, .undef, .undef, .undef, .undef, .undef, .undef, .undef, .undef, .undef, .undef, .undef, .undef, .undef, .undef, .undef, .undef, .undef, .undef, .undef, .undef, .undef, .undef, .undef, .undef, .undef, .undef, .undef, .undef, .undef, .undef, .undef, .undef, .undef, .undef, .undef, .undef, .undef, .undef, .undef, .undef, .undef, .undef, .undef, .undef, .undef, .undef, .undef, .undef, .undef, .undef, .undef], [some rw0.cs, some (runF a2 (S.take i)).al.cs], 0⟩) (fun i => S.length - i) 0 (Nat.zero_le _) ?_ (fun i hi => ?_)
       · refine Weak.pick [5, 7] (by decide) (fun j hj => by omega) ?_ ?_
         · simp [LeG, LeC, LeV, ren, pickF, posOf, runF]
         · simp [pickH, pickB, pickF, posOf, ren, map_ren_rows, Alarm.cs, runF]
       obtain ⟨q1, q2, q3⟩ := runF_ok haB2 S i hi
       simp -implicitDefEqProofs -dsimp only [go_sem]
       refine condT.split (fun g1 => ?_) (fun g1 => ?_)
       · have hi' : i < S.length := by simpa using g1
         have hr := rows_at AlarmStep.csl hi'
         have hw1 : IntKind.i64.wrap (((runF a2 (S.take i)).n : Int) + 1) = (((runF a2 (S.take i)).n + 1 : Nat) : Int) := by rw [wrap_i64 (by omega) (by omega)]; omega
         have htk := runF_take (a := a2) hi'
         generalize hx : runF a2 (S.take i) = x at *
         have xp := (alarmB_ok q1).len
         have ci := (iStepAlarm_ok x.al S[i].Kind S[i].Value (by omega)).weak frzAi
         unfold runStep at htk
         (repeat ((repeat1' (first | simp -implicitDefEqProofs -dsimp only [go_sem, g1, hr, AlarmStep.cs, Alarm.cs] | simp -dsimp (disch := omega) only [wrap_i64])); repeat (with_reducible refine sideA ?_)))
         rcases hst : stepO x.al S[i].Kind S[i].Value with _ | b2
         · rw [hst] at ci htk
           simp only [alV, Option.getD_none, Option.isSome_none] at ci
           (first | refine callT.at (ci) ⟨leA, leA, trivial⟩ ?_ | refine callS.at (ci) ⟨leA, leA, trivial⟩ ?_)
           (repeat ((repeat1' (first | simp -implicitDefEqProofs -dsimp only [go_sem, Alarm.v] | simp -dsimp (disch := omega) only [wrap_i64])); repeat (with_reducible refine sideA ?_)))
           refine ⟨i + 1, hi', ?_, by omega⟩
           refine Weak.cut (2) (by simp) (by simp) ?_ ?_
           · simp [LeC, LeV, ren, cutF, htk]
           · simp [cutH, cutB, cutF, ren, map_ren_rows, Alarm.cs, htk]
         · rw [hst] at ci htk
           simp only [alV, Option.getD_some, Option.isSome_some] at ci
           (first | refine callT.at (ci) ⟨leA, leA, trivial⟩ ?_ | refine callS.at (ci) ⟨leA, leA, trivial⟩ ?_)
           (repeat ((repeat1' (first | simp -implicitDefEqProofs -dsimp only [go_sem, Alarm.v, hw1] | simp -dsimp (disch := omega) only [wrap_i64])); repeat (with_reducible refine sideA ?_)))
           refine ⟨i + 1, hi', ?_, by omega⟩
           refine Weak.cut (2) (by simp) (by simp) ?_ ?_
           · simp [LeC, LeV, ren, cutF, htk]
           · simp [cutH, cutB, cutF, ren, map_ren_rows, Alarm.cs, htk]
       · have hi' : i = S.length := by simp at g1; omega
         subst hi'
         rw [List.take_length]
         rw [← hrw, ← hrn]
         (repeat ((repeat1' (first | simp -implicitDefEqProofs -dsimp only [go_sem, g1, Alarm.cs] | simp -dsimp (disch := omega) only [wrap_i64])); repeat (with_reducible refine sideA ?_)))
         (first | refine callT.at (vAlarm_ok rw0 (by omega)) ⟨leA, leA, trivial⟩ ?_ | refine callS.at (vAlarm_ok rw0 (by omega)) ⟨leA, leA, trivial⟩ ?_)
         (repeat ((repeat1' (first | simp -implicitDefEqProofs -dsimp only [go_sem] | simp -dsimp (disch := omega) only [wrap_i64])); repeat (with_reducible refine sideA ?_)))
         refine callS.rel [] (drawNewAlarm_ok hB) (by decide) ⟨leO, trivial⟩ rfl rfl (fun r hout hΦ => ?_)
         obtain ⟨n, rfl, rfl⟩ := hΦ
         refine ⟨trivial, ?_⟩
         (repeat ((repeat1' (first | simp -implicitDefEqProofs -dsimp only [go_sem] | simp -dsimp (disch := omega) only [wrap_i64])); repeat (with_reducible refine sideA ?_)))
         have hin := iNewAF n
         have hsn := sNewAF n
         have n1 := naA_len n
         simp only [naV] at hin hsn
         generalize naA n = nw at hin hsn n1
         generalize inB' n 0 1000000 = nb at hin hsn
         (first | refine callT.at (hin) ⟨leA, trivial⟩ ?_ | refine callS.at (hin) ⟨leA, trivial⟩ ?_)
         (repeat ((repeat1' (first | simp -implicitDefEqProofs -dsimp only [go_sem, Alarm.v] | simp -dsimp (disch := omega) only [wrap_i64])); repeat (with_reducible refine sideA ?_)))
         (first | refine callT.at (hsn) ⟨leA, trivial⟩ ?_ | refine callS.at (hsn) ⟨leA, trivial⟩ ?_)
         (repeat ((repeat1' (first | simp -implicitDefEqProofs -dsimp only [go_sem, Alarm.v] | simp -dsimp (disch := omega) only [wrap_i64])); repeat (with_reducible refine sideA ?_)))
         cases nb with
         | false =>
           (repeat ((repeat1' (first | simp -implicitDefEqProofs -dsimp only [go_sem] | simp -dsimp (disch := omega) only [wrap_i64])); repeat (with_reducible refine sideA ?_)))
           repeat' (first | ((first | refine callT.at (vAlarm_ok nw (by omega)) ⟨leA, leA, trivial⟩ ?_ | refine callS.at (vAlarm_ok nw (by omega)) ⟨leA, leA, trivial⟩ ?_); (repeat ((repeat1' (first | simp -implicitDefEqProofs -dsimp only [go_sem, Alarm.v] | simp -dsimp (disch := omega) only [wrap_i64])); repeat (with_reducible refine sideA ?_)))))
           exact WeakR.drop' (by simp) (by rfl)
         | true =>
           (repeat ((repeat1' (first | simp -implicitDefEqProofs -dsimp only [go_sem] | simp -dsimp (disch := omega) only [wrap_i64])); repeat (with_reducible refine sideA ?_)))
           repeat' (first | ((first | refine callT.at (vAlarm_ok nw (by omega)) ⟨leA, leA, trivial⟩ ?_ | refine callS.at (vAlarm_ok nw (by omega)) ⟨leA, leA, trivial⟩ ?_); (repeat ((repeat1' (first | simp -implicitDefEqProofs -dsimp only [go_sem, Alarm.v] | simp -dsimp (disch := omega) only [wrap_i64])); repeat (with_reducible refine sideA ?_)))))
           exact WeakR.drop' (by simp) (by rfl)
end Go.Proofs
end
section
set_option linter.unusedSimpArgs false
set_option linter.unusedVariables false
open Go.ChangeShapes Go.WideShapes
namespace Go.Lv

def ShC (P : Program) : Nat → TypeId → List V → Prop
 | 0, _, _ => False
 | n + 1, t, xs =>
   match P.underlying t with
   | some .bool => ∃ b, xs = [.bool b]
   | some (.int k) => ∃ z, xs = [.int k z] ∧ (Lit.int k z).wf = true
   | some .string => ∃ s : ByteArray, xs = [.str s] ∧ s.size ≤ maxLen
   | some (.slice e) => ∃ l cs, xs = [.sl l (P.cellsOf e) cs] ∧ l ≤ maxLen ∧ cs.length = l * P.cellsOf e ∧ ∀ i, i < l → ShC P n e ((cs.drop (i * P.cellsOf e)).take (P.cellsOf e))
   | some (.struct fs) => xs.length = P.cellsOf t ∧ ∀ f ∈ fs.toList, ShC P n f.type ((xs.drop f.offset).take (P.cellsOf f.type))
   | _ => False

def tiled (P : Program) : List Field → Nat → Nat → Bool
 | [], off, n => off == n
 | f :: fs, off, n => f.offset == off && tiled P fs (off + P.cellsOf f.type) n

def plainT (P : Program) : Nat → TypeId → Bool
 | 0, _ => false
 | n + 1, t =>
   match P.underlying t with
   | some .bool => true
   | some (.int _) => true
   | some .string => true
   | some (.slice e) => decide (0 < P.cellsOf e) && plainT P n e
   | some (.struct fs) => tiled P fs.toList 0 (P.cellsOf t) && fs.toList.all fun f => plainT P n f.type
   | _ => false

section
variable {P : Program} {w : World} {m : Nat → Nat}

def Rds (w : World) (m : Nat → Nat) (cs : List Value) (xs : List V) : Prop :=
 cs.length = xs.length ∧ ∀ i (hi : i < xs.length), RV w m [] (fun _ => False) false (cs.getD i Go.undef) xs[i]

theorem Rds.append {a b : List Value} {x y : List V} (h : Rds w m a x) (k : Rds w m b y) : Rds w m (a ++ b) (x ++ y) := by
 refine ⟨by simp [h.1, k.1], fun i hi => ?_⟩
 by_cases hlt : i < x.length
 · rw [List.getElem_append_left hlt]
   have := h.2 i hlt
   rw [List.getD_eq_getElem?_getD, List.getElem?_append_left (by rw [h.1]; exact hlt), ← List.getD_eq_getElem?_getD]
   exact this
 · rw [List.getElem_append_right (by omega)]
   have := k.2 (i - x.length) (by simp at hi; omega)
   rw [List.getD_eq_getElem?_getD, List.getElem?_append_right (by rw [h.1]; omega), ← List.getD_eq_getElem?_getD, h.1]
   exact this

theorem Rds.one {v : Value} {x : V} (h : RV w m [] (fun _ => False) false v x) : Rds w m [v] [x] :=
 ⟨rfl, fun i hi => by have : i = 0 := by simp at hi; omega
                      subst this; exact h⟩

theorem Rds.nil : Rds w m [] [] := ⟨rfl, fun i hi => by simp at hi⟩

theorem fields_sh {n : Nat} {cs : List Value} : ∀ (fs : List Field) (off : Nat), tiled P fs off cs.length = true → off ≤ cs.length →
   (∀ f ∈ fs, ∃ xs, Rds w m ((cs.drop f.offset).take (P.cellsOf f.type)) xs ∧ ShC P n f.type xs) →
   ∃ ys, Rds w m (cs.drop off) ys ∧ ∀ f ∈ fs, off ≤ f.offset ∧ ShC P n f.type ((ys.drop (f.offset - off)).take (P.cellsOf f.type))
 | [], off, ht, _, _ => by
   simp [tiled] at ht
   subst ht
   refine ⟨[], ?_, fun f hf => by simp at hf⟩
   rw [List.drop_of_length_le (Nat.le_refl _)]
   exact Rds.nil
 | f :: fs, off, ht, hle, h => by
   simp only [tiled, Bool.and_eq_true, beq_iff_eq] at ht
   obtain ⟨rfl, ht⟩ := ht
   have hlen : ∀ (fs : List Field) (o : Nat), tiled P fs o cs.length = true → o ≤ cs.length := by
     intro fs
     induction fs with
     | nil => intro o ht; simp [tiled] at ht; omega
     | cons g fs ih =>
       intro o ht
       simp only [tiled, Bool.and_eq_true, beq_iff_eq] at ht
       have := ih _ ht.2; omega
   have hk := hlen fs _ ht
   obtain ⟨x, hx1, hx2⟩ := h f (by simp)
   obtain ⟨ys, hy1, hy2⟩ := fields_sh fs _ ht hk (fun g hg => h g (by simp [hg]))
   have hxl : x.length = P.cellsOf f.type := by rw [← hx1.1]; simp; omega
   refine ⟨x ++ ys, ?_, fun g hg => ?_⟩
   · have : cs.drop f.offset = (cs.drop f.offset).take (P.cellsOf f.type) ++ cs.drop (f.offset + P.cellsOf f.type) := by
       rw [← List.drop_drop, List.take_append_drop]
     rw [this]
     exact hx1.append hy1
   · rcases List.mem_cons.1 hg with rfl | hg
     · refine ⟨Nat.le_refl _, ?_⟩
       rw [Nat.sub_self, List.drop_zero, List.take_append_of_le_length (by omega), List.take_of_length_le (by omega)]
       exact hx2
     · obtain ⟨h1, h2⟩ := hy2 g hg
       refine ⟨by omega, ?_⟩
       have : (x ++ ys).drop (g.offset - f.offset) = ys.drop (g.offset - (f.offset + P.cellsOf f.type)) := by
         rw [List.drop_append, List.drop_of_length_le (by omega), List.nil_append]
         congr 1
         omega
       rw [this]
       exact h2

theorem elems_sh {n e : Nat} {b off len : Nat} (h : ∀ i, i < len → ∃ cs xs, cs.length = P.cellsOf e ∧ (∀ j, j < P.cellsOf e → w.cell? ⟨b, off + (i * P.cellsOf e + j), none⟩ = cs[j]?) ∧ Rds w m cs xs ∧ ShC P n e xs) :
   ∀ k, k ≤ len → ∃ xs : List V, xs.length = k * P.cellsOf e ∧ (∀ j (hj : j < xs.length), ∃ v, w.cell? ⟨b, off + j, none⟩ = some v ∧ RV w m [] (fun _ => False) false v xs[j]) ∧
     ∀ i, i < k → ShC P n e ((xs.drop (i * P.cellsOf e)).take (P.cellsOf e))
 | 0, _ => ⟨[], by simp, fun j hj => by simp at hj, fun i hi => by omega⟩
 | k + 1, hk => by
   obtain ⟨xs, h1, h2, h3⟩ := elems_sh h k (by omega)
   obtain ⟨cs, ys, g1, g2, g3, g4⟩ := h k (by omega)
   have hyl : ys.length = P.cellsOf e := by rw [← g3.1, g1]
   refine ⟨xs ++ ys, by simp [h1, hyl, Nat.add_mul], fun j hj => ?_, fun i hi => ?_⟩
   · by_cases hlt : j < xs.length
     · rw [List.getElem_append_left hlt]
       exact h2 j hlt
     · rw [List.getElem_append_right (by omega)]
       have hj' : j - xs.length < ys.length := by simp at hj; omega
       have hr := g3.2 _ hj'
       have hc := g2 (j - xs.length) (by omega)
       have e1 : off + (k * P.cellsOf e + (j - xs.length)) = off + j := by omega
       rw [e1] at hc
       have hcl : j - xs.length < cs.length := by omega
       rw [List.getElem?_eq_getElem hcl] at hc
       refine ⟨_, hc, ?_⟩
       simpa [List.getD_eq_getElem?_getD, hcl] using hr
   · by_cases e2 : i = k
     · subst e2
       rw [← h1, List.drop_left, List.take_of_length_le (by omega)]
       exact g4
     · have hm : i * P.cellsOf e + P.cellsOf e ≤ xs.length := mul_room (n := k) (by omega) h1
       rw [List.drop_append_of_le_length (by omega), List.take_append_of_le_length (by simp; omega)]
       exact h3 i (by omega)

theorem trod_sh {H : Type} {enc : TypeId × Value → H} {spare : Nat → Bool} {held : Bool} : ∀ (n : Nat) (fuel : Nat) (t : TypeId) (cs : List Value) (x : DataW H × List MemPlace),
   DataW.trod enc P w 0 spare held fuel t cs = some x → plainT P n t = true → ∃ xs, Rds w m cs xs ∧ ShC P n t xs
 | 0, fuel, t, cs, x, _, hp => by simp [plainT] at hp
 | n + 1, fuel, t, cs, x, hx, hp => by
   unfold plainT at hp
   split at hp
   · rename_i hu
     obtain ⟨b, rfl, _⟩ := DataW.trod_bool hu hx
     exact ⟨[.bool b], Rds.one (.bool b), by unfold ShC; rw [hu]; exact ⟨b, rfl⟩⟩
   · rename_i k hu
     obtain ⟨z, rfl, _, hw⟩ := DataW.trod_int hu hx
     exact ⟨[.int k z], Rds.one (.int k z), by unfold ShC; rw [hu]; exact ⟨z, rfl, hw⟩⟩
   · rename_i hu
     obtain ⟨s, rfl, _, hs⟩ := DataW.trod_string hu hx
     exact ⟨[.str s], Rds.one (.str s), by unfold ShC; rw [hu]; exact ⟨s, rfl, hs⟩⟩
   · rename_i e hu
     simp only [Bool.and_eq_true, decide_eq_true_eq] at hp
     obtain ⟨hpos, hp⟩ := hp
     rcases Deep.open_slice hu hx with ⟨rfl, _⟩ | ⟨a, len, cap, mm, f, D, Pl, rfl, _, hle, hcap, hmm, _, hel⟩
     · refine ⟨[.sl 0 (P.cellsOf e) []], Rds.one (.slz _ _ _), ?_⟩
       unfold ShC; rw [hu]
       exact ⟨0, [], rfl, Nat.zero_le _, by simp, fun i hi => by omega⟩
     · by_cases h0 : len = 0
       · subst h0
         refine ⟨[.sl 0 (P.cellsOf e) []], Rds.one (.slz _ _ _), ?_⟩
         unfold ShC; rw [hu]
         exact ⟨0, [], rfl, Nat.zero_le _, by simp, fun i hi => by omega⟩
       · have hml : len ≤ mm := by rw [hmm]; split <;> omega
         obtain ⟨b, off, spot⟩ := a
         have hspot : spot = none := by
           obtain ⟨cs', hc, _⟩ := hel 0 (by omega)
           obtain ⟨_, hcl, hat⟩ := World.cells?_some hc
           have h1 := hat 0 hpos
           rw [List.getElem?_eq_getElem (by omega)] at h1
           simpa [Addr.add] using World.cell?_spot h1
         subst hspot
         have hall : ∀ i, i < len → ∃ cs xs, cs.length = P.cellsOf e ∧ (∀ j, j < P.cellsOf e → w.cell? ⟨b, off + (i * P.cellsOf e + j), none⟩ = cs[j]?) ∧ Rds w m cs xs ∧ ShC P n e xs := by
           intro i hi
           obtain ⟨cs', hc, ht⟩ := hel i (by omega)
           obtain ⟨_, hcl, hat⟩ := World.cells?_some hc
           obtain ⟨xs, h1, h2⟩ := trod_sh n _ e cs' _ ht hp
           refine ⟨cs', xs, hcl, fun j hj => ?_, h1, h2⟩
           have := hat j hj
           rw [Addr.add_lit, Addr.add_lit] at this
           rw [← this, Nat.add_assoc]
         obtain ⟨xs, h1, h2, h3⟩ := elems_sh hall len (Nat.le_refl _)
         refine ⟨[.sl len (P.cellsOf e) xs], Rds.one (.sl b off len cap (P.cellsOf e) xs (fun j => (w.cell? ⟨b, off + j, none⟩).getD Go.undef) h1 (fun _ h => h) hle (fun j hj => ?_) (fun j hj => ?_)), ?_⟩
         · obtain ⟨v, hv, _⟩ := h2 j hj
           simp [hv]
         · obtain ⟨v, hv, hr⟩ := h2 j hj
           simpa [hv] using hr
         · unfold ShC; rw [hu]
           exact ⟨len, xs, rfl, by omega, h1, h3⟩
   · rename_i fs hu
     simp only [Bool.and_eq_true, List.all_eq_true] at hp
     obtain ⟨xs, f, _, _, hl, hxl, hf⟩ := DataW.trod_struct hu hx
     have hfs : ∀ g ∈ fs.toList, ∃ ys, Rds w m ((cs.drop g.offset).take (P.cellsOf g.type)) ys ∧ ShC P n g.type ys := by
       intro g hg
       obtain ⟨i, hi, rfl⟩ := List.getElem_of_mem hg
       have hi' : i < fs.size := by simpa using hi
       have h1 := hf i fs[i] (Array.getElem?_eq_getElem hi')
       rw [List.getElem?_eq_getElem (by omega)] at h1
       exact trod_sh n _ _ _ _ (by simpa using h1) (hp.2 _ hg)
     obtain ⟨ys, h1, h2⟩ := fields_sh fs.toList 0 (by rw [hl]; exact hp.1) (Nat.zero_le _) hfs
     rw [List.drop_zero] at h1
     refine ⟨ys, h1, ?_⟩
     unfold ShC; rw [hu]
     exact ⟨by rw [← h1.1, hl], fun g hg => by simpa using (h2 g hg).2⟩
   · cases hp

end
section
variable {P : Program} {W : World}

theorem Rds.get {m : Nat → Nat} {a : List Value} {x : List V} (h : Rds W m a x) : a.length = x.length := h.1

theorem arg_one {H : Type} {enc : TypeId × Value → H} {spare : Nat → Bool} {held : Bool} {n : Nat} {t : TypeId} {v : Value} {d : DataW H} {p : List MemPlace} (m : Nat → Nat)
   (hv : v.cells = #[v]) (h : DataW.Trod enc P W 0 spare held t v d p) (hp : plainT P n t = true) : ∃ x, RV W m [] (fun _ => False) true v x ∧ ShC P n t [x] := by
 obtain ⟨fuel, hf⟩ := h
 rw [hv] at hf
 obtain ⟨xs, h1, h2⟩ := trod_sh (m := m) n fuel t _ _ hf hp
 match xs, h1 with
 | [x], h1 => exact ⟨x, by have := h1.2 0 (by simp); exact this.weak, h2⟩
 | [], h1 => simp [Rds] at h1
 | _ :: _ :: _, h1 => simp [Rds] at h1

theorem law_walk {f : FuncId} {xs : List V} {vs : Array Value} (m : Nat → Nat) (hc : Ctr P f xs [] (.bool true) []) (hgl : GL W (fun _ => False)) (hsz : vs.size = xs.length)
   (hr : ∀ i (hi : i < xs.length), RV W m [] (fun _ => False) true (vs.getD i Go.undef) xs[i]) :
   Calls P f vs W fun e w' => e = .returned (.bool true) ∧ RowKit.Below W.heap.size W w' := by
 refine (hc.2 W vs m (fun _ => False) ⟨fun i j ci cj h => by simp at h, fun id cs h => by simp at h, fun id cs h => by simp at h⟩ (fun b h => h.elim) hgl hsz hr).mono ?_
 rintro e w' ⟨v, m', rfl, hE, _, hv, _⟩
 refine ⟨by cases hv; rfl, hE.os, hE.tape, hE.output, hE.size, fun k hk => hE.block k hk (fun ⟨id, cs, h, _⟩ => by simp at h)⟩

end
end Go.Lv
end
section
set_option linter.unusedSimpArgs false
set_option linter.unusedVariables false
namespace Go.Lv

theorem shC_u8 {P : Program} {t : TypeId} {n : Nat} {xs : List V} (hs : P.underlying t = some (.int .u8)) (h : ShC P (n + 1) t xs) : ∃ z, xs = [.int .u8 z] ∧ 0 ≤ z ∧ z ≤ 255 := by
 simp only [ShC, hs] at h
 obtain ⟨z, h1, h2⟩ := h
 refine ⟨z, h1, ?_⟩
 simp [Lit.wf, IntKind.min, IntKind.max, IntKind.signed, IntKind.bits] at h2
 exact h2

theorem shC_list {P : Program} {t e : TypeId} {n : Nat} {xs : List V} (hs : P.underlying t = some (.slice e)) {α : Type} {cs : α → List V} {w : Nat} (hw : P.cellsOf e = w) {ok : α → Prop}
   (he : ∀ ys, ShC P n e ys → ∃ a, ys = cs a ∧ ok a) (h : ShC P (n + 1) t xs) : ∃ L : List α, xs = [.sl L.length w (rows cs L)] ∧ lstR ok L := by
 simp only [ShC, hs, hw] at h
 obtain ⟨l, ys, rfl, hl, hlen, hel⟩ := h
 suffices ∀ (l : Nat) (ys : List V), ys.length = l * w → (∀ i, i < l → ShC P n e ((ys.drop (i * w)).take w)) → ∃ L : List α, L.length = l ∧ rows cs L = ys ∧ ∀ x ∈ L, ok x by
   obtain ⟨L, h1, h2, h3⟩ := this l ys hlen hel
   exact ⟨L, by rw [h1, h2], by rw [h1]; exact hl, h3⟩
 intro l
 induction l with
 | zero => intro ys h1 _; exact ⟨[], rfl, by simp at h1; simp [rows, h1], fun x hx => by simp at hx⟩
 | succ l ih =>
   intro ys h1 h2
   obtain ⟨a, ha, hoa⟩ := he _ (h2 0 (by omega))
   rw [Nat.zero_mul, List.drop_zero] at ha
   obtain ⟨L, h3, h4, h5⟩ := ih (ys.drop w) (by rw [List.length_drop, h1, Nat.succ_mul]; omega) (fun i hi => by
     have := h2 (i + 1) (by omega)
     rw [List.drop_drop]
     rwa [Nat.succ_mul, Nat.add_comm] at this)
   refine ⟨a :: L, by simp [h3], ?_, ?_⟩
   · rw [rows_cons, h4, ← ha, List.take_append_drop]
   · intro x hx
     rcases List.mem_cons.1 hx with rfl | hx
     · exact hoa
     · exact h5 x hx

end Go.Lv
end
