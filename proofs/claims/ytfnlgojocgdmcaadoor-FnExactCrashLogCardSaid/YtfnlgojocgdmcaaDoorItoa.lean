/-
  Numerals: what the library's and the reference's functions make. Conditions: none.
-/
import Derived.Test.YtfnlgojocgdmcaaDoorLvT
import Derived.Test.YtfnlgojocgdmcaaDoorB1
import Derived.Test.YtfnlgojocgdmcaaDoorShelf
import Derived.Lib.AppendIntMem
set_option linter.unusedSimpArgs false
set_option linter.unusedVariables false
set_option maxRecDepth 100000
namespace Go.Proofs
open Go.Lv
theorem tab_pow10 {w : World} {av : Nat → Prop} (h : GL w av) : Lib.TabIs Tryd.prog w "internal/strconv.uint64pow10" .u64 Lib.pow10Tab := by
  obtain ⟨_, T, fr, h2⟩ := h _ (List.mem_singleton.2 rfl)
  have hg : Tryd.prog.globalNamed "internal/strconv.uint64pow10" = some 1 := by kernel_rfl
  unfold Lib.TabIs World.var?
  rw [hg, Option.bind_some, h2]
  rfl
theorem gl_of_tab {W : World} (h : Lib.TabIs Tryd.prog W "internal/strconv.uint64pow10" .u64 Lib.pow10Tab) : GL W (fun _ => False) := by
  intro p hp
  have hp' := List.mem_singleton.1 hp
  subst hp'
  have hg : Tryd.prog.globalNamed "internal/strconv.uint64pow10" = some 1 := by kernel_rfl
  unfold Lib.TabIs World.var? at h
  rw [hg, Option.bind_some] at h
  dsimp only at h ⊢
  split at h
  · rename_i cs T fr hc
    refine ⟨fun h => h, T, fr, ?_⟩
    rw [hc]
    simp only [Option.some.injEq] at h
    subst h
    rfl
  · cases h
theorem itoaLib_ok (n : Int) (hn : i64R n) : Ctr Tryd.prog 44 [.int .i64 n] [] (.str (num n)) [] := by
  refine ⟨Tryd.okF44, fun w vs m av hH hav hgl hsz ha => ?_⟩
  obtain ⟨v, rfl⟩ : ∃ v, vs = #[v] := by
    match vs, hsz with
    | ⟨[v]⟩, _ => exact ⟨v, rfl⟩
  have h0 := ha 0 (by simp)
  simp only [List.getElem_cons_zero] at h0
  have hv : v = .int .i64 n := by
    have := rv_int h0
    simpa using this
  subst hv
  refine (Tryd.strconv_Itoa n hn.1 hn.2 w (tab_pow10 hgl)).mono ?_
  rintro e w' ⟨rfl, k, os, rfl⟩
  refine ⟨_, m, rfl, ?_, ⟨fun i j ci cj h => by simp at h, fun id cs h => by simp at h, fun id cs h => by simp at h⟩, .str _, fun id cs h => by simp at h⟩
  have hb : ∀ g, g < w.heap.size → (Sort.grow (w.drewN k) os).heap[g]? = w.heap[g]? := fun g hg => Lib.heap_grow_old w k os g hg
  exact ⟨rfl, rfl, rfl, Lib.size_grow w k os, fun g hg _ => hb g hg, fun g hg => Nat.le_of_eq (rowSize_of_block (hb g hg)).symm⟩
theorem itoa_ok (n : Int) (hn : i64R n) : Ctr Tryd.prog 66 [.int .i64 n] [] (.str (num n)) [] := by
  refine Ctr.intro Tryd.mixed Tryd.func66 rfl Tryd.okF66 ?_
  simp -implicitDefEqProofs -dsimp only [go_sem, Nat.reduceSub, Nat.reduceAdd, Nat.reduceMul, Nat.reduceLT, Nat.reduceLeDiff, Nat.reduceEqDiff, Nat.reduceDiv, Nat.reduceMod, Int.reduceToNat, Int.reduceLE, Int.reduceLT, Int.reduceBEq, Int.reduceBNe, Int.reduceNeg, Int.reduceAdd, Int.reduceSub, Int.reduceMul, reduceCtorEq, Tryd.ntmps66, Tryd.results66]
  (first | refine callT.at (itoaLib_ok n hn) ⟨leA, trivial⟩ ?_ | refine callS.at (itoaLib_ok n hn) ⟨leA, trivial⟩ ?_)
  simp -implicitDefEqProofs -dsimp only [go_sem, Nat.reduceSub, Nat.reduceAdd, Nat.reduceMul, Nat.reduceLT, Nat.reduceLeDiff, Nat.reduceEqDiff, Nat.reduceDiv, Nat.reduceMod, Int.reduceToNat, Int.reduceLE, Int.reduceLT, Int.reduceBEq, Int.reduceBNe, Int.reduceNeg, Int.reduceAdd, Int.reduceSub, Int.reduceMul, reduceCtorEq]
  exact WeakR.drop' rfl (by rfl)
theorem l1Num_nat : ∀ (k u : Nat), u < k → u ≤ 9223372036854775807 → Ctr Tryd.prog 64 [.int .i64 u] [] (.str (num u)) [] := by
  intro k
  induction k with
  | zero => intro u h; omega
  | succ k ih =>
    intro u hu hb
    refine Ctr.intro Tryd.mixed Tryd.func64 rfl Tryd.okF64 ?_
    simp -implicitDefEqProofs -dsimp only [go_sem, Nat.reduceSub, Nat.reduceAdd, Nat.reduceMul, Nat.reduceLT, Nat.reduceLeDiff, Nat.reduceEqDiff, Nat.reduceDiv, Nat.reduceMod, Int.reduceToNat, Int.reduceLE, Int.reduceLT, Int.reduceBEq, Int.reduceBNe, Int.reduceNeg, Int.reduceAdd, Int.reduceSub, Int.reduceMul, reduceCtorEq, Tryd.ntmps64, Tryd.results64]
    refine condT.split (fun h => absurd h (by simp)) (fun h => ?_)
    simp -implicitDefEqProofs -dsimp only [go_sem, Nat.reduceSub, Nat.reduceAdd, Nat.reduceMul, Nat.reduceLT, Nat.reduceLeDiff, Nat.reduceEqDiff, Nat.reduceDiv, Nat.reduceMod, Int.reduceToNat, Int.reduceLE, Int.reduceLT, Int.reduceBEq, Int.reduceBNe, Int.reduceNeg, Int.reduceAdd, Int.reduceSub, Int.reduceMul, reduceCtorEq, h]
    refine condT.split (fun h2 => ?_) (fun h2 => ?_)
    · have hlt : u < 10 := by simp at h2; omega
      (repeat ((repeat1' (first | simp -implicitDefEqProofs -dsimp only [go_sem, Nat.reduceSub, Nat.reduceAdd, Nat.reduceMul, Nat.reduceLT, Nat.reduceLeDiff, Nat.reduceEqDiff, Nat.reduceDiv, Nat.reduceMod, Int.reduceToNat, Int.reduceLE, Int.reduceLT, Int.reduceBEq, Int.reduceBNe, Int.reduceNeg, Int.reduceAdd, Int.reduceSub, Int.reduceMul, reduceCtorEq, h2] | simp -implicitDefEqProofs -dsimp (disch := omega) only [wrap_i64])); repeat (with_reducible refine sideA ?_)))
      have e : ((u : Int) + 1).toNat = u + 1 := by omega
      have e2 : ((#[48, 49, 50, 51, 52, 53, 54, 55, 56, 57] : Array UInt8).size : Int) = 10 := rfl
      rw [e, e2]
      refine ⟨⟨by omega, by omega, by omega⟩, WeakR.drop' ?_ (by rfl)⟩
      rw [num_one hlt, digits]
    · have hge : ¬ u < 10 := by simp at h2; omega
      have t1 : Int.tdiv (u : Int) 10 = ((u / 10 : Nat) : Int) := rfl
      have t2 : Int.tmod (u : Int) 10 = ((u % 10 : Nat) : Int) := rfl
      (repeat ((repeat1' (first | simp -implicitDefEqProofs -dsimp only [go_sem, Nat.reduceSub, Nat.reduceAdd, Nat.reduceMul, Nat.reduceLT, Nat.reduceLeDiff, Nat.reduceEqDiff, Nat.reduceDiv, Nat.reduceMod, Int.reduceToNat, Int.reduceLE, Int.reduceLT, Int.reduceBEq, Int.reduceBNe, Int.reduceNeg, Int.reduceAdd, Int.reduceSub, Int.reduceMul, reduceCtorEq, h2, t1, t2] | simp -implicitDefEqProofs -dsimp (disch := omega) only [wrap_i64])); repeat (with_reducible refine sideA ?_)))
      (first | refine callT.at (ih (u / 10) (by omega) (by omega)) ⟨leA, trivial⟩ ?_ | refine callS.at (ih (u / 10) (by omega) (by omega)) ⟨leA, trivial⟩ ?_)
      have e : (((u % 10 : Nat) : Int) + 1).toNat = u % 10 + 1 := by omega
      have e2 : ((#[48, 49, 50, 51, 52, 53, 54, 55, 56, 57] : Array UInt8).size : Int) = 10 := rfl
      have hs := num_size' (n := ((u / 10 : Nat) : Int)) (by omega) (by omega)
      have hd : ({ data := #[48, 49, 50, 51, 52, 53, 54, 55, 56, 57] } : ByteArray).extract (u % 10) (u % 10 + 1) = ⟨#[UInt8.ofNat (48 + u % 10)]⟩ := digit_at (u % 10) (by omega)
      (repeat ((repeat1' (first | simp -implicitDefEqProofs -dsimp only [go_sem, Nat.reduceSub, Nat.reduceAdd, Nat.reduceMul, Nat.reduceLT, Nat.reduceLeDiff, Nat.reduceEqDiff, Nat.reduceDiv, Nat.reduceMod, Int.reduceToNat, Int.reduceLE, Int.reduceLT, Int.reduceBEq, Int.reduceBNe, Int.reduceNeg, Int.reduceAdd, Int.reduceSub, Int.reduceMul, reduceCtorEq, e, e2, hd, ba_size] | simp -implicitDefEqProofs -dsimp (disch := omega) only [wrap_i64])); repeat (with_reducible refine sideA ?_)))
      refine ⟨by simp only [List.size_toArray, List.length_cons, List.length_nil]; omega, WeakR.drop' ?_ (by rfl)⟩
      rw [num_more hge, digit_at (u % 10) (by omega)]
theorem l1Num_ok (n : Int) (h0 : -9223372036854775807 ≤ n) (h1 : n ≤ 9223372036854775807) : Ctr Tryd.prog 64 [.int .i64 n] [] (.str (num n)) [] := by
  rcases Int.lt_or_le n 0 with hn | hn
  · obtain ⟨u, rfl⟩ : ∃ u : Nat, n = -(u : Int) := ⟨n.natAbs, by omega⟩
    refine Ctr.intro Tryd.mixed Tryd.func64 rfl Tryd.okF64 ?_
    simp -implicitDefEqProofs -dsimp only [go_sem, Nat.reduceSub, Nat.reduceAdd, Nat.reduceMul, Nat.reduceLT, Nat.reduceLeDiff, Nat.reduceEqDiff, Nat.reduceDiv, Nat.reduceMod, Int.reduceToNat, Int.reduceLE, Int.reduceLT, Int.reduceBEq, Int.reduceBNe, Int.reduceNeg, Int.reduceAdd, Int.reduceSub, Int.reduceMul, reduceCtorEq, Tryd.ntmps64, Tryd.results64]
    refine condT.split (fun h => ?_) (fun h => absurd h (by simp; omega))
    have e : IntKind.i64.wrap (0 - -(u : Int)) = (u : Int) := by rw [wrap_i64 (by omega) (by omega)]; omega
    simp -implicitDefEqProofs -dsimp only [go_sem, Nat.reduceSub, Nat.reduceAdd, Nat.reduceMul, Nat.reduceLT, Nat.reduceLeDiff, Nat.reduceEqDiff, Nat.reduceDiv, Nat.reduceMod, Int.reduceToNat, Int.reduceLE, Int.reduceLT, Int.reduceBEq, Int.reduceBNe, Int.reduceNeg, Int.reduceAdd, Int.reduceSub, Int.reduceMul, reduceCtorEq, h, e]
    (first | refine callT.at (l1Num_nat (u + 1) u (by omega) (by omega)) ⟨leA, trivial⟩ ?_ | refine callS.at (l1Num_nat (u + 1) u (by omega) (by omega)) ⟨leA, trivial⟩ ?_)
    have hs := num_size' (n := (u : Int)) (by omega) (by omega)
    simp -implicitDefEqProofs -dsimp only [go_sem, Nat.reduceSub, Nat.reduceAdd, Nat.reduceMul, Nat.reduceLT, Nat.reduceLeDiff, Nat.reduceEqDiff, Nat.reduceDiv, Nat.reduceMod, Int.reduceToNat, Int.reduceLE, Int.reduceLT, Int.reduceBEq, Int.reduceBNe, Int.reduceNeg, Int.reduceAdd, Int.reduceSub, Int.reduceMul, reduceCtorEq, ba_size]
    refine ⟨by simp; omega, WeakR.drop' ?_ (by rfl)⟩
    rw [num_neg (by omega)]
  · obtain ⟨u, rfl⟩ : ∃ u : Nat, n = u := ⟨n.toNat, by omega⟩
    exact l1Num_nat (u + 1) u (by omega) (by omega)
end Go.Proofs
