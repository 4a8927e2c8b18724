/-
  A part of the proof: texts put together by a program of the prover. Conditions: none.
-/
import Derived.Test.YtgnnoacaghelhaaDoorZWeeksLaw7
import Derived.Lib.AppendIntMem
import Derived.ProofKit
import Derived.Deep.Slices
set_option linter.unusedSimpArgs false
set_option linter.unusedVariables false
section
set_option maxRecDepth 100000
namespace Go.Proofs
open Go.Lv
theorem tab_pow10 {w : World} {av : Nat → Prop} (h : GL w av) : Lib.TabIs Tryd.prog w "internal/strconv.uint64pow10" .u64 Lib.pow10Tab := by
 obtain ⟨_, T, fr, h2⟩ := h _ (List.mem_singleton.2 rfl)
 have hg : Tryd.prog.globalNamed "internal/strconv.uint64pow10" = some 5 := by kernel_rfl
 unfold Lib.TabIs World.var?
 rw [hg, Option.bind_some, h2]
 rfl
theorem gl_of_tab {W : World} (h : Lib.TabIs Tryd.prog W "internal/strconv.uint64pow10" .u64 Lib.pow10Tab) : GL W (fun _ => False) := by
 intro p hp
 have hp' := List.mem_singleton.1 hp
 subst hp'
 have hg : Tryd.prog.globalNamed "internal/strconv.uint64pow10" = some 5 := by kernel_rfl
 unfold Lib.TabIs World.var? at h
 rw [hg, Option.bind_some] at h
 dsimp only at h ⊢
 split at h
 · rename_i cs T fr hc
   refine ⟨fun h => h, T, fr, ?_⟩
   rw [hc]
   simp only [Option.some.injEq] at h
   subst h
   rfl
 · cases h
theorem itoaLib_ok (n : Int) (hn : i64R n) : Ctr Tryd.prog 122 [.int .i64 n] [] (.str (num n)) [] := by
 refine ⟨Tryd.okF122, fun w vs m av hH hav hgl hsz ha => ?_⟩
 obtain ⟨v, rfl⟩ : ∃ v, vs = #[v] := by
   match vs, hsz with
   | ⟨[v]⟩, _ => exact ⟨v, rfl⟩
 have h0 := ha 0 (by simp)
 simp only [List.getElem_cons_zero] at h0
 have hv : v = .int .i64 n := by
   have := rv_int h0
   simpa using this
 subst hv
 refine (Tryd.strconv_Itoa n hn.1 hn.2 w (tab_pow10 hgl)).mono ?_
 rintro e w' ⟨rfl, k, os, rfl⟩
 refine ⟨_, m, rfl, ?_, ⟨fun i j ci cj h => by simp at h, fun id cs h => by simp at h, fun id cs h => by simp at h⟩, .str _, fun id cs h => by simp at h⟩
 have hb : ∀ g, g < w.heap.size → (Sort.grow (w.drewN k) os).heap[g]? = w.heap[g]? := fun g hg => Lib.heap_grow_old w k os g hg
 exact ⟨rfl, rfl, rfl, Lib.size_grow w k os, fun g hg _ => hb g hg, fun g hg => Nat.le_of_eq (rowSize_of_block (hb g hg)).symm⟩
theorem itoa_ok (n : Int) (hn : i64R n) : Ctr Tryd.prog 67 [.int .i64 n] [] (.str (num n)) [] := by
 refine Ctr.intro Tryd.mixed Tryd.func67 rfl Tryd.okF67 ?_
 simp -implicitDefEqProofs -dsimp only [go_sem, Tryd.ntmps67, Tryd.results67]
 (first | refine callT.at (itoaLib_ok n hn) ⟨leA, trivial⟩ ?_ | refine callS.at (itoaLib_ok n hn) ⟨leA, trivial⟩ ?_)
 simp -implicitDefEqProofs -dsimp only [go_sem]
 exact WeakR.drop' rfl (by rfl)
theorem l1Num_nat : ∀ (k u : Nat), u < k → u ≤ 9223372036854775807 → Ctr Tryd.prog 69 [.int .i64 u] [] (.str (num u)) [] := by
 intro k
 induction k with
 | zero => intro u h; omega
 | succ k ih =>
   intro u hu hb
   refine Ctr.intro Tryd.mixed Tryd.func69 rfl Tryd.okF69 ?_
   simp -implicitDefEqProofs -dsimp only [go_sem, Tryd.ntmps69, Tryd.results69]
   refine condT.split (fun h => absurd h (by simp)) (fun h => ?_)
   simp -implicitDefEqProofs -dsimp only [go_sem, h]
   refine condT.split (fun h2 => ?_) (fun h2 => ?_)
   · have hlt : u < 10 := by simp at h2; omega
     (repeat ((repeat1' (first | simp -implicitDefEqProofs -dsimp only [go_sem, h2] | simp -dsimp (disch := omega) only [wrap_i64])); repeat (with_reducible refine sideA ?_)))
     have e : ((u : Int) + 1).toNat = u + 1 := by omega
     have e2 : ((#[48, 49, 50, 51, 52, 53, 54, 55, 56, 57] : Array UInt8).size : Int) = 10 := rfl
     rw [e, e2]
     refine ⟨⟨by omega, by omega, by omega⟩, WeakR.drop' ?_ (by rfl)⟩
     rw [num_one hlt, digits]
   · have hge : ¬ u < 10 := by simp at h2; omega
     have t1 : Int.tdiv (u : Int) 10 = ((u / 10 : Nat) : Int) := rfl
     have t2 : Int.tmod (u : Int) 10 = ((u % 10 : Nat) : Int) := rfl
     (repeat ((repeat1' (first | simp -implicitDefEqProofs -dsimp only [go_sem, h2, t1, t2] | simp -dsimp (disch := omega) only [wrap_i64])); repeat (with_reducible refine sideA ?_)))
     (first | refine callT.at (ih (u / 10) (by omega) (by omega)) ⟨leA, trivial⟩ ?_ | refine callS.at (ih (u / 10) (by omega) (by omega)) ⟨leA, trivial⟩ ?_)
     have e : (((u % 10 : Nat) : Int) + 1).toNat = u % 10 + 1 := by omega
     have e2 : ((#[48, 49, 50, 51, 52, 53, 54, 55, 56, 57] : Array UInt8).size : Int) = 10 := rfl
     have hs := num_size' (n := ((u / 10 : Nat) : Int)) (by omega) (by omega)
     have hd : ({ data := #[48, 49, 50, 51, 52, 53, 54, 55, 56, 57] } : ByteArray).extract (u % 10) (u % 10 + 1) = ⟨#[UInt8.ofNat (48 + u % 10)]⟩ := digit_at (u % 10) (by omega)
     (repeat ((repeat1' (first | simp -implicitDefEqProofs -dsimp only [go_sem, e, e2, hd, ba_size] | simp -dsimp (disch := omega) only [wrap_i64])); repeat (with_reducible refine sideA ?_)))
     refine ⟨by simp only [List.size_toArray, List.length_cons, List.length_nil]; omega, WeakR.drop' ?_ (by rfl)⟩
     rw [num_more hge, digit_at (u % 10) (by omega)]
theorem l1Num_ok (n : Int) (h0 : -9223372036854775807 ≤ n) (h1 : n ≤ 9223372036854775807) : Ctr Tryd.prog 69 [.int .i64 n] [] (.str (num n)) [] := by
 rcases Int.lt_or_le n 0 with hn | hn
 · obtain ⟨u, rfl⟩ : ∃ u : Nat, n = -(u : Int) := ⟨n.natAbs, by omega⟩
   refine Ctr.intro Tryd.mixed Tryd.func69 rfl Tryd.okF69 ?_
   simp -implicitDefEqProofs -dsimp only [go_sem, Tryd.ntmps69, Tryd.results69]
   refine condT.split (fun h => ?_) (fun h => absurd h (by simp; omega))
   have e : IntKind.i64.wrap (0 - -(u : Int)) = (u : Int) := by rw [wrap_i64 (by omega) (by omega)]; omega
   simp -implicitDefEqProofs -dsimp only [go_sem, h, e]
   (first | refine callT.at (l1Num_nat (u + 1) u (by omega) (by omega)) ⟨leA, trivial⟩ ?_ | refine callS.at (l1Num_nat (u + 1) u (by omega) (by omega)) ⟨leA, trivial⟩ ?_)
   have hs := num_size' (n := (u : Int)) (by omega) (by omega)
   simp -implicitDefEqProofs -dsimp only [go_sem, ba_size]
   refine ⟨by simp; omega, WeakR.drop' ?_ (by rfl)⟩
   rw [num_neg (by omega)]
 · obtain ⟨u, rfl⟩ : ∃ u : Nat, n = u := ⟨n.toNat, by omega⟩
   exact l1Num_nat (u + 1) u (by omega) (by omega)
end Go.Proofs
end
section
set_option maxRecDepth 100000
namespace Go.Proofs
open Go.Lv
def weekTail (r : WeekRow) : ByteArray := if 0 < r.Lost then (⟨#[44, 32]⟩ ++ num r.Lost) ++ ⟨#[32, 104, 32, 108, 111, 115, 116]⟩ else ⟨#[]⟩
def weekLine (r : WeekRow) : ByteArray := ((((((((⟨#[119, 101, 101, 107, 32]⟩ ++ num r.Week) ++ ⟨#[58, 32]⟩) ++ num r.Events) ++ ⟨#[32, 101, 118, 101, 110, 116, 115, 32, 40]⟩) ++ num r.Felt) ++ ⟨#[32, 102, 101, 108, 116, 41, 44, 32]⟩) ++ num r.Picks) ++ ⟨#[32, 112, 105, 99, 107, 115]⟩) ++ weekTail r
theorem wr_nums {r : WeekRow} (h : wrB r = true) : (num r.Week).size ≤ 21 ∧ (num r.Events).size ≤ 21 ∧ (num r.Felt).size ≤ 21 ∧ (num r.Picks).size ≤ 21 ∧ (num r.Lost).size ≤ 21 := by
 have := wrB_iff.1 h
 exact ⟨num_size' (by omega) (by omega), num_size' (by omega) (by omega), num_size' (by omega) (by omega), num_size' (by omega) (by omega), num_size' (by omega) (by omega)⟩
theorem ba_nil (x : ByteArray) : x ++ (⟨#[]⟩ : ByteArray) = x := by
 apply ByteArray.ext
 simp
theorem weekTail_size {r : WeekRow} (h : wrB r = true) : (weekTail r).size ≤ 30 := by
 have := wr_nums h
 unfold weekTail
 split
 · simp only [ByteArray.size_append, ba_size, List.size_toArray, List.length_cons, List.length_nil]; omega
 · simp [ba_size]
theorem weekLine_size {r : WeekRow} (h : wrB r = true) : (weekLine r).size ≤ 200 := by
 have := wr_nums h
 have := weekTail_size h
 unfold weekLine
 simp only [ByteArray.size_append, ba_size, List.size_toArray, List.length_cons, List.length_nil]; omega
theorem weekRowLine_ok (r : WeekRow) (h : wrB r = true) : Ctr Tryd.prog 66 [r.v] [] (.str (weekLine r)) [] := by
 have hv := wrB_iff.1 h
 have hs := wr_nums h
 refine Ctr.intro Tryd.mixed Tryd.func66 rfl Tryd.okF66 ?_
 simp -implicitDefEqProofs -dsimp only [go_sem, Tryd.ntmps66, Tryd.results66]
 simp -implicitDefEqProofs -dsimp only [go_sem, WeekRow.v]
 repeat (first | ((first | refine callT.at (itoa_ok r.Week ⟨by omega, by omega⟩) ⟨leA, trivial⟩ ?_ | refine callS.at (itoa_ok r.Week ⟨by omega, by omega⟩) ⟨leA, trivial⟩ ?_); simp -implicitDefEqProofs -dsimp only [go_sem]) | ((first | refine callT.at (itoa_ok r.Events ⟨by omega, by omega⟩) ⟨leA, trivial⟩ ?_ | refine callS.at (itoa_ok r.Events ⟨by omega, by omega⟩) ⟨leA, trivial⟩ ?_); simp -implicitDefEqProofs -dsimp only [go_sem]) | ((first | refine callT.at (itoa_ok r.Felt ⟨by omega, by omega⟩) ⟨leA, trivial⟩ ?_ | refine callS.at (itoa_ok r.Felt ⟨by omega, by omega⟩) ⟨leA, trivial⟩ ?_); simp -implicitDefEqProofs -dsimp only [go_sem]) | ((first | refine callT.at (itoa_ok r.Picks ⟨by omega, by omega⟩) ⟨leA, trivial⟩ ?_ | refine callS.at (itoa_ok r.Picks ⟨by omega, by omega⟩) ⟨leA, trivial⟩ ?_); simp -implicitDefEqProofs -dsimp only [go_sem]) | (with_reducible refine And.intro (by first | omega | (show drawOk _ = true; kernel_rfl) | (simp only [ByteArray.size_append, ba_size, List.size_toArray, List.length_cons, List.length_nil]; omega)) ?_; try (repeat1' (first | simp -implicitDefEqProofs -dsimp only [go_sem] | simp -dsimp (disch := omega) only [wrap_i64]))))
 refine condT.split (fun h1 => ?_) (fun h1 => ?_) <;> simp -implicitDefEqProofs -dsimp only [go_sem, h1]
 · repeat (first | ((first | refine callT.at (itoa_ok r.Lost ⟨by omega, by omega⟩) ⟨leA, trivial⟩ ?_ | refine callS.at (itoa_ok r.Lost ⟨by omega, by omega⟩) ⟨leA, trivial⟩ ?_); simp -implicitDefEqProofs -dsimp only [go_sem]) | (with_reducible refine And.intro (by first | omega | (show drawOk _ = true; kernel_rfl) | (simp only [ByteArray.size_append, ba_size, List.size_toArray, List.length_cons, List.length_nil]; omega)) ?_; try (repeat1' (first | simp -implicitDefEqProofs -dsimp only [go_sem] | simp -dsimp (disch := omega) only [wrap_i64]))))
   refine WeakR.drop' ?_ (by rfl)
   rw [weekLine, weekTail, if_pos (by simpa using h1)]
 · refine WeakR.drop' ?_ (by rfl)
   rw [weekLine, weekTail, if_neg (by simpa using h1), ba_nil]
theorem l26Line_ok (r : WeekRow) (h : wrB r = true) : Ctr Tryd.prog 68 [r.v] [] (.str (weekLine r)) [] := by
 have hv := wrB_iff.1 h
 have hs := wr_nums h
 refine Ctr.intro Tryd.mixed Tryd.func68 rfl Tryd.okF68 ?_
 simp -implicitDefEqProofs -dsimp only [go_sem, Tryd.ntmps68, Tryd.results68]
 simp -implicitDefEqProofs -dsimp only [go_sem, WeekRow.v]
 repeat (first | ((first | refine callT.at (l1Num_ok r.Week (by omega) (by omega)) ⟨leA, trivial⟩ ?_ | refine callS.at (l1Num_ok r.Week (by omega) (by omega)) ⟨leA, trivial⟩ ?_); simp -implicitDefEqProofs -dsimp only [go_sem]) | ((first | refine callT.at (l1Num_ok r.Events (by omega) (by omega)) ⟨leA, trivial⟩ ?_ | refine callS.at (l1Num_ok r.Events (by omega) (by omega)) ⟨leA, trivial⟩ ?_); simp -implicitDefEqProofs -dsimp only [go_sem]) | ((first | refine callT.at (l1Num_ok r.Felt (by omega) (by omega)) ⟨leA, trivial⟩ ?_ | refine callS.at (l1Num_ok r.Felt (by omega) (by omega)) ⟨leA, trivial⟩ ?_); simp -implicitDefEqProofs -dsimp only [go_sem]) | ((first | refine callT.at (l1Num_ok r.Picks (by omega) (by omega)) ⟨leA, trivial⟩ ?_ | refine callS.at (l1Num_ok r.Picks (by omega) (by omega)) ⟨leA, trivial⟩ ?_); simp -implicitDefEqProofs -dsimp only [go_sem]) | (with_reducible refine And.intro (by first | omega | (show drawOk _ = true; kernel_rfl) | (simp only [ByteArray.size_append, ba_size, List.size_toArray, List.length_cons, List.length_nil]; omega)) ?_; try (repeat1' (first | simp -implicitDefEqProofs -dsimp only [go_sem] | simp -dsimp (disch := omega) only [wrap_i64]))))
 refine condT.split (fun h1 => ?_) (fun h1 => ?_) <;> simp -implicitDefEqProofs -dsimp only [go_sem, h1]
 · repeat (first | ((first | refine callT.at (l1Num_ok r.Lost (by omega) (by omega)) ⟨leA, trivial⟩ ?_ | refine callS.at (l1Num_ok r.Lost (by omega) (by omega)) ⟨leA, trivial⟩ ?_); simp -implicitDefEqProofs -dsimp only [go_sem]) | (with_reducible refine And.intro (by first | omega | (show drawOk _ = true; kernel_rfl) | (simp only [ByteArray.size_append, ba_size, List.size_toArray, List.length_cons, List.length_nil]; omega)) ?_; try (repeat1' (first | simp -implicitDefEqProofs -dsimp only [go_sem] | simp -dsimp (disch := omega) only [wrap_i64]))))
   refine WeakR.drop' ?_ (by rfl)
   rw [weekLine, weekTail, if_pos (by simpa using h1)]
   simp only [ByteArray.append_assoc]
 · refine WeakR.drop' ?_ (by rfl)
   rw [weekLine, weekTail, if_neg (by simpa using h1), ba_nil]
def lineR (r : WeekRow) : V := if wrB r = true then .tup [.str (weekLine r), .bool true] else .tup [.str ByteArray.empty, .bool false]
theorem iWeekLine_ok (r : WeekRow) : Ctr Tryd.prog 20 [r.v] [] (lineR r) [] := by
 refine Ctr.intro Tryd.mixed Tryd.func20 rfl Tryd.okF20 ?_
 simp -implicitDefEqProofs -dsimp only [go_sem, Tryd.ntmps20, Tryd.results20]
 simp -implicitDefEqProofs -dsimp only [go_sem, WeekRow.v]
 cases h : wrB r with
 | false => repeat' (first | exact WeakR.refl _ _ _ | (refine WeakR.drop' ?_ (by rfl); first | rfl | (simp [lineR, h, *]; done)) | ((first | refine callT.at (iIsWeekRow_ok r) ⟨leA, trivial⟩ ?_ | refine callS.at (iIsWeekRow_ok r) ⟨leA, trivial⟩ ?_); simp -implicitDefEqProofs -dsimp only [go_sem, lineR, h, *]) | (refine guardT.splitT (fun _ => ?_) (fun _ => ?_) <;> simp -implicitDefEqProofs -dsimp only [go_sem, lineR, h, *]) | (refine guardT.splitF (fun _ => ?_) (fun _ => ?_) <;> simp -implicitDefEqProofs -dsimp only [go_sem, lineR, h, *]) | (refine condT.split (fun _ => ?_) (fun _ => ?_) <;> simp -implicitDefEqProofs -dsimp only [go_sem, lineR, h, *]) | (exfalso; simp_all; done))
 | true =>
   repeat (first | ((first | refine callT.at (iIsWeekRow_ok r) ⟨leA, trivial⟩ ?_ | refine callS.at (iIsWeekRow_ok r) ⟨leA, trivial⟩ ?_); simp -implicitDefEqProofs -dsimp only [go_sem, h]) | ((first | refine callT.at (weekRowLine_ok r h) ⟨leA, trivial⟩ ?_ | refine callS.at (weekRowLine_ok r h) ⟨leA, trivial⟩ ?_); simp -implicitDefEqProofs -dsimp only [go_sem, h]) | (with_reducible refine And.intro (by first | omega | (show drawOk _ = true; kernel_rfl) | (simp only [ByteArray.size_append, ba_size, List.size_toArray, List.length_cons, List.length_nil]; omega)) ?_; try (repeat1' (first | simp -implicitDefEqProofs -dsimp only [go_sem, h] | simp -dsimp (disch := omega) only [wrap_i64]))))
   exact WeakR.drop' (by simp [lineR, h]) (by rfl)
theorem sWeekLine_ok (r : WeekRow) : Ctr Tryd.prog 21 [r.v] [] (lineR r) [] := by
 refine Ctr.intro Tryd.mixed Tryd.func21 rfl Tryd.okF21 ?_
 simp -implicitDefEqProofs -dsimp only [go_sem, Tryd.ntmps21, Tryd.results21]
 simp -implicitDefEqProofs -dsimp only [go_sem, WeekRow.v]
 cases h : wrB r with
 | false => repeat' (first | exact WeakR.refl _ _ _ | (refine WeakR.drop' ?_ (by rfl); first | rfl | (simp [lineR, h, *]; done)) | ((first | refine callT.at (l26One_ok r) ⟨leA, trivial⟩ ?_ | refine callS.at (l26One_ok r) ⟨leA, trivial⟩ ?_); simp -implicitDefEqProofs -dsimp only [go_sem, lineR, h, *]) | (refine guardT.splitT (fun _ => ?_) (fun _ => ?_) <;> simp -implicitDefEqProofs -dsimp only [go_sem, lineR, h, *]) | (refine guardT.splitF (fun _ => ?_) (fun _ => ?_) <;> simp -implicitDefEqProofs -dsimp only [go_sem, lineR, h, *]) | (refine condT.split (fun _ => ?_) (fun _ => ?_) <;> simp -implicitDefEqProofs -dsimp only [go_sem, lineR, h, *]) | (exfalso; simp_all; done))
 | true =>
   repeat (first | ((first | refine callT.at (l26One_ok r) ⟨leA, trivial⟩ ?_ | refine callS.at (l26One_ok r) ⟨leA, trivial⟩ ?_); simp -implicitDefEqProofs -dsimp only [go_sem, h]) | ((first | refine callT.at (l26Line_ok r h) ⟨leA, trivial⟩ ?_ | refine callS.at (l26Line_ok r h) ⟨leA, trivial⟩ ?_); simp -implicitDefEqProofs -dsimp only [go_sem, h]) | (with_reducible refine And.intro (by first | omega | (show drawOk _ = true; kernel_rfl) | (simp only [ByteArray.size_append, ba_size, List.size_toArray, List.length_cons, List.length_nil]; omega)) ?_; try (repeat1' (first | simp -implicitDefEqProofs -dsimp only [go_sem, h] | simp -dsimp (disch := omega) only [wrap_i64]))))
   exact WeakR.drop' (by simp [lineR, h]) (by rfl)
end Go.Proofs
end
section
set_option maxRecDepth 100000
namespace Go.Proofs
open Go.Lv
def textOf {α : Type} (line : α → ByteArray) (L : List α) : ByteArray := L.foldl (fun s r => s ++ (line r ++ ⟨#[10]⟩)) ⟨#[]⟩
theorem textOf_succ {α : Type} (line : α → ByteArray) {L : List α} {i : Nat} (hi : i < L.length) : textOf line (L.take (i + 1)) = textOf line (L.take i) ++ (line L[i] ++ ⟨#[10]⟩) := by
 rw [List.take_succ_eq_append_getElem hi, textOf, List.foldl_append]; rfl
theorem textOf_size {α : Type} {line : α → ByteArray} {L : List α} {B : Nat} (h : ∀ x ∈ L, (line x).size ≤ B) : ∀ i, i ≤ L.length → (textOf line (L.take i)).size ≤ i * (B + 1)
 | 0, _ => by simp [textOf, ba_size]
 | i + 1, hi => by
   have ih := textOf_size h i (by omega)
   have hx := h (L[i]'(by omega)) (List.getElem_mem _)
   rw [textOf_succ line (by omega : i < L.length), Nat.succ_mul]
   simp only [ByteArray.size_append, ba_size, List.size_toArray, List.length_cons, List.length_nil]
   omega
def reportOf (L : List WeekRow) : ByteArray := ((((textOf weekLine L ++ ⟨#[97, 108, 108, 58, 32]⟩) ++ num (psum WeekRow.Events L)) ++ ⟨#[32, 101, 118, 101, 110, 116, 115, 44, 32]⟩) ++ num (psum WeekRow.Felt L)) ++ ⟨#[32, 102, 101, 108, 116]⟩
def reportR (L : List WeekRow) : V := if wrsB L = true then .tup [.str (reportOf L), .bool true] else .tup [.str ByteArray.empty, .bool false]
theorem iWeekReport_ok (L : List WeekRow) (hl : L.length ≤ 281474976710656) : Ctr Tryd.prog 13 [WeekRow.sl L] [] (reportR L) [] := by
 refine Ctr.intro Tryd.mixed Tryd.func13 rfl Tryd.okF13 ?_
 simp -implicitDefEqProofs -dsimp only [go_sem, Tryd.ntmps13, Tryd.results13]
 cases h : wrsB L with
 | false => repeat' (first | exact WeakR.refl _ _ _ | (refine WeakR.drop' ?_ (by rfl); first | rfl | (simp [reportR, h, *]; done)) | ((first | refine callT.at (iAreWeekRows_ok L hl) ⟨leA, trivial⟩ ?_ | refine callS.at (iAreWeekRows_ok L hl) ⟨leA, trivial⟩ ?_); simp -implicitDefEqProofs -dsimp only [go_sem, reportR, h, *]) | (refine guardT.splitT (fun _ => ?_) (fun _ => ?_) <;> simp -implicitDefEqProofs -dsimp only [go_sem, reportR, h, *]) | (refine guardT.splitF (fun _ => ?_) (fun _ => ?_) <;> simp -implicitDefEqProofs -dsimp only [go_sem, reportR, h, *]) | (refine condT.split (fun _ => ?_) (fun _ => ?_) <;> simp -implicitDefEqProofs -dsimp only [go_sem, reportR, h, *]) | (exfalso; simp_all; done))
 | true =>
   obtain ⟨hv, hlen⟩ := wrsB_all h
   have be := psum_take_le (wrs_events hv) (by omega) hlen L.length
   have bf := psum_take_le (wrs_felt hv) (by omega) hlen L.length
   rw [List.take_length] at be bf
   have we : wsum WeekRow.Events L = psum WeekRow.Events L := wsum_psum (wrs_events hv) (by omega)
   have wf : wsum WeekRow.Felt L = psum WeekRow.Felt L := wsum_psum (wrs_felt hv) (by omega)
   repeat (first | ((first | refine callT.at (iAreWeekRows_ok L hl) ⟨leA, trivial⟩ ?_ | refine callS.at (iAreWeekRows_ok L hl) ⟨leA, trivial⟩ ?_); simp -implicitDefEqProofs -dsimp only [go_sem, h]) | (with_reducible refine And.intro (by first | omega | (show drawOk _ = true; kernel_rfl) | (simp only [ByteArray.size_append, ba_size, List.size_toArray, List.length_cons, List.length_nil]; omega)) ?_; try (repeat1' (first | simp -implicitDefEqProofs -dsimp only [go_sem, h] | simp -dsimp (disch := omega) only [wrap_i64]))))
   refine LoopT.intro (fun i : Nat => i ≤ L.length) (fun i => ⟨[WeekRow.sl L, .undef, .undef, .undef, .str (textOf weekLine (L.take i)), .undef, .undef, .undef, .undef, .undef, .undef, WeekRow.sl L, .int .i64 L.length, .int .i64 i, .undef, .undef, .undef, .undef, .undef, .undef, .undef, .undef, .undef, .undef, .undef, .undef, .undef, .undef, .undef, .undef, .undef, .undef, .undef, .undef, .undef, .undef, .undef], [], 0⟩) (fun i => L.length - i) 0 (Nat.zero_le _) ?_ (fun i hi => ?_)
   · refine Weak.cut (0) (by simp) (by simp) ?_ ?_
     · simp [LeC, LeV, ren, cutF, textOf]
     · rfl
   have ht := textOf_size (line := weekLine) (fun x hx => weekLine_size (hv x hx)) i hi
   simp -implicitDefEqProofs -dsimp only [go_sem]
   refine condT.split (fun h1 => ?_) (fun h1 => ?_)
   · simp -implicitDefEqProofs -dsimp only [go_sem, h1]
     have hi' : i < L.length := by simpa using h1
     have h5 := WeekRow.csl L[i]
     have hr := rows_at WeekRow.csl hi'
     have hvi := hv _ (List.getElem_mem hi')
     have hls := weekLine_size hvi
     (repeat ((repeat1' (first | simp -implicitDefEqProofs -dsimp only [go_sem, hr, WeekRow.cs] | simp -dsimp (disch := omega) only [wrap_i64])); repeat (with_reducible refine And.intro ?_ ?_; focus (first | omega | with_reducible rfl | (show drawOk _ = true; kernel_rfl) | (simp only [rows_length, rows_cell, List.length_append, List.length_cons, List.length_nil, List.all_append, List.all_cons, List.all_nil, isCell, Nat.mul_one, Nat.one_mul, Bool.and_self]; first | done | omega) | (simp only [ByteArray.size_append, ba_size, List.size_toArray, List.length_cons, List.length_nil]; omega)))))
     repeat (first | ((first | refine callT.at (weekRowLine_ok L[i] hvi) ⟨leA, trivial⟩ ?_ | refine callS.at (weekRowLine_ok L[i] hvi) ⟨leA, trivial⟩ ?_); simp -implicitDefEqProofs -dsimp only [go_sem]) | (with_reducible refine And.intro (by first | omega | (show drawOk _ = true; kernel_rfl) | (simp only [ByteArray.size_append, ba_size, List.size_toArray, List.length_cons, List.length_nil]; omega)) ?_; try (repeat1' (first | simp -implicitDefEqProofs -dsimp only [go_sem] | simp -dsimp (disch := omega) only [wrap_i64]))))
     refine ⟨i + 1, hi', ?_, by omega⟩
     refine Weak.cut (0) (by simp) (by simp) ?_ ?_
     · rw [textOf_succ weekLine hi']
       simp [LeC, LeV, ren, cutF]
     · rfl
   · simp -implicitDefEqProofs -dsimp only [go_sem, h1]
     have hi' : i = L.length := by simp at h1; omega
     subst hi'
     rw [List.take_length] at ht ⊢
     have s1 := num_size' (n := psum WeekRow.Events L) (by omega) (by omega)
     have s2 := num_size' (n := psum WeekRow.Felt L) (by omega) (by omega)
     repeat (first | ((first | refine callT.at (totals_ok L hl) ⟨leA, trivial⟩ ?_ | refine callS.at (totals_ok L hl) ⟨leA, trivial⟩ ?_); simp -implicitDefEqProofs -dsimp only [go_sem, WeekRow.v, tot, we, wf]) | ((first | refine callT.at (itoa_ok (psum WeekRow.Events L) ⟨by omega, by omega⟩) ⟨leA, trivial⟩ ?_ | refine callS.at (itoa_ok (psum WeekRow.Events L) ⟨by omega, by omega⟩) ⟨leA, trivial⟩ ?_); simp -implicitDefEqProofs -dsimp only [go_sem, WeekRow.v, tot, we, wf]) | ((first | refine callT.at (itoa_ok (psum WeekRow.Felt L) ⟨by omega, by omega⟩) ⟨leA, trivial⟩ ?_ | refine callS.at (itoa_ok (psum WeekRow.Felt L) ⟨by omega, by omega⟩) ⟨leA, trivial⟩ ?_); simp -implicitDefEqProofs -dsimp only [go_sem, WeekRow.v, tot, we, wf]) | (with_reducible refine And.intro (by first | omega | (show drawOk _ = true; kernel_rfl) | (simp only [ByteArray.size_append, ba_size, List.size_toArray, List.length_cons, List.length_nil]; omega)) ?_; try (repeat1' (first | simp -implicitDefEqProofs -dsimp only [go_sem, WeekRow.v, tot, we, wf] | simp -dsimp (disch := omega) only [wrap_i64]))))
     exact WeakR.drop' (by simp [reportR, h, reportOf]) (by rfl)
theorem sWeekReport_ok (L : List WeekRow) (hl : L.length ≤ 281474976710656) : Ctr Tryd.prog 14 [WeekRow.sl L] [] (reportR L) [] := by
 refine Ctr.intro Tryd.mixed Tryd.func14 rfl Tryd.okF14 ?_
 simp -implicitDefEqProofs -dsimp only [go_sem, Tryd.ntmps14, Tryd.results14]
 cases h : wrsB L with
 | false => repeat' (first | exact WeakR.refl _ _ _ | (refine WeakR.drop' ?_ (by rfl); first | rfl | (simp [reportR, h, *]; done)) | ((first | refine callT.at (l26Good_ok L hl) ⟨leA, trivial⟩ ?_ | refine callS.at (l26Good_ok L hl) ⟨leA, trivial⟩ ?_); simp -implicitDefEqProofs -dsimp only [go_sem, reportR, h, *]) | (refine guardT.splitT (fun _ => ?_) (fun _ => ?_) <;> simp -implicitDefEqProofs -dsimp only [go_sem, reportR, h, *]) | (refine guardT.splitF (fun _ => ?_) (fun _ => ?_) <;> simp -implicitDefEqProofs -dsimp only [go_sem, reportR, h, *]) | (refine condT.split (fun _ => ?_) (fun _ => ?_) <;> simp -implicitDefEqProofs -dsimp only [go_sem, reportR, h, *]) | (exfalso; simp_all; done))
 | true =>
   obtain ⟨hv, hlen⟩ := wrsB_all h
   repeat (first | ((first | refine callT.at (l26Good_ok L hl) ⟨leA, trivial⟩ ?_ | refine callS.at (l26Good_ok L hl) ⟨leA, trivial⟩ ?_); simp -implicitDefEqProofs -dsimp only [go_sem, h]) | (with_reducible refine And.intro (by first | omega | (show drawOk _ = true; kernel_rfl) | (simp only [ByteArray.size_append, ba_size, List.size_toArray, List.length_cons, List.length_nil]; omega)) ?_; try (repeat1' (first | simp -implicitDefEqProofs -dsimp only [go_sem, h] | simp -dsimp (disch := omega) only [wrap_i64]))))
   refine LoopT.intro (fun i : Nat => i ≤ L.length) (fun i => ⟨[WeekRow.sl L, .undef, .undef, .undef, .str (textOf weekLine (L.take i)), .int .i64 (psum WeekRow.Events (L.take i)), .int .i64 (psum WeekRow.Felt (L.take i)), .int .i64 i, .undef, .undef, .undef, .undef, .undef, .undef, .undef, .undef, .undef, .undef, .undef, .undef, .undef, .undef, .undef, .undef, .undef, .undef, .undef, .undef, .undef, .undef, .undef, .undef, .undef, .undef, .undef, .undef, .undef, .undef, .undef, .undef, .undef, .undef, .undef, .undef, .undef, .undef, .undef, .undef, .undef], [], 0⟩) (fun i => L.length - i) 0 (Nat.zero_le _) ?_ (fun i hi => ?_)
   · refine Weak.cut (0) (by simp) (by simp) ?_ ?_
     · simp [LeC, LeV, ren, cutF, textOf, psum]
     · rfl
   have ht := textOf_size (line := weekLine) (fun x hx => weekLine_size (hv x hx)) i hi
   have be := psum_take_le (wrs_events hv) (by omega) hlen i
   have bf := psum_take_le (wrs_felt hv) (by omega) hlen i
   simp -implicitDefEqProofs -dsimp only [go_sem]
   refine condT.split (fun h1 => ?_) (fun h1 => ?_)
   · simp -implicitDefEqProofs -dsimp only [go_sem, h1]
     have hi' : i < L.length := by simpa using h1
     have h5 := WeekRow.csl L[i]
     have hr := rows_at WeekRow.csl hi'
     have hvi := hv _ (List.getElem_mem hi')
     have hls := weekLine_size hvi
     have hvv := wrB_iff.1 hvi
     (repeat ((repeat1' (first | simp -implicitDefEqProofs -dsimp only [go_sem, hr, WeekRow.cs] | simp -dsimp (disch := omega) only [wrap_i64])); repeat (with_reducible refine And.intro ?_ ?_; focus (first | omega | with_reducible rfl | (show drawOk _ = true; kernel_rfl) | (simp only [rows_length, rows_cell, List.length_append, List.length_cons, List.length_nil, List.all_append, List.all_cons, List.all_nil, isCell, Nat.mul_one, Nat.one_mul, Bool.and_self]; first | done | omega) | (simp only [ByteArray.size_append, ba_size, List.size_toArray, List.length_cons, List.length_nil]; omega)))))
     repeat (first | ((first | refine callT.at (l26Line_ok L[i] hvi) ⟨leA, trivial⟩ ?_ | refine callS.at (l26Line_ok L[i] hvi) ⟨leA, trivial⟩ ?_); simp -implicitDefEqProofs -dsimp only [go_sem, hr, WeekRow.cs]) | (with_reducible refine And.intro (by first | omega | (show drawOk _ = true; kernel_rfl) | (simp only [ByteArray.size_append, ba_size, List.size_toArray, List.length_cons, List.length_nil]; omega)) ?_; try (repeat1' (first | simp -implicitDefEqProofs -dsimp only [go_sem, hr, WeekRow.cs] | simp -dsimp (disch := omega) only [wrap_i64]))))
     refine ⟨i + 1, hi', ?_, by omega⟩
     refine Weak.cut (0) (by simp) (by simp) ?_ ?_
     · rw [textOf_succ weekLine hi', psum_succ _ hi', psum_succ _ hi', ByteArray.append_assoc]
       simp [LeC, LeV, ren, cutF]
     · rfl
   · simp -implicitDefEqProofs -dsimp only [go_sem, h1]
     have hi' : i = L.length := by simp at h1; omega
     subst hi'
     rw [List.take_length] at ht be bf ⊢
     have s1 := num_size' (n := psum WeekRow.Events L) (by omega) (by omega)
     have s2 := num_size' (n := psum WeekRow.Felt L) (by omega) (by omega)
     repeat (first | ((first | refine callT.at (l1Num_ok (psum WeekRow.Events L) (by omega) (by omega)) ⟨leA, trivial⟩ ?_ | refine callS.at (l1Num_ok (psum WeekRow.Events L) (by omega) (by omega)) ⟨leA, trivial⟩ ?_); simp -implicitDefEqProofs -dsimp only [go_sem]) | ((first | refine callT.at (l1Num_ok (psum WeekRow.Felt L) (by omega) (by omega)) ⟨leA, trivial⟩ ?_ | refine callS.at (l1Num_ok (psum WeekRow.Felt L) (by omega) (by omega)) ⟨leA, trivial⟩ ?_); simp -implicitDefEqProofs -dsimp only [go_sem]) | (with_reducible refine And.intro (by first | omega | (show drawOk _ = true; kernel_rfl) | (simp only [ByteArray.size_append, ba_size, List.size_toArray, List.length_cons, List.length_nil]; omega)) ?_; try (repeat1' (first | simp -implicitDefEqProofs -dsimp only [go_sem] | simp -dsimp (disch := omega) only [wrap_i64]))))
     exact WeakR.drop' (by simp [reportR, h, reportOf]) (by rfl)
end Go.Proofs
end
section
set_option maxRecDepth 100000
set_option maxHeartbeats 1000000
namespace Go.Proofs
open Go.Lv
def nl (b : ByteArray) : Nat := b.data.toList.countP (fun c => c == 10)
theorem nl_app (x y : ByteArray) : nl (x ++ y) = nl x + nl y := by
 unfold nl
 rw [ByteArray.data_append, Array.toList_append, List.countP_append]
theorem nl_nat (u : Nat) : nl (num (u : Int)) = 0 := by
 have one : ∀ d, d < 10 → nl (digits.extract d (d + 1)) = 0 := by
   intro d hd
   rw [digit_at d hd]
   match d, hd with
   | 0, _ => decide
   | 1, _ => decide
   | 2, _ => decide
   | 3, _ => decide
   | 4, _ => decide
   | 5, _ => decide
   | 6, _ => decide
   | 7, _ => decide
   | 8, _ => decide
   | 9, _ => decide
 induction u using Nat.strongRecOn with
 | _ u ih =>
   by_cases h : u < 10
   · rw [num_one h]; exact one u h
   · rw [num_more h, nl_app, ih (u / 10) (by omega), one _ (by omega)]
theorem nl_num (n : Int) : nl (num n) = 0 := by
 rcases Int.lt_or_le n 0 with h | h
 · obtain ⟨u, hu⟩ : ∃ u : Nat, n = -(u : Int) := ⟨n.natAbs, by omega⟩
   subst hu
   rw [num_neg (by omega), nl_app, nl_nat]
   decide
 · obtain ⟨u, hu⟩ : ∃ u : Nat, n = u := ⟨n.toNat, by omega⟩
   subst hu
   exact nl_nat u
theorem nl_text {α : Type} {line : α → ByteArray} (h : ∀ r, nl (line r) = 0) (L : List α) : nl (textOf line L) = L.length := by
 have key : ∀ (L : List α) (s : ByteArray), nl (L.foldl (fun s r => s ++ (line r ++ ⟨#[10]⟩)) s) = nl s + L.length := by
   intro L
   induction L with
   | nil => intro s; simp
   | cons r L ih =>
     intro s
     have e : nl (⟨#[10]⟩ : ByteArray) = 1 := by decide
     rw [List.foldl_cons, ih, nl_app, nl_app, h, e, List.length_cons]
     omega
 have e : nl (⟨#[]⟩ : ByteArray) = 0 := by decide
 rw [textOf, key, e]
 omega
theorem nl_weekLine (r : WeekRow) : nl (weekLine r) = 0 := by
 have c1 : nl (⟨#[119, 101, 101, 107, 32]⟩ : ByteArray) = 0 := by decide
 have c2 : nl (⟨#[58, 32]⟩ : ByteArray) = 0 := by decide
 have c3 : nl (⟨#[32, 101, 118, 101, 110, 116, 115, 32, 40]⟩ : ByteArray) = 0 := by decide
 have c4 : nl (⟨#[32, 102, 101, 108, 116, 41, 44, 32]⟩ : ByteArray) = 0 := by decide
 have c5 : nl (⟨#[32, 112, 105, 99, 107, 115]⟩ : ByteArray) = 0 := by decide
 have c6 : nl (⟨#[44, 32]⟩ : ByteArray) = 0 := by decide
 have c7 : nl (⟨#[32, 104, 32, 108, 111, 115, 116]⟩ : ByteArray) = 0 := by decide
 have c8 : nl (⟨#[]⟩ : ByteArray) = 0 := by decide
 have ct : nl (weekTail r) = 0 := by
   unfold weekTail
   split
   · simp only [nl_app, nl_num, c6, c7]
   · exact c8
 simp only [weekLine, nl_app, nl_num, c1, c2, c3, c4, c5, ct]
theorem nl_report (L : List WeekRow) : nl (reportOf L) = L.length := by
 have c1 : nl (⟨#[97, 108, 108, 58, 32]⟩ : ByteArray) = 0 := by decide
 have c2 : nl (⟨#[32, 101, 118, 101, 110, 116, 115, 44, 32]⟩ : ByteArray) = 0 := by decide
 have c3 : nl (⟨#[32, 102, 101, 108, 116]⟩ : ByteArray) = 0 := by decide
 simp only [reportOf, nl_app, nl_num, c1, c2, c3, nl_text nl_weekLine]
 omega
end Go.Proofs
end
section
set_option maxRecDepth 100000
namespace Go.Proofs
open Go.Lv
def IntS.cs (x : Int) : List V := [.int .i64 x]
instance : FlatP IntS.cs 1 := ⟨fun _ => rfl, fun _ d => by cases d <;> rfl, fun _ => rfl, fun _ => rfl⟩
theorem IntS.csl (a : Int) : (IntS.cs a).length = 1 := rfl
abbrev IntS.ok (x : Int) : Prop := i64R x
abbrev IntS.sl (L : List Int) : V := .sl L.length 1 (Go.Lv.rows IntS.cs L)
abbrev IntS.zs : List V := [.int .i64 0]
def IntS.marks (k : Int) (n : Nat) : List Int := (List.range n).map fun i : Nat => k + (i : Int)
@[simp] theorem IntS.marks_len (k : Int) (n : Nat) : (IntS.marks k n).length = n := by simp [IntS.marks]
abbrev IntS.v (x : Int) : V := .int .i64 x
end Go.Proofs
end
section
set_option maxRecDepth 100000
namespace Go.Proofs
open Go.Lv
def runTo (L : List WeekRow) (n : Nat) : List Int := (List.range n).map fun j => psum WeekRow.Events (L.take (j + 1))
theorem runTo_len (L : List WeekRow) (n : Nat) : (runTo L n).length = n := by simp [runTo]
theorem runTo_succ (L : List WeekRow) (n : Nat) : runTo L (n + 1) = runTo L n ++ [psum WeekRow.Events (L.take (n + 1))] := by simp [runTo, List.range_succ]
def runR (L : List WeekRow) : Option (List Int) := if wrsB L = true then some (runTo L L.length) else none
theorem sRunningEvents_ok (L : List WeekRow) (hl : L.length ≤ 281474976710656) : Ctr Tryd.prog 10 [WeekRow.sl L] [] (optO 1 (runR L)) (optOh IntS.cs (runR L)) := by
 refine Ctr.intro Tryd.mixed Tryd.func10 rfl Tryd.okF10 ?_
 simp -implicitDefEqProofs -dsimp only [go_sem, Tryd.ntmps10, Tryd.results10]
 (first | refine callT.at (l26Good_ok L hl) ⟨.inl rfl, trivial⟩ ?_ | refine callS.at (l26Good_ok L hl) ⟨.inl rfl, trivial⟩ ?_)
 simp -implicitDefEqProofs -dsimp only [go_sem]
 refine condT.split (fun h1 => ?_) (fun h1 => ?_) <;> simp -implicitDefEqProofs -dsimp only [go_sem, h1]
 · have hn : runR L = none := by rw [runR, if_neg]; simp at h1; simp [h1]
   rw [hn]
   exact WeakR.refl _ _ _
 have h1' : wrsB L = true := by simpa using h1
 obtain ⟨hv, hlen⟩ := wrsB_all h1'
 have he := psum_take_le (wrs_events hv) (by decide) hlen
 refine LoopT.intro (fun i : Nat => i ≤ L.length) (fun i => ⟨[WeekRow.sl L, .undef, .undef, .undef, .osl 0 0 (runTo L i).length 1, .int .i64 (psum WeekRow.Events (L.take i)), .int .i64 i, .undef, .undef, .undef, .undef, .undef, .undef, .undef, .undef, .undef, .undef, .undef, .undef, .undef, .undef, .undef, .undef, .undef, .undef, .undef, .undef, .undef, .undef, .undef], [some (rows IntS.cs (runTo L i))], 0⟩) (fun i => L.length - i) 0 (Nat.zero_le _) ?_ (fun i hi => ?_)
 · refine Weak.cut (1) (by simp) (by simp) ?_ ?_
   · simp [LeC, LeV, ren, cutF, runTo, psum]
   · simp [cutH, cutB, runTo, rows]
 simp -implicitDefEqProofs -dsimp only [go_sem]
 refine condT.split (fun h2 => ?_) (fun h2 => ?_)
 · simp -implicitDefEqProofs -dsimp only [go_sem, h2]
   have hi' : i < L.length := by simpa using h2
   have hr := rows_at WeekRow.csl hi'
   have e2 := psum_succ WeekRow.Events hi'
   have p2 := he (i + 1)
   have hlk := runTo_len L i
   (repeat1' (first | simp -implicitDefEqProofs -dsimp only [go_sem, hr, WeekRow.cs] | simp -dsimp (disch := omega) only [wrap_i64]))
   repeat (with_reducible refine sideA ?_)
   try (repeat1' (first | simp -implicitDefEqProofs -dsimp only [go_sem, rows_length, Nat.mul_one, rows_cell] | simp -dsimp (disch := omega) only [wrap_i64]))
   repeat (with_reducible refine sideA ?_)
   refine ⟨i + 1, hi', ?_, by omega⟩
   refine Weak.cut (1) (by simp) (by simp) ?_ ?_
   · rw [e2]
     simp [LeC, LeV, ren, cutF, runTo_succ]
   · rw [runTo_succ, ← rows_snoc, e2]
     simp [cutH, cutB, map_ren_rows, killC, ren, IntS.cs]
 · simp -implicitDefEqProofs -dsimp only [go_sem, h2]
   have hi' : i = L.length := by simp at h2; omega
   subst hi'
   rw [runR, if_pos h1']
   exact WeakR.refl _ _ _
theorem iRunningEvents_ok (L : List WeekRow) (hl : L.length ≤ 281474976710656) : Ctr Tryd.prog 9 [WeekRow.sl L] [] (optN 1 (runR L)) (optNh IntS.cs (runR L)) := by
 refine Ctr.intro Tryd.mixed Tryd.func9 rfl Tryd.okF9 ?_
 simp -implicitDefEqProofs -dsimp only [go_sem, Tryd.ntmps9, Tryd.results9]
 (first | refine callT.at (iAreWeekRows_ok L hl) ⟨.inl rfl, trivial⟩ ?_ | refine callS.at (iAreWeekRows_ok L hl) ⟨.inl rfl, trivial⟩ ?_)
 simp -implicitDefEqProofs -dsimp only [go_sem]
 refine condT.split (fun h1 => ?_) (fun h1 => ?_) <;> simp -implicitDefEqProofs -dsimp only [go_sem, h1]
 · have hn : runR L = none := by rw [runR, if_neg]; simp at h1; simp [h1]
   rw [hn]
   exact WeakR.refl _ _ _
 have h1' : wrsB L = true := by simpa using h1
 obtain ⟨hv, hlen⟩ := wrsB_all h1'
 refine LoopT.intro (fun i : Nat => i ≤ L.length) (fun i => ⟨[WeekRow.sl L, .undef, .undef, .undef, .osl 0 0 (runTo L i).length 1, .undef, .undef, .undef, .undef, .undef, .undef, .int .i64 L.length, .int .i64 i, .undef, .undef, .undef, .undef, .undef, .undef, .undef, .undef, .undef, .undef, .undef, .undef, .undef], [some (rows IntS.cs (runTo L i))], 0⟩) (fun i => L.length - i) 0 (Nat.zero_le _) ?_ (fun i hi => ?_)
 · refine Weak.cut (1) (by simp) (by simp) ?_ ?_
   · simp [LeC, LeV, ren, cutF, runTo]
   · simp [cutH, cutB, runTo, rows]
 simp -implicitDefEqProofs -dsimp only [go_sem]
 refine condT.split (fun h2 => ?_) (fun h2 => ?_)
 · simp -implicitDefEqProofs -dsimp only [go_sem, h2]
   have hi' : i < L.length := by simpa using h2
   have hlk := runTo_len L i
   have hc : ((i : Int) + 1).toNat = i + 1 := by omega
   have e : V.sl (i + 1) 5 ((rows WeekRow.cs L).take ((i + 1) * 5)) = WeekRow.sl (L.take (i + 1)) := by
     rw [rows_take WeekRow.csl]
     show V.sl _ _ _ = V.sl (L.take (i + 1)).length 5 _
     rw [List.length_take, Nat.min_eq_left (by omega)]
   have hlt : (L.take (i + 1)).length ≤ 281474976710656 := by rw [List.length_take]; omega
   (repeat1' (first | simp -implicitDefEqProofs -dsimp only [go_sem, hc, e, Nat.zero_mul, Nat.sub_zero] | simp -dsimp (disch := omega) only [wrap_i64]))
   repeat (with_reducible refine sideA ?_)
   (first | refine callT.at (totals_ok (L.take (i + 1)) hlt) ⟨.inl rfl, trivial⟩ ?_ | refine callS.at (totals_ok (L.take (i + 1)) hlt) ⟨.inl rfl, trivial⟩ ?_)
   (repeat1' (first | simp -implicitDefEqProofs -dsimp only [go_sem, WeekRow.v, tot] | simp -dsimp (disch := omega) only [wrap_i64]))
   repeat (with_reducible refine sideA ?_)
   try (repeat1' (first | simp -implicitDefEqProofs -dsimp only [go_sem, rows_length, Nat.mul_one, rows_cell] | simp -dsimp (disch := omega) only [wrap_i64]))
   repeat (with_reducible refine sideA ?_)
   refine ⟨i + 1, hi', ?_, by omega⟩
   have e3 : wsum WeekRow.Events (L.take (i + 1)) = psum WeekRow.Events (L.take (i + 1)) := wsum_psum (B := 9999) (fun x hx => wrs_events hv x (List.mem_of_mem_take hx)) (by simp; omega)
   refine Weak.cut (1) (by simp) (by simp) ?_ ?_
   · simp [LeC, LeV, ren, cutF, runTo_succ]
   · rw [runTo_succ, ← rows_snoc, e3]
     simp [cutH, cutB, map_ren_rows, killC, ren, IntS.cs]
 · simp -implicitDefEqProofs -dsimp only [go_sem, h2]
   have hi' : i = L.length := by simp at h2; omega
   subst hi'
   rw [runR, if_pos h1']
   exact WeakR.refl _ _ _
end Go.Proofs
end
section
namespace Go.Lv
theorem Ctr.weak {P : Program} {f : FuncId} {args : List V} {r r' : V} {hout hout' : Hp} (h : Ctr P f args [] r hout) (hw : WeakR 0 r hout r' hout') : Ctr P f args [] r' hout' :=
 ⟨h.1, fun w vs m av h1 h2 h3 h4 h5 => (h.2 w vs m av h1 h2 h3 h4 h5).mono fun e w' ⟨v, m', g1, g2, g3, g4, g5⟩ => by
   obtain ⟨m2, k1, k2, k3⟩ := hw w m [] av w' m' v rfl (Nat.zero_le _) h2 g2.size g3 g4 g5
   exact ⟨v, m2, g1, g2, k1, k2, k3⟩⟩
section
variable {α : Type} {cs : α → List V} {w : Nat} [FlatP cs w]
def frzV (cs : α → List V) (w : Nat) (R : Option (List α)) : V := .tup [.sl (R.getD []).length w (rows cs (R.getD [])), .bool R.isSome]
theorem frzN (R : Option (List α)) : WeakR 0 (optN w R) (optNh cs R) (frzV cs w R) [] := by
 cases R with
 | none =>
   intro w0 m0 h0 av0 W m val e1 e2 hlt hle H hx hi
   refine ⟨m, H, ?_, hi⟩
   change RV W m [] _ true val (.tup [.nilsl, .bool false]) at hx
   cases hx with
   | tup a vs ha hra =>
     refine .tup _ _ ha (fun i hi => ?_)
     match i, hi with
     | 0, _ => exact (hra 0 (by simp)).leE LeE.nil
     | 1, _ => exact hra 1 (by simp)
 | some L =>
   refine WeakR.pick [] (by decide) (fun j hj => by omega) (.inl ?_) rfl
   simp [frzV, optN, optNh, ren, pickF, posOf, frzR, take_rows, map_ren_rows]
theorem frzO (R : Option (List α)) : WeakR 0 (optO w R) (optOh cs R) (frzV cs w R) [] := by
 cases R with
 | none =>
   refine WeakR.pick [] (by decide) (fun j hj => by omega) (.inl ?_) rfl
   simp [frzV, optO, optOh, ren, pickF, posOf, frzR, rows]
 | some L =>
   refine WeakR.pick [] (by decide) (fun j hj => by omega) (.inl ?_) rfl
   simp [frzV, optO, optOh, ren, pickF, posOf, frzR, take_rows, map_ren_rows]
end
end Go.Lv
end
section
set_option maxRecDepth 100000
namespace Go.Proofs
open Go.Lv
def u8R (x : Int) : Prop := 0 ≤ x ∧ x ≤ 255
def ByteS.cs (x : Int) : List V := [.int .u8 x]
instance instFlatPByteS : FlatP ByteS.cs 1 := ⟨fun _ => rfl, fun _ d => by cases d <;> rfl, fun _ => rfl, fun _ => rfl⟩
theorem ByteS.csl (a : Int) : (ByteS.cs a).length = 1 := rfl
abbrev ByteS.ok (x : Int) : Prop := u8R x
abbrev ByteS.sl (L : List Int) : V := .sl L.length 1 (Go.Lv.rows ByteS.cs L)

end Go.Proofs
end
section
set_option maxRecDepth 100000
set_option maxHeartbeats 1000000
namespace Go.Proofs
open Go.Lv
structure Cur where
 a : Int
 s : Int
def Cur.cs (B : List Int) (c : Cur) : List V := [ByteS.sl B, .int .i64 c.a, .int .u64 c.s]
def CB (B : List Int) : Prop := lstR u8R B
def Cur.le (c : Cur) (k : Int) : Prop := 0 ≤ c.a ∧ c.a ≤ k
theorem Cur.ren (B : List Int) (c : Cur) (f : Nat → R) (d : Nat) : (c.cs B).map (Go.Lv.ren f d) = c.cs B := by cases d <;> simp [Cur.cs, Go.Lv.ren]
theorem lendCur {B : List Int} {c : Cur} {h : Hp} {id : Nat} (hid : h[id]? = some (some (c.cs B))) : pickH [id] h false = [some (c.cs B)] := by
 simp only [pickH, List.map_cons, List.map_nil, pickB, hid, Cur.ren]
theorem lendCur2 {α : Type} {cs : α → List V} {w : Nat} [FlatP cs w] {L : List α} {B : List Int} {c : Cur} {h : Hp} {i j : Nat} (hi : h[i]? = some (some (c.cs B))) (hj : h[j]? = some (some (rows cs L))) : pickH [i, j] h false = [some (c.cs B), some (rows cs L)] := by
 simp only [pickH, List.map_cons, List.map_nil, pickB, hi, hj, Cur.ren, map_ren_rows]
theorem growCur (B : List Int) (c c' : Cur) : grown [some (c.cs B)] [some (c'.cs B)] := ⟨⟨rfl, rfl⟩, trivial⟩
theorem growCur2 {α : Type} {cs : α → List V} {L : List α} (B : List Int) (c c' : Cur) : grown [some (c.cs B), some (rows cs L)] [some (c'.cs B), some (rows cs L)] := ⟨⟨rfl, rfl⟩, ⟨rfl, rfl⟩, trivial⟩
theorem andI_255 (x : Int) : 0 ≤ andI .u64 x 255 ∧ andI .u64 x 255 ≤ 255 := by
 have h : ∀ y : BitVec 64, (y &&& BitVec.ofInt 64 255).toNat ≤ 255 := fun y => by
   rw [BitVec.toNat_and]
   exact Nat.le_trans Nat.and_le_right (by decide)
 have hb : (BitVec.ofInt 64 x &&& BitVec.ofInt 64 255).toNat ≤ 255 := h _
 have hw : andI .u64 x 255 = (((BitVec.ofInt 64 x &&& BitVec.ofInt 64 255).toNat : Nat) : Int) := by
   unfold andI
   show IntKind.u64.wrap (((BitVec.ofInt 64 x &&& BitVec.ofInt 64 255).toNat : Nat) : Int) = _
   generalize (BitVec.ofInt 64 x &&& BitVec.ofInt 64 255).toNat = n at hb
   simp [IntKind.wrap, IntKind.bits, IntKind.signed]
   omega
 rw [hw]
 omega
def nextB (B : List Int) (c : Cur) : Int := if c.a < B.length then B.getD c.a.toNat 0 else 0
def nextS (B : List Int) (c : Cur) : Int := IntKind.u64.wrap (IntKind.u64.wrap (IntKind.u64.wrap (c.s * 6364136223846793005) + IntKind.u64.wrap (nextB B c)) + 101717)
def nextC (B : List Int) (c : Cur) : Cur := ⟨c.a + 1, nextS B c⟩
def nextV (B : List Int) (c : Cur) : Int := if c.a < B.length then nextB B c else andI .u64 (shrI .u64 (nextS B c) 40) 255
theorem nextB_bd {B : List Int} (hB : CB B) {c : Cur} (h : 0 ≤ c.a) : 0 ≤ nextB B c ∧ nextB B c ≤ 255 := by
 unfold nextB
 split
 · have hi : c.a.toNat < B.length := by omega
   have := hB.2 _ (List.getElem_mem hi)
   simpa [List.getD, hi, u8R] using this
 · omega
theorem nextV_bd {B : List Int} (hB : CB B) {c : Cur} (h : 0 ≤ c.a) : 0 ≤ nextV B c ∧ nextV B c ≤ 255 := by
 unfold nextV
 split
 · exact nextB_bd hB h
 · exact andI_255 _
theorem next_ok {B : List Int} (hB : CB B) {c : Cur} (hc : c.le 4611686018427387904) : Ctr Tryd.prog 145 [.ptr 0 0] [some (c.cs B)] (.int .i64 (nextV B c)) [some ((nextC B c).cs B)] := by
 obtain ⟨a, s⟩ := c
 obtain ⟨ha, hak⟩ := hc
 dsimp only at ha hak
 have hw : IntKind.i64.wrap (a + 1) = a + 1 := wrap_i64 (by omega) (by omega)
 have hbl := hB.1
 by_cases h1 : a < B.length
 · obtain ⟨i, rfl⟩ : ∃ i : Nat, a = i := ⟨a.toNat, by omega⟩
   have hi : i < B.length := by omega
   have hr := rows_at ByteS.csl hi
   obtain ⟨b0, b1⟩ : 0 ≤ B[i] ∧ B[i] ≤ 255 := by have := hB.2 _ (List.getElem_mem hi); simpa [u8R] using this
   have hwb : IntKind.i64.wrap B[i] = B[i] := wrap_i64 (by omega) (by omega)
   have hd : decide ((i : Int) < (B.length : Int)) = true := by simp; omega
   have hd2 : decide ((i : Int) + 1 ≤ (B.length : Int)) = true := by simp; omega
   have e1 : nextB B ⟨i, s⟩ = B[i] := by simp [nextB, h1, List.getD, hi]
   have e2 : nextV B ⟨i, s⟩ = B[i] := by simp [nextV, h1, e1]
   rw [nextC, nextS, e1, e2]
   refine Ctr.intro Tryd.mixed Tryd.func145 rfl Tryd.okF145 ?_
   simp -implicitDefEqProofs -dsimp only [go_sem, Tryd.ntmps145, Tryd.results145]
   (repeat ((repeat1' (first | simp -implicitDefEqProofs -dsimp only [go_sem, Cur.cs, hw, hd, hd2, hr, ByteS.cs, hwb] | simp -dsimp (disch := omega) only [wrap_i64])); repeat (with_reducible refine sideA ?_)))
   exact WeakR.refl _ _ _
 · have hd : decide (a < (B.length : Int)) = false := by simp; omega
   have hd2 : decide (a + 1 ≤ (B.length : Int)) = false := by simp; omega
   have e3 : nextV B ⟨a, s⟩ = andI .u64 (shrI .u64 (nextS B ⟨a, s⟩) 40) 255 := by simp [nextV, h1]
   have e4 : nextB B ⟨a, s⟩ = 0 := by simp [nextB, h1]
   rw [nextC, e3]
   rw [nextS, e4]
   obtain ⟨e1, e2⟩ := andI_255 (shrI .u64 (IntKind.u64.wrap (IntKind.u64.wrap (IntKind.u64.wrap (s * 6364136223846793005) + IntKind.u64.wrap 0) + 101717)) 40)
   generalize hq : andI .u64 (shrI .u64 (IntKind.u64.wrap (IntKind.u64.wrap (IntKind.u64.wrap (s * 6364136223846793005) + IntKind.u64.wrap 0) + 101717)) 40) 255 = q at e1 e2 ⊢
   have hwq : IntKind.i64.wrap q = q := wrap_i64 (by omega) (by omega)
   refine Ctr.intro Tryd.mixed Tryd.func145 rfl Tryd.okF145 ?_
   simp -implicitDefEqProofs -dsimp only [go_sem, Tryd.ntmps145, Tryd.results145]
   (repeat ((repeat1' (first | simp -implicitDefEqProofs -dsimp only [go_sem, Cur.cs, hw, hd, hd2, hq] | simp -dsimp (disch := omega) only [wrap_i64])); repeat (with_reducible refine sideA ?_)))
   exact WeakR.refl _ _ _
def pickV (B : List Int) (n : Int) (c : Cur) : Int := if n ≤ 1 then 0 else if 200 < n then (nextV B c * 256 + nextV B (nextC B c)).tmod n else (nextV B c).tmod n
def pickC (B : List Int) (n : Int) (c : Cur) : Cur := if n ≤ 1 then c else if 200 < n then nextC B (nextC B c) else nextC B c
theorem pickC_le {B : List Int} {n k : Int} {c : Cur} (h : c.le k) : (pickC B n c).le (k + 2) := by
 unfold pickC nextC Cur.le at *
 split
 · omega
 · split <;> (simp only []; omega)
theorem pickV_bd {B : List Int} (hB : CB B) {n : Int} {c : Cur} (h : 0 ≤ c.a) : 0 ≤ pickV B n c ∧ (1 ≤ n → pickV B n c < n) := by
 have h1 := nextV_bd hB h
 have h2 := nextV_bd hB (c := nextC B c) (by simp [nextC]; omega)
 unfold pickV
 split
 · omega
 · split
   · exact ⟨Int.tmod_nonneg _ (by omega), fun _ => Int.tmod_lt_of_pos _ (by omega)⟩
   · exact ⟨Int.tmod_nonneg _ (by omega), fun _ => Int.tmod_lt_of_pos _ (by omega)⟩
theorem pick_ok {B : List Int} (hB : CB B) {c : Cur} (hc : c.le 4611686018427387903) (n : Int) (hn : n ≤ 1000000000) : Ctr Tryd.prog 92 [.ptr 0 0, .int .i64 n] [some (c.cs B)] (.int .i64 (pickV B n c)) [some ((pickC B n c).cs B)] := by
 obtain ⟨r1, r2⟩ := nextV_bd hB hc.1
 have hc1 : (nextC B c).le 4611686018427387904 := by obtain ⟨h, h'⟩ := hc; exact ⟨by simp [nextC]; omega, by simp [nextC]; omega⟩
 obtain ⟨q1, q2⟩ := nextV_bd hB hc1.1
 have p4 := next_ok hB (c := c) ⟨hc.1, by have := hc.2; omega⟩
 have q4 := next_ok hB hc1
 by_cases h1 : n ≤ 1
 · have hd : decide (n ≤ 1) = true := by simp [h1]
   rw [pickV, pickC, if_pos h1, if_pos h1]
   refine Ctr.intro Tryd.mixed Tryd.func92 rfl Tryd.okF92 ?_
   simp -implicitDefEqProofs -dsimp only [go_sem, Tryd.ntmps92, Tryd.results92]
   (repeat ((repeat1' (first | simp -implicitDefEqProofs -dsimp only [go_sem, hd] | simp -dsimp (disch := omega) only [wrap_i64])); repeat (with_reducible refine sideA ?_)))
   exact WeakR.refl _ _ _
 have hd : decide (n ≤ 1) = false := by simp; omega
 by_cases h2 : 200 < n
 · have hd2 : decide (200 < n) = true := by simp [h2]
   have hw : IntKind.i64.wrap (nextV B c * 256) = nextV B c * 256 := wrap_i64 (by omega) (by omega)
   have hw2 : IntKind.i64.wrap (nextV B c * 256 + nextV B (nextC B c)) = nextV B c * 256 + nextV B (nextC B c) := wrap_i64 (by omega) (by omega)
   rw [pickV, pickC, if_neg h1, if_neg h1, if_pos h2, if_pos h2]
   refine Ctr.intro Tryd.mixed Tryd.func92 rfl Tryd.okF92 ?_
   simp -implicitDefEqProofs -dsimp only [go_sem, Tryd.ntmps92, Tryd.results92]
   (repeat ((repeat1' (first | simp -implicitDefEqProofs -dsimp only [go_sem, hd] | simp -dsimp (disch := omega) only [wrap_i64])); repeat (with_reducible refine sideA ?_)))
   refine callS.lend [0] false p4 (by decide) ⟨leO, trivial⟩ (lendCur rfl) (growCur B _ _) (.inl rfl) ?_
   (repeat ((repeat1' (first | simp -implicitDefEqProofs -dsimp only [go_sem, hd2, hw, Cur.ren] | simp -dsimp (disch := omega) only [wrap_i64])); repeat (with_reducible refine sideA ?_)))
   refine callS.lend [0] false q4 (by decide) ⟨leO, trivial⟩ (lendCur rfl) (growCur B _ _) (.inl rfl) ?_
   (repeat ((repeat1' (first | simp -implicitDefEqProofs -dsimp only [go_sem, hw2, Cur.ren] | simp -dsimp (disch := omega) only [wrap_i64])); repeat (with_reducible refine sideA ?_)))
   exact WeakR.refl _ _ _
 · have hd2 : decide (200 < n) = false := by simp [h2]
   rw [pickV, pickC, if_neg h1, if_neg h1, if_neg h2, if_neg h2]
   refine Ctr.intro Tryd.mixed Tryd.func92 rfl Tryd.okF92 ?_
   simp -implicitDefEqProofs -dsimp only [go_sem, Tryd.ntmps92, Tryd.results92]
   (repeat ((repeat1' (first | simp -implicitDefEqProofs -dsimp only [go_sem, hd] | simp -dsimp (disch := omega) only [wrap_i64])); repeat (with_reducible refine sideA ?_)))
   refine callS.lend [0] false p4 (by decide) ⟨leO, trivial⟩ (lendCur rfl) (growCur B _ _) (.inl rfl) ?_
   (repeat ((repeat1' (first | simp -implicitDefEqProofs -dsimp only [go_sem, hd2, Cur.ren] | simp -dsimp (disch := omega) only [wrap_i64])); repeat (with_reducible refine sideA ?_)))
   exact WeakR.refl _ _ _
theorem pick_call {B : List Int} (hB : CB B) {c : Cur} {k : Int} (hc : c.le k) (hk : k ≤ 4000000) (n : Int) (hn : n ≤ 1000000000) {t : List V} {h : Hp} {kk : Nat} {dst : Option Tmp} {Q : St → Prop} {x : Tag Q} {ci : Nat} (h0 : h[ci]? = some (some (c.cs B)))
   (hq : ∀ (v : Int) (c' : Cur), (0 ≤ v ∧ (1 ≤ n → v < n)) → c'.le (k + 2) → Q (afterM ⟨t, h, kk⟩ dst [ci] (.int .i64 v) [some (c'.cs B)])) : callS Tryd.prog ⟨t, h, kk⟩ dst (.fn (.func 92) [] []) [.ptr ci 0, .int .i64 n] Q x :=
 callS.lend [ci] false (pick_ok hB ⟨hc.1, by have := hc.2; omega⟩ n hn) (by simp) ⟨by simp [ren, pickF, posOf, LeV], leO, trivial⟩ (lendCur h0) (growCur B _ _) (.inl rfl) (hq _ _ (pickV_bd hB hc.1) (pickC_le hc))
def oneV (B : List Int) (n : Int) (c : Cur) : Bool := pickV B n c == 0
theorem one_ok {B : List Int} (hB : CB B) {c : Cur} (hc : c.le 4611686018427387903) (n : Int) (hn : n ≤ 1000000000) : Ctr Tryd.prog 91 [.ptr 0 0, .int .i64 n] [some (c.cs B)] (.bool (oneV B n c)) [some ((pickC B n c).cs B)] := by
 refine Ctr.intro Tryd.mixed Tryd.func91 rfl Tryd.okF91 ?_
 simp -implicitDefEqProofs -dsimp only [go_sem, Tryd.ntmps91, Tryd.results91]
 (repeat ((repeat1' (first | simp -implicitDefEqProofs -dsimp only [go_sem] | simp -dsimp (disch := omega) only [wrap_i64])); repeat (with_reducible refine sideA ?_)))
 refine callS.lend [0] false (pick_ok hB hc n hn) (by decide) ⟨leO, leO, trivial⟩ (lendCur rfl) (growCur B _ _) (.inl rfl) ?_
 (repeat ((repeat1' (first | simp -implicitDefEqProofs -dsimp only [go_sem, Cur.ren] | simp -dsimp (disch := omega) only [wrap_i64])); repeat (with_reducible refine sideA ?_)))
 exact WeakR.refl _ _ _
theorem one_call {B : List Int} (hB : CB B) {c : Cur} {k : Int} (hc : c.le k) (hk : k ≤ 4000000) (n : Int) (hn : n ≤ 1000000000) {t : List V} {h : Hp} {kk : Nat} {dst : Option Tmp} {Q : St → Prop} {x : Tag Q} {ci : Nat} (h0 : h[ci]? = some (some (c.cs B)))
   (hq : ∀ (v : Bool) (c' : Cur), c'.le (k + 2) → Q (afterM ⟨t, h, kk⟩ dst [ci] (.bool v) [some (c'.cs B)])) : callS Tryd.prog ⟨t, h, kk⟩ dst (.fn (.func 91) [] []) [.ptr ci 0, .int .i64 n] Q x :=
 callS.lend [ci] false (one_ok hB ⟨hc.1, by have := hc.2; omega⟩ n hn) (by simp) ⟨by simp [ren, pickF, posOf, LeV], leO, trivial⟩ (lendCur h0) (growCur B _ _) (.inl rfl) (hq _ _ (pickC_le hc))
def amongV (B : List Int) (K : List Int) (c : Cur) : Int := K.getD (pickV B K.length c).toNat 0
theorem amongV_mem {B : List Int} (hB : CB B) {K : List Int} (hK : 0 < K.length) {c : Cur} (h : 0 ≤ c.a) : amongV B K c ∈ K := by
 obtain ⟨h1, h2⟩ := pickV_bd hB (n := K.length) h
 have hi : (pickV B K.length c).toNat < K.length := by omega
 simp [amongV, List.getD, hi]
theorem among_ok {B : List Int} (hB : CB B) {c : Cur} (hc : c.le 4611686018427387903) (K : List Int) (hK0 : 0 < K.length) (hK : K.length ≤ 1000000000) : Ctr Tryd.prog 93 [.ptr 0 0, .osl 1 0 K.length 1] [some (c.cs B), some (rows IntS.cs K)] (.int .i64 (amongV B K c)) [some ((pickC B K.length c).cs B), some (rows IntS.cs K)] := by
 obtain ⟨h1, h2⟩ := pickV_bd hB (n := K.length) hc.1
 obtain ⟨i, hi'⟩ : ∃ i : Nat, pickV B K.length c = i := ⟨(pickV B K.length c).toNat, by omega⟩
 have hi : i < K.length := by omega
 have hr := rows_at IntS.csl hi
 have e : amongV B K c = K[i] := by simp [amongV, hi', List.getD, hi]
 have hp := pick_ok hB hc K.length (by omega)
 rw [hi'] at hp
 rw [e]
 refine Ctr.intro Tryd.mixed Tryd.func93 rfl Tryd.okF93 ?_
 simp -implicitDefEqProofs -dsimp only [go_sem, Tryd.ntmps93, Tryd.results93]
 (repeat ((repeat1' (first | simp -implicitDefEqProofs -dsimp only [go_sem] | simp -dsimp (disch := omega) only [wrap_i64])); repeat (with_reducible refine sideA ?_)))
 refine callS.lend [0] false hp (by decide) ⟨leO, leO, trivial⟩ (lendCur rfl) (growCur B _ _) (.inl rfl) ?_
 (repeat ((repeat1' (first | simp -implicitDefEqProofs -dsimp only [go_sem, Cur.ren, hr, IntS.cs] | simp -dsimp (disch := omega) only [wrap_i64])); repeat (with_reducible refine sideA ?_)))
 exact WeakR.refl _ _ _
theorem among_call {B : List Int} (hB : CB B) {c : Cur} {k : Int} (hc : c.le k) (hk : k ≤ 4000000) (K : List Int) (hK0 : 0 < K.length) (hK : K.length ≤ 1000000000) {t : List V} {h : Hp} {kk : Nat} {dst : Option Tmp} {Q : St → Prop} {x : Tag Q} {ci : Nat} (h0 : h[ci]? = some (some (c.cs B))) {i : Nat} (h1 : h[i]? = some (some (rows IntS.cs K))) (hne : (ci == i) = false)
   (hq : ∀ (v : Int) (c' : Cur), v ∈ K → c'.le (k + 2) → Q (afterM ⟨t, h, kk⟩ dst [ci, i] (.int .i64 v) [some (c'.cs B), some (rows IntS.cs K)])) : callS Tryd.prog ⟨t, h, kk⟩ dst (.fn (.func 93) [] []) [.ptr ci 0, .osl i 0 K.length 1] Q x := by
 have hn : ci ≠ i := by simpa using hne
 have hn' : (i == ci) = false := by simpa using Ne.symm hn
 exact callS.lend [ci, i] false (among_ok hB ⟨hc.1, by have := hc.2; omega⟩ K hK0 hK) (by simp [hn]) ⟨by simp [ren, pickF, posOf, LeV], by simp [ren, pickF, posOf, LeV, Ne.symm hn], trivial⟩ (lendCur2 h0 h1) (growCur2 B _ _) (.inl rfl) (hq _ _ (amongV_mem hB hK0 hc.1) (pickC_le hc))
end Go.Proofs
end
section
set_option maxRecDepth 100000
namespace Go.Proofs
open Go.Lv
structure QuakeRow where
 Id : Int
 Tick : Int
 X : Int
 Y : Int
 Deep : Int
 Size : Int
 Grade : Int
def QuakeRow.cs (r : QuakeRow) : List V := [.int .i64 r.Id, .int .i64 r.Tick, .int .i64 r.X, .int .i64 r.Y, .int .i64 r.Deep, .int .i64 r.Size, .int .i64 r.Grade]
def QuakeRow.v (r : QuakeRow) : V := .agg [.int .i64 r.Id, .int .i64 r.Tick, .int .i64 r.X, .int .i64 r.Y, .int .i64 r.Deep, .int .i64 r.Size, .int .i64 r.Grade]
theorem QuakeRow.csl (a : QuakeRow) : a.cs.length = 7 := rfl
instance : FlatP QuakeRow.cs 7 := ⟨fun _ => rfl, fun _ d => by cases d <;> rfl, fun _ => rfl, fun _ => rfl⟩
def QuakeRow.ok (r : QuakeRow) : Prop := i64R r.Id ∧ i64R r.Tick ∧ i64R r.X ∧ i64R r.Y ∧ i64R r.Deep ∧ i64R r.Size ∧ i64R r.Grade
abbrev QuakeRow.rows (L : List QuakeRow) : List V := Go.Lv.rows QuakeRow.cs L
abbrev QuakeRow.sl (L : List QuakeRow) : V := .sl L.length 7 (Go.Lv.rows QuakeRow.cs L)
abbrev QuakeRow.zs : List V := [.int .i64 0, .int .i64 0, .int .i64 0, .int .i64 0, .int .i64 0, .int .i64 0, .int .i64 0]
def QuakeRow.mk1 (k : Int) : QuakeRow := ⟨k, k + 1, k + 1 + 1, k + 1 + 1 + 1, k + 1 + 1 + 1 + 1, k + 1 + 1 + 1 + 1 + 1, k + 1 + 1 + 1 + 1 + 1 + 1⟩
def QuakeRow.marks (k : Int) (n : Nat) : List QuakeRow := (List.range n).map fun i : Nat => QuakeRow.mk1 (k + 7 * (i : Int))
@[simp] theorem QuakeRow.marks_len (k : Int) (n : Nat) : (QuakeRow.marks k n).length = n := by simp [QuakeRow.marks]
end Go.Proofs
end
section
set_option maxRecDepth 100000
set_option maxHeartbeats 2000000
namespace Go.Proofs
open Go.Lv
theorem lmonoQ {c : Cur} {a b : Int} (h : c.le a) (hab : a ≤ b) : c.le b := ⟨h.1, Int.le_trans h.2 hab⟩
theorem memR {K : List Int} {v : Int} (h : v ∈ K) (hk : K.all (fun x => decide (-10000000 ≤ x ∧ x ≤ 10000000)) = true) : -10000000 ≤ v ∧ v ≤ 10000000 := by
 have := List.all_eq_true.1 hk v h
 simpa using this
end Go.Proofs
end
section
set_option maxRecDepth 100000
set_option maxHeartbeats 2000000
namespace Go.Proofs
open Go.Lv
def weekP1 (B : List Int) (k : Int) (r : V) (hout : Hp) : Prop := ∃ (q : WeekRow) (c : Cur), c.le k ∧ r = q.v ∧ hout = [some (c.cs B)]
theorem week_fin {B : List Int} {k : Int} {h : Hp} {a b x y d : Int} {c : Cur} (h0 : h[0]? = some (some (c.cs B))) (hc : c.le k) : RelR 1 (.agg [.int .i64 a, .int .i64 b, .int .i64 x, .int .i64 y, .int .i64 d]) h (weekP1 B k) := by
 refine ⟨_, _, ⟨⟨a, b, x, y, d⟩, c, hc, rfl, rfl⟩, WeakR.pick [0] (by decide) (fun j hj => by cases j <;> simp_all) (.inl rfl) ?_⟩
 simp only [pickH, List.map_cons, List.map_nil, pickB, h0, Cur.ren]
theorem weekRow_ok {B : List Int} (hB : CB B) {k : Int} (hk : k ≤ 900000) {c : Cur} (hc : c.le k) (week : Int) : CtrP Tryd.prog 123 [.ptr 0 0, .int .i64 week] [some (c.cs B)] (weekP1 B (k + 30)) := by
 have hcb : ∀ {c' : Cur} {k' : Int}, c'.le k' → k' ≤ 4000000 → c'.le 4611686018427387903 := fun h h' => ⟨h.1, by have := h.2; omega⟩
 refine CtrP.intro Tryd.mixed Tryd.func123 rfl Tryd.okF123 ?_
 simp -implicitDefEqProofs -dsimp only [go_sem, Tryd.ntmps123, Tryd.results123]
 (repeat ((repeat1' (first | simp -implicitDefEqProofs -dsimp only [go_sem] | simp -dsimp (disch := omega) only [wrap_i64])); repeat (with_reducible refine sideA ?_)))
 refine among_call hB hc (by omega) [0, 3, 10, 11, 40, 9999] (by simp) (by simp) rfl rfl rfl (fun vc1 c1 pvc1 hc1 => ?_)
 (repeat ((repeat1' (first | simp -implicitDefEqProofs -dsimp only [go_sem, Cur.ren, map_ren_rows] | simp -dsimp (disch := omega) only [wrap_i64])); repeat (with_reducible refine sideA ?_)))
 refine among_call hB hc1 (by omega) [0, 5, 350, 99999] (by simp) (by simp) rfl rfl rfl (fun vc2 c2 pvc2 hc2 => ?_)
 (repeat ((repeat1' (first | simp -implicitDefEqProofs -dsimp only [go_sem, Cur.ren, map_ren_rows] | simp -dsimp (disch := omega) only [wrap_i64])); repeat (with_reducible refine sideA ?_)))
 refine among_call hB hc2 (by omega) [0, 0, 1, 168, 9999] (by simp) (by simp) rfl rfl rfl (fun vc3 c3 pvc3 hc3 => ?_)
 (repeat ((repeat1' (first | simp -implicitDefEqProofs -dsimp only [go_sem, Cur.ren, map_ren_rows] | simp -dsimp (disch := omega) only [wrap_i64])); repeat (with_reducible refine sideA ?_)))
 obtain ⟨hv, hhv⟩ : ∃ hv, hv = IntKind.i64.wrap (vc1.tdiv 2) := ⟨_, rfl⟩
 have hb1 := memR pvc1 (by decide)
 rw [← hhv]
 refine among_call hB hc3 (by omega) [0, hv, vc1] (by simp) (by simp) rfl rfl rfl (fun vc4 c4 pvc4 hc4 => ?_)
 (repeat ((repeat1' (first | simp -implicitDefEqProofs -dsimp only [go_sem, Cur.ren, map_ren_rows] | simp -dsimp (disch := omega) only [wrap_i64])); repeat (with_reducible refine sideA ?_)))
 refine pick_call hB hc4 (by omega) 80 (by omega) rfl (fun vc5 c5 pvc5 hc5 => ?_)
 (repeat ((repeat1' (first | simp -implicitDefEqProofs -dsimp only [go_sem, Cur.ren, map_ren_rows] | simp -dsimp (disch := omega) only [wrap_i64])); repeat (with_reducible refine sideA ?_)))
 refine condT.split (fun h0 => ?_) (fun h0 => ?_)
 · (repeat ((repeat1' (first | simp -implicitDefEqProofs -dsimp only [go_sem, h0] | simp -dsimp (disch := omega) only [wrap_i64])); repeat (with_reducible refine sideA ?_)))
   refine among_call hB hc5 (by omega) [0, 5000, 5001] (by simp) (by simp) rfl rfl rfl (fun vc6 c6 pvc6 hc6 => ?_)
   (repeat ((repeat1' (first | simp -implicitDefEqProofs -dsimp only [go_sem, Cur.ren, map_ren_rows] | simp -dsimp (disch := omega) only [wrap_i64])); repeat (with_reducible refine sideA ?_)))
   exact week_fin rfl (lmonoQ hc6 (by omega))
 · (repeat ((repeat1' (first | simp -implicitDefEqProofs -dsimp only [go_sem, h0] | simp -dsimp (disch := omega) only [wrap_i64])); repeat (with_reducible refine sideA ?_)))
   refine condT.split (fun h1 => ?_) (fun h1 => ?_)
   · (repeat ((repeat1' (first | simp -implicitDefEqProofs -dsimp only [go_sem, h1] | simp -dsimp (disch := omega) only [wrap_i64])); repeat (with_reducible refine sideA ?_)))
     refine among_call hB hc5 (by omega) [-1, 10000] (by simp) (by simp) rfl rfl rfl (fun vc6 c6 pvc6 hc6 => ?_)
     (repeat ((repeat1' (first | simp -implicitDefEqProofs -dsimp only [go_sem, Cur.ren, map_ren_rows] | simp -dsimp (disch := omega) only [wrap_i64])); repeat (with_reducible refine sideA ?_)))
     exact week_fin rfl (lmonoQ hc6 (by omega))
   · (repeat ((repeat1' (first | simp -implicitDefEqProofs -dsimp only [go_sem, h1] | simp -dsimp (disch := omega) only [wrap_i64])); repeat (with_reducible refine sideA ?_)))
     refine condT.split (fun h2 => ?_) (fun h2 => ?_)
     · (repeat ((repeat1' (first | simp -implicitDefEqProofs -dsimp only [go_sem, h2] | simp -dsimp (disch := omega) only [wrap_i64])); repeat (with_reducible refine sideA ?_)))
       refine among_call hB hc5 (by omega) [-1, vc1 + 1] (by simp) (by simp) rfl rfl rfl (fun vc6 c6 pvc6 hc6 => ?_)
       (repeat ((repeat1' (first | simp -implicitDefEqProofs -dsimp only [go_sem, Cur.ren, map_ren_rows] | simp -dsimp (disch := omega) only [wrap_i64])); repeat (with_reducible refine sideA ?_)))
       exact week_fin rfl (lmonoQ hc6 (by omega))
     · (repeat ((repeat1' (first | simp -implicitDefEqProofs -dsimp only [go_sem, h2] | simp -dsimp (disch := omega) only [wrap_i64])); repeat (with_reducible refine sideA ?_)))
       refine condT.split (fun h3 => ?_) (fun h3 => ?_)
       · (repeat ((repeat1' (first | simp -implicitDefEqProofs -dsimp only [go_sem, h3] | simp -dsimp (disch := omega) only [wrap_i64])); repeat (with_reducible refine sideA ?_)))
         refine among_call hB hc5 (by omega) [-1, 100000] (by simp) (by simp) rfl rfl rfl (fun vc6 c6 pvc6 hc6 => ?_)
         (repeat ((repeat1' (first | simp -implicitDefEqProofs -dsimp only [go_sem, Cur.ren, map_ren_rows] | simp -dsimp (disch := omega) only [wrap_i64])); repeat (with_reducible refine sideA ?_)))
         exact week_fin rfl (lmonoQ hc6 (by omega))
       · (repeat ((repeat1' (first | simp -implicitDefEqProofs -dsimp only [go_sem, h3] | simp -dsimp (disch := omega) only [wrap_i64])); repeat (with_reducible refine sideA ?_)))
         refine condT.split (fun h4 => ?_) (fun h4 => ?_)
         · (repeat ((repeat1' (first | simp -implicitDefEqProofs -dsimp only [go_sem, h4] | simp -dsimp (disch := omega) only [wrap_i64])); repeat (with_reducible refine sideA ?_)))
           refine among_call hB hc5 (by omega) [-1, 10000] (by simp) (by simp) rfl rfl rfl (fun vc6 c6 pvc6 hc6 => ?_)
           (repeat ((repeat1' (first | simp -implicitDefEqProofs -dsimp only [go_sem, Cur.ren, map_ren_rows] | simp -dsimp (disch := omega) only [wrap_i64])); repeat (with_reducible refine sideA ?_)))
           exact week_fin rfl (lmonoQ hc6 (by omega))
         · (repeat ((repeat1' (first | simp -implicitDefEqProofs -dsimp only [go_sem, h4] | simp -dsimp (disch := omega) only [wrap_i64])); repeat (with_reducible refine sideA ?_)))
           exact week_fin rfl (lmonoQ hc5 (by omega))
def weeksP (B : List Int) (k : Int) (r : V) (hout : Hp) : Prop := ∃ (L : List WeekRow) (c : Cur), L.length ≤ 20 ∧ c.le k ∧ r = .osl 1 0 L.length 5 ∧ hout = [some (c.cs B), some (rows WeekRow.cs L)]
theorem weeks_fin {B : List Int} {k : Int} {h : Hp} {L : List WeekRow} {c : Cur} (h0 : h[0]? = some (some (c.cs B))) (h1 : h[1]? = some (some (rows WeekRow.cs L))) (hl : L.length ≤ 20) (hc : c.le k) : RelR 1 (.osl 1 0 L.length 5) h (weeksP B k) := by
 refine ⟨_, _, ⟨L, c, hl, hc, rfl, rfl⟩, WeakR.pick [0, 1] (by decide) (fun j hj => by cases j <;> simp_all) (.inl rfl) ?_⟩
 simp only [pickH, List.map_cons, List.map_nil, pickB, h0, h1, Cur.ren, map_ren_rows]
theorem quo89 {x : Int} (h : 0 ≤ x ∧ (1 ≤ (90 : Int) → x < 90)) : ∃ j : Nat, Int.tdiv x 89 = j ∧ j ≤ 1 := by
 obtain ⟨n, rfl⟩ : ∃ n : Nat, x = n := ⟨x.toNat, by omega⟩
 refine ⟨n / 89, rfl, by omega⟩
def nth (i : Nat) : List WeekRow := (List.range i).map fun n : Nat => ⟨(n : Int) + 1, n, 0, 0, 0⟩
theorem nth_len (i : Nat) : (nth i).length = i := by simp [nth]
theorem nth_succ (i : Nat) : nth (i + 1) = nth i ++ [⟨(i : Int) + 1, i, 0, 0, 0⟩] := by simp [nth, List.range_succ]
theorem weekRows_ok {B : List Int} (hB : CB B) {k : Int} (hk : k ≤ 400000) {c : Cur} (hc : c.le k) : CtrP Tryd.prog 70 [.ptr 0 0] [some (c.cs B)] (weeksP B (k + 1000)) := by
 have hcb : ∀ {c' : Cur} {k' : Int}, c'.le k' → k' ≤ 4000000 → c'.le 4611686018427387903 := fun h h' => ⟨h.1, by have := h.2; omega⟩
 refine CtrP.intro Tryd.mixed Tryd.func70 rfl Tryd.okF70 ?_
 simp -implicitDefEqProofs -dsimp only [go_sem, Tryd.ntmps70, Tryd.results70]
 (repeat ((repeat1' (first | simp -implicitDefEqProofs -dsimp only [go_sem] | simp -dsimp (disch := omega) only [wrap_i64])); repeat (with_reducible refine sideA ?_)))
 refine among_call hB hc (by omega) [1, 40, 41, 4890] (by simp) (by simp) rfl rfl rfl (fun vc1 c1 pvc1 hc1 => ?_)
 (repeat ((repeat1' (first | simp -implicitDefEqProofs -dsimp only [go_sem, Cur.ren, map_ren_rows] | simp -dsimp (disch := omega) only [wrap_i64])); repeat (with_reducible refine sideA ?_)))
 have hb1 : 0 ≤ vc1 ∧ vc1 ≤ 5000 := by
   simp only [List.mem_cons, List.not_mem_nil, or_false] at pvc1
   omega
 refine pick_call hB hc1 (by omega) 8 (by omega) rfl (fun vc2 c2 pvc2 hc2 => ?_)
 (repeat ((repeat1' (first | simp -implicitDefEqProofs -dsimp only [go_sem, Cur.ren, map_ren_rows] | simp -dsimp (disch := omega) only [wrap_i64])); repeat (with_reducible refine sideA ?_)))
 obtain ⟨n0, hn0⟩ : ∃ n : Nat, vc2 = n := ⟨vc2.toNat, by omega⟩
 subst hn0
 refine LoopT.intro (fun x : Nat × Int × List WeekRow × Cur => x.1 ≤ 8 ∧ x.2.2.1.length + x.1 ≤ 8 ∧ (-100 ≤ x.2.1 ∧ x.2.1 ≤ 10000 - 60 * (x.1 : Int)) ∧ x.2.2.2.le (k + 20 + 60 * (8 - (x.1 : Int)))) (fun x => ⟨[.ptr 0 0, .undef, .undef, .osl 1 0 x.2.2.1.length 5, .int .i64 x.2.1, .int .i64 x.1, .undef, .undef, .undef, .undef, .undef, .undef, .undef, .undef, .undef, .undef, .undef, .undef, .undef, .undef, .undef, .undef, .undef, .undef, .undef, .undef, .undef, .undef, .undef, .undef, .undef, .undef, .undef, .undef, .undef, .undef, .undef, .undef, .undef, .undef, .undef, .undef, .undef, .undef, .undef, .undef, .undef, .undef, .undef, .undef], [some (x.2.2.2.cs B), some (rows WeekRow.cs x.2.2.1)], 1⟩) (fun x => x.1) (n0, vc1, [], c2) ⟨by simp only []; omega, by simp only [List.length_nil]; omega, ⟨by simp only []; omega, by simp only []; omega⟩, lmonoQ hc2 (by omega)⟩ ?_ (fun x hx => ?_)
 · refine Weak.cut (2) (by simp) (by simp) ?_ ?_
   · simp [LeC, LeV, ren, cutF]
   · simp [cutH, cutB, Cur.ren, ren, map_ren_rows, rows_nil]
 obtain ⟨n, wk, S, c3⟩ := x
 obtain ⟨y0, y1, y2, hc3⟩ := hx
 dsimp only at y0 y1 y2 hc3
 simp -implicitDefEqProofs -dsimp only [go_sem]
 refine condT.split (fun h1 => ?_) (fun h1 => ?_)
 · have hn : 0 < n := by have := of_decide_eq_true h1; omega
   (repeat ((repeat1' (first | simp -implicitDefEqProofs -dsimp only [go_sem, h1] | simp -dsimp (disch := omega) only [wrap_i64])); repeat (with_reducible refine sideA ?_)))
   refine callS.rel [0] (weekRow_ok hB (by omega) hc3 wk) (by decide) ⟨leO, leO, trivial⟩ (lendCur rfl) rfl (fun r hout hΦ => ?_)
   obtain ⟨q, c4, hc4, rfl, rfl⟩ := hΦ
   refine ⟨⟨⟨rfl, rfl⟩, trivial⟩, ?_⟩
   have hsn : rows WeekRow.cs S ++ [.int .i64 q.Week, .int .i64 q.Events, .int .i64 q.Felt, .int .i64 q.Picks, .int .i64 q.Lost] = rows WeekRow.cs (S ++ [q]) := rows_snoc (cs := WeekRow.cs) S q
   (repeat ((repeat1' (first | simp -implicitDefEqProofs -dsimp only [go_sem, Cur.ren, WeekRow.v, map_ren_rows, hsn] | simp -dsimp (disch := omega) only [wrap_i64])); repeat (with_reducible refine sideA ?_)))
   refine among_call hB hc4 (by omega) [1, 1, 1, 2, 40] (by simp) (by simp) rfl rfl rfl (fun vc5 c5 pvc5 hc5 => ?_)
   have hb5 : 1 ≤ vc5 ∧ vc5 ≤ 40 := by
     simp only [List.mem_cons, List.not_mem_nil, or_false] at pvc5
     omega
   (repeat ((repeat1' (first | simp -implicitDefEqProofs -dsimp only [go_sem, Cur.ren, map_ren_rows] | simp -dsimp (disch := omega) only [wrap_i64])); repeat (with_reducible refine sideA ?_)))
   refine pick_call hB hc5 (by omega) 90 (by omega) rfl (fun vc6 c6 pvc6 hc6 => ?_)
   obtain ⟨j, hj, hjb⟩ := quo89 pvc6
   (repeat ((repeat1' (first | simp -implicitDefEqProofs -dsimp only [go_sem, Cur.ren, map_ren_rows, hj] | simp -dsimp (disch := omega) only [wrap_i64])); repeat (with_reducible refine sideA ?_)))
   have hn1 : ((n - 1 : Nat) : Int) = (n : Int) - 1 := by omega
   refine ⟨(n - 1, wk + vc5 - (j : Int), S ++ [q], c6), ⟨by simp only []; omega, by simp only [List.length_append, List.length_cons, List.length_nil]; omega, ⟨by simp only []; omega, by simp only []; omega⟩, lmonoQ hc6 (by omega)⟩, ?_, by simp only []; omega⟩
   refine Weak.cut (2) (by simp) (by simp) ?_ ?_
   · simp [LeC, LeV, ren, cutF, hn1]
   · simp [cutH, cutB, cutF, Cur.ren, ren, map_ren_rows]
 · (repeat ((repeat1' (first | simp -implicitDefEqProofs -dsimp only [go_sem, h1] | simp -dsimp (disch := omega) only [wrap_i64])); repeat (with_reducible refine sideA ?_)))
   refine one_call hB hc3 (by omega) 24 (by omega) rfl (fun vc4 c4 hc4 => ?_)
   (repeat ((repeat1' (first | simp -implicitDefEqProofs -dsimp only [go_sem, Cur.ren, map_ren_rows] | simp -dsimp (disch := omega) only [wrap_i64])); repeat (with_reducible refine sideA ?_)))
   refine condT.split (fun h2 => ?_) (fun h2 => ?_)
   · (repeat ((repeat1' (first | simp -implicitDefEqProofs -dsimp only [go_sem, h2] | simp -dsimp (disch := omega) only [wrap_i64])); repeat (with_reducible refine sideA ?_)))
     refine LoopT.intro (fun x : Nat × Cur => x.1 ≤ 13 ∧ x.2.le (k + 520 + 10 * (x.1 : Int))) (fun x => ⟨[.ptr 0 0, .undef, .undef, .osl 1 0 x.1 5, .undef, .undef, .int .i64 x.1, .undef, .undef, .undef, .undef, .undef, .undef, .undef, .undef, .undef, .undef, .undef, .undef, .undef, .undef, .undef, .undef, .undef, .undef, .undef, .undef, .undef, .undef, .undef, .undef, .undef, .undef, .undef, .undef, .undef, .undef, .undef, .undef, .undef, .undef, .undef, .undef, .undef, .undef, .undef, .undef, .undef, .undef, .undef], [some (x.2.cs B), some (rows WeekRow.cs (nth x.1))], 1⟩) (fun x => 13 - x.1) (0, c4) ⟨by simp only []; omega, lmonoQ hc4 (by omega)⟩ ?_ (fun x hx => ?_)
     · refine Weak.pick [0, 2] (by decide) (fun j hj => by cases j <;> simp_all) ?_ ?_
       · simp [LeG, LeC, LeV, ren, pickF, posOf]
       · simp [pickH, pickB, Cur.ren, nth, rows_nil]
     obtain ⟨i, c5⟩ := x
     obtain ⟨z0, hc5⟩ := hx
     dsimp only at z0 hc5
     (repeat ((repeat1' (first | simp -implicitDefEqProofs -dsimp only [go_sem] | simp -dsimp (disch := omega) only [wrap_i64])); repeat (with_reducible refine sideA ?_)))
     refine pick_call hB hc5 (by omega) 2 (by omega) rfl (fun vc6 c6 pvc6 hc6 => ?_)
     (repeat ((repeat1' (first | simp -implicitDefEqProofs -dsimp only [go_sem, Cur.ren, map_ren_rows] | simp -dsimp (disch := omega) only [wrap_i64])); repeat (with_reducible refine sideA ?_)))
     refine condT.split (fun h3 => ?_) (fun h3 => ?_)
     · have hi3 : i ≤ 12 := by have := of_decide_eq_true h3; omega
       have hsn : rows WeekRow.cs (nth i) ++ [.int .i64 ((i : Int) + 1), .int .i64 i, .int .i64 0, .int .i64 0, .int .i64 0] = rows WeekRow.cs (nth (i + 1)) := by
         rw [nth_succ]
         exact rows_snoc (cs := WeekRow.cs) (nth i) ⟨(i : Int) + 1, i, 0, 0, 0⟩
       have hil : (rows WeekRow.cs (nth i)).length = i * 5 := by rw [rows_len (w := 5) WeekRow.csl, nth_len]
       (repeat ((repeat1' (first | simp -implicitDefEqProofs -dsimp only [go_sem, h3, hsn, Cur.ren] | simp -dsimp (disch := omega) only [wrap_i64])); repeat (with_reducible refine sideA ?_)))
       refine ⟨(i + 1, c6), ⟨by simp only []; omega, lmonoQ hc6 (by simp only []; omega)⟩, ?_, by simp only []; omega⟩
       refine Weak.cut (2) (by simp) (by simp) ?_ ?_
       · simp [LeC, LeV, ren, cutF]
       · simp [cutH, cutB, cutF, Cur.ren, ren, map_ren_rows]
     · (repeat ((repeat1' (first | simp -implicitDefEqProofs -dsimp only [go_sem, h3] | simp -dsimp (disch := omega) only [wrap_i64])); repeat (with_reducible refine sideA ?_)))
       have := weeks_fin (B := B) (k := k + 1000) (h := [some (Cur.cs B c6), some (rows WeekRow.cs (nth i))]) (L := nth i) rfl rfl (by rw [nth_len]; omega) (lmonoQ hc6 (by omega))
       rw [nth_len] at this
       exact this
   · (repeat ((repeat1' (first | simp -implicitDefEqProofs -dsimp only [go_sem, h2, Cur.ren] | simp -dsimp (disch := omega) only [wrap_i64])); repeat (with_reducible refine sideA ?_)))
     exact weeks_fin rfl rfl (by omega) (lmonoQ hc4 (by omega))
def dWeekP (r : V) (hout : Hp) : Prop := ∃ q : WeekRow, r = q.v ∧ hout = []
def dWeeksP (r : V) (hout : Hp) : Prop := ∃ L : List WeekRow, L.length ≤ 20 ∧ r = WeekRow.sl L ∧ hout = []
def dWeeks2P (r : V) (hout : Hp) : Prop := ∃ L K : List WeekRow, L.length ≤ 20 ∧ K.length ≤ 20 ∧ r = .tup [WeekRow.sl L, WeekRow.sl K] ∧ hout = []
theorem drawIsWeekRow_ok {B : List Int} (hB : CB B) : CtrP Tryd.prog 77 [ByteS.sl B] [] dWeekP := by
 have hcb : ∀ {c' : Cur} {k' : Int}, c'.le k' → k' ≤ 4000000 → c'.le 4611686018427387903 := fun h h' => ⟨h.1, by have := h.2; omega⟩
 obtain ⟨c, hcd⟩ : ∃ c : Cur, c = ⟨0, 0⟩ := ⟨_, rfl⟩
 have hc : c.le 0 := by rw [hcd]; exact ⟨Int.le_refl _, Int.le_refl _⟩
 have hcc : c.cs B = [ByteS.sl B, .int .i64 0, .int .u64 0] := by rw [hcd]; rfl
 refine CtrP.intro Tryd.mixed Tryd.func77 rfl Tryd.okF77 ?_
 simp -implicitDefEqProofs -dsimp only [go_sem, Tryd.ntmps77, Tryd.results77]
 (repeat ((repeat1' (first | simp -implicitDefEqProofs -dsimp only [go_sem, ByteS.sl] | simp -dsimp (disch := omega) only [wrap_i64])); repeat (with_reducible refine sideA ?_)))
 rw [← ByteS.sl, ← hcc]
 refine among_call hB hc (by omega) [1, 42, 5000] (by simp) (by simp) rfl rfl rfl (fun vc1 c1 pvc1 hc1 => ?_)
 (repeat ((repeat1' (first | simp -implicitDefEqProofs -dsimp only [go_sem, Cur.ren, map_ren_rows] | simp -dsimp (disch := omega) only [wrap_i64])); repeat (with_reducible refine sideA ?_)))
 refine callS.rel [1] (weekRow_ok hB (by omega) hc1 _) (by decide) ⟨leO, leO, trivial⟩ (lendCur rfl) rfl (fun r hout hΦ => ?_)
 obtain ⟨q, c2, hc2, rfl, rfl⟩ := hΦ
 refine ⟨⟨⟨rfl, rfl⟩, trivial⟩, ?_⟩
 (repeat ((repeat1' (first | simp -implicitDefEqProofs -dsimp only [go_sem, Cur.ren, map_ren_rows, WeekRow.v] | simp -dsimp (disch := omega) only [wrap_i64])); repeat (with_reducible refine sideA ?_)))
 exact ⟨_, _, ⟨q, rfl, rfl⟩, WeakR.drop' rfl (by simp [noOwn, rows_noOwn, WeekRow.v])⟩
theorem drawWeekLine_ok {B : List Int} (hB : CB B) : CtrP Tryd.prog 19 [ByteS.sl B] [] dWeekP := by
 refine CtrP.intro Tryd.mixed Tryd.func19 rfl Tryd.okF19 ?_
 simp -implicitDefEqProofs -dsimp only [go_sem, Tryd.ntmps19, Tryd.results19]
 (repeat ((repeat1' (first | simp -implicitDefEqProofs -dsimp only [go_sem] | simp -dsimp (disch := omega) only [wrap_i64])); repeat (with_reducible refine sideA ?_)))
 refine callS.rel [] (drawIsWeekRow_ok hB) (by decide) ⟨leO, trivial⟩ rfl rfl (fun r hout hΦ => ?_)
 obtain ⟨q, rfl, rfl⟩ := hΦ
 refine ⟨trivial, ?_⟩
 (repeat ((repeat1' (first | simp -implicitDefEqProofs -dsimp only [go_sem, WeekRow.v] | simp -dsimp (disch := omega) only [wrap_i64])); repeat (with_reducible refine sideA ?_)))
 exact ⟨_, _, ⟨q, rfl, rfl⟩, WeakR.drop' rfl (by simp [noOwn, rows_noOwn, WeekRow.v])⟩
theorem fin_weeks {h : Hp} {i : Nat} {L : List WeekRow} (hi : h[i]? = some (some (rows WeekRow.cs L))) : WeakR 0 (.osl i 0 L.length 5) h (WeekRow.sl L) [] := by
 refine WeakR.pick [] (by decide) (fun j hj => by omega) (.inl ?_) rfl
 simp [ren, pickF, posOf, frzR, hi, take_rows, map_ren_rows]
theorem fin_weeks2 {h : Hp} {i j : Nat} {L K : List WeekRow} (hi : h[i]? = some (some (rows WeekRow.cs L))) (hj : h[j]? = some (some (rows WeekRow.cs K))) : WeakR 0 (.tup [.osl i 0 L.length 5, .osl j 0 K.length 5]) h (.tup [WeekRow.sl L, WeekRow.sl K]) [] := by
 refine WeakR.pick [] (by decide) (fun j hj => by omega) (.inl ?_) rfl
 simp [ren, pickF, posOf, frzR, hi, hj, take_rows, map_ren_rows]
theorem drawAreWeekRows_ok {B : List Int} (hB : CB B) : CtrP Tryd.prog 61 [ByteS.sl B] [] dWeeksP := by
 have hcb : ∀ {c' : Cur} {k' : Int}, c'.le k' → k' ≤ 4000000 → c'.le 4611686018427387903 := fun h h' => ⟨h.1, by have := h.2; omega⟩
 obtain ⟨c, hcd⟩ : ∃ c : Cur, c = ⟨0, 0⟩ := ⟨_, rfl⟩
 have hc : c.le 0 := by rw [hcd]; exact ⟨Int.le_refl _, Int.le_refl _⟩
 have hcc : c.cs B = [ByteS.sl B, .int .i64 0, .int .u64 0] := by rw [hcd]; rfl
 refine CtrP.intro Tryd.mixed Tryd.func61 rfl Tryd.okF61 ?_
 simp -implicitDefEqProofs -dsimp only [go_sem, Tryd.ntmps61, Tryd.results61]
 (repeat ((repeat1' (first | simp -implicitDefEqProofs -dsimp only [go_sem, ByteS.sl] | simp -dsimp (disch := omega) only [wrap_i64])); repeat (with_reducible refine sideA ?_)))
 rw [← ByteS.sl, ← hcc]
 refine callS.rel [0] (weekRows_ok hB (by omega) hc) (by decide) ⟨leO, trivial⟩ (lendCur rfl) rfl (fun r hout hΦ => ?_)
 obtain ⟨L, c1, hL, hc1, rfl, rfl⟩ := hΦ
 refine ⟨⟨⟨rfl, rfl⟩, trivial⟩, ?_⟩
 (repeat ((repeat1' (first | simp -implicitDefEqProofs -dsimp only [go_sem, Cur.ren, map_ren_rows] | simp -dsimp (disch := omega) only [wrap_i64])); repeat (with_reducible refine sideA ?_)))
 exact ⟨_, _, ⟨L, hL, rfl, rfl⟩, fin_weeks rfl⟩
theorem drawRunningEvents_ok {B : List Int} (hB : CB B) : CtrP Tryd.prog 8 [ByteS.sl B] [] dWeeksP := by
 refine CtrP.intro Tryd.mixed Tryd.func8 rfl Tryd.okF8 ?_
 simp -implicitDefEqProofs -dsimp only [go_sem, Tryd.ntmps8, Tryd.results8]
 (repeat ((repeat1' (first | simp -implicitDefEqProofs -dsimp only [go_sem] | simp -dsimp (disch := omega) only [wrap_i64])); repeat (with_reducible refine sideA ?_)))
 refine callS.rel [] (drawAreWeekRows_ok hB) (by decide) ⟨leO, trivial⟩ rfl rfl (fun r hout hΦ => ?_)
 obtain ⟨L, hL, rfl, rfl⟩ := hΦ
 refine ⟨trivial, ?_⟩
 (repeat ((repeat1' (first | simp -implicitDefEqProofs -dsimp only [go_sem, WeekRow.sl] | simp -dsimp (disch := omega) only [wrap_i64])); repeat (with_reducible refine sideA ?_)))
 exact ⟨_, _, ⟨L, hL, rfl, rfl⟩, WeakR.drop' rfl (by simp [noOwn, rows_noOwn, WeekRow.sl])⟩
theorem drawJoinWeeks_ok {B : List Int} (hB : CB B) : CtrP Tryd.prog 15 [ByteS.sl B] [] dWeeks2P := by
 have hcb : ∀ {c' : Cur} {k' : Int}, c'.le k' → k' ≤ 4000000 → c'.le 4611686018427387903 := fun h h' => ⟨h.1, by have := h.2; omega⟩
 obtain ⟨c, hcd⟩ : ∃ c : Cur, c = ⟨0, 0⟩ := ⟨_, rfl⟩
 have hc : c.le 0 := by rw [hcd]; exact ⟨Int.le_refl _, Int.le_refl _⟩
 have hcc : c.cs B = [ByteS.sl B, .int .i64 0, .int .u64 0] := by rw [hcd]; rfl
 refine CtrP.intro Tryd.mixed Tryd.func15 rfl Tryd.okF15 ?_
 simp -implicitDefEqProofs -dsimp only [go_sem, Tryd.ntmps15, Tryd.results15]
 (repeat ((repeat1' (first | simp -implicitDefEqProofs -dsimp only [go_sem, ByteS.sl] | simp -dsimp (disch := omega) only [wrap_i64])); repeat (with_reducible refine sideA ?_)))
 rw [← ByteS.sl, ← hcc]
 refine callS.rel [0] (weekRows_ok hB (by omega) hc) (by decide) ⟨leO, trivial⟩ (lendCur rfl) rfl (fun r hout hΦ => ?_)
 obtain ⟨L, c1, hL, hc1, rfl, rfl⟩ := hΦ
 refine ⟨⟨⟨rfl, rfl⟩, trivial⟩, ?_⟩
 (repeat ((repeat1' (first | simp -implicitDefEqProofs -dsimp only [go_sem, Cur.ren, map_ren_rows] | simp -dsimp (disch := omega) only [wrap_i64])); repeat (with_reducible refine sideA ?_)))
 refine callS.rel [0] (weekRows_ok hB (by omega) hc1) (by decide) ⟨leO, trivial⟩ (lendCur rfl) rfl (fun r hout hΦ => ?_)
 obtain ⟨K, c2, hK, hc2, rfl, rfl⟩ := hΦ
 refine ⟨⟨⟨rfl, rfl⟩, trivial⟩, ?_⟩
 (repeat ((repeat1' (first | simp -implicitDefEqProofs -dsimp only [go_sem, Cur.ren, map_ren_rows] | simp -dsimp (disch := omega) only [wrap_i64])); repeat (with_reducible refine sideA ?_)))
 exact ⟨_, _, ⟨L, K, hL, hK, rfl, rfl⟩, fin_weeks2 rfl rfl⟩
end Go.Proofs
end
section
set_option maxRecDepth 100000
set_option maxHeartbeats 2000000
namespace Go.Proofs
open Go.Lv
theorem rBig_ok (L : List Int) : Ctr Tryd.prog 7 [ByteS.sl L] [] (.bool (decide (65536 < (L.length : Int)))) [] := by
 refine Ctr.intro Tryd.mixed Tryd.func7 rfl Tryd.okF7 ?_
 simp -implicitDefEqProofs -dsimp only [go_sem, Tryd.ntmps7, Tryd.results7]
 (repeat ((repeat1' (first | simp -implicitDefEqProofs -dsimp only [go_sem] | simp -dsimp (disch := omega) only [wrap_i64])); repeat (with_reducible refine sideA ?_)))
 exact WeakR.drop' rfl (by rfl)
theorem rInts_ok (L : List Int) (hl : L.length ≤ 1048576) : Ctr Tryd.prog 11 [IntS.sl L, IntS.sl L] [] (.bool true) [] := by
 refine Ctr.intro Tryd.mixed Tryd.func11 rfl Tryd.okF11 ?_
 simp -implicitDefEqProofs -dsimp only [go_sem, Tryd.ntmps11, Tryd.results11]
 (repeat ((repeat1' (first | simp -implicitDefEqProofs -dsimp only [go_sem] | simp -dsimp (disch := omega) only [wrap_i64])); repeat (with_reducible refine sideA ?_)))
 refine LoopT.intro (fun i : Nat => i ≤ L.length) (fun i => ⟨[IntS.sl L, IntS.sl L, .undef, .undef, .undef, .int .i64 i, .undef, .undef, .undef, .undef, .undef, .undef, .undef, .undef, .undef, .undef, .undef, .undef, .undef, .undef, .undef, .undef, .undef, .undef, .undef, .undef], [], 0⟩) (fun i => L.length - i) 0 (Nat.zero_le _) ?_ (fun i hi => ?_)
 · refine Weak.cut (0) (by simp) (by simp) ?_ ?_
   · simp [LeC, LeV, ren, cutF]
   · rfl
 simp -implicitDefEqProofs -dsimp only [go_sem]
 refine condT.split (fun h1 => ?_) (fun h1 => ?_)
 · have hi' : i < L.length := by simpa using h1
   have hr := rows_at IntS.csl hi'
   (repeat ((repeat1' (first | simp -implicitDefEqProofs -dsimp only [go_sem, h1, hr, IntS.cs] | simp -dsimp (disch := omega) only [wrap_i64])); repeat (with_reducible refine sideA ?_)))
   refine ⟨i + 1, hi', ?_, by omega⟩
   refine Weak.cut (0) (by simp) (by simp) ?_ ?_
   · simp [LeC, LeV, ren, cutF]
   · rfl
 · (repeat ((repeat1' (first | simp -implicitDefEqProofs -dsimp only [go_sem, h1] | simp -dsimp (disch := omega) only [wrap_i64])); repeat (with_reducible refine sideA ?_)))
   exact WeakR.drop' rfl (by rfl)
theorem rWeeks_ok (L : List WeekRow) (hl : L.length ≤ 1048576) : Ctr Tryd.prog 18 [WeekRow.sl L, WeekRow.sl L] [] (.bool true) [] := by
 refine Ctr.intro Tryd.mixed Tryd.func18 rfl Tryd.okF18 ?_
 simp -implicitDefEqProofs -dsimp only [go_sem, Tryd.ntmps18, Tryd.results18]
 (repeat ((repeat1' (first | simp -implicitDefEqProofs -dsimp only [go_sem] | simp -dsimp (disch := omega) only [wrap_i64])); repeat (with_reducible refine sideA ?_)))
 refine LoopT.intro (fun i : Nat => i ≤ L.length) (fun i => ⟨[WeekRow.sl L, WeekRow.sl L, .undef, .undef, .undef, .int .i64 i, .undef, .undef, .undef, .undef, .undef, .undef, .undef, .undef, .undef, .undef, .undef, .undef, .undef, .undef, .undef, .undef, .undef, .undef, .undef, .undef], [], 0⟩) (fun i => L.length - i) 0 (Nat.zero_le _) ?_ (fun i hi => ?_)
 · refine Weak.cut (0) (by simp) (by simp) ?_ ?_
   · simp [LeC, LeV, ren, cutF]
   · rfl
 simp -implicitDefEqProofs -dsimp only [go_sem]
 refine condT.split (fun h1 => ?_) (fun h1 => ?_)
 · have hi' : i < L.length := by simpa using h1
   have hr := rows_at WeekRow.csl hi'
   (repeat ((repeat1' (first | simp -implicitDefEqProofs -dsimp only [go_sem, h1, hr, WeekRow.cs] | simp -dsimp (disch := omega) only [wrap_i64])); repeat (with_reducible refine sideA ?_)))
   refine ⟨i + 1, hi', ?_, by omega⟩
   refine Weak.cut (0) (by simp) (by simp) ?_ ?_
   · simp [LeC, LeV, ren, cutF]
   · rfl
 · (repeat ((repeat1' (first | simp -implicitDefEqProofs -dsimp only [go_sem, h1] | simp -dsimp (disch := omega) only [wrap_i64])); repeat (with_reducible refine sideA ?_)))
   exact WeakR.drop' rfl (by rfl)
end Go.Proofs
end
section
set_option maxRecDepth 100000
set_option maxHeartbeats 4000000
namespace Go.Proofs
open Go.Lv
def nlTo (s : ByteArray) (i : Nat) : Nat := (s.data.toList.take i).countP (fun c => c == 10)
theorem nlTo_le (s : ByteArray) (i : Nat) : nlTo s i ≤ i := Nat.le_trans (List.countP_le_length) (by simp; omega)
theorem nlTo_all (s : ByteArray) : nlTo s s.size = nl s := by
 have : s.size = s.data.toList.length := by rw [Array.length_toList]; rfl
 rw [nlTo, this, List.take_length]; rfl
theorem nlTo_succ {s : ByteArray} {i : Nat} (h : i < s.size) : nlTo s (i + 1) = nlTo s i + if ((s[i].toNat : Int) == 10) = true then 1 else 0 := by
 have h' : i < s.data.toList.length := by rw [Array.length_toList]; exact h
 have e : s.data.toList[i] = s[i] := by rw [Array.getElem_toList]; rfl
 rw [nlTo, List.take_succ_eq_append_getElem h', List.countP_append, e, nlTo]
 congr 1
 have hb : (s[i] == 10) = ((s[i].toNat : Int) == 10) := by
   rw [Bool.eq_iff_iff, beq_iff_eq, beq_iff_eq]
   constructor
   · intro h; rw [h]; rfl
   · intro h
     apply UInt8.toNat_inj.1
     have : s[i].toNat = 10 := by omega
     rw [this]; rfl
 cases hq : ((s[i].toNat : Int) == 10) with
 | true => rw [hq] at hb; simp [hb]
 | false => rw [hq] at hb; simp [hb]
theorem reportR_eq (L : List WeekRow) : ∃ s : ByteArray, reportR L = .tup [.str s, .bool (wrsB L)] ∧ (wrsB L = true → nl s = L.length) ∧ s.size ≤ 100000 := by
 cases h : wrsB L with
 | false => exact ⟨ByteArray.empty, by simp [reportR, h], (fun h => by cases h), by decide⟩
 | true =>
   refine ⟨reportOf L, by simp [reportR, h], fun _ => nl_report L, ?_⟩
   obtain ⟨hv, hl⟩ := wrsB_all h
   have hp := psum_take_le (wrs_events hv) (by omega) hl L.length
   have hf := psum_take_le (wrs_felt hv) (by omega) hl L.length
   rw [List.take_length] at hp hf
   have n1 := num_size' (n := psum WeekRow.Events L) (by omega) (by omega)
   have n2 := num_size' (n := psum WeekRow.Felt L) (by omega) (by omega)
   have ht := textOf_size (line := weekLine) (L := L) (B := 200) (fun x hx => weekLine_size (hv x hx)) L.length (Nat.le_refl _)
   rw [List.take_length] at ht
   have hm : L.length * (200 + 1) ≤ 12 * 201 := Nat.mul_le_mul_right _ hl
   unfold reportOf
   simp only [ByteArray.size_append, ba_size, List.size_toArray, List.length_cons, List.length_nil]
   omega
theorem lineR_eq (q : WeekRow) : ∃ s : ByteArray, lineR q = .tup [.str s, .bool (wrB q)] := by
 unfold lineR
 cases h : wrB q with
 | true => exact ⟨_, rfl⟩
 | false => exact ⟨_, rfl⟩
theorem runR_fz (L : List WeekRow) : ∃ M : List Int, M.length ≤ 12 ∧ frzV IntS.cs 1 (runR L) = .tup [IntS.sl M, .bool (wrsB L)] := by
 cases h : wrsB L with
 | false => exact ⟨[], by simp, by simp [frzV, runR, h, IntS.sl]⟩
 | true => exact ⟨runTo L L.length, by rw [runTo_len]; exact (wrsB_all h).2, by simp [frzV, runR, h, IntS.sl]⟩
theorem evs_take {L : List WeekRow} (h : wrsB L = true) (i : Nat) : 0 ≤ psum WeekRow.Events (L.take i) ∧ psum WeekRow.Events (L.take i) ≤ 12 * 9999 := by
 obtain ⟨hv, hl⟩ := wrsB_all h
 exact psum_take_le (wrs_events hv) (by omega) hl i
theorem fnWeeksLaw_ok (L : List Int) (hL : lstR ByteS.ok L) : Ctr Tryd.prog 3 [ByteS.sl L] [] (.bool true) [] := by
 have hB : CB L := hL
 refine Ctr.intro Tryd.mixed Tryd.func3 rfl Tryd.okF3 ?_
 simp -implicitDefEqProofs -dsimp only [go_sem, Tryd.ntmps3, Tryd.results3]
 (repeat ((repeat1' (first | simp -implicitDefEqProofs -dsimp only [go_sem] | simp -dsimp (disch := omega) only [wrap_i64])); repeat (with_reducible refine sideA ?_)))
 (first | refine callT.at (rBig_ok L) ⟨leA, trivial⟩ ?_ | refine callS.at (rBig_ok L) ⟨leA, trivial⟩ ?_)
 (repeat ((repeat1' (first | simp -implicitDefEqProofs -dsimp only [go_sem] | simp -dsimp (disch := omega) only [wrap_i64])); repeat (with_reducible refine sideA ?_)))
 refine condT.split (fun h1 => ?_) (fun h1 => ?_) <;> (repeat ((repeat1' (first | simp -implicitDefEqProofs -dsimp only [go_sem, h1] | simp -dsimp (disch := omega) only [wrap_i64])); repeat (with_reducible refine sideA ?_)))
 · exact WeakR.drop' rfl (by rfl)
 refine callS.rel [] (drawRunningEvents_ok hB) (by decide) ⟨leO, trivial⟩ rfl rfl (fun r hout hΦ => ?_)
 obtain ⟨K, hK, rfl, rfl⟩ := hΦ
 refine ⟨trivial, ?_⟩
 (repeat ((repeat1' (first | simp -implicitDefEqProofs -dsimp only [go_sem] | simp -dsimp (disch := omega) only [wrap_i64])); repeat (with_reducible refine sideA ?_)))
 have ir := (iRunningEvents_ok K (by omega)).weak (frzN _)
 have sr := (sRunningEvents_ok K (by omega)).weak (frzO _)
 obtain ⟨M0, hM0, eM0⟩ := runR_fz K
 rw [eM0] at ir sr
 have iw := iWeekReport_ok K (by omega)
 have sw := sWeekReport_ok K (by omega)
 obtain ⟨s, es, hnl, hsz⟩ := reportR_eq K
 rw [es] at iw sw
 have ia := iAreWeekRows_ok K (by omega)
 generalize hkb : wrsB K = kb at ir sr iw sw ia hnl
 (first | refine callT.at (ir) ⟨leA, trivial⟩ ?_ | refine callS.at (ir) ⟨leA, trivial⟩ ?_)
 (repeat ((repeat1' (first | simp -implicitDefEqProofs -dsimp only [go_sem] | simp -dsimp (disch := omega) only [wrap_i64])); repeat (with_reducible refine sideA ?_)))
 (first | refine callT.at (sr) ⟨leA, trivial⟩ ?_ | refine callS.at (sr) ⟨leA, trivial⟩ ?_)
 (repeat ((repeat1' (first | simp -implicitDefEqProofs -dsimp only [go_sem] | simp -dsimp (disch := omega) only [wrap_i64])); repeat (with_reducible refine sideA ?_)))
 (first | refine callT.at (rInts_ok M0 (by omega)) ⟨leA, leA, trivial⟩ ?_ | refine callS.at (rInts_ok M0 (by omega)) ⟨leA, leA, trivial⟩ ?_)
 (repeat ((repeat1' (first | simp -implicitDefEqProofs -dsimp only [go_sem] | simp -dsimp (disch := omega) only [wrap_i64])); repeat (with_reducible refine sideA ?_)))
 (first | refine callT.at (ia) ⟨leA, trivial⟩ ?_ | refine callS.at (ia) ⟨leA, trivial⟩ ?_)
 (repeat ((repeat1' (first | simp -implicitDefEqProofs -dsimp only [go_sem] | simp -dsimp (disch := omega) only [wrap_i64])); repeat (with_reducible refine sideA ?_)))
 (first | refine callT.at (iw) ⟨leA, trivial⟩ ?_ | refine callS.at (iw) ⟨leA, trivial⟩ ?_)
 (repeat ((repeat1' (first | simp -implicitDefEqProofs -dsimp only [go_sem] | simp -dsimp (disch := omega) only [wrap_i64])); repeat (with_reducible refine sideA ?_)))
 (first | refine callT.at (sw) ⟨leA, trivial⟩ ?_ | refine callS.at (sw) ⟨leA, trivial⟩ ?_)
 (repeat ((repeat1' (first | simp -implicitDefEqProofs -dsimp only [go_sem] | simp -dsimp (disch := omega) only [wrap_i64])); repeat (with_reducible refine sideA ?_)))
 refine LoopT.intro (fun i : Nat => i ≤ s.size) (fun i => ⟨[ByteS.sl L, .undef, .undef, WeekRow.sl K, .undef, .undef, .undef, .undef, .str s, .bool kb, .undef, .undef, .int .i64 (nlTo s i), .int .i64 i, .undef, .undef, .undef, .undef, .undef, .undef, .undef, .undef, .undef, .undef, .undef, .undef, .undef, .undef, .undef, .undef, .undef, .undef, .undef, .undef, .undef, .undef, .undef, .undef, .undef, .undef, .undef, .undef, .undef, .undef, .undef, .undef, .undef, .undef, .undef, .undef, .undef, .undef, .undef, .undef, .undef, .undef, .undef, .undef, .undef, .undef, .undef, .undef, .undef, .undef, .undef, .undef, .undef, .undef, .undef, .undef, .undef, .undef, .undef, .undef, .undef, .undef, .undef, .undef, .undef, .undef, .undef, .undef, .undef, .undef, .undef, .undef, .undef, .undef, .undef, .undef, .undef, .undef, .undef, .undef, .undef, .undef, .undef, .undef, .undef, .undef, .undef, .undef, .undef, .undef, .undef, .undef, .undef, .undef, .undef, .undef, .undef, .undef, .undef, .undef, .undef, .undef, .undef, .undef, .undef, .undef, .undef, .undef, .undef, .undef, .undef, .undef, .undef, .undef, .undef, .undef, .undef, .undef, .undef, .undef, .undef, .undef, .undef, .undef, .undef, .undef, .undef, .undef, .undef, .undef, .undef, .undef, .undef, .undef, .undef, .undef, .undef, .undef, .undef, .undef, .undef, .undef, .undef, .undef, .undef, .undef, .undef, .undef, .undef, .undef, .undef, .undef, .undef, .undef, .undef, .undef, .undef, .undef, .undef, .undef, .undef, .undef, .undef, .undef, .undef, .undef, .undef, .undef, .undef, .undef, .undef, .undef, .undef, .undef, .undef, .undef, .undef, .undef, .undef, .undef, .undef, .undef, .undef, .undef, .undef, .undef, .undef, .undef, .undef, .undef, .undef, .undef, .undef], [], 0⟩) (fun i => s.size - i) 0 (Nat.zero_le _) ?_ (fun i hi => ?_)
 · refine Weak.cut (0) (by simp) (by simp) ?_ ?_
   · simp [LeC, LeV, ren, cutF, WeekRow.sl, nlTo]
   · rfl
 have hnt := nlTo_le s i
 simp -implicitDefEqProofs -dsimp only [go_sem]
 refine condT.split (fun g1 => ?_) (fun g1 => ?_)
 · have hi' : i < s.size := by simpa using g1
   have hsc := nlTo_succ hi'
   (repeat ((repeat1' (first | simp -implicitDefEqProofs -dsimp only [go_sem, g1] | simp -dsimp (disch := omega) only [wrap_i64])); repeat (with_reducible refine sideA ?_)))
   refine ⟨⟨by omega, by omega⟩, ?_⟩
   refine condT.split (fun g2 => ?_) (fun g2 => ?_)
   · rw [if_pos g2] at hsc
     (repeat ((repeat1' (first | simp -implicitDefEqProofs -dsimp only [go_sem, g2] | simp -dsimp (disch := omega) only [wrap_i64])); repeat (with_reducible refine sideA ?_)))
     refine ⟨i + 1, hi', ?_, by omega⟩
     refine Weak.cut (0) (by simp) (by simp) ?_ ?_
     · simp [LeC, LeV, ren, cutF, hsc]
     · rfl
   · rw [if_neg (by rw [g2]; decide)] at hsc
     (repeat ((repeat1' (first | simp -implicitDefEqProofs -dsimp only [go_sem, g2] | simp -dsimp (disch := omega) only [wrap_i64])); repeat (with_reducible refine sideA ?_)))
     refine ⟨i + 1, hi', ?_, by omega⟩
     refine Weak.cut (0) (by simp) (by simp) ?_ ?_
     · simp [LeC, LeV, ren, cutF, hsc]
     · rfl
 have hi' : i = s.size := by simp at g1; omega
 subst hi'
 rw [nlTo_all]
 (repeat ((repeat1' (first | simp -implicitDefEqProofs -dsimp only [go_sem, g1] | simp -dsimp (disch := omega) only [wrap_i64])); repeat (with_reducible refine sideA ?_)))
 cases kb with
 | false =>
   (repeat ((repeat1' (first | simp -implicitDefEqProofs -dsimp only [go_sem] | simp -dsimp (disch := omega) only [wrap_i64])); repeat (with_reducible refine sideA ?_)))
   refine callS.rel [] (drawJoinWeeks_ok hB) (by decide) ⟨leO, trivial⟩ rfl rfl (fun r hout hΦ => ?_)
   obtain ⟨a, b, hla, hlb, rfl, rfl⟩ := hΦ
   refine ⟨trivial, ?_⟩
   (repeat ((repeat1' (first | simp -implicitDefEqProofs -dsimp only [go_sem] | simp -dsimp (disch := omega) only [wrap_i64])); repeat (with_reducible refine sideA ?_)))
   have ij := (iJoinWeeks_ok a b (by omega) (by omega)).weak (frzN _)
   have sj := (sJoinWeeks_ok a b (by omega) (by omega)).weak (frzO _)
   have ji := (iJoinWeeks_ok b a (by omega) (by omega)).weak (frzN _)
   cases hJ : joinR a b with
   | none =>
     rw [hJ] at ij sj
     simp only [frzV, Option.getD_none, Option.isSome_none, List.length_nil] at ij sj
     (first | refine callT.at (ij) ⟨leA, leA, trivial⟩ ?_ | refine callS.at (ij) ⟨leA, leA, trivial⟩ ?_)
     (repeat ((repeat1' (first | simp -implicitDefEqProofs -dsimp only [go_sem] | simp -dsimp (disch := omega) only [wrap_i64])); repeat (with_reducible refine sideA ?_)))
     (first | refine callT.at (sj) ⟨leA, leA, trivial⟩ ?_ | refine callS.at (sj) ⟨leA, leA, trivial⟩ ?_)
     (repeat ((repeat1' (first | simp -implicitDefEqProofs -dsimp only [go_sem] | simp -dsimp (disch := omega) only [wrap_i64])); repeat (with_reducible refine sideA ?_)))
     have hv0 := rWeeks_ok [] (by decide)
     (first | refine callT.at (hv0) ⟨leA, leA, trivial⟩ ?_ | refine callS.at (hv0) ⟨leA, leA, trivial⟩ ?_)
     (repeat ((repeat1' (first | simp -implicitDefEqProofs -dsimp only [go_sem] | simp -dsimp (disch := omega) only [wrap_i64])); repeat (with_reducible refine sideA ?_)))
     refine callS.rel [] (drawWeekLine_ok hB) (by decide) ⟨leO, trivial⟩ rfl rfl (fun r hout hΦ => ?_)
     obtain ⟨q, rfl, rfl⟩ := hΦ
     refine ⟨trivial, ?_⟩
     (repeat ((repeat1' (first | simp -implicitDefEqProofs -dsimp only [go_sem, WeekRow.v] | simp -dsimp (disch := omega) only [wrap_i64])); repeat (with_reducible refine sideA ?_)))
     have il := iWeekLine_ok q
     have sl := sWeekLine_ok q
     obtain ⟨t, et⟩ := lineR_eq q
     rw [et] at il sl
     (first | refine callT.at (il) ⟨leA, trivial⟩ ?_ | refine callS.at (il) ⟨leA, trivial⟩ ?_)
     (repeat ((repeat1' (first | simp -implicitDefEqProofs -dsimp only [go_sem, WeekRow.v] | simp -dsimp (disch := omega) only [wrap_i64])); repeat (with_reducible refine sideA ?_)))
     (first | refine callT.at (sl) ⟨leA, trivial⟩ ?_ | refine callS.at (sl) ⟨leA, trivial⟩ ?_)
     (repeat ((repeat1' (first | simp -implicitDefEqProofs -dsimp only [go_sem, WeekRow.v] | simp -dsimp (disch := omega) only [wrap_i64])); repeat (with_reducible refine sideA ?_)))
     (first | refine callT.at (iIsWeekRow_ok q) ⟨leA, trivial⟩ ?_ | refine callS.at (iIsWeekRow_ok q) ⟨leA, trivial⟩ ?_)
     (repeat ((repeat1' (first | simp -implicitDefEqProofs -dsimp only [go_sem] | simp -dsimp (disch := omega) only [wrap_i64])); repeat (with_reducible refine sideA ?_)))
     exact WeakR.drop' (by simp) (by rfl)
   | some M =>
     obtain ⟨ha, hb, hM, eM⟩ : wrsB a = true ∧ wrsB b = true ∧ wrsB M = true ∧ M = joinS a b := by
       unfold joinR at hJ
       split at hJ
       · rename_i h
         have e := Option.some.inj hJ
         exact ⟨h.1, h.2.1, by rw [← e]; exact h.2.2, e.symm⟩
       · cases hJ
     have hJ2 : joinR b a = some M := by
       have ec : joinS b a = M := by rw [eM]; exact joinS_comm (asc_of hb) (asc_of ha)
       unfold joinR
       rw [ec, if_pos ⟨hb, ha, hM⟩]
     have hsum : psum WeekRow.Events M = psum WeekRow.Events a + psum WeekRow.Events b := by rw [eM]; exact joinS_sum a b
     have hMl := (wrsB_all hM).2
     have hvM := rWeeks_ok M (by omega)
     have Ea := evs_take ha
     have Eb := evs_take hb
     have EM := evs_take hM
     have Ta := Ea a.length
     have Tb := Eb b.length
     have TM := EM M.length
     rw [List.take_length] at Ta Tb TM
     rw [hJ] at ij sj
     rw [hJ2] at ji
     simp only [frzV, Option.getD_some, Option.isSome_some] at ij sj ji
     (first | refine callT.at (ij) ⟨leA, leA, trivial⟩ ?_ | refine callS.at (ij) ⟨leA, leA, trivial⟩ ?_)
     (repeat ((repeat1' (first | simp -implicitDefEqProofs -dsimp only [go_sem] | simp -dsimp (disch := omega) only [wrap_i64])); repeat (with_reducible refine sideA ?_)))
     (first | refine callT.at (sj) ⟨leA, leA, trivial⟩ ?_ | refine callS.at (sj) ⟨leA, leA, trivial⟩ ?_)
     (repeat ((repeat1' (first | simp -implicitDefEqProofs -dsimp only [go_sem] | simp -dsimp (disch := omega) only [wrap_i64])); repeat (with_reducible refine sideA ?_)))
     (first | refine callT.at (hvM) ⟨leA, leA, trivial⟩ ?_ | refine callS.at (hvM) ⟨leA, leA, trivial⟩ ?_)
     (repeat ((repeat1' (first | simp -implicitDefEqProofs -dsimp only [go_sem] | simp -dsimp (disch := omega) only [wrap_i64])); repeat (with_reducible refine sideA ?_)))
     refine LoopT.intro (fun i : Nat => i ≤ a.length) (fun i => ⟨[ByteS.sl L, .undef, .undef, .undef, .undef, .undef, .undef, .undef, .undef, .undef, .undef, .undef, .undef, .undef, WeekRow.sl a, WeekRow.sl b, WeekRow.sl M, .undef, .undef, .undef, .int .i64 (psum WeekRow.Events (a.take i)), .int .i64 i, .undef, .undef, .undef, .undef, .undef, .undef, .undef, .undef, .undef, .undef, .undef, .undef, .undef, .undef, .undef, .undef, .undef, .undef, .undef, .undef, .undef, .undef, .undef, .undef, .undef, .undef, .undef, .undef, .undef, .undef, .undef, .undef, .undef, .undef, .undef, .undef, .undef, .undef, .undef, .undef, .undef, .undef, .undef, .undef, .undef, .undef, .undef, .undef, .undef, .undef, .undef, .undef, .undef, .undef, .undef, .undef, .undef, .undef, .undef, .undef, .undef, .undef, .undef, .undef, .undef, .undef, .undef, .undef, .undef, .undef, .undef, .undef, .undef, .undef, .undef, .undef, .undef, .undef, .undef, .undef, .undef, .undef, .undef, .undef, .undef, .undef, .undef, .undef, .undef, .undef, .undef, .undef, .undef, .undef, .undef, .undef, .undef, .undef, .undef, .undef, .undef, .undef, .undef, .undef, .undef, .undef, .undef, .undef, .undef, .undef, .undef, .undef, .undef, .undef, .undef, .undef, .undef, .undef, .undef, .undef, .undef, .undef, .undef, .undef, .undef, .undef, .undef, .undef, .undef, .undef, .undef, .undef, .undef, .undef, .undef, .undef, .undef, .undef, .undef, .undef, .undef, .undef, .undef, .undef, .undef, .undef, .undef, .undef, .undef, .undef, .undef, .undef, .undef, .undef, .undef, .undef, .undef, .undef, .undef, .undef, .undef, .undef, .undef, .undef, .undef, .undef, .undef, .undef, .undef, .undef, .undef, .undef, .undef, .undef, .undef, .undef, .undef, .undef, .undef, .undef, .undef, .undef, .undef, .undef, .undef], [], 0⟩) (fun i => a.length - i) 0 (Nat.zero_le _) ?_ (fun i hi => ?_)
     · refine Weak.cut (0) (by simp) (by simp) ?_ ?_
       · simp [LeC, LeV, ren, cutF, WeekRow.sl, psum]
       · rfl
     simp -implicitDefEqProofs -dsimp only [go_sem]
     refine condT.split (fun g1 => ?_) (fun g1 => ?_)
     · have hi' : i < a.length := by simpa using g1
       have hra := rows_at (cs := WeekRow.cs) WeekRow.csl hi'
       have es := psum_succ WeekRow.Events hi'
       have e1 := Ea i
       have e2 := Ea (i + 1)
       (repeat ((repeat1' (first | simp -implicitDefEqProofs -dsimp only [go_sem, g1, hra, WeekRow.cs, List.drop_succ_cons, List.drop_zero] | simp -dsimp (disch := omega) only [wrap_i64])); repeat (with_reducible refine sideA ?_)))
       refine ⟨i + 1, hi', ?_, by omega⟩
       refine Weak.cut (0) (by simp) (by simp) ?_ ?_
       · simp only [LeC, LeV, ren, cutF, es, List.map_cons, List.map_nil]
         simp
         try omega
       · rfl
     have hi' : i = a.length := by simp at g1; omega
     subst hi'
     rw [List.take_length]
     (repeat ((repeat1' (first | simp -implicitDefEqProofs -dsimp only [go_sem, g1] | simp -dsimp (disch := omega) only [wrap_i64])); repeat (with_reducible refine sideA ?_)))
     refine LoopT.intro (fun i : Nat => i ≤ b.length) (fun i => ⟨[ByteS.sl L, .undef, .undef, .undef, .undef, .undef, .undef, .undef, .undef, .undef, .undef, .undef, .undef, .undef, WeekRow.sl a, WeekRow.sl b, WeekRow.sl M, .undef, .undef, .undef, .int .i64 (psum WeekRow.Events a + psum WeekRow.Events (b.take i)), .undef, .int .i64 i, .undef, .undef, .undef, .undef, .undef, .undef, .undef, .undef, .undef, .undef, .undef, .undef, .undef, .undef, .undef, .undef, .undef, .undef, .undef, .undef, .undef, .undef, .undef, .undef, .undef, .undef, .undef, .undef, .undef, .undef, .undef, .undef, .undef, .undef, .undef, .undef, .undef, .undef, .undef, .undef, .undef, .undef, .undef, .undef, .undef, .undef, .undef, .undef, .undef, .undef, .undef, .undef, .undef, .undef, .undef, .undef, .undef, .undef, .undef, .undef, .undef, .undef, .undef, .undef, .undef, .undef, .undef, .undef, .undef, .undef, .undef, .undef, .undef, .undef, .undef, .undef, .undef, .undef, .undef, .undef, .undef, .undef, .undef, .undef, .undef, .undef, .undef, .undef, .undef, .undef, .undef, .undef, .undef, .undef, .undef, .undef, .undef, .undef, .undef, .undef, .undef, .undef, .undef, .undef, .undef, .undef, .undef, .undef, .undef, .undef, .undef, .undef, .undef, .undef, .undef, .undef, .undef, .undef, .undef, .undef, .undef, .undef, .undef, .undef, .undef, .undef, .undef, .undef, .undef, .undef, .undef, .undef, .undef, .undef, .undef, .undef, .undef, .undef, .undef, .undef, .undef, .undef, .undef, .undef, .undef, .undef, .undef, .undef, .undef, .undef, .undef, .undef, .undef, .undef, .undef, .undef, .undef, .undef, .undef, .undef, .undef, .undef, .undef, .undef, .undef, .undef, .undef, .undef, .undef, .undef, .undef, .undef, .undef, .undef, .undef, .undef, .undef, .undef, .undef, .undef, .undef, .undef, .undef, .undef], [], 0⟩) (fun i => b.length - i) 0 (Nat.zero_le _) ?_ (fun i hi => ?_)
     · refine Weak.cut (0) (by simp) (by simp) ?_ ?_
       · simp [LeC, LeV, ren, cutF, WeekRow.sl, psum]
       · rfl
     simp -implicitDefEqProofs -dsimp only [go_sem]
     refine condT.split (fun g1 => ?_) (fun g1 => ?_)
     · have hi' : i < b.length := by simpa using g1
       have hra := rows_at (cs := WeekRow.cs) WeekRow.csl hi'
       have es := psum_succ WeekRow.Events hi'
       have e1 := Eb i
       have e2 := Eb (i + 1)
       (repeat ((repeat1' (first | simp -implicitDefEqProofs -dsimp only [go_sem, g1, hra, WeekRow.cs, List.drop_succ_cons, List.drop_zero] | simp -dsimp (disch := omega) only [wrap_i64])); repeat (with_reducible refine sideA ?_)))
       refine ⟨i + 1, hi', ?_, by omega⟩
       refine Weak.cut (0) (by simp) (by simp) ?_ ?_
       · simp only [LeC, LeV, ren, cutF, es, List.map_cons, List.map_nil]
         simp
         try omega
       · rfl
     have hi' : i = b.length := by simp at g1; omega
     subst hi'
     rw [List.take_length]
     (repeat ((repeat1' (first | simp -implicitDefEqProofs -dsimp only [go_sem, g1] | simp -dsimp (disch := omega) only [wrap_i64])); repeat (with_reducible refine sideA ?_)))
     refine LoopT.intro (fun i : Nat => i ≤ M.length) (fun i => ⟨[ByteS.sl L, .undef, .undef, .undef, .undef, .undef, .undef, .undef, .undef, .undef, .undef, .undef, .undef, .undef, WeekRow.sl a, WeekRow.sl b, WeekRow.sl M, .undef, .undef, .undef, .int .i64 (psum WeekRow.Events a + psum WeekRow.Events b - psum WeekRow.Events (M.take i)), .undef, .undef, .int .i64 i, .undef, .undef, .undef, .undef, .undef, .undef, .undef, .undef, .undef, .undef, .undef, .undef, .undef, .undef, .undef, .undef, .undef, .undef, .undef, .undef, .undef, .undef, .undef, .undef, .undef, .undef, .undef, .undef, .undef, .undef, .undef, .undef, .undef, .undef, .undef, .undef, .undef, .undef, .undef, .undef, .undef, .undef, .undef, .undef, .undef, .undef, .undef, .undef, .undef, .undef, .undef, .undef, .undef, .undef, .undef, .undef, .undef, .undef, .undef, .undef, .undef, .undef, .undef, .undef, .undef, .undef, .undef, .undef, .undef, .undef, .undef, .undef, .undef, .undef, .undef, .undef, .undef, .undef, .undef, .undef, .undef, .undef, .undef, .undef, .undef, .undef, .undef, .undef, .undef, .undef, .undef, .undef, .undef, .undef, .undef, .undef, .undef, .undef, .undef, .undef, .undef, .undef, .undef, .undef, .undef, .undef, .undef, .undef, .undef, .undef, .undef, .undef, .undef, .undef, .undef, .undef, .undef, .undef, .undef, .undef, .undef, .undef, .undef, .undef, .undef, .undef, .undef, .undef, .undef, .undef, .undef, .undef, .undef, .undef, .undef, .undef, .undef, .undef, .undef, .undef, .undef, .undef, .undef, .undef, .undef, .undef, .undef, .undef, .undef, .undef, .undef, .undef, .undef, .undef, .undef, .undef, .undef, .undef, .undef, .undef, .undef, .undef, .undef, .undef, .undef, .undef, .undef, .undef, .undef, .undef, .undef, .undef, .undef, .undef, .undef, .undef, .undef, .undef, .undef, .undef, .undef, .undef, .undef], [], 0⟩) (fun i => M.length - i) 0 (Nat.zero_le _) ?_ (fun i hi => ?_)
     · refine Weak.cut (0) (by simp) (by simp) ?_ ?_
       · simp [LeC, LeV, ren, cutF, WeekRow.sl, psum]
       · rfl
     simp -implicitDefEqProofs -dsimp only [go_sem]
     refine condT.split (fun g1 => ?_) (fun g1 => ?_)
     · have hi' : i < M.length := by simpa using g1
       have hra := rows_at (cs := WeekRow.cs) WeekRow.csl hi'
       have es := psum_succ WeekRow.Events hi'
       have e1 := EM i
       have e2 := EM (i + 1)
       (repeat ((repeat1' (first | simp -implicitDefEqProofs -dsimp only [go_sem, g1, hra, WeekRow.cs, List.drop_succ_cons, List.drop_zero] | simp -dsimp (disch := omega) only [wrap_i64])); repeat (with_reducible refine sideA ?_)))
       refine ⟨i + 1, hi', ?_, by omega⟩
       refine Weak.cut (0) (by simp) (by simp) ?_ ?_
       · simp only [LeC, LeV, ren, cutF, es, List.map_cons, List.map_nil]
         simp
         try omega
       · rfl
     have hi' : i = M.length := by simp at g1; omega
     subst hi'
     rw [List.take_length]
     (repeat ((repeat1' (first | simp -implicitDefEqProofs -dsimp only [go_sem, g1] | simp -dsimp (disch := omega) only [wrap_i64])); repeat (with_reducible refine sideA ?_)))
     have hz : psum WeekRow.Events a + psum WeekRow.Events b - psum WeekRow.Events M = 0 := by omega
     rw [hz]
     (first | refine callT.at (ji) ⟨leA, leA, trivial⟩ ?_ | refine callS.at (ji) ⟨leA, leA, trivial⟩ ?_)
     (repeat ((repeat1' (first | simp -implicitDefEqProofs -dsimp only [go_sem] | simp -dsimp (disch := omega) only [wrap_i64])); repeat (with_reducible refine sideA ?_)))
     (first | refine callT.at (hvM) ⟨leA, leA, trivial⟩ ?_ | refine callS.at (hvM) ⟨leA, leA, trivial⟩ ?_)
     (repeat ((repeat1' (first | simp -implicitDefEqProofs -dsimp only [go_sem] | simp -dsimp (disch := omega) only [wrap_i64])); repeat (with_reducible refine sideA ?_)))
     refine callS.rel [] (drawWeekLine_ok hB) (by decide) ⟨leO, trivial⟩ rfl rfl (fun r hout hΦ => ?_)
     obtain ⟨q, rfl, rfl⟩ := hΦ
     refine ⟨trivial, ?_⟩
     (repeat ((repeat1' (first | simp -implicitDefEqProofs -dsimp only [go_sem, WeekRow.v] | simp -dsimp (disch := omega) only [wrap_i64])); repeat (with_reducible refine sideA ?_)))
     have il := iWeekLine_ok q
     have sl := sWeekLine_ok q
     obtain ⟨t, et⟩ := lineR_eq q
     rw [et] at il sl
     (first | refine callT.at (il) ⟨leA, trivial⟩ ?_ | refine callS.at (il) ⟨leA, trivial⟩ ?_)
     (repeat ((repeat1' (first | simp -implicitDefEqProofs -dsimp only [go_sem, WeekRow.v] | simp -dsimp (disch := omega) only [wrap_i64])); repeat (with_reducible refine sideA ?_)))
     (first | refine callT.at (sl) ⟨leA, trivial⟩ ?_ | refine callS.at (sl) ⟨leA, trivial⟩ ?_)
     (repeat ((repeat1' (first | simp -implicitDefEqProofs -dsimp only [go_sem, WeekRow.v] | simp -dsimp (disch := omega) only [wrap_i64])); repeat (with_reducible refine sideA ?_)))
     (first | refine callT.at (iIsWeekRow_ok q) ⟨leA, trivial⟩ ?_ | refine callS.at (iIsWeekRow_ok q) ⟨leA, trivial⟩ ?_)
     (repeat ((repeat1' (first | simp -implicitDefEqProofs -dsimp only [go_sem] | simp -dsimp (disch := omega) only [wrap_i64])); repeat (with_reducible refine sideA ?_)))
     exact WeakR.drop' (by simp) (by rfl)
 | true =>
   rw [hnl rfl]
   (repeat ((repeat1' (first | simp -implicitDefEqProofs -dsimp only [go_sem] | simp -dsimp (disch := omega) only [wrap_i64])); repeat (with_reducible refine sideA ?_)))
   refine callS.rel [] (drawJoinWeeks_ok hB) (by decide) ⟨leO, trivial⟩ rfl rfl (fun r hout hΦ => ?_)
   obtain ⟨a, b, hla, hlb, rfl, rfl⟩ := hΦ
   refine ⟨trivial, ?_⟩
   (repeat ((repeat1' (first | simp -implicitDefEqProofs -dsimp only [go_sem] | simp -dsimp (disch := omega) only [wrap_i64])); repeat (with_reducible refine sideA ?_)))
   have ij := (iJoinWeeks_ok a b (by omega) (by omega)).weak (frzN _)
   have sj := (sJoinWeeks_ok a b (by omega) (by omega)).weak (frzO _)
   have ji := (iJoinWeeks_ok b a (by omega) (by omega)).weak (frzN _)
   cases hJ : joinR a b with
   | none =>
     rw [hJ] at ij sj
     simp only [frzV, Option.getD_none, Option.isSome_none, List.length_nil] at ij sj
     (first | refine callT.at (ij) ⟨leA, leA, trivial⟩ ?_ | refine callS.at (ij) ⟨leA, leA, trivial⟩ ?_)
     (repeat ((repeat1' (first | simp -implicitDefEqProofs -dsimp only [go_sem] | simp -dsimp (disch := omega) only [wrap_i64])); repeat (with_reducible refine sideA ?_)))
     (first | refine callT.at (sj) ⟨leA, leA, trivial⟩ ?_ | refine callS.at (sj) ⟨leA, leA, trivial⟩ ?_)
     (repeat ((repeat1' (first | simp -implicitDefEqProofs -dsimp only [go_sem] | simp -dsimp (disch := omega) only [wrap_i64])); repeat (with_reducible refine sideA ?_)))
     have hv0 := rWeeks_ok [] (by decide)
     (first | refine callT.at (hv0) ⟨leA, leA, trivial⟩ ?_ | refine callS.at (hv0) ⟨leA, leA, trivial⟩ ?_)
     (repeat ((repeat1' (first | simp -implicitDefEqProofs -dsimp only [go_sem] | simp -dsimp (disch := omega) only [wrap_i64])); repeat (with_reducible refine sideA ?_)))
     refine callS.rel [] (drawWeekLine_ok hB) (by decide) ⟨leO, trivial⟩ rfl rfl (fun r hout hΦ => ?_)
     obtain ⟨q, rfl, rfl⟩ := hΦ
     refine ⟨trivial, ?_⟩
     (repeat ((repeat1' (first | simp -implicitDefEqProofs -dsimp only [go_sem, WeekRow.v] | simp -dsimp (disch := omega) only [wrap_i64])); repeat (with_reducible refine sideA ?_)))
     have il := iWeekLine_ok q
     have sl := sWeekLine_ok q
     obtain ⟨t, et⟩ := lineR_eq q
     rw [et] at il sl
     (first | refine callT.at (il) ⟨leA, trivial⟩ ?_ | refine callS.at (il) ⟨leA, trivial⟩ ?_)
     (repeat ((repeat1' (first | simp -implicitDefEqProofs -dsimp only [go_sem, WeekRow.v] | simp -dsimp (disch := omega) only [wrap_i64])); repeat (with_reducible refine sideA ?_)))
     (first | refine callT.at (sl) ⟨leA, trivial⟩ ?_ | refine callS.at (sl) ⟨leA, trivial⟩ ?_)
     (repeat ((repeat1' (first | simp -implicitDefEqProofs -dsimp only [go_sem, WeekRow.v] | simp -dsimp (disch := omega) only [wrap_i64])); repeat (with_reducible refine sideA ?_)))
     (first | refine callT.at (iIsWeekRow_ok q) ⟨leA, trivial⟩ ?_ | refine callS.at (iIsWeekRow_ok q) ⟨leA, trivial⟩ ?_)
     (repeat ((repeat1' (first | simp -implicitDefEqProofs -dsimp only [go_sem] | simp -dsimp (disch := omega) only [wrap_i64])); repeat (with_reducible refine sideA ?_)))
     exact WeakR.drop' (by simp) (by rfl)
   | some M =>
     obtain ⟨ha, hb, hM, eM⟩ : wrsB a = true ∧ wrsB b = true ∧ wrsB M = true ∧ M = joinS a b := by
       unfold joinR at hJ
       split at hJ
       · rename_i h
         have e := Option.some.inj hJ
         exact ⟨h.1, h.2.1, by rw [← e]; exact h.2.2, e.symm⟩
       · cases hJ
     have hJ2 : joinR b a = some M := by
       have ec : joinS b a = M := by rw [eM]; exact joinS_comm (asc_of hb) (asc_of ha)
       unfold joinR
       rw [ec, if_pos ⟨hb, ha, hM⟩]
     have hsum : psum WeekRow.Events M = psum WeekRow.Events a + psum WeekRow.Events b := by rw [eM]; exact joinS_sum a b
     have hMl := (wrsB_all hM).2
     have hvM := rWeeks_ok M (by omega)
     have Ea := evs_take ha
     have Eb := evs_take hb
     have EM := evs_take hM
     have Ta := Ea a.length
     have Tb := Eb b.length
     have TM := EM M.length
     rw [List.take_length] at Ta Tb TM
     rw [hJ] at ij sj
     rw [hJ2] at ji
     simp only [frzV, Option.getD_some, Option.isSome_some] at ij sj ji
     (first | refine callT.at (ij) ⟨leA, leA, trivial⟩ ?_ | refine callS.at (ij) ⟨leA, leA, trivial⟩ ?_)
     (repeat ((repeat1' (first | simp -implicitDefEqProofs -dsimp only [go_sem] | simp -dsimp (disch := omega) only [wrap_i64])); repeat (with_reducible refine sideA ?_)))
     (first | refine callT.at (sj) ⟨leA, leA, trivial⟩ ?_ | refine callS.at (sj) ⟨leA, leA, trivial⟩ ?_)
     (repeat ((repeat1' (first | simp -implicitDefEqProofs -dsimp only [go_sem] | simp -dsimp (disch := omega) only [wrap_i64])); repeat (with_reducible refine sideA ?_)))
     (first | refine callT.at (hvM) ⟨leA, leA, trivial⟩ ?_ | refine callS.at (hvM) ⟨leA, leA, trivial⟩ ?_)
     (repeat ((repeat1' (first | simp -implicitDefEqProofs -dsimp only [go_sem] | simp -dsimp (disch := omega) only [wrap_i64])); repeat (with_reducible refine sideA ?_)))
     refine LoopT.intro (fun i : Nat => i ≤ a.length) (fun i => ⟨[ByteS.sl L, .undef, .undef, .undef, .undef, .undef, .undef, .undef, .undef, .undef, .undef, .undef, .undef, .undef, WeekRow.sl a, WeekRow.sl b, WeekRow.sl M, .undef, .undef, .undef, .int .i64 (psum WeekRow.Events (a.take i)), .int .i64 i, .undef, .undef, .undef, .undef, .undef, .undef, .undef, .undef, .undef, .undef, .undef, .undef, .undef, .undef, .undef, .undef, .undef, .undef, .undef, .undef, .undef, .undef, .undef, .undef, .undef, .undef, .undef, .undef, .undef, .undef, .undef, .undef, .undef, .undef, .undef, .undef, .undef, .undef, .undef, .undef, .undef, .undef, .undef, .undef, .undef, .undef, .undef, .undef, .undef, .undef, .undef, .undef, .undef, .undef, .undef, .undef, .undef, .undef, .undef, .undef, .undef, .undef, .undef, .undef, .undef, .undef, .undef, .undef, .undef, .undef, .undef, .undef, .undef, .undef, .undef, .undef, .undef, .undef, .undef, .undef, .undef, .undef, .undef, .undef, .undef, .undef, .undef, .undef, .undef, .undef, .undef, .undef, .undef, .undef, .undef, .undef, .undef, .undef, .undef, .undef, .undef, .undef, .undef, .undef, .undef, .undef, .undef, .undef, .undef, .undef, .undef, .undef, .undef, .undef, .undef, .undef, .undef, .undef, .undef, .undef, .undef, .undef, .undef, .undef, .undef, .undef, .undef, .undef, .undef, .undef, .undef, .undef, .undef, .undef, .undef, .undef, .undef, .undef, .undef, .undef, .undef, .undef, .undef, .undef, .undef, .undef, .undef, .undef, .undef, .undef, .undef, .undef, .undef, .undef, .undef, .undef, .undef, .undef, .undef, .undef, .undef, .undef, .undef, .undef, .undef, .undef, .undef, .undef, .undef, .undef, .undef, .undef, .undef, .undef, .undef, .undef, .undef, .undef, .undef, .undef, .undef, .undef, .undef, .undef, .undef], [], 0⟩) (fun i => a.length - i) 0 (Nat.zero_le _) ?_ (fun i hi => ?_)
     · refine Weak.cut (0) (by simp) (by simp) ?_ ?_
       · simp [LeC, LeV, ren, cutF, WeekRow.sl, psum]
       · rfl
     simp -implicitDefEqProofs -dsimp only [go_sem]
     refine condT.split (fun g1 => ?_) (fun g1 => ?_)
     · have hi' : i < a.length := by simpa using g1
       have hra := rows_at (cs := WeekRow.cs) WeekRow.csl hi'
       have es := psum_succ WeekRow.Events hi'
       have e1 := Ea i
       have e2 := Ea (i + 1)
       (repeat ((repeat1' (first | simp -implicitDefEqProofs -dsimp only [go_sem, g1, hra, WeekRow.cs, List.drop_succ_cons, List.drop_zero] | simp -dsimp (disch := omega) only [wrap_i64])); repeat (with_reducible refine sideA ?_)))
       refine ⟨i + 1, hi', ?_, by omega⟩
       refine Weak.cut (0) (by simp) (by simp) ?_ ?_
       · simp only [LeC, LeV, ren, cutF, es, List.map_cons, List.map_nil]
         simp
         try omega
       · rfl
     have hi' : i = a.length := by simp at g1; omega
     subst hi'
     rw [List.take_length]
     (repeat ((repeat1' (first | simp -implicitDefEqProofs -dsimp only [go_sem, g1] | simp -dsimp (disch := omega) only [wrap_i64])); repeat (with_reducible refine sideA ?_)))
     refine LoopT.intro (fun i : Nat => i ≤ b.length) (fun i => ⟨[ByteS.sl L, .undef, .undef, .undef, .undef, .undef, .undef, .undef, .undef, .undef, .undef, .undef, .undef, .undef, WeekRow.sl a, WeekRow.sl b, WeekRow.sl M, .undef, .undef, .undef, .int .i64 (psum WeekRow.Events a + psum WeekRow.Events (b.take i)), .undef, .int .i64 i, .undef, .undef, .undef, .undef, .undef, .undef, .undef, .undef, .undef, .undef, .undef, .undef, .undef, .undef, .undef, .undef, .undef, .undef, .undef, .undef, .undef, .undef, .undef, .undef, .undef, .undef, .undef, .undef, .undef, .undef, .undef, .undef, .undef, .undef, .undef, .undef, .undef, .undef, .undef, .undef, .undef, .undef, .undef, .undef, .undef, .undef, .undef, .undef, .undef, .undef, .undef, .undef, .undef, .undef, .undef, .undef, .undef, .undef, .undef, .undef, .undef, .undef, .undef, .undef, .undef, .undef, .undef, .undef, .undef, .undef, .undef, .undef, .undef, .undef, .undef, .undef, .undef, .undef, .undef, .undef, .undef, .undef, .undef, .undef, .undef, .undef, .undef, .undef, .undef, .undef, .undef, .undef, .undef, .undef, .undef, .undef, .undef, .undef, .undef, .undef, .undef, .undef, .undef, .undef, .undef, .undef, .undef, .undef, .undef, .undef, .undef, .undef, .undef, .undef, .undef, .undef, .undef, .undef, .undef, .undef, .undef, .undef, .undef, .undef, .undef, .undef, .undef, .undef, .undef, .undef, .undef, .undef, .undef, .undef, .undef, .undef, .undef, .undef, .undef, .undef, .undef, .undef, .undef, .undef, .undef, .undef, .undef, .undef, .undef, .undef, .undef, .undef, .undef, .undef, .undef, .undef, .undef, .undef, .undef, .undef, .undef, .undef, .undef, .undef, .undef, .undef, .undef, .undef, .undef, .undef, .undef, .undef, .undef, .undef, .undef, .undef, .undef, .undef, .undef, .undef, .undef, .undef, .undef, .undef], [], 0⟩) (fun i => b.length - i) 0 (Nat.zero_le _) ?_ (fun i hi => ?_)
     · refine Weak.cut (0) (by simp) (by simp) ?_ ?_
       · simp [LeC, LeV, ren, cutF, WeekRow.sl, psum]
       · rfl
     simp -implicitDefEqProofs -dsimp only [go_sem]
     refine condT.split (fun g1 => ?_) (fun g1 => ?_)
     · have hi' : i < b.length := by simpa using g1
       have hra := rows_at (cs := WeekRow.cs) WeekRow.csl hi'
       have es := psum_succ WeekRow.Events hi'
       have e1 := Eb i
       have e2 := Eb (i + 1)
       (repeat ((repeat1' (first | simp -implicitDefEqProofs -dsimp only [go_sem, g1, hra, WeekRow.cs, List.drop_succ_cons, List.drop_zero] | simp -dsimp (disch := omega) only [wrap_i64])); repeat (with_reducible refine sideA ?_)))
       refine ⟨i + 1, hi', ?_, by omega⟩
       refine Weak.cut (0) (by simp) (by simp) ?_ ?_
       · simp only [LeC, LeV, ren, cutF, es, List.map_cons, List.map_nil]
         simp
         try omega
       · rfl
     have hi' : i = b.length := by simp at g1; omega
     subst hi'
     rw [List.take_length]
     (repeat ((repeat1' (first | simp -implicitDefEqProofs -dsimp only [go_sem, g1] | simp -dsimp (disch := omega) only [wrap_i64])); repeat (with_reducible refine sideA ?_)))
     refine LoopT.intro (fun i : Nat => i ≤ M.length) (fun i => ⟨[ByteS.sl L, .undef, .undef, .undef, .undef, .undef, .undef, .undef, .undef, .undef, .undef, .undef, .undef, .undef, WeekRow.sl a, WeekRow.sl b, WeekRow.sl M, .undef, .undef, .undef, .int .i64 (psum WeekRow.Events a + psum WeekRow.Events b - psum WeekRow.Events (M.take i)), .undef, .undef, .int .i64 i, .undef, .undef, .undef, .undef, .undef, .undef, .undef, .undef, .undef, .undef, .undef, .undef, .undef, .undef, .undef, .undef, .undef, .undef, .undef, .undef, .undef, .undef, .undef, .undef, .undef, .undef, .undef, .undef, .undef, .undef, .undef, .undef, .undef, .undef, .undef, .undef, .undef, .undef, .undef, .undef, .undef, .undef, .undef, .undef, .undef, .undef, .undef, .undef, .undef, .undef, .undef, .undef, .undef, .undef, .undef, .undef, .undef, .undef, .undef, .undef, .undef, .undef, .undef, .undef, .undef, .undef, .undef, .undef, .undef, .undef, .undef, .undef, .undef, .undef, .undef, .undef, .undef, .undef, .undef, .undef, .undef, .undef, .undef, .undef, .undef, .undef, .undef, .undef, .undef, .undef, .undef, .undef, .undef, .undef, .undef, .undef, .undef, .undef, .undef, .undef, .undef, .undef, .undef, .undef, .undef, .undef, .undef, .undef, .undef, .undef, .undef, .undef, .undef, .undef, .undef, .undef, .undef, .undef, .undef, .undef, .undef, .undef, .undef, .undef, .undef, .undef, .undef, .undef, .undef, .undef, .undef, .undef, .undef, .undef, .undef, .undef, .undef, .undef, .undef, .undef, .undef, .undef, .undef, .undef, .undef, .undef, .undef, .undef, .undef, .undef, .undef, .undef, .undef, .undef, .undef, .undef, .undef, .undef, .undef, .undef, .undef, .undef, .undef, .undef, .undef, .undef, .undef, .undef, .undef, .undef, .undef, .undef, .undef, .undef, .undef, .undef, .undef, .undef, .undef, .undef, .undef, .undef, .undef], [], 0⟩) (fun i => M.length - i) 0 (Nat.zero_le _) ?_ (fun i hi => ?_)
     · refine Weak.cut (0) (by simp) (by simp) ?_ ?_
       · simp [LeC, LeV, ren, cutF, WeekRow.sl, psum]
       · rfl
     simp -implicitDefEqProofs -dsimp only [go_sem]
     refine condT.split (fun g1 => ?_) (fun g1 => ?_)
     · have hi' : i < M.length := by simpa using g1
       have hra := rows_at (cs := WeekRow.cs) WeekRow.csl hi'
       have es := psum_succ WeekRow.Events hi'
       have e1 := EM i
       have e2 := EM (i + 1)
       (repeat ((repeat1' (first | simp -implicitDefEqProofs -dsimp only [go_sem, g1, hra, WeekRow.cs, List.drop_succ_cons, List.drop_zero] | simp -dsimp (disch := omega) only [wrap_i64])); repeat (with_reducible refine sideA ?_)))
       refine ⟨i + 1, hi', ?_, by omega⟩
       refine Weak.cut (0) (by simp) (by simp) ?_ ?_
       · simp only [LeC, LeV, ren, cutF, es, List.map_cons, List.map_nil]
         simp
         try omega
       · rfl
     have hi' : i = M.length := by simp at g1; omega
     subst hi'
     rw [List.take_length]
     (repeat ((repeat1' (first | simp -implicitDefEqProofs -dsimp only [go_sem, g1] | simp -dsimp (disch := omega) only [wrap_i64])); repeat (with_reducible refine sideA ?_)))
     have hz : psum WeekRow.Events a + psum WeekRow.Events b - psum WeekRow.Events M = 0 := by omega
     rw [hz]
     (first | refine callT.at (ji) ⟨leA, leA, trivial⟩ ?_ | refine callS.at (ji) ⟨leA, leA, trivial⟩ ?_)
     (repeat ((repeat1' (first | simp -implicitDefEqProofs -dsimp only [go_sem] | simp -dsimp (disch := omega) only [wrap_i64])); repeat (with_reducible refine sideA ?_)))
     (first | refine callT.at (hvM) ⟨leA, leA, trivial⟩ ?_ | refine callS.at (hvM) ⟨leA, leA, trivial⟩ ?_)
     (repeat ((repeat1' (first | simp -implicitDefEqProofs -dsimp only [go_sem] | simp -dsimp (disch := omega) only [wrap_i64])); repeat (with_reducible refine sideA ?_)))
     refine callS.rel [] (drawWeekLine_ok hB) (by decide) ⟨leO, trivial⟩ rfl rfl (fun r hout hΦ => ?_)
     obtain ⟨q, rfl, rfl⟩ := hΦ
     refine ⟨trivial, ?_⟩
     (repeat ((repeat1' (first | simp -implicitDefEqProofs -dsimp only [go_sem, WeekRow.v] | simp -dsimp (disch := omega) only [wrap_i64])); repeat (with_reducible refine sideA ?_)))
     have il := iWeekLine_ok q
     have sl := sWeekLine_ok q
     obtain ⟨t, et⟩ := lineR_eq q
     rw [et] at il sl
     (first | refine callT.at (il) ⟨leA, trivial⟩ ?_ | refine callS.at (il) ⟨leA, trivial⟩ ?_)
     (repeat ((repeat1' (first | simp -implicitDefEqProofs -dsimp only [go_sem, WeekRow.v] | simp -dsimp (disch := omega) only [wrap_i64])); repeat (with_reducible refine sideA ?_)))
     (first | refine callT.at (sl) ⟨leA, trivial⟩ ?_ | refine callS.at (sl) ⟨leA, trivial⟩ ?_)
     (repeat ((repeat1' (first | simp -implicitDefEqProofs -dsimp only [go_sem, WeekRow.v] | simp -dsimp (disch := omega) only [wrap_i64])); repeat (with_reducible refine sideA ?_)))
     (first | refine callT.at (iIsWeekRow_ok q) ⟨leA, trivial⟩ ?_ | refine callS.at (iIsWeekRow_ok q) ⟨leA, trivial⟩ ?_)
     (repeat ((repeat1' (first | simp -implicitDefEqProofs -dsimp only [go_sem] | simp -dsimp (disch := omega) only [wrap_i64])); repeat (with_reducible refine sideA ?_)))
     exact WeakR.drop' (by simp) (by rfl)
end Go.Proofs
end
section
open Go.ChangeShapes Go.WideShapes
namespace Go.Lv

def ShC (P : Program) : Nat → TypeId → List V → Prop
 | 0, _, _ => False
 | n + 1, t, xs =>
   match P.underlying t with
   | some .bool => ∃ b, xs = [.bool b]
   | some (.int k) => ∃ z, xs = [.int k z] ∧ (Lit.int k z).wf = true
   | some .string => ∃ s : ByteArray, xs = [.str s] ∧ s.size ≤ maxLen
   | some (.slice e) => ∃ l cs, xs = [.sl l (P.cellsOf e) cs] ∧ l ≤ maxLen ∧ cs.length = l * P.cellsOf e ∧ ∀ i, i < l → ShC P n e ((cs.drop (i * P.cellsOf e)).take (P.cellsOf e))
   | some (.struct fs) => xs.length = P.cellsOf t ∧ ∀ f ∈ fs.toList, ShC P n f.type ((xs.drop f.offset).take (P.cellsOf f.type))
   | _ => False

def tiled (P : Program) : List Field → Nat → Nat → Bool
 | [], off, n => off == n
 | f :: fs, off, n => f.offset == off && tiled P fs (off + P.cellsOf f.type) n

def plainT (P : Program) : Nat → TypeId → Bool
 | 0, _ => false
 | n + 1, t =>
   match P.underlying t with
   | some .bool => true
   | some (.int _) => true
   | some .string => true
   | some (.slice e) => decide (0 < P.cellsOf e) && plainT P n e
   | some (.struct fs) => tiled P fs.toList 0 (P.cellsOf t) && fs.toList.all fun f => plainT P n f.type
   | _ => false

section
variable {P : Program} {w : World} {m : Nat → Nat}

def Rds (w : World) (m : Nat → Nat) (cs : List Value) (xs : List V) : Prop :=
 cs.length = xs.length ∧ ∀ i (hi : i < xs.length), RV w m [] (fun _ => False) false (cs.getD i Go.undef) xs[i]

theorem Rds.append {a b : List Value} {x y : List V} (h : Rds w m a x) (k : Rds w m b y) : Rds w m (a ++ b) (x ++ y) := by
 refine ⟨by simp [h.1, k.1], fun i hi => ?_⟩
 by_cases hlt : i < x.length
 · rw [List.getElem_append_left hlt]
   have := h.2 i hlt
   rw [List.getD_eq_getElem?_getD, List.getElem?_append_left (by rw [h.1]; exact hlt), ← List.getD_eq_getElem?_getD]
   exact this
 · rw [List.getElem_append_right (by omega)]
   have := k.2 (i - x.length) (by simp at hi; omega)
   rw [List.getD_eq_getElem?_getD, List.getElem?_append_right (by rw [h.1]; omega), ← List.getD_eq_getElem?_getD, h.1]
   exact this

theorem Rds.one {v : Value} {x : V} (h : RV w m [] (fun _ => False) false v x) : Rds w m [v] [x] :=
 ⟨rfl, fun i hi => by have : i = 0 := by simp at hi; omega
                      subst this; exact h⟩

theorem Rds.nil : Rds w m [] [] := ⟨rfl, fun i hi => by simp at hi⟩

theorem fields_sh {n : Nat} {cs : List Value} : ∀ (fs : List Field) (off : Nat), tiled P fs off cs.length = true → off ≤ cs.length →
   (∀ f ∈ fs, ∃ xs, Rds w m ((cs.drop f.offset).take (P.cellsOf f.type)) xs ∧ ShC P n f.type xs) →
   ∃ ys, Rds w m (cs.drop off) ys ∧ ∀ f ∈ fs, off ≤ f.offset ∧ ShC P n f.type ((ys.drop (f.offset - off)).take (P.cellsOf f.type))
 | [], off, ht, _, _ => by
   simp [tiled] at ht
   subst ht
   refine ⟨[], ?_, fun f hf => by simp at hf⟩
   rw [List.drop_of_length_le (Nat.le_refl _)]
   exact Rds.nil
 | f :: fs, off, ht, hle, h => by
   simp only [tiled, Bool.and_eq_true, beq_iff_eq] at ht
   obtain ⟨rfl, ht⟩ := ht
   have hlen : ∀ (fs : List Field) (o : Nat), tiled P fs o cs.length = true → o ≤ cs.length := by
     intro fs
     induction fs with
     | nil => intro o ht; simp [tiled] at ht; omega
     | cons g fs ih =>
       intro o ht
       simp only [tiled, Bool.and_eq_true, beq_iff_eq] at ht
       have := ih _ ht.2; omega
   have hk := hlen fs _ ht
   obtain ⟨x, hx1, hx2⟩ := h f (by simp)
   obtain ⟨ys, hy1, hy2⟩ := fields_sh fs _ ht hk (fun g hg => h g (by simp [hg]))
   have hxl : x.length = P.cellsOf f.type := by rw [← hx1.1]; simp; omega
   refine ⟨x ++ ys, ?_, fun g hg => ?_⟩
   · have : cs.drop f.offset = (cs.drop f.offset).take (P.cellsOf f.type) ++ cs.drop (f.offset + P.cellsOf f.type) := by
       rw [← List.drop_drop, List.take_append_drop]
     rw [this]
     exact hx1.append hy1
   · rcases List.mem_cons.1 hg with rfl | hg
     · refine ⟨Nat.le_refl _, ?_⟩
       rw [Nat.sub_self, List.drop_zero, List.take_append_of_le_length (by omega), List.take_of_length_le (by omega)]
       exact hx2
     · obtain ⟨h1, h2⟩ := hy2 g hg
       refine ⟨by omega, ?_⟩
       have : (x ++ ys).drop (g.offset - f.offset) = ys.drop (g.offset - (f.offset + P.cellsOf f.type)) := by
         rw [List.drop_append, List.drop_of_length_le (by omega), List.nil_append]
         congr 1
         omega
       rw [this]
       exact h2

theorem elems_sh {n e : Nat} {b off len : Nat} (h : ∀ i, i < len → ∃ cs xs, cs.length = P.cellsOf e ∧ (∀ j, j < P.cellsOf e → w.cell? ⟨b, off + (i * P.cellsOf e + j), none⟩ = cs[j]?) ∧ Rds w m cs xs ∧ ShC P n e xs) :
   ∀ k, k ≤ len → ∃ xs : List V, xs.length = k * P.cellsOf e ∧ (∀ j (hj : j < xs.length), ∃ v, w.cell? ⟨b, off + j, none⟩ = some v ∧ RV w m [] (fun _ => False) false v xs[j]) ∧
     ∀ i, i < k → ShC P n e ((xs.drop (i * P.cellsOf e)).take (P.cellsOf e))
 | 0, _ => ⟨[], by simp, fun j hj => by simp at hj, fun i hi => by omega⟩
 | k + 1, hk => by
   obtain ⟨xs, h1, h2, h3⟩ := elems_sh h k (by omega)
   obtain ⟨cs, ys, g1, g2, g3, g4⟩ := h k (by omega)
   have hyl : ys.length = P.cellsOf e := by rw [← g3.1, g1]
   refine ⟨xs ++ ys, by simp [h1, hyl, Nat.add_mul], fun j hj => ?_, fun i hi => ?_⟩
   · by_cases hlt : j < xs.length
     · rw [List.getElem_append_left hlt]
       exact h2 j hlt
     · rw [List.getElem_append_right (by omega)]
       have hj' : j - xs.length < ys.length := by simp at hj; omega
       have hr := g3.2 _ hj'
       have hc := g2 (j - xs.length) (by omega)
       have e1 : off + (k * P.cellsOf e + (j - xs.length)) = off + j := by omega
       rw [e1] at hc
       have hcl : j - xs.length < cs.length := by omega
       rw [List.getElem?_eq_getElem hcl] at hc
       refine ⟨_, hc, ?_⟩
       simpa [List.getD_eq_getElem?_getD, hcl] using hr
   · by_cases e2 : i = k
     · subst e2
       rw [← h1, List.drop_left, List.take_of_length_le (by omega)]
       exact g4
     · have hm : i * P.cellsOf e + P.cellsOf e ≤ xs.length := mul_room (n := k) (by omega) h1
       rw [List.drop_append_of_le_length (by omega), List.take_append_of_le_length (by simp; omega)]
       exact h3 i (by omega)

theorem trod_sh {H : Type} {enc : TypeId × Value → H} {spare : Nat → Bool} {held : Bool} : ∀ (n : Nat) (fuel : Nat) (t : TypeId) (cs : List Value) (x : DataW H × List MemPlace),
   DataW.trod enc P w 0 spare held fuel t cs = some x → plainT P n t = true → ∃ xs, Rds w m cs xs ∧ ShC P n t xs
 | 0, fuel, t, cs, x, _, hp => by simp [plainT] at hp
 | n + 1, fuel, t, cs, x, hx, hp => by
   unfold plainT at hp
   split at hp
   · rename_i hu
     obtain ⟨b, rfl, _⟩ := DataW.trod_bool hu hx
     exact ⟨[.bool b], Rds.one (.bool b), by unfold ShC; rw [hu]; exact ⟨b, rfl⟩⟩
   · rename_i k hu
     obtain ⟨z, rfl, _, hw⟩ := DataW.trod_int hu hx
     exact ⟨[.int k z], Rds.one (.int k z), by unfold ShC; rw [hu]; exact ⟨z, rfl, hw⟩⟩
   · rename_i hu
     obtain ⟨s, rfl, _, hs⟩ := DataW.trod_string hu hx
     exact ⟨[.str s], Rds.one (.str s), by unfold ShC; rw [hu]; exact ⟨s, rfl, hs⟩⟩
   · rename_i e hu
     simp only [Bool.and_eq_true, decide_eq_true_eq] at hp
     obtain ⟨hpos, hp⟩ := hp
     rcases Deep.open_slice hu hx with ⟨rfl, _⟩ | ⟨a, len, cap, mm, f, D, Pl, rfl, _, hle, hcap, hmm, _, hel⟩
     · refine ⟨[.sl 0 (P.cellsOf e) []], Rds.one (.slz _ _ _), ?_⟩
       unfold ShC; rw [hu]
       exact ⟨0, [], rfl, Nat.zero_le _, by simp, fun i hi => by omega⟩
     · by_cases h0 : len = 0
       · subst h0
         refine ⟨[.sl 0 (P.cellsOf e) []], Rds.one (.slz _ _ _), ?_⟩
         unfold ShC; rw [hu]
         exact ⟨0, [], rfl, Nat.zero_le _, by simp, fun i hi => by omega⟩
       · have hml : len ≤ mm := by rw [hmm]; split <;> omega
         obtain ⟨b, off, spot⟩ := a
         have hspot : spot = none := by
           obtain ⟨cs', hc, _⟩ := hel 0 (by omega)
           obtain ⟨_, hcl, hat⟩ := World.cells?_some hc
           have h1 := hat 0 hpos
           rw [List.getElem?_eq_getElem (by omega)] at h1
           simpa [Addr.add] using World.cell?_spot h1
         subst hspot
         have hall : ∀ i, i < len → ∃ cs xs, cs.length = P.cellsOf e ∧ (∀ j, j < P.cellsOf e → w.cell? ⟨b, off + (i * P.cellsOf e + j), none⟩ = cs[j]?) ∧ Rds w m cs xs ∧ ShC P n e xs := by
           intro i hi
           obtain ⟨cs', hc, ht⟩ := hel i (by omega)
           obtain ⟨_, hcl, hat⟩ := World.cells?_some hc
           obtain ⟨xs, h1, h2⟩ := trod_sh n _ e cs' _ ht hp
           refine ⟨cs', xs, hcl, fun j hj => ?_, h1, h2⟩
           have := hat j hj
           rw [Addr.add_lit, Addr.add_lit] at this
           rw [← this, Nat.add_assoc]
         obtain ⟨xs, h1, h2, h3⟩ := elems_sh hall len (Nat.le_refl _)
         refine ⟨[.sl len (P.cellsOf e) xs], Rds.one (.sl b off len cap (P.cellsOf e) xs (fun j => (w.cell? ⟨b, off + j, none⟩).getD Go.undef) h1 (fun _ h => h) hle (fun j hj => ?_) (fun j hj => ?_)), ?_⟩
         · obtain ⟨v, hv, _⟩ := h2 j hj
           simp [hv]
         · obtain ⟨v, hv, hr⟩ := h2 j hj
           simpa [hv] using hr
         · unfold ShC; rw [hu]
           exact ⟨len, xs, rfl, by omega, h1, h3⟩
   · rename_i fs hu
     simp only [Bool.and_eq_true, List.all_eq_true] at hp
     obtain ⟨xs, f, _, _, hl, hxl, hf⟩ := DataW.trod_struct hu hx
     have hfs : ∀ g ∈ fs.toList, ∃ ys, Rds w m ((cs.drop g.offset).take (P.cellsOf g.type)) ys ∧ ShC P n g.type ys := by
       intro g hg
       obtain ⟨i, hi, rfl⟩ := List.getElem_of_mem hg
       have hi' : i < fs.size := by simpa using hi
       have h1 := hf i fs[i] (Array.getElem?_eq_getElem hi')
       rw [List.getElem?_eq_getElem (by omega)] at h1
       exact trod_sh n _ _ _ _ (by simpa using h1) (hp.2 _ hg)
     obtain ⟨ys, h1, h2⟩ := fields_sh fs.toList 0 (by rw [hl]; exact hp.1) (Nat.zero_le _) hfs
     rw [List.drop_zero] at h1
     refine ⟨ys, h1, ?_⟩
     unfold ShC; rw [hu]
     exact ⟨by rw [← h1.1, hl], fun g hg => by simpa using (h2 g hg).2⟩
   · cases hp

end
section
variable {P : Program} {W : World}

theorem Rds.get {m : Nat → Nat} {a : List Value} {x : List V} (h : Rds W m a x) : a.length = x.length := h.1

theorem arg_one {H : Type} {enc : TypeId × Value → H} {spare : Nat → Bool} {held : Bool} {n : Nat} {t : TypeId} {v : Value} {d : DataW H} {p : List MemPlace} (m : Nat → Nat)
   (hv : v.cells = #[v]) (h : DataW.Trod enc P W 0 spare held t v d p) (hp : plainT P n t = true) : ∃ x, RV W m [] (fun _ => False) true v x ∧ ShC P n t [x] := by
 obtain ⟨fuel, hf⟩ := h
 rw [hv] at hf
 obtain ⟨xs, h1, h2⟩ := trod_sh (m := m) n fuel t _ _ hf hp
 match xs, h1 with
 | [x], h1 => exact ⟨x, by have := h1.2 0 (by simp); exact this.weak, h2⟩
 | [], h1 => simp [Rds] at h1
 | _ :: _ :: _, h1 => simp [Rds] at h1

theorem law_walk {f : FuncId} {xs : List V} {vs : Array Value} (m : Nat → Nat) (hc : Ctr P f xs [] (.bool true) []) (hgl : GL W (fun _ => False)) (hsz : vs.size = xs.length)
   (hr : ∀ i (hi : i < xs.length), RV W m [] (fun _ => False) true (vs.getD i Go.undef) xs[i]) :
   Calls P f vs W fun e w' => e = .returned (.bool true) ∧ RowKit.Below W.heap.size W w' := by
 refine (hc.2 W vs m (fun _ => False) ⟨fun i j ci cj h => by simp at h, fun id cs h => by simp at h, fun id cs h => by simp at h⟩ (fun b h => h.elim) hgl hsz hr).mono ?_
 rintro e w' ⟨v, m', rfl, hE, _, hv, _⟩
 refine ⟨by cases hv; rfl, hE.os, hE.tape, hE.output, hE.size, fun k hk => hE.block k hk (fun ⟨id, cs, h, _⟩ => by simp at h)⟩

end
end Go.Lv
end
section
namespace Go.Lv

theorem shC_u8 {P : Program} {t : TypeId} {n : Nat} {xs : List V} (hs : P.underlying t = some (.int .u8)) (h : ShC P (n + 1) t xs) : ∃ z, xs = [.int .u8 z] ∧ 0 ≤ z ∧ z ≤ 255 := by
 simp only [ShC, hs] at h
 obtain ⟨z, h1, h2⟩ := h
 refine ⟨z, h1, ?_⟩
 simp [Lit.wf, IntKind.min, IntKind.max, IntKind.signed, IntKind.bits] at h2
 exact h2

theorem shC_list {P : Program} {t e : TypeId} {n : Nat} {xs : List V} (hs : P.underlying t = some (.slice e)) {α : Type} {cs : α → List V} {w : Nat} (hw : P.cellsOf e = w) {ok : α → Prop}
   (he : ∀ ys, ShC P n e ys → ∃ a, ys = cs a ∧ ok a) (h : ShC P (n + 1) t xs) : ∃ L : List α, xs = [.sl L.length w (rows cs L)] ∧ lstR ok L := by
 simp only [ShC, hs, hw] at h
 obtain ⟨l, ys, rfl, hl, hlen, hel⟩ := h
 suffices ∀ (l : Nat) (ys : List V), ys.length = l * w → (∀ i, i < l → ShC P n e ((ys.drop (i * w)).take w)) → ∃ L : List α, L.length = l ∧ rows cs L = ys ∧ ∀ x ∈ L, ok x by
   obtain ⟨L, h1, h2, h3⟩ := this l ys hlen hel
   exact ⟨L, by rw [h1, h2], by rw [h1]; exact hl, h3⟩
 intro l
 induction l with
 | zero => intro ys h1 _; exact ⟨[], rfl, by simp at h1; simp [rows, h1], fun x hx => by simp at hx⟩
 | succ l ih =>
   intro ys h1 h2
   obtain ⟨a, ha, hoa⟩ := he _ (h2 0 (by omega))
   rw [Nat.zero_mul, List.drop_zero] at ha
   obtain ⟨L, h3, h4, h5⟩ := ih (ys.drop w) (by rw [List.length_drop, h1, Nat.succ_mul]; omega) (fun i hi => by
     have := h2 (i + 1) (by omega)
     rw [List.drop_drop]
     rwa [Nat.succ_mul, Nat.add_comm] at this)
   refine ⟨a :: L, by simp [h3], ?_, ?_⟩
   · rw [rows_cons, h4, ← ha, List.take_append_drop]
   · intro x hx
     rcases List.mem_cons.1 hx with rfl | hx
     · exact hoa
     · exact h5 x hx

end Go.Lv
end
