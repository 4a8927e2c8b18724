/-
  A part of the proof: texts put together by a program of the prover. Conditions: none.
-/
import Derived.Test.YtgnnoacaghelhaaDoorZForgettingLaw6
import Derived.Lib.AppendIntMem
import Derived.ProofKit
import Derived.Deep.Slices
set_option linter.unusedSimpArgs false
set_option linter.unusedVariables false
section
set_option maxRecDepth 100000
namespace Go.Proofs
open Go.Lv
theorem tab_pow10 {w : World} {av : Nat → Prop} (h : GL w av) : Lib.TabIs Tryd.prog w "internal/strconv.uint64pow10" .u64 Lib.pow10Tab := by
 obtain ⟨_, T, fr, h2⟩ := h _ (List.mem_singleton.2 rfl)
 have hg : Tryd.prog.globalNamed "internal/strconv.uint64pow10" = some 5 := by kernel_rfl
 unfold Lib.TabIs World.var?
 rw [hg, Option.bind_some, h2]
 rfl
theorem gl_of_tab {W : World} (h : Lib.TabIs Tryd.prog W "internal/strconv.uint64pow10" .u64 Lib.pow10Tab) : GL W (fun _ => False) := by
 intro p hp
 have hp' := List.mem_singleton.1 hp
 subst hp'
 have hg : Tryd.prog.globalNamed "internal/strconv.uint64pow10" = some 5 := by kernel_rfl
 unfold Lib.TabIs World.var? at h
 rw [hg, Option.bind_some] at h
 dsimp only at h ⊢
 split at h
 · rename_i cs T fr hc
   refine ⟨fun h => h, T, fr, ?_⟩
   rw [hc]
   simp only [Option.some.injEq] at h
   subst h
   rfl
 · cases h
theorem itoaLib_ok (n : Int) (hn : i64R n) : Ctr Tryd.prog 122 [.int .i64 n] [] (.str (num n)) [] := by
 refine ⟨Tryd.okF122, fun w vs m av hH hav hgl hsz ha => ?_⟩
 obtain ⟨v, rfl⟩ : ∃ v, vs = #[v] := by
   match vs, hsz with
   | ⟨[v]⟩, _ => exact ⟨v, rfl⟩
 have h0 := ha 0 (by simp)
 simp only [List.getElem_cons_zero] at h0
 have hv : v = .int .i64 n := by
   have := rv_int h0
   simpa using this
 subst hv
 refine (Tryd.strconv_Itoa n hn.1 hn.2 w (tab_pow10 hgl)).mono ?_
 rintro e w' ⟨rfl, k, os, rfl⟩
 refine ⟨_, m, rfl, ?_, ⟨fun i j ci cj h => by simp at h, fun id cs h => by simp at h, fun id cs h => by simp at h⟩, .str _, fun id cs h => by simp at h⟩
 have hb : ∀ g, g < w.heap.size → (Sort.grow (w.drewN k) os).heap[g]? = w.heap[g]? := fun g hg => Lib.heap_grow_old w k os g hg
 exact ⟨rfl, rfl, rfl, Lib.size_grow w k os, fun g hg _ => hb g hg, fun g hg => Nat.le_of_eq (rowSize_of_block (hb g hg)).symm⟩
theorem itoa_ok (n : Int) (hn : i64R n) : Ctr Tryd.prog 67 [.int .i64 n] [] (.str (num n)) [] := by
 refine Ctr.intro Tryd.mixed Tryd.func67 rfl Tryd.okF67 ?_
 simp -implicitDefEqProofs -dsimp only [go_sem, Tryd.ntmps67, Tryd.results67]
 (first | refine callT.at (itoaLib_ok n hn) ⟨leA, trivial⟩ ?_ | refine callS.at (itoaLib_ok n hn) ⟨leA, trivial⟩ ?_)
 simp -implicitDefEqProofs -dsimp only [go_sem]
 exact WeakR.drop' rfl (by rfl)
theorem l1Num_nat : ∀ (k u : Nat), u < k → u ≤ 9223372036854775807 → Ctr Tryd.prog 69 [.int .i64 u] [] (.str (num u)) [] := by
 intro k
 induction k with
 | zero => intro u h; omega
 | succ k ih =>
   intro u hu hb
   refine Ctr.intro Tryd.mixed Tryd.func69 rfl Tryd.okF69 ?_
   simp -implicitDefEqProofs -dsimp only [go_sem, Tryd.ntmps69, Tryd.results69]
   refine condT.split (fun h => absurd h (by simp)) (fun h => ?_)
   simp -implicitDefEqProofs -dsimp only [go_sem, h]
   refine condT.split (fun h2 => ?_) (fun h2 => ?_)
   · have hlt : u < 10 := by simp at h2; omega
     (repeat ((repeat1' (first | simp -implicitDefEqProofs -dsimp only [go_sem, h2] | simp -dsimp (disch := omega) only [wrap_i64])); repeat (with_reducible refine sideA ?_)))
     have e : ((u : Int) + 1).toNat = u + 1 := by omega
     have e2 : ((#[48, 49, 50, 51, 52, 53, 54, 55, 56, 57] : Array UInt8).size : Int) = 10 := rfl
     rw [e, e2]
     refine ⟨⟨by omega, by omega, by omega⟩, WeakR.drop' ?_ (by rfl)⟩
     rw [num_one hlt, digits]
   · have hge : ¬ u < 10 := by simp at h2; omega
     have t1 : Int.tdiv (u : Int) 10 = ((u / 10 : Nat) : Int) := rfl
     have t2 : Int.tmod (u : Int) 10 = ((u % 10 : Nat) : Int) := rfl
     (repeat ((repeat1' (first | simp -implicitDefEqProofs -dsimp only [go_sem, h2, t1, t2] | simp -dsimp (disch := omega) only [wrap_i64])); repeat (with_reducible refine sideA ?_)))
     (first | refine callT.at (ih (u / 10) (by omega) (by omega)) ⟨leA, trivial⟩ ?_ | refine callS.at (ih (u / 10) (by omega) (by omega)) ⟨leA, trivial⟩ ?_)
     have e : (((u % 10 : Nat) : Int) + 1).toNat = u % 10 + 1 := by omega
     have e2 : ((#[48, 49, 50, 51, 52, 53, 54, 55, 56, 57] : Array UInt8).size : Int) = 10 := rfl
     have hs := num_size' (n := ((u / 10 : Nat) : Int)) (by omega) (by omega)
     have hd : ({ data := #[48, 49, 50, 51, 52, 53, 54, 55, 56, 57] } : ByteArray).extract (u % 10) (u % 10 + 1) = ⟨#[UInt8.ofNat (48 + u % 10)]⟩ := digit_at (u % 10) (by omega)
     (repeat ((repeat1' (first | simp -implicitDefEqProofs -dsimp only [go_sem, e, e2, hd, ba_size] | simp -dsimp (disch := omega) only [wrap_i64])); repeat (with_reducible refine sideA ?_)))
     refine ⟨by simp only [List.size_toArray, List.length_cons, List.length_nil]; omega, WeakR.drop' ?_ (by rfl)⟩
     rw [num_more hge, digit_at (u % 10) (by omega)]
theorem l1Num_ok (n : Int) (h0 : -9223372036854775807 ≤ n) (h1 : n ≤ 9223372036854775807) : Ctr Tryd.prog 69 [.int .i64 n] [] (.str (num n)) [] := by
 rcases Int.lt_or_le n 0 with hn | hn
 · obtain ⟨u, rfl⟩ : ∃ u : Nat, n = -(u : Int) := ⟨n.natAbs, by omega⟩
   refine Ctr.intro Tryd.mixed Tryd.func69 rfl Tryd.okF69 ?_
   simp -implicitDefEqProofs -dsimp only [go_sem, Tryd.ntmps69, Tryd.results69]
   refine condT.split (fun h => ?_) (fun h => absurd h (by simp; omega))
   have e : IntKind.i64.wrap (0 - -(u : Int)) = (u : Int) := by rw [wrap_i64 (by omega) (by omega)]; omega
   simp -implicitDefEqProofs -dsimp only [go_sem, h, e]
   (first | refine callT.at (l1Num_nat (u + 1) u (by omega) (by omega)) ⟨leA, trivial⟩ ?_ | refine callS.at (l1Num_nat (u + 1) u (by omega) (by omega)) ⟨leA, trivial⟩ ?_)
   have hs := num_size' (n := (u : Int)) (by omega) (by omega)
   simp -implicitDefEqProofs -dsimp only [go_sem, ba_size]
   refine ⟨by simp; omega, WeakR.drop' ?_ (by rfl)⟩
   rw [num_neg (by omega)]
 · obtain ⟨u, rfl⟩ : ∃ u : Nat, n = u := ⟨n.toNat, by omega⟩
   exact l1Num_nat (u + 1) u (by omega) (by omega)
end Go.Proofs
end
section
set_option maxRecDepth 100000
set_option maxHeartbeats 2000000
namespace Go.Proofs
open Go.Lv
def alarmWord (s : Int) : ByteArray := if s = 0 then ⟨#[113, 117, 105, 101, 116]⟩ else if s = 1 then ⟨#[108, 105, 115, 116, 101, 110]⟩ else if s = 2 then ⟨#[103, 105, 118, 101, 110]⟩ else ⟨#[111, 118, 101, 114]⟩
def alarmText (a : Alarm) : ByteArray := (((num a.Now ++ ⟨#[32]⟩) ++ alarmWord a.State) ++ ⟨#[32, 104, 101, 97, 114, 100, 32]⟩) ++ num a.Heard.length
def alarmTextR (a : Alarm) : V := if alarmB a = true then .tup [.str (alarmText a), .bool true] else .tup [.str ByteArray.empty, .bool false]
theorem alarmNums {a : Alarm} (h : alarmB a = true) : (num a.Now).size ≤ 21 ∧ (num (a.Heard.length : Int)).size ≤ 21 := by
 have := (alarmB_ok h).now
 have := (alarmB_ok h).len
 exact ⟨num_size' (by omega) (by omega), num_size' (by omega) (by omega)⟩
theorem iAlarmText_ok (a : Alarm) (hl : a.Heard.length ≤ 16777216) : Ctr Tryd.prog 58 [a.v] [] (alarmTextR a) [] := by
 cases ha : alarmB a with
 | false =>
   refine Ctr.intro Tryd.mixed Tryd.func58 rfl Tryd.okF58 ?_
   simp -implicitDefEqProofs -dsimp only [go_sem, Tryd.ntmps58, Tryd.results58]
   (repeat ((repeat1' (first | simp -implicitDefEqProofs -dsimp only [go_sem, Alarm.v] | simp -dsimp (disch := omega) only [wrap_i64])); repeat (with_reducible refine And.intro ?_ ?_; focus (first | omega | with_reducible rfl | (show drawOk _ = true; kernel_rfl) | (simp only [rows_length, rows_cell, List.length_append, List.length_cons, List.length_nil, List.all_append, List.all_cons, List.all_nil, isCell, Nat.mul_one, Nat.one_mul, Bool.and_self]; first | done | omega) | (simp only [ByteArray.size_append, ba_size, List.size_toArray, List.length_cons, List.length_nil]; omega)))))
   (first | refine callT.at (iIsAlarm_ok a (by omega)) ⟨leA, trivial⟩ ?_ | refine callS.at (iIsAlarm_ok a (by omega)) ⟨leA, trivial⟩ ?_)
   (repeat ((repeat1' (first | simp -implicitDefEqProofs -dsimp only [go_sem, ha] | simp -dsimp (disch := omega) only [wrap_i64])); repeat (with_reducible refine And.intro ?_ ?_; focus (first | omega | with_reducible rfl | (show drawOk _ = true; kernel_rfl) | (simp only [rows_length, rows_cell, List.length_append, List.length_cons, List.length_nil, List.all_append, List.all_cons, List.all_nil, isCell, Nat.mul_one, Nat.one_mul, Bool.and_self]; first | done | omega) | (simp only [ByteArray.size_append, ba_size, List.size_toArray, List.length_cons, List.length_nil]; omega)))))
   exact WeakR.drop' (by simp [alarmTextR, ha]; rfl) (by rfl)
 | true =>
   have A := alarmB_ok ha
   have h1 := A.now
   have h2 := A.state
   have h3 := A.len
   have h4 := alarmNums ha
   have hst : a.State = 0 ∨ a.State = 1 ∨ a.State = 2 ∨ a.State = 3 := by omega
   rcases hst with e | e | e | e
   all_goals
     refine Ctr.intro Tryd.mixed Tryd.func58 rfl Tryd.okF58 ?_
     simp -implicitDefEqProofs -dsimp only [go_sem, Tryd.ntmps58, Tryd.results58]
     (repeat ((repeat1' (first | simp -implicitDefEqProofs -dsimp only [go_sem, Alarm.v] | simp -dsimp (disch := omega) only [wrap_i64])); repeat (with_reducible refine And.intro ?_ ?_; focus (first | omega | with_reducible rfl | (show drawOk _ = true; kernel_rfl) | (simp only [rows_length, rows_cell, List.length_append, List.length_cons, List.length_nil, List.all_append, List.all_cons, List.all_nil, isCell, Nat.mul_one, Nat.one_mul, Bool.and_self]; first | done | omega) | (simp only [ByteArray.size_append, ba_size, List.size_toArray, List.length_cons, List.length_nil]; omega)))))
     (first | refine callT.at (iIsAlarm_ok a (by omega)) ⟨leA, trivial⟩ ?_ | refine callS.at (iIsAlarm_ok a (by omega)) ⟨leA, trivial⟩ ?_)
     (repeat ((repeat1' (first | simp -implicitDefEqProofs -dsimp only [go_sem, ha, e] | simp -dsimp (disch := omega) only [wrap_i64])); repeat (with_reducible refine And.intro ?_ ?_; focus (first | omega | with_reducible rfl | (show drawOk _ = true; kernel_rfl) | (simp only [rows_length, rows_cell, List.length_append, List.length_cons, List.length_nil, List.all_append, List.all_cons, List.all_nil, isCell, Nat.mul_one, Nat.one_mul, Bool.and_self]; first | done | omega) | (simp only [ByteArray.size_append, ba_size, List.size_toArray, List.length_cons, List.length_nil]; omega)))))
     (first | refine callT.at (itoa_ok a.Now ⟨by omega, by omega⟩) ⟨leA, trivial⟩ ?_ | refine callS.at (itoa_ok a.Now ⟨by omega, by omega⟩) ⟨leA, trivial⟩ ?_)
     (repeat ((repeat1' (first | simp -implicitDefEqProofs -dsimp only [go_sem] | simp -dsimp (disch := omega) only [wrap_i64])); repeat (with_reducible refine And.intro ?_ ?_; focus (first | omega | with_reducible rfl | (show drawOk _ = true; kernel_rfl) | (simp only [rows_length, rows_cell, List.length_append, List.length_cons, List.length_nil, List.all_append, List.all_cons, List.all_nil, isCell, Nat.mul_one, Nat.one_mul, Bool.and_self]; first | done | omega) | (simp only [ByteArray.size_append, ba_size, List.size_toArray, List.length_cons, List.length_nil]; omega)))))
     (first | refine callT.at (itoa_ok (a.Heard.length : Int) ⟨by omega, by omega⟩) ⟨leA, trivial⟩ ?_ | refine callS.at (itoa_ok (a.Heard.length : Int) ⟨by omega, by omega⟩) ⟨leA, trivial⟩ ?_)
     (repeat ((repeat1' (first | simp -implicitDefEqProofs -dsimp only [go_sem] | simp -dsimp (disch := omega) only [wrap_i64])); repeat (with_reducible refine And.intro ?_ ?_; focus (first | omega | with_reducible rfl | (show drawOk _ = true; kernel_rfl) | (simp only [rows_length, rows_cell, List.length_append, List.length_cons, List.length_nil, List.all_append, List.all_cons, List.all_nil, isCell, Nat.mul_one, Nat.one_mul, Bool.and_self]; first | done | omega) | (simp only [ByteArray.size_append, ba_size, List.size_toArray, List.length_cons, List.length_nil]; omega)))))
     exact WeakR.drop' (by simp [alarmTextR, ha, alarmText, alarmWord, e]) (by rfl)
theorem sAlarmText_ok (a : Alarm) (hl : a.Heard.length ≤ 16777216) : Ctr Tryd.prog 59 [a.v] [] (alarmTextR a) [] := by
 cases ha : alarmB a with
 | false =>
   refine Ctr.intro Tryd.mixed Tryd.func59 rfl Tryd.okF59 ?_
   simp -implicitDefEqProofs -dsimp only [go_sem, Tryd.ntmps59, Tryd.results59]
   (repeat ((repeat1' (first | simp -implicitDefEqProofs -dsimp only [go_sem, Alarm.v] | simp -dsimp (disch := omega) only [wrap_i64])); repeat (with_reducible refine And.intro ?_ ?_; focus (first | omega | with_reducible rfl | (show drawOk _ = true; kernel_rfl) | (simp only [rows_length, rows_cell, List.length_append, List.length_cons, List.length_nil, List.all_append, List.all_cons, List.all_nil, isCell, Nat.mul_one, Nat.one_mul, Bool.and_self]; first | done | omega) | (simp only [ByteArray.size_append, ba_size, List.size_toArray, List.length_cons, List.length_nil]; omega)))))
   (first | refine callT.at (l21Good_ok a (by omega)) ⟨leA, trivial⟩ ?_ | refine callS.at (l21Good_ok a (by omega)) ⟨leA, trivial⟩ ?_)
   (repeat ((repeat1' (first | simp -implicitDefEqProofs -dsimp only [go_sem, ha] | simp -dsimp (disch := omega) only [wrap_i64])); repeat (with_reducible refine And.intro ?_ ?_; focus (first | omega | with_reducible rfl | (show drawOk _ = true; kernel_rfl) | (simp only [rows_length, rows_cell, List.length_append, List.length_cons, List.length_nil, List.all_append, List.all_cons, List.all_nil, isCell, Nat.mul_one, Nat.one_mul, Bool.and_self]; first | done | omega) | (simp only [ByteArray.size_append, ba_size, List.size_toArray, List.length_cons, List.length_nil]; omega)))))
   exact WeakR.drop' (by simp [alarmTextR, ha]; rfl) (by rfl)
 | true =>
   have A := alarmB_ok ha
   have h1 := A.now
   have h2 := A.state
   have h3 := A.len
   have h4 := alarmNums ha
   have hst : a.State = 0 ∨ a.State = 1 ∨ a.State = 2 ∨ a.State = 3 := by omega
   rcases hst with e | e | e | e
   all_goals
     refine Ctr.intro Tryd.mixed Tryd.func59 rfl Tryd.okF59 ?_
     simp -implicitDefEqProofs -dsimp only [go_sem, Tryd.ntmps59, Tryd.results59]
     (repeat ((repeat1' (first | simp -implicitDefEqProofs -dsimp only [go_sem, Alarm.v] | simp -dsimp (disch := omega) only [wrap_i64])); repeat (with_reducible refine And.intro ?_ ?_; focus (first | omega | with_reducible rfl | (show drawOk _ = true; kernel_rfl) | (simp only [rows_length, rows_cell, List.length_append, List.length_cons, List.length_nil, List.all_append, List.all_cons, List.all_nil, isCell, Nat.mul_one, Nat.one_mul, Bool.and_self]; first | done | omega) | (simp only [ByteArray.size_append, ba_size, List.size_toArray, List.length_cons, List.length_nil]; omega)))))
     (first | refine callT.at (l21Good_ok a (by omega)) ⟨leA, trivial⟩ ?_ | refine callS.at (l21Good_ok a (by omega)) ⟨leA, trivial⟩ ?_)
     (repeat ((repeat1' (first | simp -implicitDefEqProofs -dsimp only [go_sem, ha, e] | simp -dsimp (disch := omega) only [wrap_i64])); repeat (with_reducible refine And.intro ?_ ?_; focus (first | omega | with_reducible rfl | (show drawOk _ = true; kernel_rfl) | (simp only [rows_length, rows_cell, List.length_append, List.length_cons, List.length_nil, List.all_append, List.all_cons, List.all_nil, isCell, Nat.mul_one, Nat.one_mul, Bool.and_self]; first | done | omega) | (simp only [ByteArray.size_append, ba_size, List.size_toArray, List.length_cons, List.length_nil]; omega)))))
     (first | refine callT.at (l1Num_ok a.Now (by omega) (by omega)) ⟨leA, trivial⟩ ?_ | refine callS.at (l1Num_ok a.Now (by omega) (by omega)) ⟨leA, trivial⟩ ?_)
     (repeat ((repeat1' (first | simp -implicitDefEqProofs -dsimp only [go_sem] | simp -dsimp (disch := omega) only [wrap_i64])); repeat (with_reducible refine And.intro ?_ ?_; focus (first | omega | with_reducible rfl | (show drawOk _ = true; kernel_rfl) | (simp only [rows_length, rows_cell, List.length_append, List.length_cons, List.length_nil, List.all_append, List.all_cons, List.all_nil, isCell, Nat.mul_one, Nat.one_mul, Bool.and_self]; first | done | omega) | (simp only [ByteArray.size_append, ba_size, List.size_toArray, List.length_cons, List.length_nil]; omega)))))
     (first | refine callT.at (l1Num_ok (a.Heard.length : Int) (by omega) (by omega)) ⟨leA, trivial⟩ ?_ | refine callS.at (l1Num_ok (a.Heard.length : Int) (by omega) (by omega)) ⟨leA, trivial⟩ ?_)
     (repeat ((repeat1' (first | simp -implicitDefEqProofs -dsimp only [go_sem] | simp -dsimp (disch := omega) only [wrap_i64])); repeat (with_reducible refine And.intro ?_ ?_; focus (first | omega | with_reducible rfl | (show drawOk _ = true; kernel_rfl) | (simp only [rows_length, rows_cell, List.length_append, List.length_cons, List.length_nil, List.all_append, List.all_cons, List.all_nil, isCell, Nat.mul_one, Nat.one_mul, Bool.and_self]; first | done | omega) | (simp only [ByteArray.size_append, ba_size, List.size_toArray, List.length_cons, List.length_nil]; omega)))))
     exact WeakR.drop' (by simp [alarmTextR, ha, alarmText, alarmWord, e]) (by rfl)
end Go.Proofs
end
section
set_option maxRecDepth 100000
set_option maxHeartbeats 1000000
namespace Go.Proofs
open Go.Lv
structure Cur where
 a : Int
 s : Int
def Cur.cs (B : List Int) (c : Cur) : List V := [ByteS.sl B, .int .i64 c.a, .int .u64 c.s]
def CB (B : List Int) : Prop := lstR u8R B
def Cur.le (c : Cur) (k : Int) : Prop := 0 ≤ c.a ∧ c.a ≤ k
theorem Cur.ren (B : List Int) (c : Cur) (f : Nat → R) (d : Nat) : (c.cs B).map (Go.Lv.ren f d) = c.cs B := by cases d <;> simp [Cur.cs, Go.Lv.ren]
theorem lendCur {B : List Int} {c : Cur} {h : Hp} {id : Nat} (hid : h[id]? = some (some (c.cs B))) : pickH [id] h false = [some (c.cs B)] := by
 simp only [pickH, List.map_cons, List.map_nil, pickB, hid, Cur.ren]
theorem lendCur2 {α : Type} {cs : α → List V} {w : Nat} [FlatP cs w] {L : List α} {B : List Int} {c : Cur} {h : Hp} {i j : Nat} (hi : h[i]? = some (some (c.cs B))) (hj : h[j]? = some (some (rows cs L))) : pickH [i, j] h false = [some (c.cs B), some (rows cs L)] := by
 simp only [pickH, List.map_cons, List.map_nil, pickB, hi, hj, Cur.ren, map_ren_rows]
theorem growCur (B : List Int) (c c' : Cur) : grown [some (c.cs B)] [some (c'.cs B)] := ⟨⟨rfl, rfl⟩, trivial⟩
theorem growCur2 {α : Type} {cs : α → List V} {L : List α} (B : List Int) (c c' : Cur) : grown [some (c.cs B), some (rows cs L)] [some (c'.cs B), some (rows cs L)] := ⟨⟨rfl, rfl⟩, ⟨rfl, rfl⟩, trivial⟩
theorem andI_255 (x : Int) : 0 ≤ andI .u64 x 255 ∧ andI .u64 x 255 ≤ 255 := by
 have h : ∀ y : BitVec 64, (y &&& BitVec.ofInt 64 255).toNat ≤ 255 := fun y => by
   rw [BitVec.toNat_and]
   exact Nat.le_trans Nat.and_le_right (by decide)
 have hb : (BitVec.ofInt 64 x &&& BitVec.ofInt 64 255).toNat ≤ 255 := h _
 have hw : andI .u64 x 255 = (((BitVec.ofInt 64 x &&& BitVec.ofInt 64 255).toNat : Nat) : Int) := by
   unfold andI
   show IntKind.u64.wrap (((BitVec.ofInt 64 x &&& BitVec.ofInt 64 255).toNat : Nat) : Int) = _
   generalize (BitVec.ofInt 64 x &&& BitVec.ofInt 64 255).toNat = n at hb
   simp [IntKind.wrap, IntKind.bits, IntKind.signed]
   omega
 rw [hw]
 omega
def nextB (B : List Int) (c : Cur) : Int := if c.a < B.length then B.getD c.a.toNat 0 else 0
def nextS (B : List Int) (c : Cur) : Int := IntKind.u64.wrap (IntKind.u64.wrap (IntKind.u64.wrap (c.s * 6364136223846793005) + IntKind.u64.wrap (nextB B c)) + 101717)
def nextC (B : List Int) (c : Cur) : Cur := ⟨c.a + 1, nextS B c⟩
def nextV (B : List Int) (c : Cur) : Int := if c.a < B.length then nextB B c else andI .u64 (shrI .u64 (nextS B c) 40) 255
theorem nextB_bd {B : List Int} (hB : CB B) {c : Cur} (h : 0 ≤ c.a) : 0 ≤ nextB B c ∧ nextB B c ≤ 255 := by
 unfold nextB
 split
 · have hi : c.a.toNat < B.length := by omega
   have := hB.2 _ (List.getElem_mem hi)
   simpa [List.getD, hi, u8R] using this
 · omega
theorem nextV_bd {B : List Int} (hB : CB B) {c : Cur} (h : 0 ≤ c.a) : 0 ≤ nextV B c ∧ nextV B c ≤ 255 := by
 unfold nextV
 split
 · exact nextB_bd hB h
 · exact andI_255 _
theorem next_ok {B : List Int} (hB : CB B) {c : Cur} (hc : c.le 4611686018427387904) : Ctr Tryd.prog 145 [.ptr 0 0] [some (c.cs B)] (.int .i64 (nextV B c)) [some ((nextC B c).cs B)] := by
 obtain ⟨a, s⟩ := c
 obtain ⟨ha, hak⟩ := hc
 dsimp only at ha hak
 have hw : IntKind.i64.wrap (a + 1) = a + 1 := wrap_i64 (by omega) (by omega)
 have hbl := hB.1
 by_cases h1 : a < B.length
 · obtain ⟨i, rfl⟩ : ∃ i : Nat, a = i := ⟨a.toNat, by omega⟩
   have hi : i < B.length := by omega
   have hr := rows_at ByteS.csl hi
   obtain ⟨b0, b1⟩ : 0 ≤ B[i] ∧ B[i] ≤ 255 := by have := hB.2 _ (List.getElem_mem hi); simpa [u8R] using this
   have hwb : IntKind.i64.wrap B[i] = B[i] := wrap_i64 (by omega) (by omega)
   have hd : decide ((i : Int) < (B.length : Int)) = true := by simp; omega
   have hd2 : decide ((i : Int) + 1 ≤ (B.length : Int)) = true := by simp; omega
   have e1 : nextB B ⟨i, s⟩ = B[i] := by simp [nextB, h1, List.getD, hi]
   have e2 : nextV B ⟨i, s⟩ = B[i] := by simp [nextV, h1, e1]
   rw [nextC, nextS, e1, e2]
   refine Ctr.intro Tryd.mixed Tryd.func145 rfl Tryd.okF145 ?_
   simp -implicitDefEqProofs -dsimp only [go_sem, Tryd.ntmps145, Tryd.results145]
   (repeat ((repeat1' (first | simp -implicitDefEqProofs -dsimp only [go_sem, Cur.cs, hw, hd, hd2, hr, ByteS.cs, hwb] | simp -dsimp (disch := omega) only [wrap_i64])); repeat (with_reducible refine sideA ?_)))
   exact WeakR.refl _ _ _
 · have hd : decide (a < (B.length : Int)) = false := by simp; omega
   have hd2 : decide (a + 1 ≤ (B.length : Int)) = false := by simp; omega
   have e3 : nextV B ⟨a, s⟩ = andI .u64 (shrI .u64 (nextS B ⟨a, s⟩) 40) 255 := by simp [nextV, h1]
   have e4 : nextB B ⟨a, s⟩ = 0 := by simp [nextB, h1]
   rw [nextC, e3]
   rw [nextS, e4]
   obtain ⟨e1, e2⟩ := andI_255 (shrI .u64 (IntKind.u64.wrap (IntKind.u64.wrap (IntKind.u64.wrap (s * 6364136223846793005) + IntKind.u64.wrap 0) + 101717)) 40)
   generalize hq : andI .u64 (shrI .u64 (IntKind.u64.wrap (IntKind.u64.wrap (IntKind.u64.wrap (s * 6364136223846793005) + IntKind.u64.wrap 0) + 101717)) 40) 255 = q at e1 e2 ⊢
   have hwq : IntKind.i64.wrap q = q := wrap_i64 (by omega) (by omega)
   refine Ctr.intro Tryd.mixed Tryd.func145 rfl Tryd.okF145 ?_
   simp -implicitDefEqProofs -dsimp only [go_sem, Tryd.ntmps145, Tryd.results145]
   (repeat ((repeat1' (first | simp -implicitDefEqProofs -dsimp only [go_sem, Cur.cs, hw, hd, hd2, hq] | simp -dsimp (disch := omega) only [wrap_i64])); repeat (with_reducible refine sideA ?_)))
   exact WeakR.refl _ _ _
def pickV (B : List Int) (n : Int) (c : Cur) : Int := if n ≤ 1 then 0 else if 200 < n then (nextV B c * 256 + nextV B (nextC B c)).tmod n else (nextV B c).tmod n
def pickC (B : List Int) (n : Int) (c : Cur) : Cur := if n ≤ 1 then c else if 200 < n then nextC B (nextC B c) else nextC B c
theorem pickC_le {B : List Int} {n k : Int} {c : Cur} (h : c.le k) : (pickC B n c).le (k + 2) := by
 unfold pickC nextC Cur.le at *
 split
 · omega
 · split <;> (simp only []; omega)
theorem pickV_bd {B : List Int} (hB : CB B) {n : Int} {c : Cur} (h : 0 ≤ c.a) : 0 ≤ pickV B n c ∧ (1 ≤ n → pickV B n c < n) := by
 have h1 := nextV_bd hB h
 have h2 := nextV_bd hB (c := nextC B c) (by simp [nextC]; omega)
 unfold pickV
 split
 · omega
 · split
   · exact ⟨Int.tmod_nonneg _ (by omega), fun _ => Int.tmod_lt_of_pos _ (by omega)⟩
   · exact ⟨Int.tmod_nonneg _ (by omega), fun _ => Int.tmod_lt_of_pos _ (by omega)⟩
theorem pick_ok {B : List Int} (hB : CB B) {c : Cur} (hc : c.le 4611686018427387903) (n : Int) (hn : n ≤ 1000000000) : Ctr Tryd.prog 92 [.ptr 0 0, .int .i64 n] [some (c.cs B)] (.int .i64 (pickV B n c)) [some ((pickC B n c).cs B)] := by
 obtain ⟨r1, r2⟩ := nextV_bd hB hc.1
 have hc1 : (nextC B c).le 4611686018427387904 := by obtain ⟨h, h'⟩ := hc; exact ⟨by simp [nextC]; omega, by simp [nextC]; omega⟩
 obtain ⟨q1, q2⟩ := nextV_bd hB hc1.1
 have p4 := next_ok hB (c := c) ⟨hc.1, by have := hc.2; omega⟩
 have q4 := next_ok hB hc1
 by_cases h1 : n ≤ 1
 · have hd : decide (n ≤ 1) = true := by simp [h1]
   rw [pickV, pickC, if_pos h1, if_pos h1]
   refine Ctr.intro Tryd.mixed Tryd.func92 rfl Tryd.okF92 ?_
   simp -implicitDefEqProofs -dsimp only [go_sem, Tryd.ntmps92, Tryd.results92]
   (repeat ((repeat1' (first | simp -implicitDefEqProofs -dsimp only [go_sem, hd] | simp -dsimp (disch := omega) only [wrap_i64])); repeat (with_reducible refine sideA ?_)))
   exact WeakR.refl _ _ _
 have hd : decide (n ≤ 1) = false := by simp; omega
 by_cases h2 : 200 < n
 · have hd2 : decide (200 < n) = true := by simp [h2]
   have hw : IntKind.i64.wrap (nextV B c * 256) = nextV B c * 256 := wrap_i64 (by omega) (by omega)
   have hw2 : IntKind.i64.wrap (nextV B c * 256 + nextV B (nextC B c)) = nextV B c * 256 + nextV B (nextC B c) := wrap_i64 (by omega) (by omega)
   rw [pickV, pickC, if_neg h1, if_neg h1, if_pos h2, if_pos h2]
   refine Ctr.intro Tryd.mixed Tryd.func92 rfl Tryd.okF92 ?_
   simp -implicitDefEqProofs -dsimp only [go_sem, Tryd.ntmps92, Tryd.results92]
   (repeat ((repeat1' (first | simp -implicitDefEqProofs -dsimp only [go_sem, hd] | simp -dsimp (disch := omega) only [wrap_i64])); repeat (with_reducible refine sideA ?_)))
   refine callS.lend [0] false p4 (by decide) ⟨leO, trivial⟩ (lendCur rfl) (growCur B _ _) (.inl rfl) ?_
   (repeat ((repeat1' (first | simp -implicitDefEqProofs -dsimp only [go_sem, hd2, hw, Cur.ren] | simp -dsimp (disch := omega) only [wrap_i64])); repeat (with_reducible refine sideA ?_)))
   refine callS.lend [0] false q4 (by decide) ⟨leO, trivial⟩ (lendCur rfl) (growCur B _ _) (.inl rfl) ?_
   (repeat ((repeat1' (first | simp -implicitDefEqProofs -dsimp only [go_sem, hw2, Cur.ren] | simp -dsimp (disch := omega) only [wrap_i64])); repeat (with_reducible refine sideA ?_)))
   exact WeakR.refl _ _ _
 · have hd2 : decide (200 < n) = false := by simp [h2]
   rw [pickV, pickC, if_neg h1, if_neg h1, if_neg h2, if_neg h2]
   refine Ctr.intro Tryd.mixed Tryd.func92 rfl Tryd.okF92 ?_
   simp -implicitDefEqProofs -dsimp only [go_sem, Tryd.ntmps92, Tryd.results92]
   (repeat ((repeat1' (first | simp -implicitDefEqProofs -dsimp only [go_sem, hd] | simp -dsimp (disch := omega) only [wrap_i64])); repeat (with_reducible refine sideA ?_)))
   refine callS.lend [0] false p4 (by decide) ⟨leO, trivial⟩ (lendCur rfl) (growCur B _ _) (.inl rfl) ?_
   (repeat ((repeat1' (first | simp -implicitDefEqProofs -dsimp only [go_sem, hd2, Cur.ren] | simp -dsimp (disch := omega) only [wrap_i64])); repeat (with_reducible refine sideA ?_)))
   exact WeakR.refl _ _ _
def oneV (B : List Int) (n : Int) (c : Cur) : Bool := pickV B n c == 0
theorem one_ok {B : List Int} (hB : CB B) {c : Cur} (hc : c.le 4611686018427387903) (n : Int) (hn : n ≤ 1000000000) : Ctr Tryd.prog 91 [.ptr 0 0, .int .i64 n] [some (c.cs B)] (.bool (oneV B n c)) [some ((pickC B n c).cs B)] := by
 refine Ctr.intro Tryd.mixed Tryd.func91 rfl Tryd.okF91 ?_
 simp -implicitDefEqProofs -dsimp only [go_sem, Tryd.ntmps91, Tryd.results91]
 (repeat ((repeat1' (first | simp -implicitDefEqProofs -dsimp only [go_sem] | simp -dsimp (disch := omega) only [wrap_i64])); repeat (with_reducible refine sideA ?_)))
 refine callS.lend [0] false (pick_ok hB hc n hn) (by decide) ⟨leO, leO, trivial⟩ (lendCur rfl) (growCur B _ _) (.inl rfl) ?_
 (repeat ((repeat1' (first | simp -implicitDefEqProofs -dsimp only [go_sem, Cur.ren] | simp -dsimp (disch := omega) only [wrap_i64])); repeat (with_reducible refine sideA ?_)))
 exact WeakR.refl _ _ _
def amongV (B : List Int) (K : List Int) (c : Cur) : Int := K.getD (pickV B K.length c).toNat 0
theorem amongV_mem {B : List Int} (hB : CB B) {K : List Int} (hK : 0 < K.length) {c : Cur} (h : 0 ≤ c.a) : amongV B K c ∈ K := by
 obtain ⟨h1, h2⟩ := pickV_bd hB (n := K.length) h
 have hi : (pickV B K.length c).toNat < K.length := by omega
 simp [amongV, List.getD, hi]
theorem among_ok {B : List Int} (hB : CB B) {c : Cur} (hc : c.le 4611686018427387903) (K : List Int) (hK0 : 0 < K.length) (hK : K.length ≤ 1000000000) : Ctr Tryd.prog 93 [.ptr 0 0, .osl 1 0 K.length 1] [some (c.cs B), some (rows IntS.cs K)] (.int .i64 (amongV B K c)) [some ((pickC B K.length c).cs B), some (rows IntS.cs K)] := by
 obtain ⟨h1, h2⟩ := pickV_bd hB (n := K.length) hc.1
 obtain ⟨i, hi'⟩ : ∃ i : Nat, pickV B K.length c = i := ⟨(pickV B K.length c).toNat, by omega⟩
 have hi : i < K.length := by omega
 have hr := rows_at IntS.csl hi
 have e : amongV B K c = K[i] := by simp [amongV, hi', List.getD, hi]
 have hp := pick_ok hB hc K.length (by omega)
 rw [hi'] at hp
 rw [e]
 refine Ctr.intro Tryd.mixed Tryd.func93 rfl Tryd.okF93 ?_
 simp -implicitDefEqProofs -dsimp only [go_sem, Tryd.ntmps93, Tryd.results93]
 (repeat ((repeat1' (first | simp -implicitDefEqProofs -dsimp only [go_sem] | simp -dsimp (disch := omega) only [wrap_i64])); repeat (with_reducible refine sideA ?_)))
 refine callS.lend [0] false hp (by decide) ⟨leO, leO, trivial⟩ (lendCur rfl) (growCur B _ _) (.inl rfl) ?_
 (repeat ((repeat1' (first | simp -implicitDefEqProofs -dsimp only [go_sem, Cur.ren, hr, IntS.cs] | simp -dsimp (disch := omega) only [wrap_i64])); repeat (with_reducible refine sideA ?_)))
 exact WeakR.refl _ _ _
end Go.Proofs
end
section
set_option maxRecDepth 100000
namespace Go.Proofs
open Go.Lv
structure QuakeRow where
 Id : Int
 Tick : Int
 X : Int
 Y : Int
 Deep : Int
 Size : Int
 Grade : Int
def QuakeRow.cs (r : QuakeRow) : List V := [.int .i64 r.Id, .int .i64 r.Tick, .int .i64 r.X, .int .i64 r.Y, .int .i64 r.Deep, .int .i64 r.Size, .int .i64 r.Grade]
def QuakeRow.v (r : QuakeRow) : V := .agg [.int .i64 r.Id, .int .i64 r.Tick, .int .i64 r.X, .int .i64 r.Y, .int .i64 r.Deep, .int .i64 r.Size, .int .i64 r.Grade]
theorem QuakeRow.csl (a : QuakeRow) : a.cs.length = 7 := rfl
theorem QuakeRow.csp (a : QuakeRow) : a.cs.all (noOwn 2) = true := rfl
instance : FlatP QuakeRow.cs 7 := ⟨fun _ => rfl, fun _ d => by cases d <;> rfl, fun _ => rfl, fun _ => rfl⟩
def QuakeRow.ok (r : QuakeRow) : Prop := i64R r.Id ∧ i64R r.Tick ∧ i64R r.X ∧ i64R r.Y ∧ i64R r.Deep ∧ i64R r.Size ∧ i64R r.Grade
abbrev QuakeRow.rows (L : List QuakeRow) : List V := Go.Lv.rows QuakeRow.cs L
abbrev QuakeRow.sl (L : List QuakeRow) : V := .sl L.length 7 (Go.Lv.rows QuakeRow.cs L)
abbrev QuakeRow.zs : List V := [.int .i64 0, .int .i64 0, .int .i64 0, .int .i64 0, .int .i64 0, .int .i64 0, .int .i64 0]
def QuakeRow.mk1 (k : Int) : QuakeRow := ⟨k, k + 1, k + 1 + 1, k + 1 + 1 + 1, k + 1 + 1 + 1 + 1, k + 1 + 1 + 1 + 1 + 1, k + 1 + 1 + 1 + 1 + 1 + 1⟩
def QuakeRow.marks (k : Int) (n : Nat) : List QuakeRow := (List.range n).map fun i : Nat => QuakeRow.mk1 (k + 7 * (i : Int))
@[simp] theorem QuakeRow.marks_len (k : Int) (n : Nat) : (QuakeRow.marks k n).length = n := by simp [QuakeRow.marks]
end Go.Proofs
end
section
set_option maxRecDepth 100000
set_option maxHeartbeats 2000000
namespace Go.Proofs
open Go.Lv
theorem curq_le {k : Int} (h : 0 ≤ k) : (Cur.mk 0 0).le k := ⟨by simp, by simpa using h⟩
end Go.Proofs
end
section
set_option maxRecDepth 100000
set_option maxHeartbeats 2000000
namespace Go.Proofs
open Go.Lv
theorem lmonoA {c : Cur} {a b : Int} (h : c.le a) (hab : a ≤ b) : c.le b := ⟨h.1, Int.le_trans h.2 hab⟩
theorem i64mem {K : List Int} {v : Int} (h : v ∈ K) (hk : ∀ x ∈ K, i64R x) : i64R v := hk v h
def astP1 (B : List Int) (k : Int) (L : List Heard) (r : V) (hout : Hp) : Prop := ∃ (s : AlarmStep) (c : Cur), s.ok ∧ c.le k ∧ r = s.v ∧ hout = [some (c.cs B), some (rows Heard.cs L)]
theorem ast_fin1 {B : List Int} {k : Int} {L : List Heard} {h : Hp} {K v : Int} {c : Cur} (h0 : h[0]? = some (some (c.cs B))) (h1 : h[1]? = some (some (rows Heard.cs L))) (hK : i64R K) (hv : i64R v) (hc : c.le k) : RelR 2 (.agg [.int .i64 K, .int .i64 v]) h (astP1 B k L) := by
 refine ⟨_, _, ⟨⟨K, v⟩, c, ⟨hK, hv⟩, hc, rfl, rfl⟩, WeakR.pick [0, 1] (by decide) (fun j hj => by rcases j with _ | _ | j <;> first | rfl | omega) (.inl rfl) ?_⟩
 simp only [pickH, List.map_cons, List.map_nil, pickB, h0, h1, Cur.ren, map_ren_rows]
theorem alarmStepM_ok {B : List Int} (hB : CB B) {k : Int} (hk : k ≤ 1000000) {c : Cur} (hc : c.le k) (a : Alarm) : CtrP Tryd.prog 205 [.ptr 0 0, .agg (a.oc 1)] [some (c.cs B), some (rows Heard.cs a.Heard)] (astP1 B (k + 20) a.Heard) := by
 have hcb : ∀ {c' : Cur} {k' : Int}, c'.le k' → k' ≤ 4000000 → c'.le 4611686018427387903 := fun h h' => ⟨h.1, by have := h.2; omega⟩
 refine CtrP.intro Tryd.mixed Tryd.func205 rfl Tryd.okF205 ?_
 simp -implicitDefEqProofs -dsimp only [go_sem, Tryd.ntmps205, Tryd.results205]
 (repeat ((repeat1' (first | simp -implicitDefEqProofs -dsimp only [go_sem, Alarm.oc] | simp -dsimp (disch := omega) only [wrap_i64])); repeat (with_reducible refine sideA ?_)))
 have pc1 := one_ok hB (hcb hc (by omega)) 40 (by omega); have hc1 := pickC_le (B := B) (n := 40) hc; generalize oneV B 40 c = vc1 at pc1; generalize pickC B 40 c = c1 at pc1 hc1; refine callS.lend [0] false pc1 (by decide) ⟨leO, leO, trivial⟩ (lendCur rfl) (growCur B _ _) (.inl rfl) ?_
 (repeat ((repeat1' (first | simp -implicitDefEqProofs -dsimp only [go_sem, Cur.ren, map_ren_rows] | simp -dsimp (disch := omega) only [wrap_i64])); repeat (with_reducible refine sideA ?_)))
 refine condT.split (fun h1 => ?_) (fun h1 => ?_)
 · (repeat ((repeat1' (first | simp -implicitDefEqProofs -dsimp only [go_sem, h1] | simp -dsimp (disch := omega) only [wrap_i64])); repeat (with_reducible refine sideA ?_)))
   have pc2 := among_ok hB (hcb hc1 (by omega)) [0, 6, 3] (by simp) (by simp); have hc2 := pickC_le (B := B) (n := (([0, 6, 3] : List Int).length : Int)) hc1; have pvc2 := amongV_mem hB (K := [0, 6, 3]) (by simp) hc1.1; generalize amongV B [0, 6, 3] c1 = vc2 at pc2 pvc2; generalize pickC B (([0, 6, 3] : List Int).length : Int) c1 = c2 at pc2 hc2; (first | refine callS.lend [0, 3] false pc2 (by decide) ⟨leO, leO, trivial⟩ (lendCur2 rfl rfl) (growCur2 B _ _) (.inl rfl) ?_ | refine callS.lend [0, 4] false pc2 (by decide) ⟨leO, leO, trivial⟩ (lendCur2 rfl rfl) (growCur2 B _ _) (.inl rfl) ?_ | refine callS.lend [0, 5] false pc2 (by decide) ⟨leO, leO, trivial⟩ (lendCur2 rfl rfl) (growCur2 B _ _) (.inl rfl) ?_ | refine callS.lend [0, 6] false pc2 (by decide) ⟨leO, leO, trivial⟩ (lendCur2 rfl rfl) (growCur2 B _ _) (.inl rfl) ?_ | refine callS.lend [0, 7] false pc2 (by decide) ⟨leO, leO, trivial⟩ (lendCur2 rfl rfl) (growCur2 B _ _) (.inl rfl) ?_ | refine callS.lend [0, 8] false pc2 (by decide) ⟨leO, leO, trivial⟩ (lendCur2 rfl rfl) (growCur2 B _ _) (.inl rfl) ?_)
   (repeat ((repeat1' (first | simp -implicitDefEqProofs -dsimp only [go_sem, Cur.ren, map_ren_rows] | simp -dsimp (disch := omega) only [wrap_i64])); repeat (with_reducible refine sideA ?_)))
   have pc3 := among_ok hB (hcb hc2 (by omega)) [0, 1, -1, 100] (by simp) (by simp); have hc3 := pickC_le (B := B) (n := (([0, 1, -1, 100] : List Int).length : Int)) hc2; have pvc3 := amongV_mem hB (K := [0, 1, -1, 100]) (by simp) hc2.1; generalize amongV B [0, 1, -1, 100] c2 = vc3 at pc3 pvc3; generalize pickC B (([0, 1, -1, 100] : List Int).length : Int) c2 = c3 at pc3 hc3; (first | refine callS.lend [0, 3] false pc3 (by decide) ⟨leO, leO, trivial⟩ (lendCur2 rfl rfl) (growCur2 B _ _) (.inl rfl) ?_ | refine callS.lend [0, 4] false pc3 (by decide) ⟨leO, leO, trivial⟩ (lendCur2 rfl rfl) (growCur2 B _ _) (.inl rfl) ?_ | refine callS.lend [0, 5] false pc3 (by decide) ⟨leO, leO, trivial⟩ (lendCur2 rfl rfl) (growCur2 B _ _) (.inl rfl) ?_ | refine callS.lend [0, 6] false pc3 (by decide) ⟨leO, leO, trivial⟩ (lendCur2 rfl rfl) (growCur2 B _ _) (.inl rfl) ?_ | refine callS.lend [0, 7] false pc3 (by decide) ⟨leO, leO, trivial⟩ (lendCur2 rfl rfl) (growCur2 B _ _) (.inl rfl) ?_ | refine callS.lend [0, 8] false pc3 (by decide) ⟨leO, leO, trivial⟩ (lendCur2 rfl rfl) (growCur2 B _ _) (.inl rfl) ?_)
   (repeat ((repeat1' (first | simp -implicitDefEqProofs -dsimp only [go_sem, Cur.ren, map_ren_rows] | simp -dsimp (disch := omega) only [wrap_i64])); repeat (with_reducible refine sideA ?_)))
   exact ast_fin1 rfl rfl (i64mem pvc2 (by simp [i64R])) (i64mem pvc3 (by simp [i64R])) (lmonoA hc3 (by simp only [List.length_cons, List.length_nil] at *; omega))
 · (repeat ((repeat1' (first | simp -implicitDefEqProofs -dsimp only [go_sem, h1] | simp -dsimp (disch := omega) only [wrap_i64])); repeat (with_reducible refine sideA ?_)))
   have pc2 := pick_ok hB (hcb hc1 (by omega)) 8 (by omega); have hc2 := pickC_le (B := B) (n := 8) hc1; have pvc2 := pickV_bd hB (n := 8) hc1.1; generalize pickV B 8 c1 = vc2 at pc2 pvc2; generalize pickC B 8 c1 = c2 at pc2 hc2; refine callS.lend [0] false pc2 (by decide) ⟨leO, leO, trivial⟩ (lendCur rfl) (growCur B _ _) (.inl rfl) ?_
   have hv8 : vc2 = 0 ∨ vc2 = 1 ∨ vc2 = 2 ∨ vc2 = 3 ∨ vc2 = 4 ∨ vc2 = 5 ∨ vc2 = 6 ∨ vc2 = 7 := by omega
   rcases hv8 with rfl | rfl | rfl | rfl | rfl | rfl | rfl | rfl
   all_goals (repeat ((repeat1' (first | simp -implicitDefEqProofs -dsimp only [go_sem, Cur.ren, map_ren_rows] | simp -dsimp (disch := omega) only [wrap_i64])); repeat (with_reducible refine sideA ?_)))
   all_goals first
     | exact ast_fin1 rfl rfl (by simp [i64R]) (by simp [i64R]) (lmonoA hc2 (by omega))
     | (have pc3 := among_ok hB (hcb hc2 (by omega)) [1, 50, 200, 499, 500, 501, 1001, 1000001, 0] (by simp) (by simp); have hc3 := pickC_le (B := B) (n := (([1, 50, 200, 499, 500, 501, 1001, 1000001, 0] : List Int).length : Int)) hc2; have pvc3 := amongV_mem hB (K := [1, 50, 200, 499, 500, 501, 1001, 1000001, 0]) (by simp) hc2.1; generalize amongV B [1, 50, 200, 499, 500, 501, 1001, 1000001, 0] c2 = vc3 at pc3 pvc3; generalize pickC B (([1, 50, 200, 499, 500, 501, 1001, 1000001, 0] : List Int).length : Int) c2 = c3 at pc3 hc3; (first | refine callS.lend [0, 3] false pc3 (by decide) ⟨leO, leO, trivial⟩ (lendCur2 rfl rfl) (growCur2 B _ _) (.inl rfl) ?_ | refine callS.lend [0, 4] false pc3 (by decide) ⟨leO, leO, trivial⟩ (lendCur2 rfl rfl) (growCur2 B _ _) (.inl rfl) ?_ | refine callS.lend [0, 5] false pc3 (by decide) ⟨leO, leO, trivial⟩ (lendCur2 rfl rfl) (growCur2 B _ _) (.inl rfl) ?_ | refine callS.lend [0, 6] false pc3 (by decide) ⟨leO, leO, trivial⟩ (lendCur2 rfl rfl) (growCur2 B _ _) (.inl rfl) ?_ | refine callS.lend [0, 7] false pc3 (by decide) ⟨leO, leO, trivial⟩ (lendCur2 rfl rfl) (growCur2 B _ _) (.inl rfl) ?_ | refine callS.lend [0, 8] false pc3 (by decide) ⟨leO, leO, trivial⟩ (lendCur2 rfl rfl) (growCur2 B _ _) (.inl rfl) ?_)
        (repeat ((repeat1' (first | simp -implicitDefEqProofs -dsimp only [go_sem, Cur.ren, map_ren_rows] | simp -dsimp (disch := omega) only [wrap_i64])); repeat (with_reducible refine sideA ?_)))
        exact ast_fin1 rfl rfl (by simp [i64R]) (i64mem pvc3 (by simp [i64R])) (lmonoA hc3 (by simp only [List.length_cons, List.length_nil] at *; omega)))
     | (have pc3 := among_ok hB (hcb hc2 (by omega)) [1, 2, 3, 4, 5, 6, 7, 8, 9, 99, 100] (by simp) (by simp); have hc3 := pickC_le (B := B) (n := (([1, 2, 3, 4, 5, 6, 7, 8, 9, 99, 100] : List Int).length : Int)) hc2; have pvc3 := amongV_mem hB (K := [1, 2, 3, 4, 5, 6, 7, 8, 9, 99, 100]) (by simp) hc2.1; generalize amongV B [1, 2, 3, 4, 5, 6, 7, 8, 9, 99, 100] c2 = vc3 at pc3 pvc3; generalize pickC B (([1, 2, 3, 4, 5, 6, 7, 8, 9, 99, 100] : List Int).length : Int) c2 = c3 at pc3 hc3; (first | refine callS.lend [0, 3] false pc3 (by decide) ⟨leO, leO, trivial⟩ (lendCur2 rfl rfl) (growCur2 B _ _) (.inl rfl) ?_ | refine callS.lend [0, 4] false pc3 (by decide) ⟨leO, leO, trivial⟩ (lendCur2 rfl rfl) (growCur2 B _ _) (.inl rfl) ?_ | refine callS.lend [0, 5] false pc3 (by decide) ⟨leO, leO, trivial⟩ (lendCur2 rfl rfl) (growCur2 B _ _) (.inl rfl) ?_ | refine callS.lend [0, 6] false pc3 (by decide) ⟨leO, leO, trivial⟩ (lendCur2 rfl rfl) (growCur2 B _ _) (.inl rfl) ?_ | refine callS.lend [0, 7] false pc3 (by decide) ⟨leO, leO, trivial⟩ (lendCur2 rfl rfl) (growCur2 B _ _) (.inl rfl) ?_ | refine callS.lend [0, 8] false pc3 (by decide) ⟨leO, leO, trivial⟩ (lendCur2 rfl rfl) (growCur2 B _ _) (.inl rfl) ?_)
        (repeat ((repeat1' (first | simp -implicitDefEqProofs -dsimp only [go_sem, Cur.ren, map_ren_rows] | simp -dsimp (disch := omega) only [wrap_i64])); repeat (with_reducible refine sideA ?_)))
        exact ast_fin1 rfl rfl (by simp [i64R]) (i64mem pvc3 (by simp [i64R])) (lmonoA hc3 (by simp only [List.length_cons, List.length_nil] at *; omega)))
end Go.Proofs
end
section
set_option maxRecDepth 100000
set_option maxHeartbeats 2000000
namespace Go.Proofs
open Go.Lv
def alarmP (B : List Int) (k : Int) (r : V) (hout : Hp) : Prop := ∃ (a : Alarm) (c : Cur), a.ok ∧ a.Heard.length ≤ 100 ∧ c.le k ∧ r = a.v ∧ hout = [some (c.cs B)]
theorem Alarm.leM {h : Hp} {r : Alarm} {i : Nat} (h1 : h[i]? = some (some (rows Heard.cs r.Heard))) : LeV (ren (snapR h 3) 3 (.agg (r.oc i))) r.v := by
 refine .inl ?_
 simp only [Alarm.oc, Alarm.v, ren, List.map_cons, List.map_nil, snapR, h1, map_ren_rows, List.drop_zero, take_rows]
theorem aB_aok {a : Alarm} (h : alarmB a = true) : a.ok ∧ a.Heard.length ≤ 8 := by
 have A := alarmB_ok h
 have h1 := A.now
 have h2 := A.state
 have h3 := A.canc
 have h4 := A.given
 have h5 := A.len
 refine ⟨⟨⟨by omega, by omega⟩, ⟨by omega, by omega⟩, ⟨by omega, fun x hx => ?_⟩, ⟨by omega, by omega⟩, ⟨by omega, by omega⟩⟩, h5⟩
 have := heardB_iff.1 (A.heard x hx)
 exact ⟨⟨by omega, by omega⟩, ⟨by omega, by omega⟩⟩
def getT : List (Nat × St) → Nat → Option St
 | [], _ => none
 | p :: l, m => if Nat.beq p.1 m = true then some p.2 else getT l m
def gA (s0 : St) (l : List (Nat × St)) (m : Nat) (s : St) : Prop := cond (Nat.beq m 0) (some s0 = some s) (getT l m = some s)
def tabA (B : List Int) (a : Alarm) (c5 c6 c7 : Cur) (v6 v7 : Int) : List (Nat × St) :=
 [(0, ⟨[.ptr 0 0, .undef, .ptr 1 0, .ptr 2 0, .undef, .undef, .undef, .undef, .undef, .undef, .undef, .undef, .undef, .undef, .undef, .undef, .undef, .undef, .undef, .undef, .undef, .undef, .undef, .undef, .undef, .undef, .undef, .undef, .undef, .undef, .undef, .undef, .undef, .undef, .undef, .undef, .undef, .undef, .undef, .undef, .undef, .undef, .undef, .undef, .undef, .undef, .undef, .undef, .undef, .undef, .undef, .undef, .undef, .undef, .undef, .undef, .undef, .undef, .undef, .undef, .undef, .undef, .undef, .undef, .undef, .undef, .undef, .undef, .undef, .undef], [some (c5.cs B), some [.int .i64 0, .int .i64 0, .nilsl, .int .i64 0, .int .i64 0], some (a.oc 3), some (rows Heard.cs a.Heard)], 1⟩),
  (1, ⟨[.ptr 0 0, .undef, .ptr 1 0, .ptr 2 0, .undef, .undef, .undef, .undef, .undef, .undef, .undef, .undef, .undef, .undef, .undef, .undef, .undef, .undef, .undef, .undef, .undef, .undef, .undef, .undef, .undef, .undef, .undef, .undef, .undef, .undef, .undef, .undef, .undef, .undef, .undef, .undef, .undef, .undef, .undef, .undef, .undef, .undef, .undef, .undef, .undef, .undef, .undef, .undef, .undef, .undef, .undef, .undef, .ptr 2 2, .undef, .undef, .undef, .undef, .undef, .undef, .undef, .undef, .undef, .undef, .undef, .undef, .undef, .undef, .undef, .undef, .undef], [some (c5.cs B), some [.int .i64 0, .int .i64 0, .nilsl, .int .i64 0, .int .i64 0], some (a.oc 3), some (rows Heard.cs a.Heard)], 1⟩),
  (5, ⟨[.ptr 0 0, .undef, .ptr 1 0, .ptr 2 0, .undef, .undef, .undef, .undef, .undef, .undef, .undef, .undef, .undef, .undef, .undef, .undef, .undef, .undef, .undef, .undef, .undef, .undef, .undef, .undef, .undef, .undef, .undef, .undef, .undef, .undef, .undef, .undef, .undef, .undef, .undef, .undef, .undef, .undef, .undef, .undef, .undef, .undef, .undef, .undef, .undef, .undef, .undef, .undef, .undef, .undef, .undef, .undef, .ptr 2 2, .undef, .ptr 0 0, .undef, .undef, .undef, .undef, .undef, .undef, .undef, .undef, .undef, .undef, .undef, .undef, .undef, .undef, .undef], [some (c5.cs B), some [.int .i64 0, .int .i64 0, .nilsl, .int .i64 0, .int .i64 0], some (a.oc 3), some (rows Heard.cs a.Heard)], 1⟩),
  (37, ⟨[.ptr 0 0, .undef, .ptr 1 0, .ptr 2 0, .undef, .undef, .undef, .undef, .undef, .undef, .undef, .undef, .undef, .undef, .undef, .undef, .undef, .undef, .undef, .undef, .undef, .undef, .undef, .undef, .undef, .undef, .undef, .undef, .undef, .undef, .undef, .undef, .undef, .undef, .undef, .undef, .undef, .undef, .undef, .undef, .undef, .undef, .undef, .undef, .undef, .undef, .undef, .undef, .undef, .undef, .undef, .undef, .ptr 2 2, .undef, .ptr 0 0, .undef, .undef, .ptr 0 0, .undef, .undef, .undef, .undef, .undef, .undef, .undef, .undef, .undef, .undef, .undef, .undef], [some (c5.cs B), some [.int .i64 0, .int .i64 0, .nilsl, .int .i64 0, .int .i64 0], some (a.oc 3), some (rows Heard.cs a.Heard)], 1⟩),
  (101, ⟨[.ptr 0 0, .undef, .ptr 1 0, .ptr 2 0, .undef, .undef, .undef, .undef, .undef, .undef, .undef, .undef, .undef, .undef, .undef, .undef, .undef, .undef, .undef, .undef, .undef, .undef, .undef, .undef, .undef, .undef, .undef, .undef, .undef, .undef, .undef, .undef, .undef, .undef, .undef, .undef, .undef, .undef, .undef, .undef, .undef, .undef, .undef, .undef, .undef, .undef, .undef, .undef, .undef, .undef, .undef, .undef, .ptr 2 2, .undef, .ptr 0 0, .undef, .undef, .ptr 0 0, .ptr 2 0, .undef, .undef, .undef, .undef, .undef, .undef, .undef, .undef, .undef, .undef, .undef], [some (c5.cs B), some [.int .i64 0, .int .i64 0, .nilsl, .int .i64 0, .int .i64 0], some (a.oc 3), some (rows Heard.cs a.Heard)], 1⟩),
  (357, ⟨[.ptr 0 0, .undef, .ptr 1 0, .ptr 2 0, .undef, .undef, .undef, .undef, .undef, .undef, .undef, .undef, .undef, .undef, .undef, .undef, .undef, .undef, .undef, .undef, .undef, .undef, .undef, .undef, .undef, .undef, .undef, .undef, .undef, .undef, .undef, .undef, .undef, .undef, .undef, .undef, .undef, .undef, .undef, .undef, .undef, .undef, .undef, .undef, .undef, .undef, .undef, .undef, .undef, .undef, .undef, .undef, .ptr 2 2, .undef, .ptr 0 0, .undef, .undef, .ptr 0 0, .ptr 2 0, .undef, .ptr 2 0, .undef, .undef, .undef, .undef, .undef, .undef, .undef, .undef, .undef], [some (c5.cs B), some [.int .i64 0, .int .i64 0, .nilsl, .int .i64 0, .int .i64 0], some (a.oc 3), some (rows Heard.cs a.Heard)], 1⟩),
  (359, ⟨[.ptr 0 0, .undef, .ptr 1 0, .ptr 2 0, .undef, .undef, .undef, .undef, .undef, .undef, .undef, .undef, .undef, .undef, .undef, .undef, .undef, .undef, .undef, .undef, .undef, .undef, .undef, .undef, .undef, .undef, .undef, .undef, .undef, .undef, .undef, .undef, .undef, .undef, .undef, .undef, .undef, .undef, .undef, .undef, .undef, .undef, .undef, .undef, .undef, .undef, .undef, .undef, .undef, .undef, .undef, .undef, .undef, .osl 3 0 a.Heard.length 2, .ptr 0 0, .undef, .undef, .ptr 0 0, .ptr 2 0, .undef, .ptr 2 0, .undef, .undef, .undef, .undef, .undef, .undef, .undef, .undef, .undef], [some (c5.cs B), some [.int .i64 0, .int .i64 0, .nilsl, .int .i64 0, .int .i64 0], some (a.oc 3), some (rows Heard.cs a.Heard)], 1⟩),
  (365, ⟨[.ptr 0 0, .undef, .ptr 1 0, .ptr 2 0, .undef, .undef, .undef, .undef, .undef, .undef, .undef, .undef, .undef, .undef, .undef, .undef, .undef, .undef, .undef, .undef, .undef, .undef, .undef, .undef, .undef, .undef, .undef, .undef, .undef, .undef, .undef, .undef, .undef, .undef, .undef, .undef, .undef, .undef, .undef, .undef, .undef, .undef, .undef, .undef, .undef, .undef, .undef, .undef, .undef, .undef, .undef, .undef, .ptr 2 2, .undef, .ptr 0 0, .osl 4 0 3 1, .undef, .ptr 0 0, .ptr 2 0, .undef, .ptr 2 0, .undef, .undef, .undef, .undef, .undef, .undef, .undef, .undef, .undef], [some (c5.cs B), some [.int .i64 0, .int .i64 0, .nilsl, .int .i64 0, .int .i64 0], some (a.oc 3), some (rows Heard.cs a.Heard), some (rows IntS.cs [0, 1, 50])], 1⟩),
  (367, ⟨[.ptr 0 0, .undef, .ptr 1 0, .ptr 2 0, .undef, .undef, .undef, .undef, .undef, .undef, .undef, .undef, .undef, .undef, .undef, .undef, .undef, .undef, .undef, .undef, .undef, .undef, .undef, .undef, .undef, .undef, .undef, .undef, .undef, .undef, .undef, .undef, .undef, .undef, .undef, .undef, .undef, .undef, .undef, .undef, .undef, .undef, .undef, .undef, .undef, .undef, .undef, .undef, .undef, .undef, .undef, .undef, .undef, .osl 3 0 a.Heard.length 2, .ptr 0 0, .osl 4 0 3 1, .undef, .ptr 0 0, .ptr 2 0, .undef, .ptr 2 0, .undef, .undef, .undef, .undef, .undef, .undef, .undef, .undef, .undef], [some (c5.cs B), some [.int .i64 0, .int .i64 0, .nilsl, .int .i64 0, .int .i64 0], some (a.oc 3), some (rows Heard.cs a.Heard), some (rows IntS.cs [0, 1, 50])], 1⟩),
  (381, ⟨[.ptr 0 0, .undef, .ptr 1 0, .ptr 2 0, .undef, .undef, .undef, .undef, .undef, .undef, .undef, .undef, .undef, .undef, .undef, .undef, .undef, .undef, .undef, .undef, .undef, .undef, .undef, .undef, .undef, .undef, .undef, .undef, .undef, .undef, .undef, .undef, .undef, .undef, .undef, .undef, .undef, .undef, .undef, .undef, .undef, .undef, .undef, .undef, .undef, .undef, .undef, .undef, .undef, .undef, .undef, .undef, .ptr 2 2, .undef, .undef, .undef, .int .i64 v6, .ptr 0 0, .ptr 2 0, .undef, .ptr 2 0, .undef, .undef, .undef, .undef, .undef, .undef, .undef, .undef, .undef], [some (c6.cs B), some [.int .i64 0, .int .i64 0, .nilsl, .int .i64 0, .int .i64 0], some (a.oc 3), some (rows Heard.cs a.Heard)], 1⟩),
  (383, ⟨[.ptr 0 0, .undef, .ptr 1 0, .ptr 2 0, .undef, .undef, .undef, .undef, .undef, .undef, .undef, .undef, .undef, .undef, .undef, .undef, .undef, .undef, .undef, .undef, .undef, .undef, .undef, .undef, .undef, .undef, .undef, .undef, .undef, .undef, .undef, .undef, .undef, .undef, .undef, .undef, .undef, .undef, .undef, .undef, .undef, .undef, .undef, .undef, .undef, .undef, .undef, .undef, .undef, .undef, .undef, .undef, .undef, .osl 3 0 a.Heard.length 2, .undef, .undef, .int .i64 v6, .ptr 0 0, .ptr 2 0, .undef, .ptr 2 0, .undef, .undef, .undef, .undef, .undef, .undef, .undef, .undef, .undef], [some (c6.cs B), some [.int .i64 0, .int .i64 0, .nilsl, .int .i64 0, .int .i64 0], some (a.oc 3), some (rows Heard.cs a.Heard)], 1⟩),
  (485, ⟨[.ptr 0 0, .undef, .ptr 1 0, .ptr 2 0, .undef, .undef, .undef, .undef, .undef, .undef, .undef, .undef, .undef, .undef, .undef, .undef, .undef, .undef, .undef, .undef, .undef, .undef, .undef, .undef, .undef, .undef, .undef, .undef, .undef, .undef, .undef, .undef, .undef, .undef, .undef, .undef, .undef, .undef, .undef, .undef, .undef, .undef, .undef, .undef, .undef, .undef, .undef, .undef, .undef, .undef, .undef, .undef, .ptr 2 2, .undef, .ptr 0 0, .undef, .undef, .ptr 0 0, .undef, .int .i64 a.Now, .ptr 2 0, .undef, .undef, .undef, .undef, .undef, .undef, .undef, .undef, .undef], [some (c5.cs B), some [.int .i64 0, .int .i64 0, .nilsl, .int .i64 0, .int .i64 0], some (a.oc 3), some (rows Heard.cs a.Heard)], 1⟩),
  (487, ⟨[.ptr 0 0, .undef, .ptr 1 0, .ptr 2 0, .undef, .undef, .undef, .undef, .undef, .undef, .undef, .undef, .undef, .undef, .undef, .undef, .undef, .undef, .undef, .undef, .undef, .undef, .undef, .undef, .undef, .undef, .undef, .undef, .undef, .undef, .undef, .undef, .undef, .undef, .undef, .undef, .undef, .undef, .undef, .undef, .undef, .undef, .undef, .undef, .undef, .undef, .undef, .undef, .undef, .undef, .undef, .undef, .undef, .osl 3 0 a.Heard.length 2, .ptr 0 0, .undef, .undef, .ptr 0 0, .undef, .int .i64 a.Now, .ptr 2 0, .undef, .undef, .undef, .undef, .undef, .undef, .undef, .undef, .undef], [some (c5.cs B), some [.int .i64 0, .int .i64 0, .nilsl, .int .i64 0, .int .i64 0], some (a.oc 3), some (rows Heard.cs a.Heard)], 1⟩),
  (493, ⟨[.ptr 0 0, .undef, .ptr 1 0, .ptr 2 0, .undef, .undef, .undef, .undef, .undef, .undef, .undef, .undef, .undef, .undef, .undef, .undef, .undef, .undef, .undef, .undef, .undef, .undef, .undef, .undef, .undef, .undef, .undef, .undef, .undef, .undef, .undef, .undef, .undef, .undef, .undef, .undef, .undef, .undef, .undef, .undef, .undef, .undef, .undef, .undef, .undef, .undef, .undef, .undef, .undef, .undef, .undef, .undef, .ptr 2 2, .undef, .ptr 0 0, .osl 4 0 3 1, .undef, .ptr 0 0, .undef, .int .i64 a.Now, .ptr 2 0, .undef, .undef, .undef, .undef, .undef, .undef, .undef, .undef, .undef], [some (c5.cs B), some [.int .i64 0, .int .i64 0, .nilsl, .int .i64 0, .int .i64 0], some (a.oc 3), some (rows Heard.cs a.Heard), some (rows IntS.cs [0, 1, 50])], 1⟩),
  (495, ⟨[.ptr 0 0, .undef, .ptr 1 0, .ptr 2 0, .undef, .undef, .undef, .undef, .undef, .undef, .undef, .undef, .undef, .undef, .undef, .undef, .undef, .undef, .undef, .undef, .undef, .undef, .undef, .undef, .undef, .undef, .undef, .undef, .undef, .undef, .undef, .undef, .undef, .undef, .undef, .undef, .undef, .undef, .undef, .undef, .undef, .undef, .undef, .undef, .undef, .undef, .undef, .undef, .undef, .undef, .undef, .undef, .undef, .osl 3 0 a.Heard.length 2, .ptr 0 0, .osl 4 0 3 1, .undef, .ptr 0 0, .undef, .int .i64 a.Now, .ptr 2 0, .undef, .undef, .undef, .undef, .undef, .undef, .undef, .undef, .undef], [some (c5.cs B), some [.int .i64 0, .int .i64 0, .nilsl, .int .i64 0, .int .i64 0], some (a.oc 3), some (rows Heard.cs a.Heard), some (rows IntS.cs [0, 1, 50])], 1⟩),
  (509, ⟨[.ptr 0 0, .undef, .ptr 1 0, .ptr 2 0, .undef, .undef, .undef, .undef, .undef, .undef, .undef, .undef, .undef, .undef, .undef, .undef, .undef, .undef, .undef, .undef, .undef, .undef, .undef, .undef, .undef, .undef, .undef, .undef, .undef, .undef, .undef, .undef, .undef, .undef, .undef, .undef, .undef, .undef, .undef, .undef, .undef, .undef, .undef, .undef, .undef, .undef, .undef, .undef, .undef, .undef, .undef, .undef, .ptr 2 2, .undef, .undef, .undef, .int .i64 v6, .ptr 0 0, .undef, .int .i64 a.Now, .ptr 2 0, .undef, .undef, .undef, .undef, .undef, .undef, .undef, .undef, .undef], [some (c6.cs B), some [.int .i64 0, .int .i64 0, .nilsl, .int .i64 0, .int .i64 0], some (a.oc 3), some (rows Heard.cs a.Heard)], 1⟩),
  (511, ⟨[.ptr 0 0, .undef, .ptr 1 0, .ptr 2 0, .undef, .undef, .undef, .undef, .undef, .undef, .undef, .undef, .undef, .undef, .undef, .undef, .undef, .undef, .undef, .undef, .undef, .undef, .undef, .undef, .undef, .undef, .undef, .undef, .undef, .undef, .undef, .undef, .undef, .undef, .undef, .undef, .undef, .undef, .undef, .undef, .undef, .undef, .undef, .undef, .undef, .undef, .undef, .undef, .undef, .undef, .undef, .undef, .undef, .osl 3 0 a.Heard.length 2, .undef, .undef, .int .i64 v6, .ptr 0 0, .undef, .int .i64 a.Now, .ptr 2 0, .undef, .undef, .undef, .undef, .undef, .undef, .undef, .undef, .undef], [some (c6.cs B), some [.int .i64 0, .int .i64 0, .nilsl, .int .i64 0, .int .i64 0], some (a.oc 3), some (rows Heard.cs a.Heard)], 1⟩),
  (869, ⟨[.ptr 0 0, .undef, .ptr 1 0, .ptr 2 0, .undef, .undef, .undef, .undef, .undef, .undef, .undef, .undef, .undef, .undef, .undef, .undef, .undef, .undef, .undef, .undef, .undef, .undef, .undef, .undef, .undef, .undef, .undef, .undef, .undef, .undef, .undef, .undef, .undef, .undef, .undef, .undef, .undef, .undef, .undef, .undef, .undef, .undef, .undef, .undef, .undef, .undef, .undef, .undef, .undef, .undef, .undef, .undef, .ptr 2 2, .undef, .ptr 0 0, .undef, .undef, .ptr 0 0, .ptr 2 0, .undef, .undef, .int .i64 a.Now, .undef, .undef, .undef, .undef, .undef, .undef, .undef, .undef], [some (c5.cs B), some [.int .i64 0, .int .i64 0, .nilsl, .int .i64 0, .int .i64 0], some (a.oc 3), some (rows Heard.cs a.Heard)], 1⟩),
  (871, ⟨[.ptr 0 0, .undef, .ptr 1 0, .ptr 2 0, .undef, .undef, .undef, .undef, .undef, .undef, .undef, .undef, .undef, .undef, .undef, .undef, .undef, .undef, .undef, .undef, .undef, .undef, .undef, .undef, .undef, .undef, .undef, .undef, .undef, .undef, .undef, .undef, .undef, .undef, .undef, .undef, .undef, .undef, .undef, .undef, .undef, .undef, .undef, .undef, .undef, .undef, .undef, .undef, .undef, .undef, .undef, .undef, .undef, .osl 3 0 a.Heard.length 2, .ptr 0 0, .undef, .undef, .ptr 0 0, .ptr 2 0, .undef, .undef, .int .i64 a.Now, .undef, .undef, .undef, .undef, .undef, .undef, .undef, .undef], [some (c5.cs B), some [.int .i64 0, .int .i64 0, .nilsl, .int .i64 0, .int .i64 0], some (a.oc 3), some (rows Heard.cs a.Heard)], 1⟩),
  (877, ⟨[.ptr 0 0, .undef, .ptr 1 0, .ptr 2 0, .undef, .undef, .undef, .undef, .undef, .undef, .undef, .undef, .undef, .undef, .undef, .undef, .undef, .undef, .undef, .undef, .undef, .undef, .undef, .undef, .undef, .undef, .undef, .undef, .undef, .undef, .undef, .undef, .undef, .undef, .undef, .undef, .undef, .undef, .undef, .undef, .undef, .undef, .undef, .undef, .undef, .undef, .undef, .undef, .undef, .undef, .undef, .undef, .ptr 2 2, .undef, .ptr 0 0, .osl 4 0 3 1, .undef, .ptr 0 0, .ptr 2 0, .undef, .undef, .int .i64 a.Now, .undef, .undef, .undef, .undef, .undef, .undef, .undef, .undef], [some (c5.cs B), some [.int .i64 0, .int .i64 0, .nilsl, .int .i64 0, .int .i64 0], some (a.oc 3), some (rows Heard.cs a.Heard), some (rows IntS.cs [0, 1, 50])], 1⟩),
  (879, ⟨[.ptr 0 0, .undef, .ptr 1 0, .ptr 2 0, .undef, .undef, .undef, .undef, .undef, .undef, .undef, .undef, .undef, .undef, .undef, .undef, .undef, .undef, .undef, .undef, .undef, .undef, .undef, .undef, .undef, .undef, .undef, .undef, .undef, .undef, .undef, .undef, .undef, .undef, .undef, .undef, .undef, .undef, .undef, .undef, .undef, .undef, .undef, .undef, .undef, .undef, .undef, .undef, .undef, .undef, .undef, .undef, .undef, .osl 3 0 a.Heard.length 2, .ptr 0 0, .osl 4 0 3 1, .undef, .ptr 0 0, .ptr 2 0, .undef, .undef, .int .i64 a.Now, .undef, .undef, .undef, .undef, .undef, .undef, .undef, .undef], [some (c5.cs B), some [.int .i64 0, .int .i64 0, .nilsl, .int .i64 0, .int .i64 0], some (a.oc 3), some (rows Heard.cs a.Heard), some (rows IntS.cs [0, 1, 50])], 1⟩),
  (893, ⟨[.ptr 0 0, .undef, .ptr 1 0, .ptr 2 0, .undef, .undef, .undef, .undef, .undef, .undef, .undef, .undef, .undef, .undef, .undef, .undef, .undef, .undef, .undef, .undef, .undef, .undef, .undef, .undef, .undef, .undef, .undef, .undef, .undef, .undef, .undef, .undef, .undef, .undef, .undef, .undef, .undef, .undef, .undef, .undef, .undef, .undef, .undef, .undef, .undef, .undef, .undef, .undef, .undef, .undef, .undef, .undef, .ptr 2 2, .undef, .undef, .undef, .int .i64 v6, .ptr 0 0, .ptr 2 0, .undef, .undef, .int .i64 a.Now, .undef, .undef, .undef, .undef, .undef, .undef, .undef, .undef], [some (c6.cs B), some [.int .i64 0, .int .i64 0, .nilsl, .int .i64 0, .int .i64 0], some (a.oc 3), some (rows Heard.cs a.Heard)], 1⟩),
  (895, ⟨[.ptr 0 0, .undef, .ptr 1 0, .ptr 2 0, .undef, .undef, .undef, .undef, .undef, .undef, .undef, .undef, .undef, .undef, .undef, .undef, .undef, .undef, .undef, .undef, .undef, .undef, .undef, .undef, .undef, .undef, .undef, .undef, .undef, .undef, .undef, .undef, .undef, .undef, .undef, .undef, .undef, .undef, .undef, .undef, .undef, .undef, .undef, .undef, .undef, .undef, .undef, .undef, .undef, .undef, .undef, .undef, .undef, .osl 3 0 a.Heard.length 2, .undef, .undef, .int .i64 v6, .ptr 0 0, .ptr 2 0, .undef, .undef, .int .i64 a.Now, .undef, .undef, .undef, .undef, .undef, .undef, .undef, .undef], [some (c6.cs B), some [.int .i64 0, .int .i64 0, .nilsl, .int .i64 0, .int .i64 0], some (a.oc 3), some (rows Heard.cs a.Heard)], 1⟩),
  (997, ⟨[.ptr 0 0, .undef, .ptr 1 0, .ptr 2 0, .undef, .undef, .undef, .undef, .undef, .undef, .undef, .undef, .undef, .undef, .undef, .undef, .undef, .undef, .undef, .undef, .undef, .undef, .undef, .undef, .undef, .undef, .undef, .undef, .undef, .undef, .undef, .undef, .undef, .undef, .undef, .undef, .undef, .undef, .undef, .undef, .undef, .undef, .undef, .undef, .undef, .undef, .undef, .undef, .undef, .undef, .undef, .undef, .ptr 2 2, .undef, .ptr 0 0, .undef, .undef, .ptr 0 0, .undef, .int .i64 a.Now, .undef, .int .i64 a.Now, .undef, .undef, .undef, .undef, .undef, .undef, .undef, .undef], [some (c5.cs B), some [.int .i64 0, .int .i64 0, .nilsl, .int .i64 0, .int .i64 0], some (a.oc 3), some (rows Heard.cs a.Heard)], 1⟩),
  (999, ⟨[.ptr 0 0, .undef, .ptr 1 0, .ptr 2 0, .undef, .undef, .undef, .undef, .undef, .undef, .undef, .undef, .undef, .undef, .undef, .undef, .undef, .undef, .undef, .undef, .undef, .undef, .undef, .undef, .undef, .undef, .undef, .undef, .undef, .undef, .undef, .undef, .undef, .undef, .undef, .undef, .undef, .undef, .undef, .undef, .undef, .undef, .undef, .undef, .undef, .undef, .undef, .undef, .undef, .undef, .undef, .undef, .undef, .osl 3 0 a.Heard.length 2, .ptr 0 0, .undef, .undef, .ptr 0 0, .undef, .int .i64 a.Now, .undef, .int .i64 a.Now, .undef, .undef, .undef, .undef, .undef, .undef, .undef, .undef], [some (c5.cs B), some [.int .i64 0, .int .i64 0, .nilsl, .int .i64 0, .int .i64 0], some (a.oc 3), some (rows Heard.cs a.Heard)], 1⟩),
  (1005, ⟨[.ptr 0 0, .undef, .ptr 1 0, .ptr 2 0, .undef, .undef, .undef, .undef, .undef, .undef, .undef, .undef, .undef, .undef, .undef, .undef, .undef, .undef, .undef, .undef, .undef, .undef, .undef, .undef, .undef, .undef, .undef, .undef, .undef, .undef, .undef, .undef, .undef, .undef, .undef, .undef, .undef, .undef, .undef, .undef, .undef, .undef, .undef, .undef, .undef, .undef, .undef, .undef, .undef, .undef, .undef, .undef, .ptr 2 2, .undef, .ptr 0 0, .osl 4 0 3 1, .undef, .ptr 0 0, .undef, .int .i64 a.Now, .undef, .int .i64 a.Now, .undef, .undef, .undef, .undef, .undef, .undef, .undef, .undef], [some (c5.cs B), some [.int .i64 0, .int .i64 0, .nilsl, .int .i64 0, .int .i64 0], some (a.oc 3), some (rows Heard.cs a.Heard), some (rows IntS.cs [0, 1, 50])], 1⟩),
  (1007, ⟨[.ptr 0 0, .undef, .ptr 1 0, .ptr 2 0, .undef, .undef, .undef, .undef, .undef, .undef, .undef, .undef, .undef, .undef, .undef, .undef, .undef, .undef, .undef, .undef, .undef, .undef, .undef, .undef, .undef, .undef, .undef, .undef, .undef, .undef, .undef, .undef, .undef, .undef, .undef, .undef, .undef, .undef, .undef, .undef, .undef, .undef, .undef, .undef, .undef, .undef, .undef, .undef, .undef, .undef, .undef, .undef, .undef, .osl 3 0 a.Heard.length 2, .ptr 0 0, .osl 4 0 3 1, .undef, .ptr 0 0, .undef, .int .i64 a.Now, .undef, .int .i64 a.Now, .undef, .undef, .undef, .undef, .undef, .undef, .undef, .undef], [some (c5.cs B), some [.int .i64 0, .int .i64 0, .nilsl, .int .i64 0, .int .i64 0], some (a.oc 3), some (rows Heard.cs a.Heard), some (rows IntS.cs [0, 1, 50])], 1⟩),
  (1021, ⟨[.ptr 0 0, .undef, .ptr 1 0, .ptr 2 0, .undef, .undef, .undef, .undef, .undef, .undef, .undef, .undef, .undef, .undef, .undef, .undef, .undef, .undef, .undef, .undef, .undef, .undef, .undef, .undef, .undef, .undef, .undef, .undef, .undef, .undef, .undef, .undef, .undef, .undef, .undef, .undef, .undef, .undef, .undef, .undef, .undef, .undef, .undef, .undef, .undef, .undef, .undef, .undef, .undef, .undef, .undef, .undef, .ptr 2 2, .undef, .undef, .undef, .int .i64 v6, .ptr 0 0, .undef, .int .i64 a.Now, .undef, .int .i64 a.Now, .undef, .undef, .undef, .undef, .undef, .undef, .undef, .undef], [some (c6.cs B), some [.int .i64 0, .int .i64 0, .nilsl, .int .i64 0, .int .i64 0], some (a.oc 3), some (rows Heard.cs a.Heard)], 1⟩),
  (1023, ⟨[.ptr 0 0, .undef, .ptr 1 0, .ptr 2 0, .undef, .undef, .undef, .undef, .undef, .undef, .undef, .undef, .undef, .undef, .undef, .undef, .undef, .undef, .undef, .undef, .undef, .undef, .undef, .undef, .undef, .undef, .undef, .undef, .undef, .undef, .undef, .undef, .undef, .undef, .undef, .undef, .undef, .undef, .undef, .undef, .undef, .undef, .undef, .undef, .undef, .undef, .undef, .undef, .undef, .undef, .undef, .undef, .undef, .osl 3 0 a.Heard.length 2, .undef, .undef, .int .i64 v6, .ptr 0 0, .undef, .int .i64 a.Now, .undef, .int .i64 a.Now, .undef, .undef, .undef, .undef, .undef, .undef, .undef, .undef], [some (c6.cs B), some [.int .i64 0, .int .i64 0, .nilsl, .int .i64 0, .int .i64 0], some (a.oc 3), some (rows Heard.cs a.Heard)], 1⟩),
  (1893, ⟨[.ptr 0 0, .undef, .ptr 1 0, .ptr 2 0, .undef, .undef, .undef, .undef, .undef, .undef, .undef, .undef, .undef, .undef, .undef, .undef, .undef, .undef, .undef, .undef, .undef, .undef, .undef, .undef, .undef, .undef, .undef, .undef, .undef, .undef, .undef, .undef, .undef, .undef, .undef, .undef, .undef, .undef, .undef, .undef, .undef, .undef, .undef, .undef, .undef, .undef, .undef, .undef, .undef, .undef, .undef, .undef, .ptr 2 2, .undef, .ptr 0 0, .undef, .undef, .ptr 0 0, .ptr 2 0, .undef, .undef, .undef, .int .i64 (a.Now + 1), .undef, .undef, .undef, .undef, .undef, .undef, .undef], [some (c5.cs B), some [.int .i64 0, .int .i64 0, .nilsl, .int .i64 0, .int .i64 0], some (a.oc 3), some (rows Heard.cs a.Heard)], 1⟩),
  (1895, ⟨[.ptr 0 0, .undef, .ptr 1 0, .ptr 2 0, .undef, .undef, .undef, .undef, .undef, .undef, .undef, .undef, .undef, .undef, .undef, .undef, .undef, .undef, .undef, .undef, .undef, .undef, .undef, .undef, .undef, .undef, .undef, .undef, .undef, .undef, .undef, .undef, .undef, .undef, .undef, .undef, .undef, .undef, .undef, .undef, .undef, .undef, .undef, .undef, .undef, .undef, .undef, .undef, .undef, .undef, .undef, .undef, .undef, .osl 3 0 a.Heard.length 2, .ptr 0 0, .undef, .undef, .ptr 0 0, .ptr 2 0, .undef, .undef, .undef, .int .i64 (a.Now + 1), .undef, .undef, .undef, .undef, .undef, .undef, .undef], [some (c5.cs B), some [.int .i64 0, .int .i64 0, .nilsl, .int .i64 0, .int .i64 0], some (a.oc 3), some (rows Heard.cs a.Heard)], 1⟩),
  (1901, ⟨[.ptr 0 0, .undef, .ptr 1 0, .ptr 2 0, .undef, .undef, .undef, .undef, .undef, .undef, .undef, .undef, .undef, .undef, .undef, .undef, .undef, .undef, .undef, .undef, .undef, .undef, .undef, .undef, .undef, .undef, .undef, .undef, .undef, .undef, .undef, .undef, .undef, .undef, .undef, .undef, .undef, .undef, .undef, .undef, .undef, .undef, .undef, .undef, .undef, .undef, .undef, .undef, .undef, .undef, .undef, .undef, .ptr 2 2, .undef, .ptr 0 0, .osl 4 0 3 1, .undef, .ptr 0 0, .ptr 2 0, .undef, .undef, .undef, .int .i64 (a.Now + 1), .undef, .undef, .undef, .undef, .undef, .undef, .undef], [some (c5.cs B), some [.int .i64 0, .int .i64 0, .nilsl, .int .i64 0, .int .i64 0], some (a.oc 3), some (rows Heard.cs a.Heard), some (rows IntS.cs [0, 1, 50])], 1⟩),
  (1903, ⟨[.ptr 0 0, .undef, .ptr 1 0, .ptr 2 0, .undef, .undef, .undef, .undef, .undef, .undef, .undef, .undef, .undef, .undef, .undef, .undef, .undef, .undef, .undef, .undef, .undef, .undef, .undef, .undef, .undef, .undef, .undef, .undef, .undef, .undef, .undef, .undef, .undef, .undef, .undef, .undef, .undef, .undef, .undef, .undef, .undef, .undef, .undef, .undef, .undef, .undef, .undef, .undef, .undef, .undef, .undef, .undef, .undef, .osl 3 0 a.Heard.length 2, .ptr 0 0, .osl 4 0 3 1, .undef, .ptr 0 0, .ptr 2 0, .undef, .undef, .undef, .int .i64 (a.Now + 1), .undef, .undef, .undef, .undef, .undef, .undef, .undef], [some (c5.cs B), some [.int .i64 0, .int .i64 0, .nilsl, .int .i64 0, .int .i64 0], some (a.oc 3), some (rows Heard.cs a.Heard), some (rows IntS.cs [0, 1, 50])], 1⟩),
  (1917, ⟨[.ptr 0 0, .undef, .ptr 1 0, .ptr 2 0, .undef, .undef, .undef, .undef, .undef, .undef, .undef, .undef, .undef, .undef, .undef, .undef, .undef, .undef, .undef, .undef, .undef, .undef, .undef, .undef, .undef, .undef, .undef, .undef, .undef, .undef, .undef, .undef, .undef, .undef, .undef, .undef, .undef, .undef, .undef, .undef, .undef, .undef, .undef, .undef, .undef, .undef, .undef, .undef, .undef, .undef, .undef, .undef, .ptr 2 2, .undef, .undef, .undef, .int .i64 v6, .ptr 0 0, .ptr 2 0, .undef, .undef, .undef, .int .i64 (a.Now + 1), .undef, .undef, .undef, .undef, .undef, .undef, .undef], [some (c6.cs B), some [.int .i64 0, .int .i64 0, .nilsl, .int .i64 0, .int .i64 0], some (a.oc 3), some (rows Heard.cs a.Heard)], 1⟩),
  (1919, ⟨[.ptr 0 0, .undef, .ptr 1 0, .ptr 2 0, .undef, .undef, .undef, .undef, .undef, .undef, .undef, .undef, .undef, .undef, .undef, .undef, .undef, .undef, .undef, .undef, .undef, .undef, .undef, .undef, .undef, .undef, .undef, .undef, .undef, .undef, .undef, .undef, .undef, .undef, .undef, .undef, .undef, .undef, .undef, .undef, .undef, .undef, .undef, .undef, .undef, .undef, .undef, .undef, .undef, .undef, .undef, .undef, .undef, .osl 3 0 a.Heard.length 2, .undef, .undef, .int .i64 v6, .ptr 0 0, .ptr 2 0, .undef, .undef, .undef, .int .i64 (a.Now + 1), .undef, .undef, .undef, .undef, .undef, .undef, .undef], [some (c6.cs B), some [.int .i64 0, .int .i64 0, .nilsl, .int .i64 0, .int .i64 0], some (a.oc 3), some (rows Heard.cs a.Heard)], 1⟩),
  (2021, ⟨[.ptr 0 0, .undef, .ptr 1 0, .ptr 2 0, .undef, .undef, .undef, .undef, .undef, .undef, .undef, .undef, .undef, .undef, .undef, .undef, .undef, .undef, .undef, .undef, .undef, .undef, .undef, .undef, .undef, .undef, .undef, .undef, .undef, .undef, .undef, .undef, .undef, .undef, .undef, .undef, .undef, .undef, .undef, .undef, .undef, .undef, .undef, .undef, .undef, .undef, .undef, .undef, .undef, .undef, .undef, .undef, .ptr 2 2, .undef, .ptr 0 0, .undef, .undef, .ptr 0 0, .undef, .int .i64 a.Now, .undef, .undef, .int .i64 (a.Now + 1), .undef, .undef, .undef, .undef, .undef, .undef, .undef], [some (c5.cs B), some [.int .i64 0, .int .i64 0, .nilsl, .int .i64 0, .int .i64 0], some (a.oc 3), some (rows Heard.cs a.Heard)], 1⟩),
  (2023, ⟨[.ptr 0 0, .undef, .ptr 1 0, .ptr 2 0, .undef, .undef, .undef, .undef, .undef, .undef, .undef, .undef, .undef, .undef, .undef, .undef, .undef, .undef, .undef, .undef, .undef, .undef, .undef, .undef, .undef, .undef, .undef, .undef, .undef, .undef, .undef, .undef, .undef, .undef, .undef, .undef, .undef, .undef, .undef, .undef, .undef, .undef, .undef, .undef, .undef, .undef, .undef, .undef, .undef, .undef, .undef, .undef, .undef, .osl 3 0 a.Heard.length 2, .ptr 0 0, .undef, .undef, .ptr 0 0, .undef, .int .i64 a.Now, .undef, .undef, .int .i64 (a.Now + 1), .undef, .undef, .undef, .undef, .undef, .undef, .undef], [some (c5.cs B), some [.int .i64 0, .int .i64 0, .nilsl, .int .i64 0, .int .i64 0], some (a.oc 3), some (rows Heard.cs a.Heard)], 1⟩),
  (2029, ⟨[.ptr 0 0, .undef, .ptr 1 0, .ptr 2 0, .undef, .undef, .undef, .undef, .undef, .undef, .undef, .undef, .undef, .undef, .undef, .undef, .undef, .undef, .undef, .undef, .undef, .undef, .undef, .undef, .undef, .undef, .undef, .undef, .undef, .undef, .undef, .undef, .undef, .undef, .undef, .undef, .undef, .undef, .undef, .undef, .undef, .undef, .undef, .undef, .undef, .undef, .undef, .undef, .undef, .undef, .undef, .undef, .ptr 2 2, .undef, .ptr 0 0, .osl 4 0 3 1, .undef, .ptr 0 0, .undef, .int .i64 a.Now, .undef, .undef, .int .i64 (a.Now + 1), .undef, .undef, .undef, .undef, .undef, .undef, .undef], [some (c5.cs B), some [.int .i64 0, .int .i64 0, .nilsl, .int .i64 0, .int .i64 0], some (a.oc 3), some (rows Heard.cs a.Heard), some (rows IntS.cs [0, 1, 50])], 1⟩),
  (2031, ⟨[.ptr 0 0, .undef, .ptr 1 0, .ptr 2 0, .undef, .undef, .undef, .undef, .undef, .undef, .undef, .undef, .undef, .undef, .undef, .undef, .undef, .undef, .undef, .undef, .undef, .undef, .undef, .undef, .undef, .undef, .undef, .undef, .undef, .undef, .undef, .undef, .undef, .undef, .undef, .undef, .undef, .undef, .undef, .undef, .undef, .undef, .undef, .undef, .undef, .undef, .undef, .undef, .undef, .undef, .undef, .undef, .undef, .osl 3 0 a.Heard.length 2, .ptr 0 0, .osl 4 0 3 1, .undef, .ptr 0 0, .undef, .int .i64 a.Now, .undef, .undef, .int .i64 (a.Now + 1), .undef, .undef, .undef, .undef, .undef, .undef, .undef], [some (c5.cs B), some [.int .i64 0, .int .i64 0, .nilsl, .int .i64 0, .int .i64 0], some (a.oc 3), some (rows Heard.cs a.Heard), some (rows IntS.cs [0, 1, 50])], 1⟩),
  (2045, ⟨[.ptr 0 0, .undef, .ptr 1 0, .ptr 2 0, .undef, .undef, .undef, .undef, .undef, .undef, .undef, .undef, .undef, .undef, .undef, .undef, .undef, .undef, .undef, .undef, .undef, .undef, .undef, .undef, .undef, .undef, .undef, .undef, .undef, .undef, .undef, .undef, .undef, .undef, .undef, .undef, .undef, .undef, .undef, .undef, .undef, .undef, .undef, .undef, .undef, .undef, .undef, .undef, .undef, .undef, .undef, .undef, .ptr 2 2, .undef, .undef, .undef, .int .i64 v6, .ptr 0 0, .undef, .int .i64 a.Now, .undef, .undef, .int .i64 (a.Now + 1), .undef, .undef, .undef, .undef, .undef, .undef, .undef], [some (c6.cs B), some [.int .i64 0, .int .i64 0, .nilsl, .int .i64 0, .int .i64 0], some (a.oc 3), some (rows Heard.cs a.Heard)], 1⟩),
  (2047, ⟨[.ptr 0 0, .undef, .ptr 1 0, .ptr 2 0, .undef, .undef, .undef, .undef, .undef, .undef, .undef, .undef, .undef, .undef, .undef, .undef, .undef, .undef, .undef, .undef, .undef, .undef, .undef, .undef, .undef, .undef, .undef, .undef, .undef, .undef, .undef, .undef, .undef, .undef, .undef, .undef, .undef, .undef, .undef, .undef, .undef, .undef, .undef, .undef, .undef, .undef, .undef, .undef, .undef, .undef, .undef, .undef, .undef, .osl 3 0 a.Heard.length 2, .undef, .undef, .int .i64 v6, .ptr 0 0, .undef, .int .i64 a.Now, .undef, .undef, .int .i64 (a.Now + 1), .undef, .undef, .undef, .undef, .undef, .undef, .undef], [some (c6.cs B), some [.int .i64 0, .int .i64 0, .nilsl, .int .i64 0, .int .i64 0], some (a.oc 3), some (rows Heard.cs a.Heard)], 1⟩),
  (4069, ⟨[.ptr 0 0, .undef, .ptr 1 0, .ptr 2 0, .undef, .undef, .undef, .undef, .undef, .undef, .undef, .undef, .undef, .undef, .undef, .undef, .undef, .undef, .undef, .undef, .undef, .undef, .undef, .undef, .undef, .undef, .undef, .undef, .undef, .undef, .undef, .undef, .undef, .undef, .undef, .undef, .undef, .undef, .undef, .undef, .undef, .undef, .undef, .undef, .undef, .undef, .undef, .undef, .undef, .undef, .undef, .undef, .ptr 2 2, .undef, .ptr 0 0, .undef, .undef, .ptr 0 0, .undef, .undef, .undef, .undef, .undef, .osl 4 0 3 1, .undef, .undef, .undef, .undef, .undef, .undef], [some (c5.cs B), some [.int .i64 0, .int .i64 0, .nilsl, .int .i64 0, .int .i64 0], some (a.oc 3), some (rows Heard.cs a.Heard), some (rows IntS.cs [0, a.Now, a.Now + 1])], 1⟩),
  (4071, ⟨[.ptr 0 0, .undef, .ptr 1 0, .ptr 2 0, .undef, .undef, .undef, .undef, .undef, .undef, .undef, .undef, .undef, .undef, .undef, .undef, .undef, .undef, .undef, .undef, .undef, .undef, .undef, .undef, .undef, .undef, .undef, .undef, .undef, .undef, .undef, .undef, .undef, .undef, .undef, .undef, .undef, .undef, .undef, .undef, .undef, .undef, .undef, .undef, .undef, .undef, .undef, .undef, .undef, .undef, .undef, .undef, .undef, .osl 3 0 a.Heard.length 2, .ptr 0 0, .undef, .undef, .ptr 0 0, .undef, .undef, .undef, .undef, .undef, .osl 4 0 3 1, .undef, .undef, .undef, .undef, .undef, .undef], [some (c5.cs B), some [.int .i64 0, .int .i64 0, .nilsl, .int .i64 0, .int .i64 0], some (a.oc 3), some (rows Heard.cs a.Heard), some (rows IntS.cs [0, a.Now, a.Now + 1])], 1⟩),
  (4077, ⟨[.ptr 0 0, .undef, .ptr 1 0, .ptr 2 0, .undef, .undef, .undef, .undef, .undef, .undef, .undef, .undef, .undef, .undef, .undef, .undef, .undef, .undef, .undef, .undef, .undef, .undef, .undef, .undef, .undef, .undef, .undef, .undef, .undef, .undef, .undef, .undef, .undef, .undef, .undef, .undef, .undef, .undef, .undef, .undef, .undef, .undef, .undef, .undef, .undef, .undef, .undef, .undef, .undef, .undef, .undef, .undef, .ptr 2 2, .undef, .ptr 0 0, .osl 4 0 3 1, .undef, .ptr 0 0, .undef, .undef, .undef, .undef, .undef, .osl 5 0 3 1, .undef, .undef, .undef, .undef, .undef, .undef], [some (c5.cs B), some [.int .i64 0, .int .i64 0, .nilsl, .int .i64 0, .int .i64 0], some (a.oc 3), some (rows Heard.cs a.Heard), some (rows IntS.cs [0, 1, 50]), some (rows IntS.cs [0, a.Now, a.Now + 1])], 1⟩),
  (4079, ⟨[.ptr 0 0, .undef, .ptr 1 0, .ptr 2 0, .undef, .undef, .undef, .undef, .undef, .undef, .undef, .undef, .undef, .undef, .undef, .undef, .undef, .undef, .undef, .undef, .undef, .undef, .undef, .undef, .undef, .undef, .undef, .undef, .undef, .undef, .undef, .undef, .undef, .undef, .undef, .undef, .undef, .undef, .undef, .undef, .undef, .undef, .undef, .undef, .undef, .undef, .undef, .undef, .undef, .undef, .undef, .undef, .undef, .osl 3 0 a.Heard.length 2, .ptr 0 0, .osl 4 0 3 1, .undef, .ptr 0 0, .undef, .undef, .undef, .undef, .undef, .osl 5 0 3 1, .undef, .undef, .undef, .undef, .undef, .undef], [some (c5.cs B), some [.int .i64 0, .int .i64 0, .nilsl, .int .i64 0, .int .i64 0], some (a.oc 3), some (rows Heard.cs a.Heard), some (rows IntS.cs [0, 1, 50]), some (rows IntS.cs [0, a.Now, a.Now + 1])], 1⟩),
  (4093, ⟨[.ptr 0 0, .undef, .ptr 1 0, .ptr 2 0, .undef, .undef, .undef, .undef, .undef, .undef, .undef, .undef, .undef, .undef, .undef, .undef, .undef, .undef, .undef, .undef, .undef, .undef, .undef, .undef, .undef, .undef, .undef, .undef, .undef, .undef, .undef, .undef, .undef, .undef, .undef, .undef, .undef, .undef, .undef, .undef, .undef, .undef, .undef, .undef, .undef, .undef, .undef, .undef, .undef, .undef, .undef, .undef, .ptr 2 2, .undef, .undef, .undef, .int .i64 v6, .ptr 0 0, .undef, .undef, .undef, .undef, .undef, .osl 4 0 3 1, .undef, .undef, .undef, .undef, .undef, .undef], [some (c6.cs B), some [.int .i64 0, .int .i64 0, .nilsl, .int .i64 0, .int .i64 0], some (a.oc 3), some (rows Heard.cs a.Heard), some (rows IntS.cs [0, a.Now, a.Now + 1])], 1⟩),
  (4095, ⟨[.ptr 0 0, .undef, .ptr 1 0, .ptr 2 0, .undef, .undef, .undef, .undef, .undef, .undef, .undef, .undef, .undef, .undef, .undef, .undef, .undef, .undef, .undef, .undef, .undef, .undef, .undef, .undef, .undef, .undef, .undef, .undef, .undef, .undef, .undef, .undef, .undef, .undef, .undef, .undef, .undef, .undef, .undef, .undef, .undef, .undef, .undef, .undef, .undef, .undef, .undef, .undef, .undef, .undef, .undef, .undef, .undef, .osl 3 0 a.Heard.length 2, .undef, .undef, .int .i64 v6, .ptr 0 0, .undef, .undef, .undef, .undef, .undef, .osl 4 0 3 1, .undef, .undef, .undef, .undef, .undef, .undef], [some (c6.cs B), some [.int .i64 0, .int .i64 0, .nilsl, .int .i64 0, .int .i64 0], some (a.oc 3), some (rows Heard.cs a.Heard), some (rows IntS.cs [0, a.Now, a.Now + 1])], 1⟩),
  (8189, ⟨[.ptr 0 0, .undef, .ptr 1 0, .ptr 2 0, .undef, .undef, .undef, .undef, .undef, .undef, .undef, .undef, .undef, .undef, .undef, .undef, .undef, .undef, .undef, .undef, .undef, .undef, .undef, .undef, .undef, .undef, .undef, .undef, .undef, .undef, .undef, .undef, .undef, .undef, .undef, .undef, .undef, .undef, .undef, .undef, .undef, .undef, .undef, .undef, .undef, .undef, .undef, .undef, .undef, .undef, .undef, .undef, .ptr 2 2, .undef, .undef, .undef, .int .i64 v6, .undef, .undef, .undef, .undef, .undef, .undef, .undef, .int .i64 v7, .undef, .undef, .undef, .undef, .undef], [some (c7.cs B), some [.int .i64 0, .int .i64 0, .nilsl, .int .i64 0, .int .i64 0], some (a.oc 3), some (rows Heard.cs a.Heard)], 1⟩),
  (8191, ⟨[.ptr 0 0, .undef, .ptr 1 0, .ptr 2 0, .undef, .undef, .undef, .undef, .undef, .undef, .undef, .undef, .undef, .undef, .undef, .undef, .undef, .undef, .undef, .undef, .undef, .undef, .undef, .undef, .undef, .undef, .undef, .undef, .undef, .undef, .undef, .undef, .undef, .undef, .undef, .undef, .undef, .undef, .undef, .undef, .undef, .undef, .undef, .undef, .undef, .undef, .undef, .undef, .undef, .undef, .undef, .undef, .undef, .osl 3 0 a.Heard.length 2, .undef, .undef, .int .i64 v6, .undef, .undef, .undef, .undef, .undef, .undef, .undef, .int .i64 v7, .undef, .undef, .undef, .undef, .undef], [some (c7.cs B), some [.int .i64 0, .int .i64 0, .nilsl, .int .i64 0, .int .i64 0], some (a.oc 3), some (rows Heard.cs a.Heard)], 1⟩),
  (16381, ⟨[.ptr 0 0, .undef, .ptr 1 0, .ptr 2 0, .undef, .undef, .undef, .undef, .undef, .undef, .undef, .undef, .undef, .undef, .undef, .undef, .undef, .undef, .undef, .undef, .undef, .undef, .undef, .undef, .undef, .undef, .undef, .undef, .undef, .undef, .undef, .undef, .undef, .undef, .undef, .undef, .undef, .undef, .undef, .undef, .undef, .undef, .undef, .undef, .undef, .undef, .undef, .undef, .undef, .undef, .undef, .undef, .ptr 2 2, .undef, .undef, .undef, .undef, .undef, .undef, .undef, .undef, .undef, .undef, .undef, .undef, .agg [.int .i64 v6, .int .i64 v7], .undef, .undef, .undef, .undef], [some (c7.cs B), some [.int .i64 0, .int .i64 0, .nilsl, .int .i64 0, .int .i64 0], some (a.oc 3), some (rows Heard.cs a.Heard)], 1⟩),
  (16383, ⟨[.ptr 0 0, .undef, .ptr 1 0, .ptr 2 0, .undef, .undef, .undef, .undef, .undef, .undef, .undef, .undef, .undef, .undef, .undef, .undef, .undef, .undef, .undef, .undef, .undef, .undef, .undef, .undef, .undef, .undef, .undef, .undef, .undef, .undef, .undef, .undef, .undef, .undef, .undef, .undef, .undef, .undef, .undef, .undef, .undef, .undef, .undef, .undef, .undef, .undef, .undef, .undef, .undef, .undef, .undef, .undef, .undef, .osl 3 0 a.Heard.length 2, .undef, .undef, .undef, .undef, .undef, .undef, .undef, .undef, .undef, .undef, .undef, .agg [.int .i64 v6, .int .i64 v7], .undef, .undef, .undef, .undef], [some (c7.cs B), some [.int .i64 0, .int .i64 0, .nilsl, .int .i64 0, .int .i64 0], some (a.oc 3), some (rows Heard.cs a.Heard)], 1⟩),
  (32765, ⟨[.ptr 0 0, .undef, .ptr 1 0, .ptr 2 0, .undef, .undef, .undef, .undef, .undef, .undef, .undef, .undef, .undef, .undef, .undef, .undef, .undef, .undef, .undef, .undef, .undef, .undef, .undef, .undef, .undef, .undef, .undef, .undef, .undef, .undef, .undef, .undef, .undef, .undef, .undef, .undef, .undef, .undef, .undef, .undef, .undef, .undef, .undef, .undef, .undef, .undef, .undef, .undef, .undef, .undef, .undef, .undef, .ptr 2 2, .undef, .undef, .undef, .undef, .undef, .undef, .undef, .undef, .undef, .undef, .undef, .undef, .undef, .osl 4 0 1 2, .undef, .undef, .undef], [some (c7.cs B), some [.int .i64 0, .int .i64 0, .nilsl, .int .i64 0, .int .i64 0], some (a.oc 3), some (rows Heard.cs a.Heard), some [.int .i64 v6, .int .i64 v7]], 1⟩),
  (32767, ⟨[.ptr 0 0, .undef, .ptr 1 0, .ptr 2 0, .undef, .undef, .undef, .undef, .undef, .undef, .undef, .undef, .undef, .undef, .undef, .undef, .undef, .undef, .undef, .undef, .undef, .undef, .undef, .undef, .undef, .undef, .undef, .undef, .undef, .undef, .undef, .undef, .undef, .undef, .undef, .undef, .undef, .undef, .undef, .undef, .undef, .undef, .undef, .undef, .undef, .undef, .undef, .undef, .undef, .undef, .undef, .undef, .undef, .osl 3 0 a.Heard.length 2, .undef, .undef, .undef, .undef, .undef, .undef, .undef, .undef, .undef, .undef, .undef, .undef, .osl 4 0 1 2, .undef, .undef, .undef], [some (c7.cs B), some [.int .i64 0, .int .i64 0, .nilsl, .int .i64 0, .int .i64 0], some (a.oc 3), some (rows Heard.cs a.Heard), some [.int .i64 v6, .int .i64 v7]], 1⟩),
  (65535, ⟨[.ptr 0 0, .undef, .ptr 1 0, .ptr 2 0, .undef, .undef, .undef, .undef, .undef, .undef, .undef, .undef, .undef, .undef, .undef, .undef, .undef, .undef, .undef, .undef, .undef, .undef, .undef, .undef, .undef, .undef, .undef, .undef, .undef, .undef, .undef, .undef, .undef, .undef, .undef, .undef, .undef, .undef, .undef, .undef, .undef, .undef, .undef, .undef, .undef, .undef, .undef, .undef, .undef, .undef, .undef, .undef, .undef, .undef, .undef, .undef, .undef, .undef, .undef, .undef, .undef, .undef, .undef, .undef, .undef, .undef, .undef, .osl 3 0 (a.Heard.length + 1) 2, .undef, .undef], [some (c7.cs B), some [.int .i64 0, .int .i64 0, .nilsl, .int .i64 0, .int .i64 0], some [.int .i64 a.Now, .int .i64 a.State, .undef, .int .i64 a.Given, .int .i64 a.Cancelled], some (rows Heard.cs (a.Heard ++ [⟨v6, v7⟩]))], 1⟩),
  (131071, ⟨[.ptr 0 0, .undef, .ptr 1 0, .ptr 2 0, .undef, .undef, .undef, .undef, .undef, .undef, .undef, .undef, .undef, .undef, .undef, .undef, .undef, .undef, .undef, .undef, .undef, .undef, .undef, .undef, .undef, .undef, .undef, .undef, .undef, .undef, .undef, .undef, .undef, .undef, .undef, .undef, .undef, .undef, .undef, .undef, .undef, .undef, .undef, .undef, .undef, .undef, .undef, .undef, .undef, .undef, .undef, .undef, .undef, .undef, .undef, .undef, .undef, .undef, .undef, .undef, .undef, .undef, .undef, .undef, .undef, .undef, .undef, .osl 3 0 (a.Heard.length + 1) 2, .ptr 2 2, .undef], [some (c7.cs B), some [.int .i64 0, .int .i64 0, .nilsl, .int .i64 0, .int .i64 0], some [.int .i64 a.Now, .int .i64 a.State, .undef, .int .i64 a.Given, .int .i64 a.Cancelled], some (rows Heard.cs (a.Heard ++ [⟨v6, v7⟩]))], 1⟩),
  (262143, ⟨[.ptr 0 0, .undef, .ptr 1 0, .ptr 2 0, .undef, .undef, .undef, .undef, .undef, .undef, .undef, .undef, .undef, .undef, .undef, .undef, .undef, .undef, .undef, .undef, .undef, .undef, .undef, .undef, .undef, .undef, .undef, .undef, .undef, .undef, .undef, .undef, .undef, .undef, .undef, .undef, .undef, .undef, .undef, .undef, .undef, .undef, .undef, .undef, .undef, .undef, .undef, .undef, .undef, .undef, .undef, .undef, .undef, .undef, .undef, .undef, .undef, .undef, .undef, .undef, .undef, .undef, .undef, .undef, .undef, .undef, .undef, .undef, .undef, .undef], [some (c7.cs B), some [.int .i64 0, .int .i64 0, .nilsl, .int .i64 0, .int .i64 0], some [.int .i64 a.Now, .int .i64 a.State, .osl 3 0 (a.Heard.length + 1) 2, .int .i64 a.Given, .int .i64 a.Cancelled], some (rows Heard.cs (a.Heard ++ [⟨v6, v7⟩]))], 1⟩)]
theorem alarm_fin {B : List Int} {k : Int} {h : Hp} {r : V} {c : Cur} (a : Alarm) (h0 : h[0]? = some (some (c.cs B))) (hle : LeV (ren (pickF [0] h true) 3 r) a.v) (ha : a.ok) (hl : a.Heard.length ≤ 100) (hc : c.le k) : RelR 1 r h (alarmP B k) := by
 refine ⟨_, _, ⟨a, c, ha, hl, hc, rfl, rfl⟩, WeakR.pick [0] (by decide) (fun j hj => by cases j <;> simp_all) hle ?_⟩
 simp only [pickH, List.map_cons, List.map_nil, pickB, h0, Cur.ren]
theorem alarm_sn (a : Alarm) (x : Heard) {h : Hp} (h3 : h[3]? = some (some (rows Heard.cs (a.Heard ++ [x])))) : (⟨a.Now, a.State, a.Heard ++ [x], a.Given, a.Cancelled⟩ : Alarm).v = ren (pickF [0] h true) 3 (.agg [.int .i64 a.Now, .int .i64 a.State, .osl 3 0 (a.Heard.length + 1) 2, .int .i64 a.Given, .int .i64 a.Cancelled]) := by
 generalize hW : a.Heard ++ [x] = W at *
 have hl : a.Heard.length + 1 = W.length := by rw [← hW]; simp
 rw [hl]
 simp [ren, pickF, posOf, frzR, h3, map_ren_rows, take_rows, Alarm.v]
theorem l2TickA_ok (n : Int) : Ctr Tryd.prog 136 [.int .i64 n] [] (.bool (inB' n 0 1000000)) [] := by
 refine Ctr.intro Tryd.mixed Tryd.func136 rfl Tryd.okF136 ?_
 simp -implicitDefEqProofs -dsimp only [go_sem, Tryd.ntmps136, Tryd.results136]
 (repeat ((repeat1' (first | simp -implicitDefEqProofs -dsimp only [go_sem] | simp -dsimp (disch := omega) only [wrap_i64])); repeat (with_reducible refine sideA ?_)))
 (first | refine callT.at (l1In_ok n 0 1000000) ⟨(by first | exact leA | exact Alarm.leM (r := a) (i := 3) rfl), (by first | exact leA | exact Alarm.leM (r := a) (i := 3) rfl), (by first | exact leA | exact Alarm.leM (r := a) (i := 3) rfl), trivial⟩ ?_ | refine callS.at (l1In_ok n 0 1000000) ⟨(by first | exact leA | exact Alarm.leM (r := a) (i := 3) rfl), (by first | exact leA | exact Alarm.leM (r := a) (i := 3) rfl), (by first | exact leA | exact Alarm.leM (r := a) (i := 3) rfl), trivial⟩ ?_)
 (repeat ((repeat1' (first | simp -implicitDefEqProofs -dsimp only [go_sem] | simp -dsimp (disch := omega) only [wrap_i64])); repeat (with_reducible refine sideA ?_)))
 exact WeakR.drop' rfl (by rfl)
theorem sNewAlarm_ok (n : Int) (h : inB' n 0 1000000 = true) : Ctr Tryd.prog 203 [.int .i64 n] [] (.tup [.agg [.int .i64 n, .int .i64 0, .osl 0 0 0 2, .int .i64 0, .int .i64 0], .bool true]) [some []] := by
 refine Ctr.intro Tryd.mixed Tryd.func203 rfl Tryd.okF203 ?_
 simp -implicitDefEqProofs -dsimp only [go_sem, Tryd.ntmps203, Tryd.results203]
 (repeat ((repeat1' (first | simp -implicitDefEqProofs -dsimp only [go_sem] | simp -dsimp (disch := omega) only [wrap_i64])); repeat (with_reducible refine sideA ?_)))
 (first | refine callT.at (l2TickA_ok n) ⟨(by first | exact leA | exact Alarm.leM (r := a) (i := 3) rfl), trivial⟩ ?_ | refine callS.at (l2TickA_ok n) ⟨(by first | exact leA | exact Alarm.leM (r := a) (i := 3) rfl), trivial⟩ ?_)
 (repeat ((repeat1' (first | simp -implicitDefEqProofs -dsimp only [go_sem, h] | simp -dsimp (disch := omega) only [wrap_i64])); repeat (with_reducible refine sideA ?_)))
 refine WeakR.pick [1] (by decide) (fun j hj => by omega) (.inl ?_) ?_
 · simp [ren, pickF, posOf]
 · simp [pickH, pickB]
theorem alarm_ok {B : List Int} (hB : CB B) {k : Int} (hk : k ≤ 100000) {c : Cur} (hc : c.le k) : CtrP Tryd.prog 162 [.ptr 0 0] [some (c.cs B)] (alarmP B (k + 2000)) := by
 have hcb : ∀ {c' : Cur} {k' : Int}, c'.le k' → k' ≤ 4000000 → c'.le 4611686018427387903 := fun h h' => ⟨h.1, by have := h.2; omega⟩
 refine CtrP.intro Tryd.mixed Tryd.func162 rfl Tryd.okF162 ?_
 simp -implicitDefEqProofs -dsimp only [go_sem, Tryd.ntmps162, Tryd.results162]
 (repeat ((repeat1' (first | simp -implicitDefEqProofs -dsimp only [go_sem] | simp -dsimp (disch := omega) only [wrap_i64])); repeat (with_reducible refine sideA ?_)))
 have pc1 := among_ok hB (hcb hc (by omega)) [0, 0, 1000, 999000] (by simp) (by simp); have hc1 := pickC_le (B := B) (n := (([0, 0, 1000, 999000] : List Int).length : Int)) hc; have pvc1 := amongV_mem hB (K := [0, 0, 1000, 999000]) (by simp) hc.1; generalize amongV B [0, 0, 1000, 999000] c = vc1 at pc1 pvc1; generalize pickC B (([0, 0, 1000, 999000] : List Int).length : Int) c = c1 at pc1 hc1; (first | refine callS.lend [0, 2] false pc1 (by decide) ⟨leO, leO, trivial⟩ (lendCur2 rfl rfl) (growCur2 B _ _) (.inl rfl) ?_)
 (repeat ((repeat1' (first | simp -implicitDefEqProofs -dsimp only [go_sem, Cur.ren, map_ren_rows] | simp -dsimp (disch := omega) only [wrap_i64])); repeat (with_reducible refine sideA ?_)))
 have hv1 : 0 ≤ vc1 ∧ vc1 ≤ 999000 := by
   simp at pvc1
   rcases pvc1 with rfl | rfl | rfl <;> omega
 have hb0 : alarmB ⟨vc1, 0, [], 0, 0⟩ = true := by
   simp [alarmB, acountB, inB', stateB, listB, freshB]
   omega
 (first | refine callT.at (sNewAlarm_ok vc1 (inB'_iff.2 ⟨by omega, by omega⟩)) ⟨(by first | exact leA | exact Alarm.leM (r := a) (i := 3) rfl), trivial⟩ ?_ | refine callS.at (sNewAlarm_ok vc1 (inB'_iff.2 ⟨by omega, by omega⟩)) ⟨(by first | exact leA | exact Alarm.leM (r := a) (i := 3) rfl), trivial⟩ ?_)
 (repeat ((repeat1' (first | simp -implicitDefEqProofs -dsimp only [go_sem, Cur.ren, map_ren_rows] | simp -dsimp (disch := omega) only [wrap_i64])); repeat (with_reducible refine sideA ?_)))
 have pc2 := pick_ok hB (hcb hc1 (by omega)) 20 (by omega); have hc2 := pickC_le (B := B) (n := 20) hc1; have pvc2 := pickV_bd hB (n := 20) hc1.1; generalize pickV B 20 c1 = vc2 at pc2 pvc2; generalize pickC B 20 c1 = c2 at pc2 hc2; refine callS.lend [0] false pc2 (by decide) ⟨leO, leO, trivial⟩ (lendCur rfl) (growCur B _ _) (.inl rfl) ?_
 (repeat ((repeat1' (first | simp -implicitDefEqProofs -dsimp only [go_sem, Cur.ren, map_ren_rows] | simp -dsimp (disch := omega) only [wrap_i64])); repeat (with_reducible refine sideA ?_)))
 obtain ⟨n0, hn0⟩ : ∃ n : Nat, vc2 = n := ⟨vc2.toNat, by omega⟩
 subst hn0
 refine LoopT.intro (fun x : Nat × Alarm × Cur => x.1 ≤ 20 ∧ alarmB x.2.1 = true ∧ x.2.2.le (k + 100 + 30 * (20 - (x.1 : Int)))) (fun x => ⟨[.ptr 0 0, .undef, .ptr 1 0, .ptr 2 0, .undef, .int .i64 x.1, .undef, .undef, .undef, .undef, .undef, .undef, .undef, .undef, .undef, .undef, .undef, .undef, .undef, .undef, .undef, .undef, .undef, .undef, .undef, .undef, .undef, .undef, .undef, .undef, .undef, .undef, .undef, .undef, .undef, .undef, .undef, .undef, .undef, .undef, .undef, .undef, .undef, .undef, .undef, .undef, .undef, .undef, .undef, .undef, .undef, .undef, .undef, .undef, .undef, .undef, .undef, .undef, .undef, .undef, .undef, .undef, .undef, .undef, .undef, .undef, .undef, .undef, .undef, .undef], [some (x.2.2.cs B), some [.int .i64 0, .int .i64 0, .nilsl, .int .i64 0, .int .i64 0], some (x.2.1.oc 3), some (rows Heard.cs x.2.1.Heard)], 1⟩) (fun x => x.1) (n0, ⟨vc1, 0, [], 0, 0⟩, c2) ⟨by simp only []; omega, hb0, lmonoA hc2 (by simp only [List.length_cons, List.length_nil] at *; omega)⟩ ?_ (fun x hx => ?_)
 · refine Weak.pick [0, 1, 4, 3] (by decide) (fun j hj => by cases j <;> simp_all) ?_ ?_
   · simp [LeG, LeC, LeV, ren, pickF, posOf]
   · simp [pickH, pickB, Cur.ren, ren, pickF, posOf, Alarm.oc, rows_nil]
 obtain ⟨n, a, c3⟩ := x
 obtain ⟨x1, haB, hc3⟩ := hx
 dsimp only at x1 haB hc3
 obtain ⟨ha, hal⟩ := aB_aok haB
 simp -implicitDefEqProofs -dsimp only [go_sem]
 refine condT.split (fun h1 => ?_) (fun h1 => ?_)
 · have hn : 0 < n := by have := of_decide_eq_true h1; omega
   (repeat ((repeat1' (first | simp -implicitDefEqProofs -dsimp only [go_sem, h1, Alarm.oc] | simp -dsimp (disch := omega) only [wrap_i64])); repeat (with_reducible refine sideA ?_)))
   refine clT.tree (fun s2 => (∃ (c4 : Cur), c4.le (k + 100 + 30 * (20 - (n : Int)) + 20) ∧ s2 = ⟨[.ptr 0 0, .undef, .ptr 1 0, .ptr 2 0, .undef, .int .i64 n, .undef, .bool false, .undef, .undef, .undef, .undef, .undef, .undef, .undef, .undef, .undef, .undef, .undef, .undef, .undef, .undef, .undef, .undef, .undef, .undef, .undef, .undef, .undef, .undef, .undef, .undef, .undef, .undef, .undef, .undef, .undef, .undef, .undef, .undef, .undef, .undef, .undef, .undef, .undef, .undef, .undef, .undef, .undef, .undef, .undef, .undef, .undef, .undef, .undef, .undef, .undef, .undef, .undef, .undef, .undef, .undef, .undef, .undef, .undef, .undef, .undef, .undef, .undef, .undef], [some (c4.cs B), some [.int .i64 0, .int .i64 0, .nilsl, .int .i64 0, .int .i64 0], some (a.oc 3), some (rows Heard.cs a.Heard)], 1⟩) ∨ (∃ (a' : Alarm) (c4 : Cur), alarmB a' = true ∧ c4.le (k + 100 + 30 * (20 - (n : Int)) + 20) ∧ s2 = ⟨[.ptr 0 0, .undef, .ptr 1 0, .ptr 2 0, .undef, .int .i64 n, .ptr 4 0, .bool true, .undef, .undef, .undef, .undef, .undef, .undef, .undef, .undef, .undef, .undef, .undef, .undef, .undef, .undef, .undef, .undef, .undef, .undef, .undef, .undef, .undef, .undef, .undef, .undef, .undef, .undef, .undef, .undef, .undef, .undef, .undef, .undef, .undef, .undef, .undef, .undef, .undef, .undef, .undef, .undef, .undef, .undef, .undef, .undef, .undef, .undef, .undef, .undef, .undef, .undef, .undef, .undef, .undef, .undef, .undef, .undef, .undef, .undef, .undef, .undef, .undef, .undef], [some (c4.cs B), some [.int .i64 0, .int .i64 0, .nilsl, .int .i64 0, .int .i64 0], some (a.oc 3), some (rows Heard.cs a.Heard), some (a'.oc 5), some (rows Heard.cs a'.Heard)], 1⟩)) (.take 1 (.alt 0 (.alt 2 (.alt 3 (.alt 4 (.take 5 (.take 6 (.take 7 (.alt 8 (.alt 9 (.alt 10 .done .stop) .stop) .stop)))) (.alt 8 (.alt 4 (.take 5 (.take 6 (.take 7 (.alt 9 (.alt 10 .done .stop) .stop)))) .stop) .stop)) (.alt 8 (.alt 3 (.alt 4 (.take 5 (.take 6 (.take 7 (.alt 9 (.alt 10 .done .stop) .stop)))) .stop) .stop) .stop)) (.alt 8 (.alt 2 (.alt 3 (.alt 4 (.take 5 (.take 6 (.take 7 (.alt 9 (.alt 10 .done .stop) .stop)))) .stop) .stop) .stop) .stop)) (.alt 2 (.alt 0 (.alt 3 (.alt 4 (.take 5 (.take 6 (.take 7 (.alt 8 (.alt 9 (.alt 10 .done .stop) .stop) .stop)))) (.alt 8 (.alt 4 (.take 5 (.take 6 (.take 7 (.alt 9 (.alt 10 .done .stop) .stop)))) .stop) .stop)) (.alt 8 (.alt 3 (.alt 4 (.take 5 (.take 6 (.take 7 (.alt 9 (.alt 10 .done .stop) .stop)))) .stop) .stop) .stop)) (.alt 3 (.alt 0 (.alt 4 (.take 5 (.take 6 (.take 7 (.alt 8 (.alt 9 (.alt 10 .done .stop) .stop) .stop)))) (.alt 8 (.alt 4 (.take 5 (.take 6 (.take 7 (.alt 9 (.alt 10 .done .stop) .stop)))) .stop) .stop)) (.alt 8 (.alt 0 (.alt 4 (.take 5 (.take 6 (.take 7 (.alt 9 (.alt 10 .done .stop) .stop)))) .stop) .stop) .stop)) (.alt 8 (.alt 0 (.alt 3 (.alt 4 (.take 5 (.take 6 (.take 7 (.alt 9 (.alt 10 .done .stop) .stop)))) .stop) .stop) (.alt 3 (.alt 0 (.alt 4 (.take 5 (.take 6 (.take 7 (.alt 9 (.alt 10 .done .stop) .stop)))) .stop) .stop) .stop)) .stop))) (.alt 8 (.alt 0 (.alt 2 (.alt 3 (.alt 4 (.take 5 (.take 6 (.take 7 (.alt 9 (.alt 10 .done .stop) .stop)))) .stop) .stop) .stop) (.alt 2 (.alt 0 (.alt 3 (.alt 4 (.take 5 (.take 6 (.take 7 (.alt 9 (.alt 10 .done .stop) .stop)))) .stop) .stop) (.alt 3 (.alt 0 (.alt 4 (.take 5 (.take 6 (.take 7 (.alt 9 (.alt 10 .done .stop) .stop)))) .stop) .stop) .stop)) .stop)) .stop)))) (by kernel_rfl) (fun s2 hs2 => ?_) ?_
   · have hn1 : ((n - 1 : Nat) : Int) = (n : Int) - 1 := by omega
     rcases hs2 with ⟨c4, hc4, rfl⟩ | ⟨a', c4, haB', hc4, rfl⟩
     · (repeat ((repeat1' (first | simp -implicitDefEqProofs -dsimp only [go_sem, Alarm.oc] | simp -dsimp (disch := omega) only [wrap_i64])); repeat (with_reducible refine sideA ?_)))
       refine ⟨(n - 1, a, c4), ⟨by simp only []; omega, haB, lmonoA hc4 (by simp only []; omega)⟩, ?_, by simp only []; omega⟩
       refine Weak.cut (4) (by simp) (by simp) ?_ ?_
       · simp [LeC, LeV, ren, cutF, hn1]
       · simp [cutH, cutB, cutF, Cur.ren, ren, Alarm.oc, map_ren_rows]
     · (repeat ((repeat1' (first | simp -implicitDefEqProofs -dsimp only [go_sem, Alarm.oc] | simp -dsimp (disch := omega) only [wrap_i64])); repeat (with_reducible refine sideA ?_)))
       refine ⟨(n - 1, a', c4), ⟨by simp only []; omega, haB', lmonoA hc4 (by simp only []; omega)⟩, ?_, by simp only []; omega⟩
       refine Weak.pick [0, 1, 2, 5] (by decide) (fun j hj => by cases j <;> simp_all) ?_ ?_
       · simp [LeG, LeC, LeV, ren, pickF, posOf, hn1]
       · simp [pickH, pickB, pickF, posOf, Cur.ren, ren, Alarm.oc, map_ren_rows]
   · (repeat ((repeat1' (first | simp -implicitDefEqProofs -dsimp only [go_sem] | simp -dsimp (disch := omega) only [wrap_i64])); repeat (with_reducible refine sideA ?_)))
     repeat' (first | (refine callS.rel [0, 3] (alarmStepM_ok hB (by omega) hc3 a) (by decide) ⟨leO, leO, trivial⟩ (lendCur2 rfl rfl) rfl (fun r hout hΦ => ?_); obtain ⟨s, c4, hs, hc4, rfl, rfl⟩ := hΦ; refine ⟨growCur2 B _ _, ?_⟩; have cs := sStepAlarm_ok a s.Kind s.Value (by omega); rcases hst : stepO a s.Kind s.Value with _ | a' <;> rw [hst] at cs <;> simp only [stR, stRh] at cs <;> (repeat ((repeat1' (first | simp -implicitDefEqProofs -dsimp only [go_sem, Cur.ren, AlarmStep.v, map_ren_rows] | simp -dsimp (disch := omega) only [wrap_i64])); repeat (with_reducible refine sideA ?_)))) | ((first | refine callT.at (cs) ⟨(by first | exact leA | exact Alarm.leM (r := a) (i := 3) rfl), (by first | exact leA | exact Alarm.leM (r := a) (i := 3) rfl), trivial⟩ ?_ | refine callS.at (cs) ⟨(by first | exact leA | exact Alarm.leM (r := a) (i := 3) rfl), (by first | exact leA | exact Alarm.leM (r := a) (i := 3) rfl), trivial⟩ ?_); (repeat ((repeat1' (first | simp -implicitDefEqProofs -dsimp only [go_sem, Cur.ren, zeroA, Alarm.o, map_ren_rows] | simp -dsimp (disch := omega) only [wrap_i64])); repeat (with_reducible refine sideA ?_)))) | (refine And.intro ?_ ?_) | exact trivial)
     all_goals first
       | (refine ⟨_, .inl ⟨c4, lmonoA hc4 (by omega), rfl⟩, ?_⟩
          refine Weak.cut 4 (by simp) (by simp) ?_ ?_
          · (simp [LeC, LeV, ren, cutF]; done)
          · (simp [cutH, cutB, cutF, Cur.ren, ren, Alarm.oc, map_ren_rows]; done))
       | (refine ⟨_, .inr ⟨a', c4, (stepO_ok hst).1, lmonoA hc4 (by omega), rfl⟩, ?_⟩
          refine Weak.pick [0, 1, 2, 3, 5, 4] (by decide) (fun j hj => by cases j <;> simp_all) ?_ ?_
          · (simp [LeG, LeC, LeV, ren, pickF, posOf]; done)
          · (simp [pickH, pickB, pickF, posOf, frzR, Cur.ren, ren, Alarm.oc, map_ren_rows, take_rows]; done))
       | (refine ⟨_, .inr ⟨a', c4, (stepO_ok hst).1, lmonoA hc4 (by omega), rfl⟩, ?_⟩
          refine Weak.pick [0, 1, 2, 3, 4, 5] (by decide) (fun j hj => by cases j <;> simp_all) ?_ ?_
          · (simp [LeG, LeC, LeV, ren, pickF, posOf]; done)
          · (simp [pickH, pickB, pickF, posOf, frzR, Cur.ren, ren, Alarm.oc, map_ren_rows, take_rows]; done))
       | skip
 · have A := alarmB_ok haB
   have e1 := A.now
   have e2 := A.given
   have e3 := A.canc
   obtain ⟨wk1, wk2, wk3, wk4, wk5⟩ := ha
   (repeat ((repeat1' (first | simp -implicitDefEqProofs -dsimp only [go_sem, h1, Alarm.oc] | simp -dsimp (disch := omega) only [wrap_i64])); repeat (with_reducible refine sideA ?_)))
   have pc5 := pick_ok hB (hcb hc3 (by omega)) 32 (by omega); have hc5 := pickC_le (B := B) (n := 32) hc3; have pvc5 := pickV_bd hB (n := 32) hc3.1; generalize pickV B 32 c3 = vc5 at pc5 pvc5; generalize pickC B 32 c3 = c5 at pc5 hc5; refine callS.lend [0] false pc5 (by decide) ⟨leO, leO, trivial⟩ (lendCur rfl) (growCur B _ _) (.inl rfl) ?_
   (repeat ((repeat1' (first | simp -implicitDefEqProofs -dsimp only [go_sem, Cur.ren, map_ren_rows] | simp -dsimp (disch := omega) only [wrap_i64])); repeat (with_reducible refine sideA ?_)))
   refine condT.split (fun h3 => ?_) (fun h3 => ?_)
   · (repeat ((repeat1' (first | simp -implicitDefEqProofs -dsimp only [go_sem, h3] | simp -dsimp (disch := omega) only [wrap_i64])); repeat (with_reducible refine sideA ?_)))
     have pc6 := among_ok hB (hcb hc5 (by omega)) [-1, 0, 1000001] (by simp) (by simp); have hc6 := pickC_le (B := B) (n := (([-1, 0, 1000001] : List Int).length : Int)) hc5; have pvc6 := amongV_mem hB (K := [-1, 0, 1000001]) (by simp) hc5.1; generalize amongV B [-1, 0, 1000001] c5 = vc6 at pc6 pvc6; generalize pickC B (([-1, 0, 1000001] : List Int).length : Int) c5 = c6 at pc6 hc6; (first | refine callS.lend [0, 3] false pc6 (by decide) ⟨leO, leO, trivial⟩ (lendCur2 rfl rfl) (growCur2 B _ _) (.inl rfl) ?_ | refine callS.lend [0, 4] false pc6 (by decide) ⟨leO, leO, trivial⟩ (lendCur2 rfl rfl) (growCur2 B _ _) (.inl rfl) ?_ | refine callS.lend [0, 5] false pc6 (by decide) ⟨leO, leO, trivial⟩ (lendCur2 rfl rfl) (growCur2 B _ _) (.inl rfl) ?_ | refine callS.lend [0, 6] false pc6 (by decide) ⟨leO, leO, trivial⟩ (lendCur2 rfl rfl) (growCur2 B _ _) (.inl rfl) ?_ | refine callS.lend [0, 7] false pc6 (by decide) ⟨leO, leO, trivial⟩ (lendCur2 rfl rfl) (growCur2 B _ _) (.inl rfl) ?_ | refine callS.lend [0, 8] false pc6 (by decide) ⟨leO, leO, trivial⟩ (lendCur2 rfl rfl) (growCur2 B _ _) (.inl rfl) ?_)
     (repeat ((repeat1' (first | simp -implicitDefEqProofs -dsimp only [go_sem, Cur.ren, map_ren_rows] | simp -dsimp (disch := omega) only [wrap_i64])); repeat (with_reducible refine sideA ?_)))
     have hv6 : i64R vc6 := i64mem pvc6 (by simp [i64R])
     refine alarm_fin ⟨vc6, a.State, a.Heard, a.Given, a.Cancelled⟩ rfl (.inl ?_) ⟨hv6, wk2, wk3, wk4, wk5⟩ (by simp only []; omega) (lmonoA hc6 (by simp only [List.length_cons, List.length_nil] at *; omega))
     simp [ren, pickF, posOf, frzR, map_ren_rows, take_rows, Alarm.v]
   · (repeat ((repeat1' (first | simp -implicitDefEqProofs -dsimp only [go_sem, h3] | simp -dsimp (disch := omega) only [wrap_i64])); repeat (with_reducible refine sideA ?_)))
     refine condT.split (fun h4 => ?_) (fun h4 => ?_)
     · (repeat ((repeat1' (first | simp -implicitDefEqProofs -dsimp only [go_sem, h4] | simp -dsimp (disch := omega) only [wrap_i64])); repeat (with_reducible refine sideA ?_)))
       have pc6 := pick_ok hB (hcb hc5 (by omega)) 5 (by omega); have hc6 := pickC_le (B := B) (n := 5) hc5; have pvc6 := pickV_bd hB (n := 5) hc5.1; generalize pickV B 5 c5 = vc6 at pc6 pvc6; generalize pickC B 5 c5 = c6 at pc6 hc6; refine callS.lend [0] false pc6 (by decide) ⟨leO, leO, trivial⟩ (lendCur rfl) (growCur B _ _) (.inl rfl) ?_
       (repeat ((repeat1' (first | simp -implicitDefEqProofs -dsimp only [go_sem, Cur.ren, map_ren_rows] | simp -dsimp (disch := omega) only [wrap_i64])); repeat (with_reducible refine sideA ?_)))
       refine alarm_fin ⟨a.Now, vc6, a.Heard, a.Given, a.Cancelled⟩ rfl (.inl ?_) ⟨wk1, ⟨by simp only []; omega, by simp only []; omega⟩, wk3, wk4, wk5⟩ (by simp only []; omega) (lmonoA hc6 (by omega))
       simp [ren, pickF, posOf, frzR, map_ren_rows, take_rows, Alarm.v]
     · (repeat ((repeat1' (first | simp -implicitDefEqProofs -dsimp only [go_sem, h4] | simp -dsimp (disch := omega) only [wrap_i64])); repeat (with_reducible refine sideA ?_)))
       refine condT.split (fun h5 => ?_) (fun h5 => ?_)
       · have hw : IntKind.i64.wrap (a.Given + 1) = a.Given + 1 := wrap_i64 (by omega) (by omega)
         (repeat ((repeat1' (first | simp -implicitDefEqProofs -dsimp only [go_sem, h5, hw] | simp -dsimp (disch := omega) only [wrap_i64])); repeat (with_reducible refine sideA ?_)))
         refine alarm_fin ⟨a.Now, a.State, a.Heard, a.Given, a.Given + 1⟩ rfl (.inl ?_) ⟨wk1, wk2, wk3, wk4, ⟨by simp only []; omega, by simp only []; omega⟩⟩ (by simp only []; omega) (lmonoA hc5 (by omega))
         simp [ren, pickF, posOf, frzR, map_ren_rows, take_rows, Alarm.v]
       · (repeat ((repeat1' (first | simp -implicitDefEqProofs -dsimp only [go_sem, h5] | simp -dsimp (disch := omega) only [wrap_i64])); repeat (with_reducible refine sideA ?_)))
         refine condT.split (fun h6 => ?_) (fun h6 => ?_)
         · (repeat ((repeat1' (first | simp -implicitDefEqProofs -dsimp only [go_sem, h6] | simp -dsimp (disch := omega) only [wrap_i64])); repeat (with_reducible refine sideA ?_)))
           have p6 := among_ok hB (hcb hc5 (by omega)) [0, 1, 50] (by simp) (by simp)
           have hc6 := pickC_le (B := B) (n := (([0, 1, 50] : List Int).length : Int)) hc5
           have m6 := amongV_mem hB (K := [0, 1, 50]) (by simp) hc5.1
           generalize amongV B [0, 1, 50] c5 = v6 at p6 m6
           generalize pickC B (([0, 1, 50] : List Int).length : Int) c5 = c6 at p6 hc6
           have p7 := among_ok hB (hcb hc6 (by omega)) [0, a.Now, a.Now + 1] (by simp) (by simp)
           have hc7 := pickC_le (B := B) (n := (([0, a.Now, a.Now + 1] : List Int).length : Int)) hc6
           have m7 := amongV_mem hB (K := [0, a.Now, a.Now + 1]) (by simp) hc6.1
           generalize amongV B [0, a.Now, a.Now + 1] c6 = v7 at p7 m7
           generalize pickC B (([0, a.Now, a.Now + 1] : List Int).length : Int) c6 = c7 at p7 hc7
           have hv7 : i64R v7 := by
             simp at m7
             rcases m7 with rfl | rfl | rfl <;> exact ⟨by omega, by omega⟩
           have hx : Heard.ok ⟨v6, v7⟩ := ⟨i64mem m6 (by simp [i64R]), hv7⟩
           have hsn : rows Heard.cs a.Heard ++ [.int .i64 v6, .int .i64 v7] = rows Heard.cs (a.Heard ++ [⟨v6, v7⟩]) := rows_snoc (cs := Heard.cs) a.Heard ⟨v6, v7⟩
           refine clT.graph [(262143, []), (131071, [17]), (65535, [16]), (32767, [15]), (32765, [1]), (16383, [14]), (16381, [1, 14]), (8191, [13]), (8189, [1, 13]), (4095, [12]), (4093, [1, 12]), (4079, [4]), (4077, [1, 4]), (4071, [3]), (4069, [1, 3]), (2047, [11]), (2045, [1, 11]), (2031, [4, 11]), (2029, [1, 4, 11]), (2023, [3, 11]), (2021, [1, 3, 11]), (1919, [7]), (1917, [1, 7]), (1903, [4, 7]), (1901, [1, 4, 7]), (1895, [3, 7]), (1893, [1, 3, 7]), (1023, [10]), (1021, [10]), (1007, [10]), (1005, [10]), (999, [10]), (997, [10]), (895, [10]), (893, [10]), (879, [10]), (877, [10]), (871, [10]), (869, [10]), (511, [9]), (509, [1, 9]), (495, [4, 9]), (493, [1, 4, 9]), (487, [3, 9]), (485, [1, 3, 9]), (383, [7, 9]), (381, [1, 7, 9]), (367, [4, 7, 9]), (365, [1, 4, 7, 9]), (359, [3, 7, 9]), (357, [1, 3, 7, 9]), (101, [8]), (37, [6]), (5, [5]), (1, [2]), (0, [0])] (gA _ (tabA B a c5 c6 c7 v6 v7)) (by kernel_rfl) rfl ?_
           refine ⟨fun s hs => ?_, fun s hs => ?_, fun s hs => ?_, fun s hs => ?_, fun s hs => ?_, fun s hs => ?_, fun s hs => ?_, fun s hs => ?_, fun s hs => ?_, fun s hs => ?_, fun s hs => ?_, fun s hs => ?_, fun s hs => ?_, fun s hs => ?_, fun s hs => ?_, fun s hs => ?_, fun s hs => ?_, fun s hs => ?_, fun s hs => ?_, fun s hs => ?_, fun s hs => ?_, fun s hs => ?_, fun s hs => ?_, fun s hs => ?_, fun s hs => ?_, fun s hs => ?_, fun s hs => ?_, fun s hs => ?_, fun s hs => ?_, fun s hs => ?_, fun s hs => ?_, fun s hs => ?_, fun s hs => ?_, fun s hs => ?_, fun s hs => ?_, fun s hs => ?_, fun s hs => ?_, fun s hs => ?_, fun s hs => ?_, fun s hs => ?_, fun s hs => ?_, fun s hs => ?_, fun s hs => ?_, fun s hs => ?_, fun s hs => ?_, fun s hs => ?_, fun s hs => ?_, fun s hs => ?_, fun s hs => ?_, fun s hs => ?_, fun s hs => ?_, fun s hs => ?_, fun s hs => ?_, fun s hs => ?_, fun s hs => ?_, fun s hs => ?_, trivial⟩
           · obtain rfl := Option.some.inj (show some _ = some s from hs)
             (repeat ((repeat1' (first | simp -implicitDefEqProofs -dsimp only [go_sem, take_rows] | simp -dsimp (disch := omega) only [wrap_i64])); repeat (with_reducible refine sideA ?_)))
             refine alarm_fin ⟨a.Now, a.State, a.Heard ++ [⟨v6, v7⟩], a.Given, a.Cancelled⟩ rfl (.inl ?_) ⟨wk1, wk2, ⟨by simp only [List.length_append, List.length_cons, List.length_nil]; omega, fun y hy => ?_⟩, wk4, wk5⟩ (by simp only [List.length_append, List.length_cons, List.length_nil]; omega) (lmonoA hc7 (by simp only [List.length_cons, List.length_nil] at *; omega))
             · exact alarm_sn a ⟨v6, v7⟩ rfl
             · rcases List.mem_append.1 hy with h | h
               · exact wk3.2 y h
               · rw [List.mem_singleton.1 h]; exact hx
           all_goals (obtain rfl := Option.some.inj (show some _ = some s from hs))
           all_goals (repeat' (first | exact trivial | refine nextA_cons rfl ?_ ?_))
           all_goals (repeat ((repeat1' (first | simp -implicitDefEqProofs -dsimp only [go_sem, Alarm.oc, hsn, take_rows] | simp -dsimp (disch := omega) only [wrap_i64])); repeat (with_reducible refine sideA ?_)))
           all_goals (try ((first | refine callS.lend [0, 4] false p7 (by decide) ⟨leO, leO, trivial⟩ (lendCur2 rfl rfl) (growCur2 B _ _) (.inl rfl) ?_ | refine callS.lend [0, 4] false p6 (by decide) ⟨leO, leO, trivial⟩ (lendCur2 rfl rfl) (growCur2 B _ _) (.inl rfl) ?_); (repeat ((repeat1' (first | simp -implicitDefEqProofs -dsimp only [go_sem, Cur.ren, map_ren_rows, Alarm.oc, hsn, take_rows] | simp -dsimp (disch := omega) only [wrap_i64])); repeat (with_reducible refine sideA ?_)))))
           refine ⟨_, rfl, Weak.pk [0, 1, 2, 3] ?_ ?_⟩
           rotate_left 2
           refine ⟨_, rfl, Weak.pk [0, 1, 2, 3] ?_ ?_⟩
           rotate_left 2
           refine ⟨_, rfl, Weak.pk [0, 1, 2, 3] ?_ ?_⟩
           rotate_left 2
           refine ⟨_, rfl, Weak.pk [0, 1, 2, 3, 4] ?_ ?_⟩
           rotate_left 2
           refine ⟨_, rfl, Weak.pk [0, 1, 2, 3, 4] ?_ ?_⟩
           rotate_left 2
           refine ⟨_, rfl, Weak.pk [0, 1, 2, 3] ?_ ?_⟩
           rotate_left 2
           refine ⟨_, rfl, Weak.pk [0, 1, 2, 3, 4] ?_ ?_⟩
           rotate_left 2
           refine ⟨_, rfl, Weak.pk [0, 1, 2, 3] ?_ ?_⟩
           rotate_left 2
           refine ⟨_, rfl, Weak.pk [0, 1, 2, 3] ?_ ?_⟩
           rotate_left 2
           refine ⟨_, rfl, Weak.pk [0, 1, 2, 3] ?_ ?_⟩
           rotate_left 2
           refine ⟨_, rfl, Weak.pk [0, 1, 2, 3] ?_ ?_⟩
           rotate_left 2
           refine ⟨_, rfl, Weak.pk [0, 1, 2, 3, 4] ?_ ?_⟩
           rotate_left 2
           refine ⟨_, rfl, Weak.pk [0, 1, 2, 3] ?_ ?_⟩
           rotate_left 2
           refine ⟨_, rfl, Weak.pk [0, 1, 2, 3, 5] ?_ ?_⟩
           rotate_left 2
           refine ⟨_, rfl, Weak.pk [0, 1, 2, 3, 4, 5] ?_ ?_⟩
           rotate_left 2
           refine ⟨_, rfl, Weak.pk [0, 1, 2, 3, 5] ?_ ?_⟩
           rotate_left 2
           refine ⟨_, rfl, Weak.pk [0, 1, 2, 3, 5, 4] ?_ ?_⟩
           rotate_left 2
           refine ⟨_, rfl, Weak.pk [0, 1, 2, 3, 4] ?_ ?_⟩
           rotate_left 2
           refine ⟨_, rfl, Weak.pk [0, 1, 2, 3, 5, 4] ?_ ?_⟩
           rotate_left 2
           refine ⟨_, rfl, Weak.pk [0, 1, 2, 3, 4] ?_ ?_⟩
           rotate_left 2
           refine ⟨_, rfl, Weak.pk [0, 1, 2, 3] ?_ ?_⟩
           rotate_left 2
           refine ⟨_, rfl, Weak.pk [0, 1, 2, 3, 4] ?_ ?_⟩
           rotate_left 2
           refine ⟨_, rfl, Weak.pk [0, 1, 2, 3] ?_ ?_⟩
           rotate_left 2
           refine ⟨_, rfl, Weak.pk [0, 1, 2, 3, 4, 5] ?_ ?_⟩
           rotate_left 2
           refine ⟨_, rfl, Weak.pk [0, 1, 2, 3, 4] ?_ ?_⟩
           rotate_left 2
           refine ⟨_, rfl, Weak.pk [0, 1, 2, 3] ?_ ?_⟩
           rotate_left 2
           refine ⟨_, rfl, Weak.pk [0, 1, 2, 3, 4, 5] ?_ ?_⟩
           rotate_left 2
           refine ⟨_, rfl, Weak.pk [0, 1, 2, 3, 4] ?_ ?_⟩
           rotate_left 2
           refine ⟨_, rfl, Weak.pk [0, 1, 2, 3, 4] ?_ ?_⟩
           rotate_left 2
           refine ⟨_, rfl, Weak.pk [0, 1, 2, 3] ?_ ?_⟩
           rotate_left 2
           refine ⟨_, rfl, Weak.pk [0, 1, 2, 3, 4] ?_ ?_⟩
           rotate_left 2
           refine ⟨_, rfl, Weak.pk [0, 1, 2, 3, 4] ?_ ?_⟩
           rotate_left 2
           refine ⟨_, rfl, Weak.pk [0, 1, 2, 3] ?_ ?_⟩
           rotate_left 2
           refine ⟨_, rfl, Weak.pk [0, 1, 2, 3] ?_ ?_⟩
           rotate_left 2
           refine ⟨_, rfl, Weak.pk [0, 1, 2, 3] ?_ ?_⟩
           rotate_left 2
           refine ⟨_, rfl, Weak.pk [0, 1, 2, 3] ?_ ?_⟩
           rotate_left 2
           refine ⟨_, rfl, Weak.pk [0, 1, 2, 3, 4] ?_ ?_⟩
           rotate_left 2
           refine ⟨_, rfl, Weak.pk [0, 1, 2, 3, 4] ?_ ?_⟩
           rotate_left 2
           refine ⟨_, rfl, Weak.pk [0, 1, 2, 3] ?_ ?_⟩
           rotate_left 2
           refine ⟨_, rfl, Weak.pk [0, 1, 2, 3, 4] ?_ ?_⟩
           rotate_left 2
           refine ⟨_, rfl, Weak.pk [0, 1, 2, 3, 4] ?_ ?_⟩
           rotate_left 2
           refine ⟨_, rfl, Weak.pk [0, 1, 2, 3] ?_ ?_⟩
           rotate_left 2
           refine ⟨_, rfl, Weak.pk [0, 1, 2, 3] ?_ ?_⟩
           rotate_left 2
           refine ⟨_, rfl, Weak.pk [0, 1, 2, 3, 4] ?_ ?_⟩
           rotate_left 2
           refine ⟨_, rfl, Weak.pk [0, 1, 2, 3] ?_ ?_⟩
           rotate_left 2
           refine ⟨_, rfl, Weak.pk [0, 1, 2, 3] ?_ ?_⟩
           rotate_left 2
           refine ⟨_, rfl, Weak.pk [0, 1, 2, 3] ?_ ?_⟩
           rotate_left 2
           refine ⟨_, rfl, Weak.pk [0, 1, 2, 3, 4] ?_ ?_⟩
           rotate_left 2
           refine ⟨_, rfl, Weak.pk [0, 1, 2, 3, 4] ?_ ?_⟩
           rotate_left 2
           refine ⟨_, rfl, Weak.pk [0, 1, 2, 3] ?_ ?_⟩
           rotate_left 2
           refine ⟨_, rfl, Weak.pk [0, 1, 2, 3] ?_ ?_⟩
           rotate_left 2
           refine ⟨_, rfl, Weak.pk [0, 1, 2, 3] ?_ ?_⟩
           rotate_left 2
           refine ⟨_, rfl, Weak.pk [0, 1, 2, 3] ?_ ?_⟩
           rotate_left 2
           refine ⟨_, rfl, Weak.pk [0, 1, 2, 3, 4] ?_ ?_⟩
           rotate_left 2
           refine ⟨_, rfl, Weak.pk [0, 1, 2, 3, 4] ?_ ?_⟩
           rotate_left 2
           refine ⟨_, rfl, Weak.pk [0, 1, 2, 3] ?_ ?_⟩
           rotate_left 2
           refine ⟨_, rfl, Weak.pk [0, 1, 2, 3] ?_ ?_⟩
           rotate_left 2
           refine ⟨_, rfl, Weak.pk [0, 1, 2, 3] ?_ ?_⟩
           rotate_left 2
           refine ⟨_, rfl, Weak.pk [0, 1, 2, 3] ?_ ?_⟩
           rotate_left 2
           refine ⟨_, rfl, Weak.pk [0, 1, 2, 3] ?_ ?_⟩
           rotate_left 2
           refine ⟨_, rfl, Weak.pk [0, 1, 2, 3] ?_ ?_⟩
           rotate_left 2
           refine ⟨_, rfl, Weak.pk [0, 1, 2, 3, 4] ?_ ?_⟩
           rotate_left 2
           refine ⟨_, rfl, Weak.pk [0, 1, 2, 3, 4] ?_ ?_⟩
           rotate_left 2
           refine ⟨_, rfl, Weak.pk [0, 1, 2, 3] ?_ ?_⟩
           rotate_left 2
           refine ⟨_, rfl, Weak.pk [0, 1, 2, 3, 4] ?_ ?_⟩
           rotate_left 2
           refine ⟨_, rfl, Weak.pk [0, 1, 2, 3, 4] ?_ ?_⟩
           rotate_left 2
           refine ⟨_, rfl, Weak.pk [0, 1, 2, 3] ?_ ?_⟩
           rotate_left 2
           refine ⟨_, rfl, Weak.pk [0, 1, 2, 3] ?_ ?_⟩
           rotate_left 2
           refine ⟨_, rfl, Weak.pk [0, 1, 2, 3, 4] ?_ ?_⟩
           rotate_left 2
           refine ⟨_, rfl, Weak.pk [0, 1, 2, 3] ?_ ?_⟩
           rotate_left 2
           refine ⟨_, rfl, Weak.pk [0, 1, 2, 3] ?_ ?_⟩
           rotate_left 2
           refine ⟨_, rfl, Weak.pk [0, 1, 2, 3] ?_ ?_⟩
           rotate_left 2
           refine ⟨_, rfl, Weak.pk [0, 1, 2, 3] ?_ ?_⟩
           rotate_left 2
           refine ⟨_, rfl, Weak.pk [0, 1, 2, 3] ?_ ?_⟩
           rotate_left 2
           refine ⟨_, rfl, Weak.pk [0, 1, 2, 3] ?_ ?_⟩
           rotate_left 2
           refine ⟨_, rfl, Weak.pk [0, 1, 2, 3] ?_ ?_⟩
           rotate_left 2
           refine ⟨_, rfl, Weak.pk [0, 1, 2, 3, 4] ?_ ?_⟩
           rotate_left 2
           refine ⟨_, rfl, Weak.pk [0, 1, 2, 3, 4] ?_ ?_⟩
           rotate_left 2
           refine ⟨_, rfl, Weak.pk [0, 1, 2, 3, 4] ?_ ?_⟩
           rotate_left 2
           refine ⟨_, rfl, Weak.pk [0, 1, 2, 3] ?_ ?_⟩
           rotate_left 2
           refine ⟨_, rfl, Weak.pk [0, 1, 2, 3, 4] ?_ ?_⟩
           rotate_left 2
           refine ⟨_, rfl, Weak.pk [0, 1, 2, 3, 4] ?_ ?_⟩
           rotate_left 2
           refine ⟨_, rfl, Weak.pk [0, 1, 2, 3, 4] ?_ ?_⟩
           rotate_left 2
           refine ⟨_, rfl, Weak.pk [0, 1, 2, 3] ?_ ?_⟩
           rotate_left 2
           refine ⟨_, rfl, Weak.pk [0, 1, 2, 3] ?_ ?_⟩
           rotate_left 2
           refine ⟨_, rfl, Weak.pk [0, 1, 2, 3] ?_ ?_⟩
           rotate_left 2
           refine ⟨_, rfl, Weak.pk [0, 1, 2, 3, 4] ?_ ?_⟩
           rotate_left 2
           refine ⟨_, rfl, Weak.pk [0, 1, 2, 3] ?_ ?_⟩
           rotate_left 2
           refine ⟨_, rfl, Weak.pk [0, 1, 2, 3] ?_ ?_⟩
           rotate_left 2
           refine ⟨_, rfl, Weak.pk [0, 1, 2, 3] ?_ ?_⟩
           rotate_left 2
           refine ⟨_, rfl, Weak.pk [0, 1, 2, 3] ?_ ?_⟩
           rotate_left 2
           refine ⟨_, rfl, Weak.pk [0, 1, 2, 3] ?_ ?_⟩
           rotate_left 2
           refine ⟨_, rfl, Weak.pk [0, 1, 2, 3] ?_ ?_⟩
           rotate_left 2
           refine ⟨_, rfl, Weak.pk [0, 1, 2, 3] ?_ ?_⟩
           rotate_left 2
           all_goals (first | rfl | (simp [LeG, LeC, LeV, ren, pickF, posOf, Alarm.oc, hsn, take_rows]; done) | (simp [pickH, pickB, pickF, posOf, Cur.ren, ren, map_ren_rows, rows, IntS.cs, Alarm.oc, hsn, take_rows]; done) | (simp [pickH, pickB, pickF, posOf, Cur.ren, ren, map_ren_rows, Alarm.oc, hsn, take_rows]; done) | (simp [pickH, pickB, pickF, posOf, Cur.ren, ren, map_ren_rows, Alarm.oc, hsn, take_rows] <;> rfl))
         · (repeat ((repeat1' (first | simp -implicitDefEqProofs -dsimp only [go_sem, h6] | simp -dsimp (disch := omega) only [wrap_i64])); repeat (with_reducible refine sideA ?_)))
           refine alarm_fin a rfl (.inl ?_) ⟨wk1, wk2, wk3, wk4, wk5⟩ (by omega) (lmonoA hc5 (by omega))
           simp [ren, pickF, posOf, frzR, map_ren_rows, take_rows, Alarm.v]
end Go.Proofs
end
section
set_option maxRecDepth 100000
set_option maxHeartbeats 2000000
namespace Go.Proofs
open Go.Lv
def dIsAP (r : V) (hout : Hp) : Prop := ∃ a : Alarm, a.ok ∧ a.Heard.length ≤ 100 ∧ r = a.v ∧ hout = []
theorem drawIsAlarm_ok {B : List Int} (hB : CB B) : CtrP Tryd.prog 108 [ByteS.sl B] [] dIsAP := by
 have hcb : ∀ {c' : Cur} {k' : Int}, c'.le k' → k' ≤ 4000000 → c'.le 4611686018427387903 := fun h h' => ⟨h.1, by have := h.2; omega⟩
 obtain ⟨c, hcd⟩ : ∃ c : Cur, c = ⟨0, 0⟩ := ⟨_, rfl⟩
 have hc : c.le 0 := by rw [hcd]; exact curq_le (by omega)
 have hcc : c.cs B = [ByteS.sl B, .int .i64 0, .int .u64 0] := by rw [hcd]; rfl
 refine CtrP.intro Tryd.mixed Tryd.func108 rfl Tryd.okF108 ?_
 simp -implicitDefEqProofs -dsimp only [go_sem, Tryd.ntmps108, Tryd.results108]
 (repeat ((repeat1' (first | simp -implicitDefEqProofs -dsimp only [go_sem, ByteS.sl] | simp -dsimp (disch := omega) only [wrap_i64])); repeat (with_reducible refine sideA ?_)))
 rw [← ByteS.sl, ← hcc]
 refine callS.rel [1] (alarm_ok hB (by omega) hc) (by decide) ⟨leO, trivial⟩ (lendCur rfl) rfl (fun r hout hΦ => ?_)
 obtain ⟨a, c1, ha, hl, hc1, rfl, rfl⟩ := hΦ
 refine ⟨⟨⟨rfl, rfl⟩, trivial⟩, ?_⟩
 (repeat ((repeat1' (first | simp -implicitDefEqProofs -dsimp only [go_sem, Cur.ren, map_ren_rows, Alarm.v] | simp -dsimp (disch := omega) only [wrap_i64])); repeat (with_reducible refine sideA ?_)))
 exact ⟨_, _, ⟨a, ha, hl, rfl, rfl⟩, WeakR.drop' rfl (by simp [noOwn, rows_noOwn, Alarm.v])⟩
theorem drawTicksToForget_ok {B : List Int} (hB : CB B) : CtrP Tryd.prog 44 [ByteS.sl B] [] dIsAP := by
 refine CtrP.intro Tryd.mixed Tryd.func44 rfl Tryd.okF44 ?_
 simp -implicitDefEqProofs -dsimp only [go_sem, Tryd.ntmps44, Tryd.results44]
 (repeat ((repeat1' (first | simp -implicitDefEqProofs -dsimp only [go_sem] | simp -dsimp (disch := omega) only [wrap_i64])); repeat (with_reducible refine sideA ?_)))
 refine callS.rel [] (drawIsAlarm_ok hB) (by decide) ⟨leO, trivial⟩ rfl rfl (fun r hout hΦ => ?_)
 obtain ⟨a, ha, hl, rfl, rfl⟩ := hΦ
 refine ⟨trivial, ?_⟩
 (repeat ((repeat1' (first | simp -implicitDefEqProofs -dsimp only [go_sem, Alarm.v] | simp -dsimp (disch := omega) only [wrap_i64])); repeat (with_reducible refine sideA ?_)))
 exact ⟨_, _, ⟨a, ha, hl, rfl, rfl⟩, WeakR.drop' rfl (by simp [noOwn, rows_noOwn, Alarm.v])⟩
theorem drawCanCancel_ok {B : List Int} (hB : CB B) : CtrP Tryd.prog 50 [ByteS.sl B] [] dIsAP := by
 refine CtrP.intro Tryd.mixed Tryd.func50 rfl Tryd.okF50 ?_
 simp -implicitDefEqProofs -dsimp only [go_sem, Tryd.ntmps50, Tryd.results50]
 (repeat ((repeat1' (first | simp -implicitDefEqProofs -dsimp only [go_sem] | simp -dsimp (disch := omega) only [wrap_i64])); repeat (with_reducible refine sideA ?_)))
 refine callS.rel [] (drawIsAlarm_ok hB) (by decide) ⟨leO, trivial⟩ rfl rfl (fun r hout hΦ => ?_)
 obtain ⟨a, ha, hl, rfl, rfl⟩ := hΦ
 refine ⟨trivial, ?_⟩
 (repeat ((repeat1' (first | simp -implicitDefEqProofs -dsimp only [go_sem, Alarm.v] | simp -dsimp (disch := omega) only [wrap_i64])); repeat (with_reducible refine sideA ?_)))
 exact ⟨_, _, ⟨a, ha, hl, rfl, rfl⟩, WeakR.drop' rfl (by simp [noOwn, rows_noOwn, Alarm.v])⟩
theorem drawStationsMissing_ok {B : List Int} (hB : CB B) : CtrP Tryd.prog 53 [ByteS.sl B] [] dIsAP := by
 refine CtrP.intro Tryd.mixed Tryd.func53 rfl Tryd.okF53 ?_
 simp -implicitDefEqProofs -dsimp only [go_sem, Tryd.ntmps53, Tryd.results53]
 (repeat ((repeat1' (first | simp -implicitDefEqProofs -dsimp only [go_sem] | simp -dsimp (disch := omega) only [wrap_i64])); repeat (with_reducible refine sideA ?_)))
 refine callS.rel [] (drawIsAlarm_ok hB) (by decide) ⟨leO, trivial⟩ rfl rfl (fun r hout hΦ => ?_)
 obtain ⟨a, ha, hl, rfl, rfl⟩ := hΦ
 refine ⟨trivial, ?_⟩
 (repeat ((repeat1' (first | simp -implicitDefEqProofs -dsimp only [go_sem, Alarm.v] | simp -dsimp (disch := omega) only [wrap_i64])); repeat (with_reducible refine sideA ?_)))
 exact ⟨_, _, ⟨a, ha, hl, rfl, rfl⟩, WeakR.drop' rfl (by simp [noOwn, rows_noOwn, Alarm.v])⟩
theorem drawAlarmText_ok {B : List Int} (hB : CB B) : CtrP Tryd.prog 57 [ByteS.sl B] [] dIsAP := by
 refine CtrP.intro Tryd.mixed Tryd.func57 rfl Tryd.okF57 ?_
 simp -implicitDefEqProofs -dsimp only [go_sem, Tryd.ntmps57, Tryd.results57]
 (repeat ((repeat1' (first | simp -implicitDefEqProofs -dsimp only [go_sem] | simp -dsimp (disch := omega) only [wrap_i64])); repeat (with_reducible refine sideA ?_)))
 refine callS.rel [] (drawIsAlarm_ok hB) (by decide) ⟨leO, trivial⟩ rfl rfl (fun r hout hΦ => ?_)
 obtain ⟨a, ha, hl, rfl, rfl⟩ := hΦ
 refine ⟨trivial, ?_⟩
 (repeat ((repeat1' (first | simp -implicitDefEqProofs -dsimp only [go_sem, Alarm.v] | simp -dsimp (disch := omega) only [wrap_i64])); repeat (with_reducible refine sideA ?_)))
 exact ⟨_, _, ⟨a, ha, hl, rfl, rfl⟩, WeakR.drop' rfl (by simp [noOwn, rows_noOwn, Alarm.v])⟩
end Go.Proofs
end
section
set_option maxRecDepth 100000
set_option maxHeartbeats 2000000
namespace Go.Proofs
open Go.Lv
theorem vInts_ok (L : List Int) (hl : L.length ≤ 1048576) : Ctr Tryd.prog 27 [IntS.sl L, IntS.sl L] [] (.bool true) [] := by
 refine Ctr.intro Tryd.mixed Tryd.func27 rfl Tryd.okF27 ?_
 simp -implicitDefEqProofs -dsimp only [go_sem, Tryd.ntmps27, Tryd.results27]
 (repeat ((repeat1' (first | simp -implicitDefEqProofs -dsimp only [go_sem] | simp -dsimp (disch := omega) only [wrap_i64])); repeat (with_reducible refine sideA ?_)))
 refine LoopT.intro (fun i : Nat => i ≤ L.length) (fun i => ⟨[IntS.sl L, IntS.sl L, .undef, .undef, .undef, .int .i64 i, .undef, .undef, .undef, .undef, .undef, .undef, .undef, .undef, .undef, .undef, .undef, .undef, .undef, .undef, .undef, .undef, .undef, .undef, .undef, .undef], [], 0⟩) (fun i => L.length - i) 0 (Nat.zero_le _) ?_ (fun i hi => ?_)
 · refine Weak.cut (0) (by simp) (by simp) ?_ ?_
   · simp [LeC, LeV, ren, cutF]
   · rfl
 simp -implicitDefEqProofs -dsimp only [go_sem]
 refine condT.split (fun h1 => ?_) (fun h1 => ?_)
 · have hi' : i < L.length := by simpa using h1
   have hr := rows_at IntS.csl hi'
   (repeat ((repeat1' (first | simp -implicitDefEqProofs -dsimp only [go_sem, h1, hr, IntS.cs] | simp -dsimp (disch := omega) only [wrap_i64])); repeat (with_reducible refine sideA ?_)))
   refine ⟨i + 1, hi', ?_, by omega⟩
   refine Weak.cut (0) (by simp) (by simp) ?_ ?_
   · simp [LeC, LeV, ren, cutF]
   · rfl
 · (repeat ((repeat1' (first | simp -implicitDefEqProofs -dsimp only [go_sem, h1] | simp -dsimp (disch := omega) only [wrap_i64])); repeat (with_reducible refine sideA ?_)))
   exact WeakR.drop' rfl (by rfl)
theorem vHas_ok (L : List Int) (x : Int) (hl : L.length ≤ 1048576) : Ctr Tryd.prog 37 [IntS.sl L, .int .i64 x] [] (.bool (L.any fun y => y == x)) [] := by
 refine Ctr.intro Tryd.mixed Tryd.func37 rfl Tryd.okF37 ?_
 simp -implicitDefEqProofs -dsimp only [go_sem, Tryd.ntmps37, Tryd.results37]
 refine LoopT.intro (fun i : Nat => i ≤ L.length ∧ (L.take i).any (fun y => y == x) = false) (fun i => ⟨[IntS.sl L, .int .i64 x, .undef, .undef, .undef, .int .i64 i, .undef, .undef, .undef, .undef, .undef, .undef, .undef, .undef, .undef, .undef, .undef, .undef], [], 0⟩) (fun i => L.length - i) 0 ⟨Nat.zero_le _, rfl⟩ ?_ (fun i hi => ?_)
 · refine Weak.cut (0) (by simp) (by simp) ?_ ?_
   · simp [LeC, LeV, ren, cutF]
   · rfl
 simp -implicitDefEqProofs -dsimp only [go_sem]
 refine condT.split (fun h1 => ?_) (fun h1 => ?_)
 · simp -implicitDefEqProofs -dsimp only [go_sem, h1]
   have hi' : i < L.length := by simpa using h1
   have hr := rows_at IntS.csl hi'
   (repeat ((repeat1' (first | simp -implicitDefEqProofs -dsimp only [go_sem, hr, IntS.cs] | simp -dsimp (disch := omega) only [wrap_i64])); repeat (with_reducible refine sideA ?_)))
   refine condT.split (fun h2 => ?_) (fun h2 => ?_) <;> (repeat ((repeat1' (first | simp -implicitDefEqProofs -dsimp only [go_sem, h2] | simp -dsimp (disch := omega) only [wrap_i64])); repeat (with_reducible refine sideA ?_)))
   · refine WeakR.drop' ?_ (by rfl)
     congr 1
     symm
     rw [List.any_eq_true]
     exact ⟨_, List.getElem_mem hi', h2⟩
   · refine ⟨i + 1, ⟨hi', by rw [List.take_succ_eq_append_getElem hi']; simp only [List.any_append, hi.2, List.any_cons, h2, List.any_nil, Bool.or_self]⟩, ?_, by omega⟩
     refine Weak.cut (0) (by simp) (by simp) ?_ ?_
     · simp [LeC, LeV, ren, cutF]
     · rfl
 · simp -implicitDefEqProofs -dsimp only [go_sem, h1]
   have hi' : i = L.length := by simp at h1; omega
   subst hi'
   have h2 := hi.2
   rw [List.take_length] at h2
   exact WeakR.drop' (by rw [h2]) (by rfl)
theorem vWithin_ok (K L : List Int) (hk : K.length ≤ 1048576) (hl : L.length ≤ 1048576) (h : ∀ y ∈ K, y ∈ L) : Ctr Tryd.prog 49 [IntS.sl K, IntS.sl L] [] (.bool true) [] := by
 refine Ctr.intro Tryd.mixed Tryd.func49 rfl Tryd.okF49 ?_
 simp -implicitDefEqProofs -dsimp only [go_sem, Tryd.ntmps49, Tryd.results49]
 refine LoopT.intro (fun i : Nat => i ≤ K.length) (fun i => ⟨[IntS.sl K, IntS.sl L, .undef, .undef, .undef, .int .i64 i, .undef, .undef, .undef, .undef, .undef, .undef, .undef, .undef, .undef, .undef, .undef, .undef, .undef], [], 0⟩) (fun i => K.length - i) 0 (Nat.zero_le _) ?_ (fun i hi => ?_)
 · refine Weak.cut (0) (by simp) (by simp) ?_ ?_
   · simp [LeC, LeV, ren, cutF]
   · rfl
 simp -implicitDefEqProofs -dsimp only [go_sem]
 refine condT.split (fun h1 => ?_) (fun h1 => ?_)
 · have hi' : i < K.length := by simpa using h1
   have hr := rows_at IntS.csl hi'
   have hany : (L.any fun y => y == K[i]) = true := List.any_eq_true.2 ⟨K[i], h _ (List.getElem_mem hi'), by simp⟩
   (repeat ((repeat1' (first | simp -implicitDefEqProofs -dsimp only [go_sem, h1, hr, IntS.cs] | simp -dsimp (disch := omega) only [wrap_i64])); repeat (with_reducible refine sideA ?_)))
   (first | refine callT.at (vHas_ok L K[i] hl) ⟨leA, leA, trivial⟩ ?_ | refine callS.at (vHas_ok L K[i] hl) ⟨leA, leA, trivial⟩ ?_)
   (repeat ((repeat1' (first | simp -implicitDefEqProofs -dsimp only [go_sem, hany] | simp -dsimp (disch := omega) only [wrap_i64])); repeat (with_reducible refine sideA ?_)))
   refine ⟨i + 1, hi', ?_, by omega⟩
   refine Weak.cut (0) (by simp) (by simp) ?_ ?_
   · simp [LeC, LeV, ren, cutF]
   · rfl
 · (repeat ((repeat1' (first | simp -implicitDefEqProofs -dsimp only [go_sem, h1] | simp -dsimp (disch := omega) only [wrap_i64])); repeat (with_reducible refine sideA ?_)))
   exact WeakR.drop' rfl (by rfl)
end Go.Proofs
end
section
set_option maxRecDepth 100000
set_option maxHeartbeats 4000000
namespace Go.Proofs
open Go.Lv
theorem hbL_len (a : Alarm) (hl : a.Heard.length ≤ 100) : (hbL a).length ≤ 100 := by
 unfold hbL
 split
 · rw [insSort_len]; simpa [stationsA] using hl
 · simp
theorem stepO_len' {a b : Alarm} {k v : Int} (h : stepO a k v = some b) : b.Heard.length ≤ 100 := by
 have := (aB_aok (stepO_ok h).1).2
 omega
theorem fnForgettingLaw_ok (L : List Int) (hL : lstR ByteS.ok L) : Ctr Tryd.prog 6 [ByteS.sl L] [] (.bool true) [] := by
 have hB : CB L := hL
 refine Ctr.intro Tryd.mixed Tryd.func6 rfl Tryd.okF6 ?_
 simp -implicitDefEqProofs -dsimp only [go_sem, Tryd.ntmps6, Tryd.results6]
 (repeat ((repeat1' (first | simp -implicitDefEqProofs -dsimp only [go_sem] | simp -dsimp (disch := omega) only [wrap_i64])); repeat (with_reducible refine sideA ?_)))
 (first | refine callT.at (vBig_ok L) ⟨leA, trivial⟩ ?_ | refine callS.at (vBig_ok L) ⟨leA, trivial⟩ ?_)
 (repeat ((repeat1' (first | simp -implicitDefEqProofs -dsimp only [go_sem] | simp -dsimp (disch := omega) only [wrap_i64])); repeat (with_reducible refine sideA ?_)))
 refine condT.split (fun h1 => ?_) (fun h1 => ?_) <;> (repeat ((repeat1' (first | simp -implicitDefEqProofs -dsimp only [go_sem, h1] | simp -dsimp (disch := omega) only [wrap_i64])); repeat (with_reducible refine sideA ?_)))
 · exact WeakR.drop' rfl (by rfl)
 refine callS.rel [] (drawTicksToForget_ok hB) (by decide) ⟨leO, trivial⟩ rfl rfl (fun r hout hΦ => ?_)
 obtain ⟨a, ha, hal, rfl, rfl⟩ := hΦ
 refine ⟨trivial, ?_⟩
 (repeat ((repeat1' (first | simp -implicitDefEqProofs -dsimp only [go_sem, Alarm.v] | simp -dsimp (disch := omega) only [wrap_i64])); repeat (with_reducible refine sideA ?_)))
 have it := iTicks_ok a (by omega)
 have st := sTicks_ok a (by omega)
 cases hb : ticksB a with
 | false =>
   rw [hb] at it st
   (first | refine callT.at (it) ⟨leA, trivial⟩ ?_ | refine callS.at (it) ⟨leA, trivial⟩ ?_)
   (repeat ((repeat1' (first | simp -implicitDefEqProofs -dsimp only [go_sem, Alarm.v] | simp -dsimp (disch := omega) only [wrap_i64])); repeat (with_reducible refine sideA ?_)))
   (first | refine callT.at (st) ⟨leA, trivial⟩ ?_ | refine callS.at (st) ⟨leA, trivial⟩ ?_)
   (repeat ((repeat1' (first | simp -implicitDefEqProofs -dsimp only [go_sem, Alarm.v] | simp -dsimp (disch := omega) only [wrap_i64])); repeat (with_reducible refine sideA ?_)))
   refine callS.rel [] (drawCanCancel_ok hB) (by decide) ⟨leO, trivial⟩ rfl rfl (fun r hout hΦ => ?_)
   obtain ⟨x, hx, hxl, rfl, rfl⟩ := hΦ
   refine ⟨trivial, ?_⟩
   (repeat ((repeat1' (first | simp -implicitDefEqProofs -dsimp only [go_sem, Alarm.v] | simp -dsimp (disch := omega) only [wrap_i64])); repeat (with_reducible refine sideA ?_)))
   have ic := iCanCancel_ok x (by omega)
   have sc := sCanCancel_ok x (by omega)
   cases hxb : alarmB x with
   | false =>
     rw [hxb, Bool.false_and] at ic sc
     (first | refine callT.at (ic) ⟨leA, trivial⟩ ?_ | refine callS.at (ic) ⟨leA, trivial⟩ ?_)
     (repeat ((repeat1' (first | simp -implicitDefEqProofs -dsimp only [go_sem, Alarm.v] | simp -dsimp (disch := omega) only [wrap_i64])); repeat (with_reducible refine sideA ?_)))
     (first | refine callT.at (sc) ⟨leA, trivial⟩ ?_ | refine callS.at (sc) ⟨leA, trivial⟩ ?_)
     (repeat ((repeat1' (first | simp -implicitDefEqProofs -dsimp only [go_sem, Alarm.v] | simp -dsimp (disch := omega) only [wrap_i64])); repeat (with_reducible refine sideA ?_)))
     refine callS.rel [] (drawStationsMissing_ok hB) (by decide) ⟨leO, trivial⟩ rfl rfl (fun r hout hΦ => ?_)
     obtain ⟨y, hy, hyl, rfl, rfl⟩ := hΦ
     refine ⟨trivial, ?_⟩
     (repeat ((repeat1' (first | simp -implicitDefEqProofs -dsimp only [go_sem, Alarm.v] | simp -dsimp (disch := omega) only [wrap_i64])); repeat (with_reducible refine sideA ?_)))
     have im := iStationsMissing_ok y (by omega)
     have sm := sStationsMissing_ok y (by omega)
     obtain ⟨mv, mb, hm⟩ : ∃ (mv : Int) (mb : Bool), missR y = [.int .i64 mv, .bool mb] := by
       unfold missR
       split <;> exact ⟨_, _, rfl⟩
     rw [hm] at im sm
     (first | refine callT.at (im) ⟨leA, trivial⟩ ?_ | refine callS.at (im) ⟨leA, trivial⟩ ?_)
     (repeat ((repeat1' (first | simp -implicitDefEqProofs -dsimp only [go_sem, Alarm.v] | simp -dsimp (disch := omega) only [wrap_i64])); repeat (with_reducible refine sideA ?_)))
     (first | refine callT.at (sm) ⟨leA, trivial⟩ ?_ | refine callS.at (sm) ⟨leA, trivial⟩ ?_)
     (repeat ((repeat1' (first | simp -implicitDefEqProofs -dsimp only [go_sem, Alarm.v] | simp -dsimp (disch := omega) only [wrap_i64])); repeat (with_reducible refine sideA ?_)))
     (first | refine callT.at (iHeardByF y (by omega)) ⟨leA, trivial⟩ ?_ | refine callS.at (iHeardByF y (by omega)) ⟨leA, trivial⟩ ?_)
     (repeat ((repeat1' (first | simp -implicitDefEqProofs -dsimp only [go_sem, Alarm.v] | simp -dsimp (disch := omega) only [wrap_i64])); repeat (with_reducible refine sideA ?_)))
     (first | refine callT.at (sHeardByF y (by omega)) ⟨leA, trivial⟩ ?_ | refine callS.at (sHeardByF y (by omega)) ⟨leA, trivial⟩ ?_)
     (repeat ((repeat1' (first | simp -implicitDefEqProofs -dsimp only [go_sem, Alarm.v] | simp -dsimp (disch := omega) only [wrap_i64])); repeat (with_reducible refine sideA ?_)))
     have hbl := hbL_len y (by omega)
     (first | refine callT.at (vInts_ok (hbL y) (by omega)) ⟨leA, leA, trivial⟩ ?_ | refine callS.at (vInts_ok (hbL y) (by omega)) ⟨leA, leA, trivial⟩ ?_)
     (repeat ((repeat1' (first | simp -implicitDefEqProofs -dsimp only [go_sem] | simp -dsimp (disch := omega) only [wrap_i64])); repeat (with_reducible refine sideA ?_)))
     refine callS.rel [] (drawAlarmText_ok hB) (by decide) ⟨leO, trivial⟩ rfl rfl (fun r hout hΦ => ?_)
     obtain ⟨z, hz, hzl, rfl, rfl⟩ := hΦ
     refine ⟨trivial, ?_⟩
     (repeat ((repeat1' (first | simp -implicitDefEqProofs -dsimp only [go_sem, Alarm.v] | simp -dsimp (disch := omega) only [wrap_i64])); repeat (with_reducible refine sideA ?_)))
     have it := iAlarmText_ok z (by omega)
     have sp := sAlarmText_ok z (by omega)
     have ii := iIsAlarm_ok z (by omega)
     cases hzb : alarmB z with
     | false =>
       simp only [alarmTextR, hzb, Bool.false_eq_true, if_false] at it sp
       rw [hzb] at ii
       (first | refine callT.at (it) ⟨leA, trivial⟩ ?_ | refine callS.at (it) ⟨leA, trivial⟩ ?_)
       (repeat ((repeat1' (first | simp -implicitDefEqProofs -dsimp only [go_sem, Alarm.v] | simp -dsimp (disch := omega) only [wrap_i64])); repeat (with_reducible refine sideA ?_)))
       (first | refine callT.at (sp) ⟨leA, trivial⟩ ?_ | refine callS.at (sp) ⟨leA, trivial⟩ ?_)
       (repeat ((repeat1' (first | simp -implicitDefEqProofs -dsimp only [go_sem, Alarm.v] | simp -dsimp (disch := omega) only [wrap_i64])); repeat (with_reducible refine sideA ?_)))
       first | ((first | refine callT.at (ii) ⟨leA, trivial⟩ ?_ | refine callS.at (ii) ⟨leA, trivial⟩ ?_); (repeat ((repeat1' (first | simp -implicitDefEqProofs -dsimp only [go_sem] | simp -dsimp (disch := omega) only [wrap_i64])); repeat (with_reducible refine sideA ?_)))) | skip
       exact WeakR.drop' (by simp) (by rfl)
     | true =>
       simp only [alarmTextR, hzb, if_true] at it sp
       rw [hzb] at ii
       (first | refine callT.at (it) ⟨leA, trivial⟩ ?_ | refine callS.at (it) ⟨leA, trivial⟩ ?_)
       (repeat ((repeat1' (first | simp -implicitDefEqProofs -dsimp only [go_sem, Alarm.v] | simp -dsimp (disch := omega) only [wrap_i64])); repeat (with_reducible refine sideA ?_)))
       (first | refine callT.at (sp) ⟨leA, trivial⟩ ?_ | refine callS.at (sp) ⟨leA, trivial⟩ ?_)
       (repeat ((repeat1' (first | simp -implicitDefEqProofs -dsimp only [go_sem, Alarm.v] | simp -dsimp (disch := omega) only [wrap_i64])); repeat (with_reducible refine sideA ?_)))
       first | ((first | refine callT.at (ii) ⟨leA, trivial⟩ ?_ | refine callS.at (ii) ⟨leA, trivial⟩ ?_); (repeat ((repeat1' (first | simp -implicitDefEqProofs -dsimp only [go_sem] | simp -dsimp (disch := omega) only [wrap_i64])); repeat (with_reducible refine sideA ?_)))) | skip
       exact WeakR.drop' (by simp) (by rfl)
   | true =>
     rw [hxb, Bool.true_and] at ic sc
     obtain ⟨cf1, cf2⟩ := cancel_facts hxb
     have hi1 := (iStepAlarm_ok x 3 0 (by omega)).weak frzAi
     (first | refine callT.at (ic) ⟨leA, trivial⟩ ?_ | refine callS.at (ic) ⟨leA, trivial⟩ ?_)
     (repeat ((repeat1' (first | simp -implicitDefEqProofs -dsimp only [go_sem, Alarm.v] | simp -dsimp (disch := omega) only [wrap_i64])); repeat (with_reducible refine sideA ?_)))
     (first | refine callT.at (sc) ⟨leA, trivial⟩ ?_ | refine callS.at (sc) ⟨leA, trivial⟩ ?_)
     (repeat ((repeat1' (first | simp -implicitDefEqProofs -dsimp only [go_sem, Alarm.v] | simp -dsimp (disch := omega) only [wrap_i64])); repeat (with_reducible refine sideA ?_)))
     cases hst : stepO x 3 0 with
     | none =>
       rw [hst] at hi1 cf1
       simp only [alV, Option.getD_none, Option.isSome_none] at hi1
       rw [Option.isSome_none] at cf1
       (first | refine callT.at (hi1) ⟨leA, leA, trivial⟩ ?_ | refine callS.at (hi1) ⟨leA, leA, trivial⟩ ?_)
       (repeat ((repeat1' (first | simp -implicitDefEqProofs -dsimp only [go_sem, Alarm.v, ← cf1] | simp -dsimp (disch := omega) only [wrap_i64])); repeat (with_reducible refine sideA ?_)))
       refine callS.rel [] (drawStationsMissing_ok hB) (by decide) ⟨leO, trivial⟩ rfl rfl (fun r hout hΦ => ?_)
       obtain ⟨y, hy, hyl, rfl, rfl⟩ := hΦ
       refine ⟨trivial, ?_⟩
       (repeat ((repeat1' (first | simp -implicitDefEqProofs -dsimp only [go_sem, Alarm.v] | simp -dsimp (disch := omega) only [wrap_i64])); repeat (with_reducible refine sideA ?_)))
       have im := iStationsMissing_ok y (by omega)
       have sm := sStationsMissing_ok y (by omega)
       obtain ⟨mv, mb, hm⟩ : ∃ (mv : Int) (mb : Bool), missR y = [.int .i64 mv, .bool mb] := by
         unfold missR
         split <;> exact ⟨_, _, rfl⟩
       rw [hm] at im sm
       (first | refine callT.at (im) ⟨leA, trivial⟩ ?_ | refine callS.at (im) ⟨leA, trivial⟩ ?_)
       (repeat ((repeat1' (first | simp -implicitDefEqProofs -dsimp only [go_sem, Alarm.v] | simp -dsimp (disch := omega) only [wrap_i64])); repeat (with_reducible refine sideA ?_)))
       (first | refine callT.at (sm) ⟨leA, trivial⟩ ?_ | refine callS.at (sm) ⟨leA, trivial⟩ ?_)
       (repeat ((repeat1' (first | simp -implicitDefEqProofs -dsimp only [go_sem, Alarm.v] | simp -dsimp (disch := omega) only [wrap_i64])); repeat (with_reducible refine sideA ?_)))
       (first | refine callT.at (iHeardByF y (by omega)) ⟨leA, trivial⟩ ?_ | refine callS.at (iHeardByF y (by omega)) ⟨leA, trivial⟩ ?_)
       (repeat ((repeat1' (first | simp -implicitDefEqProofs -dsimp only [go_sem, Alarm.v] | simp -dsimp (disch := omega) only [wrap_i64])); repeat (with_reducible refine sideA ?_)))
       (first | refine callT.at (sHeardByF y (by omega)) ⟨leA, trivial⟩ ?_ | refine callS.at (sHeardByF y (by omega)) ⟨leA, trivial⟩ ?_)
       (repeat ((repeat1' (first | simp -implicitDefEqProofs -dsimp only [go_sem, Alarm.v] | simp -dsimp (disch := omega) only [wrap_i64])); repeat (with_reducible refine sideA ?_)))
       have hbl := hbL_len y (by omega)
       (first | refine callT.at (vInts_ok (hbL y) (by omega)) ⟨leA, leA, trivial⟩ ?_ | refine callS.at (vInts_ok (hbL y) (by omega)) ⟨leA, leA, trivial⟩ ?_)
       (repeat ((repeat1' (first | simp -implicitDefEqProofs -dsimp only [go_sem] | simp -dsimp (disch := omega) only [wrap_i64])); repeat (with_reducible refine sideA ?_)))
       refine callS.rel [] (drawAlarmText_ok hB) (by decide) ⟨leO, trivial⟩ rfl rfl (fun r hout hΦ => ?_)
       obtain ⟨z, hz, hzl, rfl, rfl⟩ := hΦ
       refine ⟨trivial, ?_⟩
       (repeat ((repeat1' (first | simp -implicitDefEqProofs -dsimp only [go_sem, Alarm.v] | simp -dsimp (disch := omega) only [wrap_i64])); repeat (with_reducible refine sideA ?_)))
       have it := iAlarmText_ok z (by omega)
       have sp := sAlarmText_ok z (by omega)
       have ii := iIsAlarm_ok z (by omega)
       cases hzb : alarmB z with
       | false =>
         simp only [alarmTextR, hzb, Bool.false_eq_true, if_false] at it sp
         rw [hzb] at ii
         (first | refine callT.at (it) ⟨leA, trivial⟩ ?_ | refine callS.at (it) ⟨leA, trivial⟩ ?_)
         (repeat ((repeat1' (first | simp -implicitDefEqProofs -dsimp only [go_sem, Alarm.v] | simp -dsimp (disch := omega) only [wrap_i64])); repeat (with_reducible refine sideA ?_)))
         (first | refine callT.at (sp) ⟨leA, trivial⟩ ?_ | refine callS.at (sp) ⟨leA, trivial⟩ ?_)
         (repeat ((repeat1' (first | simp -implicitDefEqProofs -dsimp only [go_sem, Alarm.v] | simp -dsimp (disch := omega) only [wrap_i64])); repeat (with_reducible refine sideA ?_)))
         first | ((first | refine callT.at (ii) ⟨leA, trivial⟩ ?_ | refine callS.at (ii) ⟨leA, trivial⟩ ?_); (repeat ((repeat1' (first | simp -implicitDefEqProofs -dsimp only [go_sem] | simp -dsimp (disch := omega) only [wrap_i64])); repeat (with_reducible refine sideA ?_)))) | skip
         exact WeakR.drop' (by simp) (by rfl)
       | true =>
         simp only [alarmTextR, hzb, if_true] at it sp
         rw [hzb] at ii
         (first | refine callT.at (it) ⟨leA, trivial⟩ ?_ | refine callS.at (it) ⟨leA, trivial⟩ ?_)
         (repeat ((repeat1' (first | simp -implicitDefEqProofs -dsimp only [go_sem, Alarm.v] | simp -dsimp (disch := omega) only [wrap_i64])); repeat (with_reducible refine sideA ?_)))
         (first | refine callT.at (sp) ⟨leA, trivial⟩ ?_ | refine callS.at (sp) ⟨leA, trivial⟩ ?_)
         (repeat ((repeat1' (first | simp -implicitDefEqProofs -dsimp only [go_sem, Alarm.v] | simp -dsimp (disch := omega) only [wrap_i64])); repeat (with_reducible refine sideA ?_)))
         first | ((first | refine callT.at (ii) ⟨leA, trivial⟩ ?_ | refine callS.at (ii) ⟨leA, trivial⟩ ?_); (repeat ((repeat1' (first | simp -implicitDefEqProofs -dsimp only [go_sem] | simp -dsimp (disch := omega) only [wrap_i64])); repeat (with_reducible refine sideA ?_)))) | skip
         exact WeakR.drop' (by simp) (by rfl)
     | some b =>
       rw [hst] at hi1 cf1
       simp only [alV, Option.getD_some, Option.isSome_some] at hi1
       rw [Option.isSome_some] at cf1
       have e := cf2 b hst
       have A := alarmB_ok hxb
       have g1 := A.canc
       have g2 := A.given
       have hw1 : IntKind.i64.wrap (x.Cancelled + 1) = x.Cancelled + 1 := wrap_i64 (by omega) (by omega)
       (first | refine callT.at (hi1) ⟨leA, leA, trivial⟩ ?_ | refine callS.at (hi1) ⟨leA, leA, trivial⟩ ?_)
       (repeat ((repeat1' (first | simp -implicitDefEqProofs -dsimp only [go_sem, Alarm.v, ← cf1, e, hw1] | simp -dsimp (disch := omega) only [wrap_i64])); repeat (with_reducible refine sideA ?_)))
       refine callS.rel [] (drawStationsMissing_ok hB) (by decide) ⟨leO, trivial⟩ rfl rfl (fun r hout hΦ => ?_)
       obtain ⟨y, hy, hyl, rfl, rfl⟩ := hΦ
       refine ⟨trivial, ?_⟩
       (repeat ((repeat1' (first | simp -implicitDefEqProofs -dsimp only [go_sem, Alarm.v] | simp -dsimp (disch := omega) only [wrap_i64])); repeat (with_reducible refine sideA ?_)))
       have im := iStationsMissing_ok y (by omega)
       have sm := sStationsMissing_ok y (by omega)
       obtain ⟨mv, mb, hm⟩ : ∃ (mv : Int) (mb : Bool), missR y = [.int .i64 mv, .bool mb] := by
         unfold missR
         split <;> exact ⟨_, _, rfl⟩
       rw [hm] at im sm
       (first | refine callT.at (im) ⟨leA, trivial⟩ ?_ | refine callS.at (im) ⟨leA, trivial⟩ ?_)
       (repeat ((repeat1' (first | simp -implicitDefEqProofs -dsimp only [go_sem, Alarm.v] | simp -dsimp (disch := omega) only [wrap_i64])); repeat (with_reducible refine sideA ?_)))
       (first | refine callT.at (sm) ⟨leA, trivial⟩ ?_ | refine callS.at (sm) ⟨leA, trivial⟩ ?_)
       (repeat ((repeat1' (first | simp -implicitDefEqProofs -dsimp only [go_sem, Alarm.v] | simp -dsimp (disch := omega) only [wrap_i64])); repeat (with_reducible refine sideA ?_)))
       (first | refine callT.at (iHeardByF y (by omega)) ⟨leA, trivial⟩ ?_ | refine callS.at (iHeardByF y (by omega)) ⟨leA, trivial⟩ ?_)
       (repeat ((repeat1' (first | simp -implicitDefEqProofs -dsimp only [go_sem, Alarm.v] | simp -dsimp (disch := omega) only [wrap_i64])); repeat (with_reducible refine sideA ?_)))
       (first | refine callT.at (sHeardByF y (by omega)) ⟨leA, trivial⟩ ?_ | refine callS.at (sHeardByF y (by omega)) ⟨leA, trivial⟩ ?_)
       (repeat ((repeat1' (first | simp -implicitDefEqProofs -dsimp only [go_sem, Alarm.v] | simp -dsimp (disch := omega) only [wrap_i64])); repeat (with_reducible refine sideA ?_)))
       have hbl := hbL_len y (by omega)
       (first | refine callT.at (vInts_ok (hbL y) (by omega)) ⟨leA, leA, trivial⟩ ?_ | refine callS.at (vInts_ok (hbL y) (by omega)) ⟨leA, leA, trivial⟩ ?_)
       (repeat ((repeat1' (first | simp -implicitDefEqProofs -dsimp only [go_sem] | simp -dsimp (disch := omega) only [wrap_i64])); repeat (with_reducible refine sideA ?_)))
       refine callS.rel [] (drawAlarmText_ok hB) (by decide) ⟨leO, trivial⟩ rfl rfl (fun r hout hΦ => ?_)
       obtain ⟨z, hz, hzl, rfl, rfl⟩ := hΦ
       refine ⟨trivial, ?_⟩
       (repeat ((repeat1' (first | simp -implicitDefEqProofs -dsimp only [go_sem, Alarm.v] | simp -dsimp (disch := omega) only [wrap_i64])); repeat (with_reducible refine sideA ?_)))
       have it := iAlarmText_ok z (by omega)
       have sp := sAlarmText_ok z (by omega)
       have ii := iIsAlarm_ok z (by omega)
       cases hzb : alarmB z with
       | false =>
         simp only [alarmTextR, hzb, Bool.false_eq_true, if_false] at it sp
         rw [hzb] at ii
         (first | refine callT.at (it) ⟨leA, trivial⟩ ?_ | refine callS.at (it) ⟨leA, trivial⟩ ?_)
         (repeat ((repeat1' (first | simp -implicitDefEqProofs -dsimp only [go_sem, Alarm.v] | simp -dsimp (disch := omega) only [wrap_i64])); repeat (with_reducible refine sideA ?_)))
         (first | refine callT.at (sp) ⟨leA, trivial⟩ ?_ | refine callS.at (sp) ⟨leA, trivial⟩ ?_)
         (repeat ((repeat1' (first | simp -implicitDefEqProofs -dsimp only [go_sem, Alarm.v] | simp -dsimp (disch := omega) only [wrap_i64])); repeat (with_reducible refine sideA ?_)))
         first | ((first | refine callT.at (ii) ⟨leA, trivial⟩ ?_ | refine callS.at (ii) ⟨leA, trivial⟩ ?_); (repeat ((repeat1' (first | simp -implicitDefEqProofs -dsimp only [go_sem] | simp -dsimp (disch := omega) only [wrap_i64])); repeat (with_reducible refine sideA ?_)))) | skip
         exact WeakR.drop' (by simp) (by rfl)
       | true =>
         simp only [alarmTextR, hzb, if_true] at it sp
         rw [hzb] at ii
         (first | refine callT.at (it) ⟨leA, trivial⟩ ?_ | refine callS.at (it) ⟨leA, trivial⟩ ?_)
         (repeat ((repeat1' (first | simp -implicitDefEqProofs -dsimp only [go_sem, Alarm.v] | simp -dsimp (disch := omega) only [wrap_i64])); repeat (with_reducible refine sideA ?_)))
         (first | refine callT.at (sp) ⟨leA, trivial⟩ ?_ | refine callS.at (sp) ⟨leA, trivial⟩ ?_)
         (repeat ((repeat1' (first | simp -implicitDefEqProofs -dsimp only [go_sem, Alarm.v] | simp -dsimp (disch := omega) only [wrap_i64])); repeat (with_reducible refine sideA ?_)))
         first | ((first | refine callT.at (ii) ⟨leA, trivial⟩ ?_ | refine callS.at (ii) ⟨leA, trivial⟩ ?_); (repeat ((repeat1' (first | simp -implicitDefEqProofs -dsimp only [go_sem] | simp -dsimp (disch := omega) only [wrap_i64])); repeat (with_reducible refine sideA ?_)))) | skip
         exact WeakR.drop' (by simp) (by rfl)
 | true =>
   have hab : alarmB a = true := by simp [ticksB] at hb; exact hb.1
   have has : a.State = 1 := by simp [ticksB] at hb; exact hb.2
   obtain ⟨h0, e0, _⟩ := ticks_len hab has
   have etn : ticksN a = a.Heard[0].Tick + 501 - a.Now := by rw [ticksN, if_pos hb, e0]
   rw [hb] at it st
   have hh := iHeardByF a (by omega)
   rw [hab] at hh
   have hi1 := (iStepAlarm_ok a 1 (ticksN a) (by omega)).weak frzAi
   (first | refine callT.at (it) ⟨leA, trivial⟩ ?_ | refine callS.at (it) ⟨leA, trivial⟩ ?_)
   (repeat ((repeat1' (first | simp -implicitDefEqProofs -dsimp only [go_sem, Alarm.v] | simp -dsimp (disch := omega) only [wrap_i64])); repeat (with_reducible refine sideA ?_)))
   (first | refine callT.at (st) ⟨leA, trivial⟩ ?_ | refine callS.at (st) ⟨leA, trivial⟩ ?_)
   (repeat ((repeat1' (first | simp -implicitDefEqProofs -dsimp only [go_sem, Alarm.v] | simp -dsimp (disch := omega) only [wrap_i64])); repeat (with_reducible refine sideA ?_)))
   (first | refine callT.at (hh) ⟨leA, trivial⟩ ?_ | refine callS.at (hh) ⟨leA, trivial⟩ ?_)
   (repeat ((repeat1' (first | simp -implicitDefEqProofs -dsimp only [go_sem, Alarm.v] | simp -dsimp (disch := omega) only [wrap_i64])); repeat (with_reducible refine sideA ?_)))
   cases hst : stepO a 1 (ticksN a) with
   | none =>
     rw [hst] at hi1
     simp only [alV, Option.getD_none, Option.isSome_none] at hi1
     (first | refine callT.at (hi1) ⟨leA, leA, trivial⟩ ?_ | refine callS.at (hi1) ⟨leA, leA, trivial⟩ ?_)
     (repeat ((repeat1' (first | simp -implicitDefEqProofs -dsimp only [go_sem, Alarm.v] | simp -dsimp (disch := omega) only [wrap_i64])); repeat (with_reducible refine sideA ?_)))
     refine callS.rel [] (drawCanCancel_ok hB) (by decide) ⟨leO, trivial⟩ rfl rfl (fun r hout hΦ => ?_)
     obtain ⟨x, hx, hxl, rfl, rfl⟩ := hΦ
     refine ⟨trivial, ?_⟩
     (repeat ((repeat1' (first | simp -implicitDefEqProofs -dsimp only [go_sem, Alarm.v] | simp -dsimp (disch := omega) only [wrap_i64])); repeat (with_reducible refine sideA ?_)))
     have ic := iCanCancel_ok x (by omega)
     have sc := sCanCancel_ok x (by omega)
     cases hxb : alarmB x with
     | false =>
       rw [hxb, Bool.false_and] at ic sc
       (first | refine callT.at (ic) ⟨leA, trivial⟩ ?_ | refine callS.at (ic) ⟨leA, trivial⟩ ?_)
       (repeat ((repeat1' (first | simp -implicitDefEqProofs -dsimp only [go_sem, Alarm.v] | simp -dsimp (disch := omega) only [wrap_i64])); repeat (with_reducible refine sideA ?_)))
       (first | refine callT.at (sc) ⟨leA, trivial⟩ ?_ | refine callS.at (sc) ⟨leA, trivial⟩ ?_)
       (repeat ((repeat1' (first | simp -implicitDefEqProofs -dsimp only [go_sem, Alarm.v] | simp -dsimp (disch := omega) only [wrap_i64])); repeat (with_reducible refine sideA ?_)))
       refine callS.rel [] (drawStationsMissing_ok hB) (by decide) ⟨leO, trivial⟩ rfl rfl (fun r hout hΦ => ?_)
       obtain ⟨y, hy, hyl, rfl, rfl⟩ := hΦ
       refine ⟨trivial, ?_⟩
       (repeat ((repeat1' (first | simp -implicitDefEqProofs -dsimp only [go_sem, Alarm.v] | simp -dsimp (disch := omega) only [wrap_i64])); repeat (with_reducible refine sideA ?_)))
       have im := iStationsMissing_ok y (by omega)
       have sm := sStationsMissing_ok y (by omega)
       obtain ⟨mv, mb, hm⟩ : ∃ (mv : Int) (mb : Bool), missR y = [.int .i64 mv, .bool mb] := by
         unfold missR
         split <;> exact ⟨_, _, rfl⟩
       rw [hm] at im sm
       (first | refine callT.at (im) ⟨leA, trivial⟩ ?_ | refine callS.at (im) ⟨leA, trivial⟩ ?_)
       (repeat ((repeat1' (first | simp -implicitDefEqProofs -dsimp only [go_sem, Alarm.v] | simp -dsimp (disch := omega) only [wrap_i64])); repeat (with_reducible refine sideA ?_)))
       (first | refine callT.at (sm) ⟨leA, trivial⟩ ?_ | refine callS.at (sm) ⟨leA, trivial⟩ ?_)
       (repeat ((repeat1' (first | simp -implicitDefEqProofs -dsimp only [go_sem, Alarm.v] | simp -dsimp (disch := omega) only [wrap_i64])); repeat (with_reducible refine sideA ?_)))
       (first | refine callT.at (iHeardByF y (by omega)) ⟨leA, trivial⟩ ?_ | refine callS.at (iHeardByF y (by omega)) ⟨leA, trivial⟩ ?_)
       (repeat ((repeat1' (first | simp -implicitDefEqProofs -dsimp only [go_sem, Alarm.v] | simp -dsimp (disch := omega) only [wrap_i64])); repeat (with_reducible refine sideA ?_)))
       (first | refine callT.at (sHeardByF y (by omega)) ⟨leA, trivial⟩ ?_ | refine callS.at (sHeardByF y (by omega)) ⟨leA, trivial⟩ ?_)
       (repeat ((repeat1' (first | simp -implicitDefEqProofs -dsimp only [go_sem, Alarm.v] | simp -dsimp (disch := omega) only [wrap_i64])); repeat (with_reducible refine sideA ?_)))
       have hbl := hbL_len y (by omega)
       (first | refine callT.at (vInts_ok (hbL y) (by omega)) ⟨leA, leA, trivial⟩ ?_ | refine callS.at (vInts_ok (hbL y) (by omega)) ⟨leA, leA, trivial⟩ ?_)
       (repeat ((repeat1' (first | simp -implicitDefEqProofs -dsimp only [go_sem] | simp -dsimp (disch := omega) only [wrap_i64])); repeat (with_reducible refine sideA ?_)))
       refine callS.rel [] (drawAlarmText_ok hB) (by decide) ⟨leO, trivial⟩ rfl rfl (fun r hout hΦ => ?_)
       obtain ⟨z, hz, hzl, rfl, rfl⟩ := hΦ
       refine ⟨trivial, ?_⟩
       (repeat ((repeat1' (first | simp -implicitDefEqProofs -dsimp only [go_sem, Alarm.v] | simp -dsimp (disch := omega) only [wrap_i64])); repeat (with_reducible refine sideA ?_)))
       have it := iAlarmText_ok z (by omega)
       have sp := sAlarmText_ok z (by omega)
       have ii := iIsAlarm_ok z (by omega)
       cases hzb : alarmB z with
       | false =>
         simp only [alarmTextR, hzb, Bool.false_eq_true, if_false] at it sp
         rw [hzb] at ii
         (first | refine callT.at (it) ⟨leA, trivial⟩ ?_ | refine callS.at (it) ⟨leA, trivial⟩ ?_)
         (repeat ((repeat1' (first | simp -implicitDefEqProofs -dsimp only [go_sem, Alarm.v] | simp -dsimp (disch := omega) only [wrap_i64])); repeat (with_reducible refine sideA ?_)))
         (first | refine callT.at (sp) ⟨leA, trivial⟩ ?_ | refine callS.at (sp) ⟨leA, trivial⟩ ?_)
         (repeat ((repeat1' (first | simp -implicitDefEqProofs -dsimp only [go_sem, Alarm.v] | simp -dsimp (disch := omega) only [wrap_i64])); repeat (with_reducible refine sideA ?_)))
         first | ((first | refine callT.at (ii) ⟨leA, trivial⟩ ?_ | refine callS.at (ii) ⟨leA, trivial⟩ ?_); (repeat ((repeat1' (first | simp -implicitDefEqProofs -dsimp only [go_sem] | simp -dsimp (disch := omega) only [wrap_i64])); repeat (with_reducible refine sideA ?_)))) | skip
         exact WeakR.drop' (by simp) (by rfl)
       | true =>
         simp only [alarmTextR, hzb, if_true] at it sp
         rw [hzb] at ii
         (first | refine callT.at (it) ⟨leA, trivial⟩ ?_ | refine callS.at (it) ⟨leA, trivial⟩ ?_)
         (repeat ((repeat1' (first | simp -implicitDefEqProofs -dsimp only [go_sem, Alarm.v] | simp -dsimp (disch := omega) only [wrap_i64])); repeat (with_reducible refine sideA ?_)))
         (first | refine callT.at (sp) ⟨leA, trivial⟩ ?_ | refine callS.at (sp) ⟨leA, trivial⟩ ?_)
         (repeat ((repeat1' (first | simp -implicitDefEqProofs -dsimp only [go_sem, Alarm.v] | simp -dsimp (disch := omega) only [wrap_i64])); repeat (with_reducible refine sideA ?_)))
         first | ((first | refine callT.at (ii) ⟨leA, trivial⟩ ?_ | refine callS.at (ii) ⟨leA, trivial⟩ ?_); (repeat ((repeat1' (first | simp -implicitDefEqProofs -dsimp only [go_sem] | simp -dsimp (disch := omega) only [wrap_i64])); repeat (with_reducible refine sideA ?_)))) | skip
         exact WeakR.drop' (by simp) (by rfl)
     | true =>
       rw [hxb, Bool.true_and] at ic sc
       obtain ⟨cf1, cf2⟩ := cancel_facts hxb
       have hi1 := (iStepAlarm_ok x 3 0 (by omega)).weak frzAi
       (first | refine callT.at (ic) ⟨leA, trivial⟩ ?_ | refine callS.at (ic) ⟨leA, trivial⟩ ?_)
       (repeat ((repeat1' (first | simp -implicitDefEqProofs -dsimp only [go_sem, Alarm.v] | simp -dsimp (disch := omega) only [wrap_i64])); repeat (with_reducible refine sideA ?_)))
       (first | refine callT.at (sc) ⟨leA, trivial⟩ ?_ | refine callS.at (sc) ⟨leA, trivial⟩ ?_)
       (repeat ((repeat1' (first | simp -implicitDefEqProofs -dsimp only [go_sem, Alarm.v] | simp -dsimp (disch := omega) only [wrap_i64])); repeat (with_reducible refine sideA ?_)))
       cases hst : stepO x 3 0 with
       | none =>
         rw [hst] at hi1 cf1
         simp only [alV, Option.getD_none, Option.isSome_none] at hi1
         rw [Option.isSome_none] at cf1
         (first | refine callT.at (hi1) ⟨leA, leA, trivial⟩ ?_ | refine callS.at (hi1) ⟨leA, leA, trivial⟩ ?_)
         (repeat ((repeat1' (first | simp -implicitDefEqProofs -dsimp only [go_sem, Alarm.v, ← cf1] | simp -dsimp (disch := omega) only [wrap_i64])); repeat (with_reducible refine sideA ?_)))
         refine callS.rel [] (drawStationsMissing_ok hB) (by decide) ⟨leO, trivial⟩ rfl rfl (fun r hout hΦ => ?_)
         obtain ⟨y, hy, hyl, rfl, rfl⟩ := hΦ
         refine ⟨trivial, ?_⟩
         (repeat ((repeat1' (first | simp -implicitDefEqProofs -dsimp only [go_sem, Alarm.v] | simp -dsimp (disch := omega) only [wrap_i64])); repeat (with_reducible refine sideA ?_)))
         have im := iStationsMissing_ok y (by omega)
         have sm := sStationsMissing_ok y (by omega)
         obtain ⟨mv, mb, hm⟩ : ∃ (mv : Int) (mb : Bool), missR y = [.int .i64 mv, .bool mb] := by
           unfold missR
           split <;> exact ⟨_, _, rfl⟩
         rw [hm] at im sm
         (first | refine callT.at (im) ⟨leA, trivial⟩ ?_ | refine callS.at (im) ⟨leA, trivial⟩ ?_)
         (repeat ((repeat1' (first | simp -implicitDefEqProofs -dsimp only [go_sem, Alarm.v] | simp -dsimp (disch := omega) only [wrap_i64])); repeat (with_reducible refine sideA ?_)))
         (first | refine callT.at (sm) ⟨leA, trivial⟩ ?_ | refine callS.at (sm) ⟨leA, trivial⟩ ?_)
         (repeat ((repeat1' (first | simp -implicitDefEqProofs -dsimp only [go_sem, Alarm.v] | simp -dsimp (disch := omega) only [wrap_i64])); repeat (with_reducible refine sideA ?_)))
         (first | refine callT.at (iHeardByF y (by omega)) ⟨leA, trivial⟩ ?_ | refine callS.at (iHeardByF y (by omega)) ⟨leA, trivial⟩ ?_)
         (repeat ((repeat1' (first | simp -implicitDefEqProofs -dsimp only [go_sem, Alarm.v] | simp -dsimp (disch := omega) only [wrap_i64])); repeat (with_reducible refine sideA ?_)))
         (first | refine callT.at (sHeardByF y (by omega)) ⟨leA, trivial⟩ ?_ | refine callS.at (sHeardByF y (by omega)) ⟨leA, trivial⟩ ?_)
         (repeat ((repeat1' (first | simp -implicitDefEqProofs -dsimp only [go_sem, Alarm.v] | simp -dsimp (disch := omega) only [wrap_i64])); repeat (with_reducible refine sideA ?_)))
         have hbl := hbL_len y (by omega)
         (first | refine callT.at (vInts_ok (hbL y) (by omega)) ⟨leA, leA, trivial⟩ ?_ | refine callS.at (vInts_ok (hbL y) (by omega)) ⟨leA, leA, trivial⟩ ?_)
         (repeat ((repeat1' (first | simp -implicitDefEqProofs -dsimp only [go_sem] | simp -dsimp (disch := omega) only [wrap_i64])); repeat (with_reducible refine sideA ?_)))
         refine callS.rel [] (drawAlarmText_ok hB) (by decide) ⟨leO, trivial⟩ rfl rfl (fun r hout hΦ => ?_)
         obtain ⟨z, hz, hzl, rfl, rfl⟩ := hΦ
         refine ⟨trivial, ?_⟩
         (repeat ((repeat1' (first | simp -implicitDefEqProofs -dsimp only [go_sem, Alarm.v] | simp -dsimp (disch := omega) only [wrap_i64])); repeat (with_reducible refine sideA ?_)))
         have it := iAlarmText_ok z (by omega)
         have sp := sAlarmText_ok z (by omega)
         have ii := iIsAlarm_ok z (by omega)
         cases hzb : alarmB z with
         | false =>
           simp only [alarmTextR, hzb, Bool.false_eq_true, if_false] at it sp
           rw [hzb] at ii
           (first | refine callT.at (it) ⟨leA, trivial⟩ ?_ | refine callS.at (it) ⟨leA, trivial⟩ ?_)
           (repeat ((repeat1' (first | simp -implicitDefEqProofs -dsimp only [go_sem, Alarm.v] | simp -dsimp (disch := omega) only [wrap_i64])); repeat (with_reducible refine sideA ?_)))
           (first | refine callT.at (sp) ⟨leA, trivial⟩ ?_ | refine callS.at (sp) ⟨leA, trivial⟩ ?_)
           (repeat ((repeat1' (first | simp -implicitDefEqProofs -dsimp only [go_sem, Alarm.v] | simp -dsimp (disch := omega) only [wrap_i64])); repeat (with_reducible refine sideA ?_)))
           first | ((first | refine callT.at (ii) ⟨leA, trivial⟩ ?_ | refine callS.at (ii) ⟨leA, trivial⟩ ?_); (repeat ((repeat1' (first | simp -implicitDefEqProofs -dsimp only [go_sem] | simp -dsimp (disch := omega) only [wrap_i64])); repeat (with_reducible refine sideA ?_)))) | skip
           exact WeakR.drop' (by simp) (by rfl)
         | true =>
           simp only [alarmTextR, hzb, if_true] at it sp
           rw [hzb] at ii
           (first | refine callT.at (it) ⟨leA, trivial⟩ ?_ | refine callS.at (it) ⟨leA, trivial⟩ ?_)
           (repeat ((repeat1' (first | simp -implicitDefEqProofs -dsimp only [go_sem, Alarm.v] | simp -dsimp (disch := omega) only [wrap_i64])); repeat (with_reducible refine sideA ?_)))
           (first | refine callT.at (sp) ⟨leA, trivial⟩ ?_ | refine callS.at (sp) ⟨leA, trivial⟩ ?_)
           (repeat ((repeat1' (first | simp -implicitDefEqProofs -dsimp only [go_sem, Alarm.v] | simp -dsimp (disch := omega) only [wrap_i64])); repeat (with_reducible refine sideA ?_)))
           first | ((first | refine callT.at (ii) ⟨leA, trivial⟩ ?_ | refine callS.at (ii) ⟨leA, trivial⟩ ?_); (repeat ((repeat1' (first | simp -implicitDefEqProofs -dsimp only [go_sem] | simp -dsimp (disch := omega) only [wrap_i64])); repeat (with_reducible refine sideA ?_)))) | skip
           exact WeakR.drop' (by simp) (by rfl)
       | some b =>
         rw [hst] at hi1 cf1
         simp only [alV, Option.getD_some, Option.isSome_some] at hi1
         rw [Option.isSome_some] at cf1
         have e := cf2 b hst
         have A := alarmB_ok hxb
         have g1 := A.canc
         have g2 := A.given
         have hw1 : IntKind.i64.wrap (x.Cancelled + 1) = x.Cancelled + 1 := wrap_i64 (by omega) (by omega)
         (first | refine callT.at (hi1) ⟨leA, leA, trivial⟩ ?_ | refine callS.at (hi1) ⟨leA, leA, trivial⟩ ?_)
         (repeat ((repeat1' (first | simp -implicitDefEqProofs -dsimp only [go_sem, Alarm.v, ← cf1, e, hw1] | simp -dsimp (disch := omega) only [wrap_i64])); repeat (with_reducible refine sideA ?_)))
         refine callS.rel [] (drawStationsMissing_ok hB) (by decide) ⟨leO, trivial⟩ rfl rfl (fun r hout hΦ => ?_)
         obtain ⟨y, hy, hyl, rfl, rfl⟩ := hΦ
         refine ⟨trivial, ?_⟩
         (repeat ((repeat1' (first | simp -implicitDefEqProofs -dsimp only [go_sem, Alarm.v] | simp -dsimp (disch := omega) only [wrap_i64])); repeat (with_reducible refine sideA ?_)))
         have im := iStationsMissing_ok y (by omega)
         have sm := sStationsMissing_ok y (by omega)
         obtain ⟨mv, mb, hm⟩ : ∃ (mv : Int) (mb : Bool), missR y = [.int .i64 mv, .bool mb] := by
           unfold missR
           split <;> exact ⟨_, _, rfl⟩
         rw [hm] at im sm
         (first | refine callT.at (im) ⟨leA, trivial⟩ ?_ | refine callS.at (im) ⟨leA, trivial⟩ ?_)
         (repeat ((repeat1' (first | simp -implicitDefEqProofs -dsimp only [go_sem, Alarm.v] | simp -dsimp (disch := omega) only [wrap_i64])); repeat (with_reducible refine sideA ?_)))
         (first | refine callT.at (sm) ⟨leA, trivial⟩ ?_ | refine callS.at (sm) ⟨leA, trivial⟩ ?_)
         (repeat ((repeat1' (first | simp -implicitDefEqProofs -dsimp only [go_sem, Alarm.v] | simp -dsimp (disch := omega) only [wrap_i64])); repeat (with_reducible refine sideA ?_)))
         (first | refine callT.at (iHeardByF y (by omega)) ⟨leA, trivial⟩ ?_ | refine callS.at (iHeardByF y (by omega)) ⟨leA, trivial⟩ ?_)
         (repeat ((repeat1' (first | simp -implicitDefEqProofs -dsimp only [go_sem, Alarm.v] | simp -dsimp (disch := omega) only [wrap_i64])); repeat (with_reducible refine sideA ?_)))
         (first | refine callT.at (sHeardByF y (by omega)) ⟨leA, trivial⟩ ?_ | refine callS.at (sHeardByF y (by omega)) ⟨leA, trivial⟩ ?_)
         (repeat ((repeat1' (first | simp -implicitDefEqProofs -dsimp only [go_sem, Alarm.v] | simp -dsimp (disch := omega) only [wrap_i64])); repeat (with_reducible refine sideA ?_)))
         have hbl := hbL_len y (by omega)
         (first | refine callT.at (vInts_ok (hbL y) (by omega)) ⟨leA, leA, trivial⟩ ?_ | refine callS.at (vInts_ok (hbL y) (by omega)) ⟨leA, leA, trivial⟩ ?_)
         (repeat ((repeat1' (first | simp -implicitDefEqProofs -dsimp only [go_sem] | simp -dsimp (disch := omega) only [wrap_i64])); repeat (with_reducible refine sideA ?_)))
         refine callS.rel [] (drawAlarmText_ok hB) (by decide) ⟨leO, trivial⟩ rfl rfl (fun r hout hΦ => ?_)
         obtain ⟨z, hz, hzl, rfl, rfl⟩ := hΦ
         refine ⟨trivial, ?_⟩
         (repeat ((repeat1' (first | simp -implicitDefEqProofs -dsimp only [go_sem, Alarm.v] | simp -dsimp (disch := omega) only [wrap_i64])); repeat (with_reducible refine sideA ?_)))
         have it := iAlarmText_ok z (by omega)
         have sp := sAlarmText_ok z (by omega)
         have ii := iIsAlarm_ok z (by omega)
         cases hzb : alarmB z with
         | false =>
           simp only [alarmTextR, hzb, Bool.false_eq_true, if_false] at it sp
           rw [hzb] at ii
           (first | refine callT.at (it) ⟨leA, trivial⟩ ?_ | refine callS.at (it) ⟨leA, trivial⟩ ?_)
           (repeat ((repeat1' (first | simp -implicitDefEqProofs -dsimp only [go_sem, Alarm.v] | simp -dsimp (disch := omega) only [wrap_i64])); repeat (with_reducible refine sideA ?_)))
           (first | refine callT.at (sp) ⟨leA, trivial⟩ ?_ | refine callS.at (sp) ⟨leA, trivial⟩ ?_)
           (repeat ((repeat1' (first | simp -implicitDefEqProofs -dsimp only [go_sem, Alarm.v] | simp -dsimp (disch := omega) only [wrap_i64])); repeat (with_reducible refine sideA ?_)))
           first | ((first | refine callT.at (ii) ⟨leA, trivial⟩ ?_ | refine callS.at (ii) ⟨leA, trivial⟩ ?_); (repeat ((repeat1' (first | simp -implicitDefEqProofs -dsimp only [go_sem] | simp -dsimp (disch := omega) only [wrap_i64])); repeat (with_reducible refine sideA ?_)))) | skip
           exact WeakR.drop' (by simp) (by rfl)
         | true =>
           simp only [alarmTextR, hzb, if_true] at it sp
           rw [hzb] at ii
           (first | refine callT.at (it) ⟨leA, trivial⟩ ?_ | refine callS.at (it) ⟨leA, trivial⟩ ?_)
           (repeat ((repeat1' (first | simp -implicitDefEqProofs -dsimp only [go_sem, Alarm.v] | simp -dsimp (disch := omega) only [wrap_i64])); repeat (with_reducible refine sideA ?_)))
           (first | refine callT.at (sp) ⟨leA, trivial⟩ ?_ | refine callS.at (sp) ⟨leA, trivial⟩ ?_)
           (repeat ((repeat1' (first | simp -implicitDefEqProofs -dsimp only [go_sem, Alarm.v] | simp -dsimp (disch := omega) only [wrap_i64])); repeat (with_reducible refine sideA ?_)))
           first | ((first | refine callT.at (ii) ⟨leA, trivial⟩ ?_ | refine callS.at (ii) ⟨leA, trivial⟩ ?_); (repeat ((repeat1' (first | simp -implicitDefEqProofs -dsimp only [go_sem] | simp -dsimp (disch := omega) only [wrap_i64])); repeat (with_reducible refine sideA ?_)))) | skip
           exact WeakR.drop' (by simp) (by rfl)
   | some b =>
     have ff := hst
     rw [etn] at ff
     obtain ⟨f1, f2⟩ := forget_facts h0 has ff
     have hbb := (stepO_ok hst).1
     have hbl := stepO_len' hst
     rw [hst] at hi1
     simp only [alV, Option.getD_some, Option.isSome_some] at hi1
     have h2 := iHeardByF b (by omega)
     rw [hbb] at h2
     have ea : hbL a = insSort ltI (stationsA a) := by simp [hbL, hab]
     have eb : hbL b = insSort ltI (stationsA b) := by simp [hbL, hbb]
     have la := hbL_len a hal
     have lb := hbL_len b hbl
     have hlt : (hbL b).length < (hbL a).length := by rw [ea, eb, insSort_len, insSort_len]; exact f1
     have hwi : ∀ y ∈ hbL b, y ∈ hbL a := fun y hy => by
       rw [eb] at hy
       rw [ea]
       exact mem_insA.2 (f2 y (mem_insA.1 hy))
     have hd : decide (((hbL a).length : Int) ≤ ((hbL b).length : Int)) = false := decide_eq_false (by omega)
     (first | refine callT.at (hi1) ⟨leA, leA, trivial⟩ ?_ | refine callS.at (hi1) ⟨leA, leA, trivial⟩ ?_)
     (repeat ((repeat1' (first | simp -implicitDefEqProofs -dsimp only [go_sem, Alarm.v] | simp -dsimp (disch := omega) only [wrap_i64])); repeat (with_reducible refine sideA ?_)))
     (first | refine callT.at (h2) ⟨leA, trivial⟩ ?_ | refine callS.at (h2) ⟨leA, trivial⟩ ?_)
     (repeat ((repeat1' (first | simp -implicitDefEqProofs -dsimp only [go_sem, hd] | simp -dsimp (disch := omega) only [wrap_i64])); repeat (with_reducible refine sideA ?_)))
     (first | refine callT.at (vWithin_ok (hbL b) (hbL a) (by omega) (by omega) hwi) ⟨leA, leA, trivial⟩ ?_ | refine callS.at (vWithin_ok (hbL b) (hbL a) (by omega) (by omega) hwi) ⟨leA, leA, trivial⟩ ?_)
     (repeat ((repeat1' (first | simp -implicitDefEqProofs -dsimp only [go_sem] | simp -dsimp (disch := omega) only [wrap_i64])); repeat (with_reducible refine sideA ?_)))
     refine callS.rel [] (drawCanCancel_ok hB) (by decide) ⟨leO, trivial⟩ rfl rfl (fun r hout hΦ => ?_)
     obtain ⟨x, hx, hxl, rfl, rfl⟩ := hΦ
     refine ⟨trivial, ?_⟩
     (repeat ((repeat1' (first | simp -implicitDefEqProofs -dsimp only [go_sem, Alarm.v] | simp -dsimp (disch := omega) only [wrap_i64])); repeat (with_reducible refine sideA ?_)))
     have ic := iCanCancel_ok x (by omega)
     have sc := sCanCancel_ok x (by omega)
     cases hxb : alarmB x with
     | false =>
       rw [hxb, Bool.false_and] at ic sc
       (first | refine callT.at (ic) ⟨leA, trivial⟩ ?_ | refine callS.at (ic) ⟨leA, trivial⟩ ?_)
       (repeat ((repeat1' (first | simp -implicitDefEqProofs -dsimp only [go_sem, Alarm.v] | simp -dsimp (disch := omega) only [wrap_i64])); repeat (with_reducible refine sideA ?_)))
       (first | refine callT.at (sc) ⟨leA, trivial⟩ ?_ | refine callS.at (sc) ⟨leA, trivial⟩ ?_)
       (repeat ((repeat1' (first | simp -implicitDefEqProofs -dsimp only [go_sem, Alarm.v] | simp -dsimp (disch := omega) only [wrap_i64])); repeat (with_reducible refine sideA ?_)))
       refine callS.rel [] (drawStationsMissing_ok hB) (by decide) ⟨leO, trivial⟩ rfl rfl (fun r hout hΦ => ?_)
       obtain ⟨y, hy, hyl, rfl, rfl⟩ := hΦ
       refine ⟨trivial, ?_⟩
       (repeat ((repeat1' (first | simp -implicitDefEqProofs -dsimp only [go_sem, Alarm.v] | simp -dsimp (disch := omega) only [wrap_i64])); repeat (with_reducible refine sideA ?_)))
       have im := iStationsMissing_ok y (by omega)
       have sm := sStationsMissing_ok y (by omega)
       obtain ⟨mv, mb, hm⟩ : ∃ (mv : Int) (mb : Bool), missR y = [.int .i64 mv, .bool mb] := by
         unfold missR
         split <;> exact ⟨_, _, rfl⟩
       rw [hm] at im sm
       (first | refine callT.at (im) ⟨leA, trivial⟩ ?_ | refine callS.at (im) ⟨leA, trivial⟩ ?_)
       (repeat ((repeat1' (first | simp -implicitDefEqProofs -dsimp only [go_sem, Alarm.v] | simp -dsimp (disch := omega) only [wrap_i64])); repeat (with_reducible refine sideA ?_)))
       (first | refine callT.at (sm) ⟨leA, trivial⟩ ?_ | refine callS.at (sm) ⟨leA, trivial⟩ ?_)
       (repeat ((repeat1' (first | simp -implicitDefEqProofs -dsimp only [go_sem, Alarm.v] | simp -dsimp (disch := omega) only [wrap_i64])); repeat (with_reducible refine sideA ?_)))
       (first | refine callT.at (iHeardByF y (by omega)) ⟨leA, trivial⟩ ?_ | refine callS.at (iHeardByF y (by omega)) ⟨leA, trivial⟩ ?_)
       (repeat ((repeat1' (first | simp -implicitDefEqProofs -dsimp only [go_sem, Alarm.v] | simp -dsimp (disch := omega) only [wrap_i64])); repeat (with_reducible refine sideA ?_)))
       (first | refine callT.at (sHeardByF y (by omega)) ⟨leA, trivial⟩ ?_ | refine callS.at (sHeardByF y (by omega)) ⟨leA, trivial⟩ ?_)
       (repeat ((repeat1' (first | simp -implicitDefEqProofs -dsimp only [go_sem, Alarm.v] | simp -dsimp (disch := omega) only [wrap_i64])); repeat (with_reducible refine sideA ?_)))
       have hbl := hbL_len y (by omega)
       (first | refine callT.at (vInts_ok (hbL y) (by omega)) ⟨leA, leA, trivial⟩ ?_ | refine callS.at (vInts_ok (hbL y) (by omega)) ⟨leA, leA, trivial⟩ ?_)
       (repeat ((repeat1' (first | simp -implicitDefEqProofs -dsimp only [go_sem] | simp -dsimp (disch := omega) only [wrap_i64])); repeat (with_reducible refine sideA ?_)))
       refine callS.rel [] (drawAlarmText_ok hB) (by decide) ⟨leO, trivial⟩ rfl rfl (fun r hout hΦ => ?_)
       obtain ⟨z, hz, hzl, rfl, rfl⟩ := hΦ
       refine ⟨trivial, ?_⟩
       (repeat ((repeat1' (first | simp -implicitDefEqProofs -dsimp only [go_sem, Alarm.v] | simp -dsimp (disch := omega) only [wrap_i64])); repeat (with_reducible refine sideA ?_)))
       have it := iAlarmText_ok z (by omega)
       have sp := sAlarmText_ok z (by omega)
       have ii := iIsAlarm_ok z (by omega)
       cases hzb : alarmB z with
       | false =>
         simp only [alarmTextR, hzb, Bool.false_eq_true, if_false] at it sp
         rw [hzb] at ii
         (first | refine callT.at (it) ⟨leA, trivial⟩ ?_ | refine callS.at (it) ⟨leA, trivial⟩ ?_)
         (repeat ((repeat1' (first | simp -implicitDefEqProofs -dsimp only [go_sem, Alarm.v] | simp -dsimp (disch := omega) only [wrap_i64])); repeat (with_reducible refine sideA ?_)))
         (first | refine callT.at (sp) ⟨leA, trivial⟩ ?_ | refine callS.at (sp) ⟨leA, trivial⟩ ?_)
         (repeat ((repeat1' (first | simp -implicitDefEqProofs -dsimp only [go_sem, Alarm.v] | simp -dsimp (disch := omega) only [wrap_i64])); repeat (with_reducible refine sideA ?_)))
         first | ((first | refine callT.at (ii) ⟨leA, trivial⟩ ?_ | refine callS.at (ii) ⟨leA, trivial⟩ ?_); (repeat ((repeat1' (first | simp -implicitDefEqProofs -dsimp only [go_sem] | simp -dsimp (disch := omega) only [wrap_i64])); repeat (with_reducible refine sideA ?_)))) | skip
         exact WeakR.drop' (by simp) (by rfl)
       | true =>
         simp only [alarmTextR, hzb, if_true] at it sp
         rw [hzb] at ii
         (first | refine callT.at (it) ⟨leA, trivial⟩ ?_ | refine callS.at (it) ⟨leA, trivial⟩ ?_)
         (repeat ((repeat1' (first | simp -implicitDefEqProofs -dsimp only [go_sem, Alarm.v] | simp -dsimp (disch := omega) only [wrap_i64])); repeat (with_reducible refine sideA ?_)))
         (first | refine callT.at (sp) ⟨leA, trivial⟩ ?_ | refine callS.at (sp) ⟨leA, trivial⟩ ?_)
         (repeat ((repeat1' (first | simp -implicitDefEqProofs -dsimp only [go_sem, Alarm.v] | simp -dsimp (disch := omega) only [wrap_i64])); repeat (with_reducible refine sideA ?_)))
         first | ((first | refine callT.at (ii) ⟨leA, trivial⟩ ?_ | refine callS.at (ii) ⟨leA, trivial⟩ ?_); (repeat ((repeat1' (first | simp -implicitDefEqProofs -dsimp only [go_sem] | simp -dsimp (disch := omega) only [wrap_i64])); repeat (with_reducible refine sideA ?_)))) | skip
         exact WeakR.drop' (by simp) (by rfl)
     | true =>
       rw [hxb, Bool.true_and] at ic sc
       obtain ⟨cf1, cf2⟩ := cancel_facts hxb
       have hi1 := (iStepAlarm_ok x 3 0 (by omega)).weak frzAi
       (first | refine callT.at (ic) ⟨leA, trivial⟩ ?_ | refine callS.at (ic) ⟨leA, trivial⟩ ?_)
       (repeat ((repeat1' (first | simp -implicitDefEqProofs -dsimp only [go_sem, Alarm.v] | simp -dsimp (disch := omega) only [wrap_i64])); repeat (with_reducible refine sideA ?_)))
       (first | refine callT.at (sc) ⟨leA, trivial⟩ ?_ | refine callS.at (sc) ⟨leA, trivial⟩ ?_)
       (repeat ((repeat1' (first | simp -implicitDefEqProofs -dsimp only [go_sem, Alarm.v] | simp -dsimp (disch := omega) only [wrap_i64])); repeat (with_reducible refine sideA ?_)))
       cases hst : stepO x 3 0 with
       | none =>
         rw [hst] at hi1 cf1
         simp only [alV, Option.getD_none, Option.isSome_none] at hi1
         rw [Option.isSome_none] at cf1
         (first | refine callT.at (hi1) ⟨leA, leA, trivial⟩ ?_ | refine callS.at (hi1) ⟨leA, leA, trivial⟩ ?_)
         (repeat ((repeat1' (first | simp -implicitDefEqProofs -dsimp only [go_sem, Alarm.v, ← cf1] | simp -dsimp (disch := omega) only [wrap_i64])); repeat (with_reducible refine sideA ?_)))
         refine callS.rel [] (drawStationsMissing_ok hB) (by decide) ⟨leO, trivial⟩ rfl rfl (fun r hout hΦ => ?_)
         obtain ⟨y, hy, hyl, rfl, rfl⟩ := hΦ
         refine ⟨trivial, ?_⟩
         (repeat ((repeat1' (first | simp -implicitDefEqProofs -dsimp only [go_sem, Alarm.v] | simp -dsimp (disch := omega) only [wrap_i64])); repeat (with_reducible refine sideA ?_)))
         have im := iStationsMissing_ok y (by omega)
         have sm := sStationsMissing_ok y (by omega)
         obtain ⟨mv, mb, hm⟩ : ∃ (mv : Int) (mb : Bool), missR y = [.int .i64 mv, .bool mb] := by
           unfold missR
           split <;> exact ⟨_, _, rfl⟩
         rw [hm] at im sm
         (first | refine callT.at (im) ⟨leA, trivial⟩ ?_ | refine callS.at (im) ⟨leA, trivial⟩ ?_)
         (repeat ((repeat1' (first | simp -implicitDefEqProofs -dsimp only [go_sem, Alarm.v] | simp -dsimp (disch := omega) only [wrap_i64])); repeat (with_reducible refine sideA ?_)))
         (first | refine callT.at (sm) ⟨leA, trivial⟩ ?_ | refine callS.at (sm) ⟨leA, trivial⟩ ?_)
         (repeat ((repeat1' (first | simp -implicitDefEqProofs -dsimp only [go_sem, Alarm.v] | simp -dsimp (disch := omega) only [wrap_i64])); repeat (with_reducible refine sideA ?_)))
         (first | refine callT.at (iHeardByF y (by omega)) ⟨leA, trivial⟩ ?_ | refine callS.at (iHeardByF y (by omega)) ⟨leA, trivial⟩ ?_)
         (repeat ((repeat1' (first | simp -implicitDefEqProofs -dsimp only [go_sem, Alarm.v] | simp -dsimp (disch := omega) only [wrap_i64])); repeat (with_reducible refine sideA ?_)))
         (first | refine callT.at (sHeardByF y (by omega)) ⟨leA, trivial⟩ ?_ | refine callS.at (sHeardByF y (by omega)) ⟨leA, trivial⟩ ?_)
         (repeat ((repeat1' (first | simp -implicitDefEqProofs -dsimp only [go_sem, Alarm.v] | simp -dsimp (disch := omega) only [wrap_i64])); repeat (with_reducible refine sideA ?_)))
         have hbl := hbL_len y (by omega)
         (first | refine callT.at (vInts_ok (hbL y) (by omega)) ⟨leA, leA, trivial⟩ ?_ | refine callS.at (vInts_ok (hbL y) (by omega)) ⟨leA, leA, trivial⟩ ?_)
         (repeat ((repeat1' (first | simp -implicitDefEqProofs -dsimp only [go_sem] | simp -dsimp (disch := omega) only [wrap_i64])); repeat (with_reducible refine sideA ?_)))
         refine callS.rel [] (drawAlarmText_ok hB) (by decide) ⟨leO, trivial⟩ rfl rfl (fun r hout hΦ => ?_)
         obtain ⟨z, hz, hzl, rfl, rfl⟩ := hΦ
         refine ⟨trivial, ?_⟩
         (repeat ((repeat1' (first | simp -implicitDefEqProofs -dsimp only [go_sem, Alarm.v] | simp -dsimp (disch := omega) only [wrap_i64])); repeat (with_reducible refine sideA ?_)))
         have it := iAlarmText_ok z (by omega)
         have sp := sAlarmText_ok z (by omega)
         have ii := iIsAlarm_ok z (by omega)
         cases hzb : alarmB z with
         | false =>
           simp only [alarmTextR, hzb, Bool.false_eq_true, if_false] at it sp
           rw [hzb] at ii
           (first | refine callT.at (it) ⟨leA, trivial⟩ ?_ | refine callS.at (it) ⟨leA, trivial⟩ ?_)
           (repeat ((repeat1' (first | simp -implicitDefEqProofs -dsimp only [go_sem, Alarm.v] | simp -dsimp (disch := omega) only [wrap_i64])); repeat (with_reducible refine sideA ?_)))
           (first | refine callT.at (sp) ⟨leA, trivial⟩ ?_ | refine callS.at (sp) ⟨leA, trivial⟩ ?_)
           (repeat ((repeat1' (first | simp -implicitDefEqProofs -dsimp only [go_sem, Alarm.v] | simp -dsimp (disch := omega) only [wrap_i64])); repeat (with_reducible refine sideA ?_)))
           first | ((first | refine callT.at (ii) ⟨leA, trivial⟩ ?_ | refine callS.at (ii) ⟨leA, trivial⟩ ?_); (repeat ((repeat1' (first | simp -implicitDefEqProofs -dsimp only [go_sem] | simp -dsimp (disch := omega) only [wrap_i64])); repeat (with_reducible refine sideA ?_)))) | skip
           exact WeakR.drop' (by simp) (by rfl)
         | true =>
           simp only [alarmTextR, hzb, if_true] at it sp
           rw [hzb] at ii
           (first | refine callT.at (it) ⟨leA, trivial⟩ ?_ | refine callS.at (it) ⟨leA, trivial⟩ ?_)
           (repeat ((repeat1' (first | simp -implicitDefEqProofs -dsimp only [go_sem, Alarm.v] | simp -dsimp (disch := omega) only [wrap_i64])); repeat (with_reducible refine sideA ?_)))
           (first | refine callT.at (sp) ⟨leA, trivial⟩ ?_ | refine callS.at (sp) ⟨leA, trivial⟩ ?_)
           (repeat ((repeat1' (first | simp -implicitDefEqProofs -dsimp only [go_sem, Alarm.v] | simp -dsimp (disch := omega) only [wrap_i64])); repeat (with_reducible refine sideA ?_)))
           first | ((first | refine callT.at (ii) ⟨leA, trivial⟩ ?_ | refine callS.at (ii) ⟨leA, trivial⟩ ?_); (repeat ((repeat1' (first | simp -implicitDefEqProofs -dsimp only [go_sem] | simp -dsimp (disch := omega) only [wrap_i64])); repeat (with_reducible refine sideA ?_)))) | skip
           exact WeakR.drop' (by simp) (by rfl)
       | some b =>
         rw [hst] at hi1 cf1
         simp only [alV, Option.getD_some, Option.isSome_some] at hi1
         rw [Option.isSome_some] at cf1
         have e := cf2 b hst
         have A := alarmB_ok hxb
         have g1 := A.canc
         have g2 := A.given
         have hw1 : IntKind.i64.wrap (x.Cancelled + 1) = x.Cancelled + 1 := wrap_i64 (by omega) (by omega)
         (first | refine callT.at (hi1) ⟨leA, leA, trivial⟩ ?_ | refine callS.at (hi1) ⟨leA, leA, trivial⟩ ?_)
         (repeat ((repeat1' (first | simp -implicitDefEqProofs -dsimp only [go_sem, Alarm.v, ← cf1, e, hw1] | simp -dsimp (disch := omega) only [wrap_i64])); repeat (with_reducible refine sideA ?_)))
         refine callS.rel [] (drawStationsMissing_ok hB) (by decide) ⟨leO, trivial⟩ rfl rfl (fun r hout hΦ => ?_)
         obtain ⟨y, hy, hyl, rfl, rfl⟩ := hΦ
         refine ⟨trivial, ?_⟩
         (repeat ((repeat1' (first | simp -implicitDefEqProofs -dsimp only [go_sem, Alarm.v] | simp -dsimp (disch := omega) only [wrap_i64])); repeat (with_reducible refine sideA ?_)))
         have im := iStationsMissing_ok y (by omega)
         have sm := sStationsMissing_ok y (by omega)
         obtain ⟨mv, mb, hm⟩ : ∃ (mv : Int) (mb : Bool), missR y = [.int .i64 mv, .bool mb] := by
           unfold missR
           split <;> exact ⟨_, _, rfl⟩
         rw [hm] at im sm
         (first | refine callT.at (im) ⟨leA, trivial⟩ ?_ | refine callS.at (im) ⟨leA, trivial⟩ ?_)
         (repeat ((repeat1' (first | simp -implicitDefEqProofs -dsimp only [go_sem, Alarm.v] | simp -dsimp (disch := omega) only [wrap_i64])); repeat (with_reducible refine sideA ?_)))
         (first | refine callT.at (sm) ⟨leA, trivial⟩ ?_ | refine callS.at (sm) ⟨leA, trivial⟩ ?_)
         (repeat ((repeat1' (first | simp -implicitDefEqProofs -dsimp only [go_sem, Alarm.v] | simp -dsimp (disch := omega) only [wrap_i64])); repeat (with_reducible refine sideA ?_)))
         (first | refine callT.at (iHeardByF y (by omega)) ⟨leA, trivial⟩ ?_ | refine callS.at (iHeardByF y (by omega)) ⟨leA, trivial⟩ ?_)
         (repeat ((repeat1' (first | simp -implicitDefEqProofs -dsimp only [go_sem, Alarm.v] | simp -dsimp (disch := omega) only [wrap_i64])); repeat (with_reducible refine sideA ?_)))
         (first | refine callT.at (sHeardByF y (by omega)) ⟨leA, trivial⟩ ?_ | refine callS.at (sHeardByF y (by omega)) ⟨leA, trivial⟩ ?_)
         (repeat ((repeat1' (first | simp -implicitDefEqProofs -dsimp only [go_sem, Alarm.v] | simp -dsimp (disch := omega) only [wrap_i64])); repeat (with_reducible refine sideA ?_)))
         have hbl := hbL_len y (by omega)
         (first | refine callT.at (vInts_ok (hbL y) (by omega)) ⟨leA, leA, trivial⟩ ?_ | refine callS.at (vInts_ok (hbL y) (by omega)) ⟨leA, leA, trivial⟩ ?_)
         (repeat ((repeat1' (first | simp -implicitDefEqProofs -dsimp only [go_sem] | simp -dsimp (disch := omega) only [wrap_i64])); repeat (with_reducible refine sideA ?_)))
         refine callS.rel [] (drawAlarmText_ok hB) (by decide) ⟨leO, trivial⟩ rfl rfl (fun r hout hΦ => ?_)
         obtain ⟨z, hz, hzl, rfl, rfl⟩ := hΦ
         refine ⟨trivial, ?_⟩
         (repeat ((repeat1' (first | simp -implicitDefEqProofs -dsimp only [go_sem, Alarm.v] | simp -dsimp (disch := omega) only [wrap_i64])); repeat (with_reducible refine sideA ?_)))
         have it := iAlarmText_ok z (by omega)
         have sp := sAlarmText_ok z (by omega)
         have ii := iIsAlarm_ok z (by omega)
         cases hzb : alarmB z with
         | false =>
           simp only [alarmTextR, hzb, Bool.false_eq_true, if_false] at it sp
           rw [hzb] at ii
           (first | refine callT.at (it) ⟨leA, trivial⟩ ?_ | refine callS.at (it) ⟨leA, trivial⟩ ?_)
           (repeat ((repeat1' (first | simp -implicitDefEqProofs -dsimp only [go_sem, Alarm.v] | simp -dsimp (disch := omega) only [wrap_i64])); repeat (with_reducible refine sideA ?_)))
           (first | refine callT.at (sp) ⟨leA, trivial⟩ ?_ | refine callS.at (sp) ⟨leA, trivial⟩ ?_)
           (repeat ((repeat1' (first | simp -implicitDefEqProofs -dsimp only [go_sem, Alarm.v] | simp -dsimp (disch := omega) only [wrap_i64])); repeat (with_reducible refine sideA ?_)))
           first | ((first | refine callT.at (ii) ⟨leA, trivial⟩ ?_ | refine callS.at (ii) ⟨leA, trivial⟩ ?_); (repeat ((repeat1' (first | simp -implicitDefEqProofs -dsimp only [go_sem] | simp -dsimp (disch := omega) only [wrap_i64])); repeat (with_reducible refine sideA ?_)))) | skip
           exact WeakR.drop' (by simp) (by rfl)
         | true =>
           simp only [alarmTextR, hzb, if_true] at it sp
           rw [hzb] at ii
           (first | refine callT.at (it) ⟨leA, trivial⟩ ?_ | refine callS.at (it) ⟨leA, trivial⟩ ?_)
           (repeat ((repeat1' (first | simp -implicitDefEqProofs -dsimp only [go_sem, Alarm.v] | simp -dsimp (disch := omega) only [wrap_i64])); repeat (with_reducible refine sideA ?_)))
           (first | refine callT.at (sp) ⟨leA, trivial⟩ ?_ | refine callS.at (sp) ⟨leA, trivial⟩ ?_)
           (repeat ((repeat1' (first | simp -implicitDefEqProofs -dsimp only [go_sem, Alarm.v] | simp -dsimp (disch := omega) only [wrap_i64])); repeat (with_reducible refine sideA ?_)))
           first | ((first | refine callT.at (ii) ⟨leA, trivial⟩ ?_ | refine callS.at (ii) ⟨leA, trivial⟩ ?_); (repeat ((repeat1' (first | simp -implicitDefEqProofs -dsimp only [go_sem] | simp -dsimp (disch := omega) only [wrap_i64])); repeat (with_reducible refine sideA ?_)))) | skip
           exact WeakR.drop' (by simp) (by rfl)
end Go.Proofs
end
section
open Go.ChangeShapes Go.WideShapes
namespace Go.Lv

def ShC (P : Program) : Nat → TypeId → List V → Prop
 | 0, _, _ => False
 | n + 1, t, xs =>
   match P.underlying t with
   | some .bool => ∃ b, xs = [.bool b]
   | some (.int k) => ∃ z, xs = [.int k z] ∧ (Lit.int k z).wf = true
   | some .string => ∃ s : ByteArray, xs = [.str s] ∧ s.size ≤ maxLen
   | some (.slice e) => ∃ l cs, xs = [.sl l (P.cellsOf e) cs] ∧ l ≤ maxLen ∧ cs.length = l * P.cellsOf e ∧ ∀ i, i < l → ShC P n e ((cs.drop (i * P.cellsOf e)).take (P.cellsOf e))
   | some (.struct fs) => xs.length = P.cellsOf t ∧ ∀ f ∈ fs.toList, ShC P n f.type ((xs.drop f.offset).take (P.cellsOf f.type))
   | _ => False

def tiled (P : Program) : List Field → Nat → Nat → Bool
 | [], off, n => off == n
 | f :: fs, off, n => f.offset == off && tiled P fs (off + P.cellsOf f.type) n

def plainT (P : Program) : Nat → TypeId → Bool
 | 0, _ => false
 | n + 1, t =>
   match P.underlying t with
   | some .bool => true
   | some (.int _) => true
   | some .string => true
   | some (.slice e) => decide (0 < P.cellsOf e) && plainT P n e
   | some (.struct fs) => tiled P fs.toList 0 (P.cellsOf t) && fs.toList.all fun f => plainT P n f.type
   | _ => false

section
variable {P : Program} {w : World} {m : Nat → Nat}

def Rds (w : World) (m : Nat → Nat) (cs : List Value) (xs : List V) : Prop :=
 cs.length = xs.length ∧ ∀ i (hi : i < xs.length), RV w m [] (fun _ => False) false (cs.getD i Go.undef) xs[i]

theorem Rds.append {a b : List Value} {x y : List V} (h : Rds w m a x) (k : Rds w m b y) : Rds w m (a ++ b) (x ++ y) := by
 refine ⟨by simp [h.1, k.1], fun i hi => ?_⟩
 by_cases hlt : i < x.length
 · rw [List.getElem_append_left hlt]
   have := h.2 i hlt
   rw [List.getD_eq_getElem?_getD, List.getElem?_append_left (by rw [h.1]; exact hlt), ← List.getD_eq_getElem?_getD]
   exact this
 · rw [List.getElem_append_right (by omega)]
   have := k.2 (i - x.length) (by simp at hi; omega)
   rw [List.getD_eq_getElem?_getD, List.getElem?_append_right (by rw [h.1]; omega), ← List.getD_eq_getElem?_getD, h.1]
   exact this

theorem Rds.one {v : Value} {x : V} (h : RV w m [] (fun _ => False) false v x) : Rds w m [v] [x] :=
 ⟨rfl, fun i hi => by have : i = 0 := by simp at hi; omega
                      subst this; exact h⟩

theorem Rds.nil : Rds w m [] [] := ⟨rfl, fun i hi => by simp at hi⟩

theorem fields_sh {n : Nat} {cs : List Value} : ∀ (fs : List Field) (off : Nat), tiled P fs off cs.length = true → off ≤ cs.length →
   (∀ f ∈ fs, ∃ xs, Rds w m ((cs.drop f.offset).take (P.cellsOf f.type)) xs ∧ ShC P n f.type xs) →
   ∃ ys, Rds w m (cs.drop off) ys ∧ ∀ f ∈ fs, off ≤ f.offset ∧ ShC P n f.type ((ys.drop (f.offset - off)).take (P.cellsOf f.type))
 | [], off, ht, _, _ => by
   simp [tiled] at ht
   subst ht
   refine ⟨[], ?_, fun f hf => by simp at hf⟩
   rw [List.drop_of_length_le (Nat.le_refl _)]
   exact Rds.nil
 | f :: fs, off, ht, hle, h => by
   simp only [tiled, Bool.and_eq_true, beq_iff_eq] at ht
   obtain ⟨rfl, ht⟩ := ht
   have hlen : ∀ (fs : List Field) (o : Nat), tiled P fs o cs.length = true → o ≤ cs.length := by
     intro fs
     induction fs with
     | nil => intro o ht; simp [tiled] at ht; omega
     | cons g fs ih =>
       intro o ht
       simp only [tiled, Bool.and_eq_true, beq_iff_eq] at ht
       have := ih _ ht.2; omega
   have hk := hlen fs _ ht
   obtain ⟨x, hx1, hx2⟩ := h f (by simp)
   obtain ⟨ys, hy1, hy2⟩ := fields_sh fs _ ht hk (fun g hg => h g (by simp [hg]))
   have hxl : x.length = P.cellsOf f.type := by rw [← hx1.1]; simp; omega
   refine ⟨x ++ ys, ?_, fun g hg => ?_⟩
   · have : cs.drop f.offset = (cs.drop f.offset).take (P.cellsOf f.type) ++ cs.drop (f.offset + P.cellsOf f.type) := by
       rw [← List.drop_drop, List.take_append_drop]
     rw [this]
     exact hx1.append hy1
   · rcases List.mem_cons.1 hg with rfl | hg
     · refine ⟨Nat.le_refl _, ?_⟩
       rw [Nat.sub_self, List.drop_zero, List.take_append_of_le_length (by omega), List.take_of_length_le (by omega)]
       exact hx2
     · obtain ⟨h1, h2⟩ := hy2 g hg
       refine ⟨by omega, ?_⟩
       have : (x ++ ys).drop (g.offset - f.offset) = ys.drop (g.offset - (f.offset + P.cellsOf f.type)) := by
         rw [List.drop_append, List.drop_of_length_le (by omega), List.nil_append]
         congr 1
         omega
       rw [this]
       exact h2

theorem elems_sh {n e : Nat} {b off len : Nat} (h : ∀ i, i < len → ∃ cs xs, cs.length = P.cellsOf e ∧ (∀ j, j < P.cellsOf e → w.cell? ⟨b, off + (i * P.cellsOf e + j), none⟩ = cs[j]?) ∧ Rds w m cs xs ∧ ShC P n e xs) :
   ∀ k, k ≤ len → ∃ xs : List V, xs.length = k * P.cellsOf e ∧ (∀ j (hj : j < xs.length), ∃ v, w.cell? ⟨b, off + j, none⟩ = some v ∧ RV w m [] (fun _ => False) false v xs[j]) ∧
     ∀ i, i < k → ShC P n e ((xs.drop (i * P.cellsOf e)).take (P.cellsOf e))
 | 0, _ => ⟨[], by simp, fun j hj => by simp at hj, fun i hi => by omega⟩
 | k + 1, hk => by
   obtain ⟨xs, h1, h2, h3⟩ := elems_sh h k (by omega)
   obtain ⟨cs, ys, g1, g2, g3, g4⟩ := h k (by omega)
   have hyl : ys.length = P.cellsOf e := by rw [← g3.1, g1]
   refine ⟨xs ++ ys, by simp [h1, hyl, Nat.add_mul], fun j hj => ?_, fun i hi => ?_⟩
   · by_cases hlt : j < xs.length
     · rw [List.getElem_append_left hlt]
       exact h2 j hlt
     · rw [List.getElem_append_right (by omega)]
       have hj' : j - xs.length < ys.length := by simp at hj; omega
       have hr := g3.2 _ hj'
       have hc := g2 (j - xs.length) (by omega)
       have e1 : off + (k * P.cellsOf e + (j - xs.length)) = off + j := by omega
       rw [e1] at hc
       have hcl : j - xs.length < cs.length := by omega
       rw [List.getElem?_eq_getElem hcl] at hc
       refine ⟨_, hc, ?_⟩
       simpa [List.getD_eq_getElem?_getD, hcl] using hr
   · by_cases e2 : i = k
     · subst e2
       rw [← h1, List.drop_left, List.take_of_length_le (by omega)]
       exact g4
     · have hm : i * P.cellsOf e + P.cellsOf e ≤ xs.length := mul_room (n := k) (by omega) h1
       rw [List.drop_append_of_le_length (by omega), List.take_append_of_le_length (by simp; omega)]
       exact h3 i (by omega)

theorem trod_sh {H : Type} {enc : TypeId × Value → H} {spare : Nat → Bool} {held : Bool} : ∀ (n : Nat) (fuel : Nat) (t : TypeId) (cs : List Value) (x : DataW H × List MemPlace),
   DataW.trod enc P w 0 spare held fuel t cs = some x → plainT P n t = true → ∃ xs, Rds w m cs xs ∧ ShC P n t xs
 | 0, fuel, t, cs, x, _, hp => by simp [plainT] at hp
 | n + 1, fuel, t, cs, x, hx, hp => by
   unfold plainT at hp
   split at hp
   · rename_i hu
     obtain ⟨b, rfl, _⟩ := DataW.trod_bool hu hx
     exact ⟨[.bool b], Rds.one (.bool b), by unfold ShC; rw [hu]; exact ⟨b, rfl⟩⟩
   · rename_i k hu
     obtain ⟨z, rfl, _, hw⟩ := DataW.trod_int hu hx
     exact ⟨[.int k z], Rds.one (.int k z), by unfold ShC; rw [hu]; exact ⟨z, rfl, hw⟩⟩
   · rename_i hu
     obtain ⟨s, rfl, _, hs⟩ := DataW.trod_string hu hx
     exact ⟨[.str s], Rds.one (.str s), by unfold ShC; rw [hu]; exact ⟨s, rfl, hs⟩⟩
   · rename_i e hu
     simp only [Bool.and_eq_true, decide_eq_true_eq] at hp
     obtain ⟨hpos, hp⟩ := hp
     rcases Deep.open_slice hu hx with ⟨rfl, _⟩ | ⟨a, len, cap, mm, f, D, Pl, rfl, _, hle, hcap, hmm, _, hel⟩
     · refine ⟨[.sl 0 (P.cellsOf e) []], Rds.one (.slz _ _ _), ?_⟩
       unfold ShC; rw [hu]
       exact ⟨0, [], rfl, Nat.zero_le _, by simp, fun i hi => by omega⟩
     · by_cases h0 : len = 0
       · subst h0
         refine ⟨[.sl 0 (P.cellsOf e) []], Rds.one (.slz _ _ _), ?_⟩
         unfold ShC; rw [hu]
         exact ⟨0, [], rfl, Nat.zero_le _, by simp, fun i hi => by omega⟩
       · have hml : len ≤ mm := by rw [hmm]; split <;> omega
         obtain ⟨b, off, spot⟩ := a
         have hspot : spot = none := by
           obtain ⟨cs', hc, _⟩ := hel 0 (by omega)
           obtain ⟨_, hcl, hat⟩ := World.cells?_some hc
           have h1 := hat 0 hpos
           rw [List.getElem?_eq_getElem (by omega)] at h1
           simpa [Addr.add] using World.cell?_spot h1
         subst hspot
         have hall : ∀ i, i < len → ∃ cs xs, cs.length = P.cellsOf e ∧ (∀ j, j < P.cellsOf e → w.cell? ⟨b, off + (i * P.cellsOf e + j), none⟩ = cs[j]?) ∧ Rds w m cs xs ∧ ShC P n e xs := by
           intro i hi
           obtain ⟨cs', hc, ht⟩ := hel i (by omega)
           obtain ⟨_, hcl, hat⟩ := World.cells?_some hc
           obtain ⟨xs, h1, h2⟩ := trod_sh n _ e cs' _ ht hp
           refine ⟨cs', xs, hcl, fun j hj => ?_, h1, h2⟩
           have := hat j hj
           rw [Addr.add_lit, Addr.add_lit] at this
           rw [← this, Nat.add_assoc]
         obtain ⟨xs, h1, h2, h3⟩ := elems_sh hall len (Nat.le_refl _)
         refine ⟨[.sl len (P.cellsOf e) xs], Rds.one (.sl b off len cap (P.cellsOf e) xs (fun j => (w.cell? ⟨b, off + j, none⟩).getD Go.undef) h1 (fun _ h => h) hle (fun j hj => ?_) (fun j hj => ?_)), ?_⟩
         · obtain ⟨v, hv, _⟩ := h2 j hj
           simp [hv]
         · obtain ⟨v, hv, hr⟩ := h2 j hj
           simpa [hv] using hr
         · unfold ShC; rw [hu]
           exact ⟨len, xs, rfl, by omega, h1, h3⟩
   · rename_i fs hu
     simp only [Bool.and_eq_true, List.all_eq_true] at hp
     obtain ⟨xs, f, _, _, hl, hxl, hf⟩ := DataW.trod_struct hu hx
     have hfs : ∀ g ∈ fs.toList, ∃ ys, Rds w m ((cs.drop g.offset).take (P.cellsOf g.type)) ys ∧ ShC P n g.type ys := by
       intro g hg
       obtain ⟨i, hi, rfl⟩ := List.getElem_of_mem hg
       have hi' : i < fs.size := by simpa using hi
       have h1 := hf i fs[i] (Array.getElem?_eq_getElem hi')
       rw [List.getElem?_eq_getElem (by omega)] at h1
       exact trod_sh n _ _ _ _ (by simpa using h1) (hp.2 _ hg)
     obtain ⟨ys, h1, h2⟩ := fields_sh fs.toList 0 (by rw [hl]; exact hp.1) (Nat.zero_le _) hfs
     rw [List.drop_zero] at h1
     refine ⟨ys, h1, ?_⟩
     unfold ShC; rw [hu]
     exact ⟨by rw [← h1.1, hl], fun g hg => by simpa using (h2 g hg).2⟩
   · cases hp

end
section
variable {P : Program} {W : World}

theorem Rds.get {m : Nat → Nat} {a : List Value} {x : List V} (h : Rds W m a x) : a.length = x.length := h.1

theorem arg_one {H : Type} {enc : TypeId × Value → H} {spare : Nat → Bool} {held : Bool} {n : Nat} {t : TypeId} {v : Value} {d : DataW H} {p : List MemPlace} (m : Nat → Nat)
   (hv : v.cells = #[v]) (h : DataW.Trod enc P W 0 spare held t v d p) (hp : plainT P n t = true) : ∃ x, RV W m [] (fun _ => False) true v x ∧ ShC P n t [x] := by
 obtain ⟨fuel, hf⟩ := h
 rw [hv] at hf
 obtain ⟨xs, h1, h2⟩ := trod_sh (m := m) n fuel t _ _ hf hp
 match xs, h1 with
 | [x], h1 => exact ⟨x, by have := h1.2 0 (by simp); exact this.weak, h2⟩
 | [], h1 => simp [Rds] at h1
 | _ :: _ :: _, h1 => simp [Rds] at h1

theorem law_walk {f : FuncId} {xs : List V} {vs : Array Value} (m : Nat → Nat) (hc : Ctr P f xs [] (.bool true) []) (hgl : GL W (fun _ => False)) (hsz : vs.size = xs.length)
   (hr : ∀ i (hi : i < xs.length), RV W m [] (fun _ => False) true (vs.getD i Go.undef) xs[i]) :
   Calls P f vs W fun e w' => e = .returned (.bool true) ∧ RowKit.Below W.heap.size W w' := by
 refine (hc.2 W vs m (fun _ => False) ⟨fun i j ci cj h => by simp at h, fun id cs h => by simp at h, fun id cs h => by simp at h⟩ (fun b h => h.elim) hgl hsz hr).mono ?_
 rintro e w' ⟨v, m', rfl, hE, _, hv, _⟩
 refine ⟨by cases hv; rfl, hE.os, hE.tape, hE.output, hE.size, fun k hk => hE.block k hk (fun ⟨id, cs, h, _⟩ => by simp at h)⟩

end
end Go.Lv
end
section
namespace Go.Lv

theorem shC_u8 {P : Program} {t : TypeId} {n : Nat} {xs : List V} (hs : P.underlying t = some (.int .u8)) (h : ShC P (n + 1) t xs) : ∃ z, xs = [.int .u8 z] ∧ 0 ≤ z ∧ z ≤ 255 := by
 simp only [ShC, hs] at h
 obtain ⟨z, h1, h2⟩ := h
 refine ⟨z, h1, ?_⟩
 simp [Lit.wf, IntKind.min, IntKind.max, IntKind.signed, IntKind.bits] at h2
 exact h2

theorem shC_list {P : Program} {t e : TypeId} {n : Nat} {xs : List V} (hs : P.underlying t = some (.slice e)) {α : Type} {cs : α → List V} {w : Nat} (hw : P.cellsOf e = w) {ok : α → Prop}
   (he : ∀ ys, ShC P n e ys → ∃ a, ys = cs a ∧ ok a) (h : ShC P (n + 1) t xs) : ∃ L : List α, xs = [.sl L.length w (rows cs L)] ∧ lstR ok L := by
 simp only [ShC, hs, hw] at h
 obtain ⟨l, ys, rfl, hl, hlen, hel⟩ := h
 suffices ∀ (l : Nat) (ys : List V), ys.length = l * w → (∀ i, i < l → ShC P n e ((ys.drop (i * w)).take w)) → ∃ L : List α, L.length = l ∧ rows cs L = ys ∧ ∀ x ∈ L, ok x by
   obtain ⟨L, h1, h2, h3⟩ := this l ys hlen hel
   exact ⟨L, by rw [h1, h2], by rw [h1]; exact hl, h3⟩
 intro l
 induction l with
 | zero => intro ys h1 _; exact ⟨[], rfl, by simp at h1; simp [rows, h1], fun x hx => by simp at hx⟩
 | succ l ih =>
   intro ys h1 h2
   obtain ⟨a, ha, hoa⟩ := he _ (h2 0 (by omega))
   rw [Nat.zero_mul, List.drop_zero] at ha
   obtain ⟨L, h3, h4, h5⟩ := ih (ys.drop w) (by rw [List.length_drop, h1, Nat.succ_mul]; omega) (fun i hi => by
     have := h2 (i + 1) (by omega)
     rw [List.drop_drop]
     rwa [Nat.succ_mul, Nat.add_comm] at this)
   refine ⟨a :: L, by simp [h3], ?_, ?_⟩
   · rw [rows_cons, h4, ← ha, List.take_append_drop]
   · intro x hx
     rcases List.mem_cons.1 hx with rfl | hx
     · exact hoa
     · exact h5 x hx

end Go.Lv
end
