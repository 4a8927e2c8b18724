/-
  A part of the proof: texts put together by a program of the prover. Conditions: none.
-/
import Derived.Test.YtgnnoacaghelhaaDoorZShocksLaw7
import Derived.Lib.AppendIntMem
set_option linter.unusedSimpArgs false
set_option linter.unusedVariables false
section
set_option maxRecDepth 100000
namespace Go.Proofs
open Go.Lv
theorem tab_pow10 {w : World} {av : Nat → Prop} (h : GL w av) : Lib.TabIs Tryd.prog w "internal/strconv.uint64pow10" .u64 Lib.pow10Tab := by
 obtain ⟨_, T, fr, h2⟩ := h _ (List.mem_singleton.2 rfl)
 have hg : Tryd.prog.globalNamed "internal/strconv.uint64pow10" = some 5 := by kernel_rfl
 unfold Lib.TabIs World.var?
 rw [hg, Option.bind_some, h2]
 rfl
theorem gl_of_tab {W : World} (h : Lib.TabIs Tryd.prog W "internal/strconv.uint64pow10" .u64 Lib.pow10Tab) : GL W (fun _ => False) := by
 intro p hp
 have hp' := List.mem_singleton.1 hp
 subst hp'
 have hg : Tryd.prog.globalNamed "internal/strconv.uint64pow10" = some 5 := by kernel_rfl
 unfold Lib.TabIs World.var? at h
 rw [hg, Option.bind_some] at h
 dsimp only at h ⊢
 split at h
 · rename_i cs T fr hc
   refine ⟨fun h => h, T, fr, ?_⟩
   rw [hc]
   simp only [Option.some.injEq] at h
   subst h
   rfl
 · cases h
theorem itoaLib_ok (n : Int) (hn : i64R n) : Ctr Tryd.prog 122 [.int .i64 n] [] (.str (num n)) [] := by
 refine ⟨Tryd.okF122, fun w vs m av hH hav hgl hsz ha => ?_⟩
 obtain ⟨v, rfl⟩ : ∃ v, vs = #[v] := by
   match vs, hsz with
   | ⟨[v]⟩, _ => exact ⟨v, rfl⟩
 have h0 := ha 0 (by simp)
 simp only [List.getElem_cons_zero] at h0
 have hv : v = .int .i64 n := by
   have := rv_int h0
   simpa using this
 subst hv
 refine (Tryd.strconv_Itoa n hn.1 hn.2 w (tab_pow10 hgl)).mono ?_
 rintro e w' ⟨rfl, k, os, rfl⟩
 refine ⟨_, m, rfl, ?_, ⟨fun i j ci cj h => by simp at h, fun id cs h => by simp at h, fun id cs h => by simp at h⟩, .str _, fun id cs h => by simp at h⟩
 have hb : ∀ g, g < w.heap.size → (Sort.grow (w.drewN k) os).heap[g]? = w.heap[g]? := fun g hg => Lib.heap_grow_old w k os g hg
 exact ⟨rfl, rfl, rfl, Lib.size_grow w k os, fun g hg _ => hb g hg, fun g hg => Nat.le_of_eq (rowSize_of_block (hb g hg)).symm⟩
theorem itoa_ok (n : Int) (hn : i64R n) : Ctr Tryd.prog 67 [.int .i64 n] [] (.str (num n)) [] := by
 refine Ctr.intro Tryd.mixed Tryd.func67 rfl Tryd.okF67 ?_
 simp -implicitDefEqProofs -dsimp only [go_sem, Tryd.ntmps67, Tryd.results67]
 (first | refine callT.at (itoaLib_ok n hn) ⟨leA, trivial⟩ ?_ | refine callS.at (itoaLib_ok n hn) ⟨leA, trivial⟩ ?_)
 simp -implicitDefEqProofs -dsimp only [go_sem]
 exact WeakR.drop' rfl (by rfl)
theorem l1Num_nat : ∀ (k u : Nat), u < k → u ≤ 9223372036854775807 → Ctr Tryd.prog 69 [.int .i64 u] [] (.str (num u)) [] := by
 intro k
 induction k with
 | zero => intro u h; omega
 | succ k ih =>
   intro u hu hb
   refine Ctr.intro Tryd.mixed Tryd.func69 rfl Tryd.okF69 ?_
   simp -implicitDefEqProofs -dsimp only [go_sem, Tryd.ntmps69, Tryd.results69]
   refine condT.split (fun h => absurd h (by simp)) (fun h => ?_)
   simp -implicitDefEqProofs -dsimp only [go_sem, h]
   refine condT.split (fun h2 => ?_) (fun h2 => ?_)
   · have hlt : u < 10 := by simp at h2; omega
     (repeat ((repeat1' (first | simp -implicitDefEqProofs -dsimp only [go_sem, h2] | simp -dsimp (disch := omega) only [wrap_i64])); repeat (with_reducible refine sideA ?_)))
     have e : ((u : Int) + 1).toNat = u + 1 := by omega
     have e2 : ((#[48, 49, 50, 51, 52, 53, 54, 55, 56, 57] : Array UInt8).size : Int) = 10 := rfl
     rw [e, e2]
     refine ⟨⟨by omega, by omega, by omega⟩, WeakR.drop' ?_ (by rfl)⟩
     rw [num_one hlt, digits]
   · have hge : ¬ u < 10 := by simp at h2; omega
     have t1 : Int.tdiv (u : Int) 10 = ((u / 10 : Nat) : Int) := rfl
     have t2 : Int.tmod (u : Int) 10 = ((u % 10 : Nat) : Int) := rfl
     (repeat ((repeat1' (first | simp -implicitDefEqProofs -dsimp only [go_sem, h2, t1, t2] | simp -dsimp (disch := omega) only [wrap_i64])); repeat (with_reducible refine sideA ?_)))
     (first | refine callT.at (ih (u / 10) (by omega) (by omega)) ⟨leA, trivial⟩ ?_ | refine callS.at (ih (u / 10) (by omega) (by omega)) ⟨leA, trivial⟩ ?_)
     have e : (((u % 10 : Nat) : Int) + 1).toNat = u % 10 + 1 := by omega
     have e2 : ((#[48, 49, 50, 51, 52, 53, 54, 55, 56, 57] : Array UInt8).size : Int) = 10 := rfl
     have hs := num_size' (n := ((u / 10 : Nat) : Int)) (by omega) (by omega)
     have hd : ({ data := #[48, 49, 50, 51, 52, 53, 54, 55, 56, 57] } : ByteArray).extract (u % 10) (u % 10 + 1) = ⟨#[UInt8.ofNat (48 + u % 10)]⟩ := digit_at (u % 10) (by omega)
     (repeat ((repeat1' (first | simp -implicitDefEqProofs -dsimp only [go_sem, e, e2, hd, ba_size] | simp -dsimp (disch := omega) only [wrap_i64])); repeat (with_reducible refine sideA ?_)))
     refine ⟨by simp only [List.size_toArray, List.length_cons, List.length_nil]; omega, WeakR.drop' ?_ (by rfl)⟩
     rw [num_more hge, digit_at (u % 10) (by omega)]
theorem l1Num_ok (n : Int) (h0 : -9223372036854775807 ≤ n) (h1 : n ≤ 9223372036854775807) : Ctr Tryd.prog 69 [.int .i64 n] [] (.str (num n)) [] := by
 rcases Int.lt_or_le n 0 with hn | hn
 · obtain ⟨u, rfl⟩ : ∃ u : Nat, n = -(u : Int) := ⟨n.natAbs, by omega⟩
   refine Ctr.intro Tryd.mixed Tryd.func69 rfl Tryd.okF69 ?_
   simp -implicitDefEqProofs -dsimp only [go_sem, Tryd.ntmps69, Tryd.results69]
   refine condT.split (fun h => ?_) (fun h => absurd h (by simp; omega))
   have e : IntKind.i64.wrap (0 - -(u : Int)) = (u : Int) := by rw [wrap_i64 (by omega) (by omega)]; omega
   simp -implicitDefEqProofs -dsimp only [go_sem, h, e]
   (first | refine callT.at (l1Num_nat (u + 1) u (by omega) (by omega)) ⟨leA, trivial⟩ ?_ | refine callS.at (l1Num_nat (u + 1) u (by omega) (by omega)) ⟨leA, trivial⟩ ?_)
   have hs := num_size' (n := (u : Int)) (by omega) (by omega)
   simp -implicitDefEqProofs -dsimp only [go_sem, ba_size]
   refine ⟨by simp; omega, WeakR.drop' ?_ (by rfl)⟩
   rw [num_neg (by omega)]
 · obtain ⟨u, rfl⟩ : ∃ u : Nat, n = u := ⟨n.toNat, by omega⟩
   exact l1Num_nat (u + 1) u (by omega) (by omega)
end Go.Proofs
end
section
set_option maxRecDepth 100000
set_option maxHeartbeats 1000000
namespace Go.Proofs
open Go.Lv
def stateWord (s : Int) : ByteArray := if s = 0 then ⟨#[110, 101, 119]⟩ else if s = 1 then ⟨#[108, 111, 99, 97, 116, 101, 100]⟩ else if s = 2 then ⟨#[114, 101, 118, 105, 101, 119, 101, 100]⟩ else ⟨#[112, 117, 98, 108, 105, 115, 104, 101, 100]⟩
def shockHead (x : Shock) : ByteArray := (stateWord x.State ++ ⟨#[32, 115, 101, 101, 110, 32]⟩) ++ num x.Seen
def shockText (x : Shock) : ByteArray := if x.State = 0 then shockHead x else shockHead x ++ (⟨#[32, 115, 105, 122, 101, 32]⟩ ++ num x.Size)
theorem shockNums {n x : Int} {s : Shock} (h : shockB n x s = true) : (num s.Seen).size ≤ 21 ∧ (num s.Size).size ≤ 21 := by
 have := shockB_iff.1 h
 exact ⟨num_size' (by omega) (by omega), num_size' (by omega) (by omega)⟩
def shockTextR (w : Watch) (n : Int) : V := if wB w = true then match w.Shocks.find? (shockIs n) with
 | some x => .tup [.str (shockText x), .bool true]
 | none => .tup [.str ByteArray.empty, .bool false] else .tup [.str ByteArray.empty, .bool false]
theorem shockText_ok (n t : Int) (x : Shock) (h : shockB n t x = true) : Ctr Tryd.prog 95 [x.v] [] (.str (shockText x)) [] := by
 have hv := shockB_iff.1 h
 have hs := shockNums h
 obtain ⟨N, S, E, Z, T⟩ := x
 simp only at hv hs
 have hst : S = 0 ∨ S = 1 ∨ S = 2 ∨ S = 3 := by omega
 rcases hst with rfl | rfl | rfl | rfl
 all_goals
   refine Ctr.intro Tryd.mixed Tryd.func95 rfl Tryd.okF95 ?_
   simp -implicitDefEqProofs -dsimp only [go_sem, Tryd.ntmps95, Tryd.results95]
   simp -implicitDefEqProofs -dsimp only [go_sem, Shock.v]
   repeat (first | ((first | refine callT.at (itoa_ok E ⟨by omega, by omega⟩) ⟨leA, trivial⟩ ?_ | refine callS.at (itoa_ok E ⟨by omega, by omega⟩) ⟨leA, trivial⟩ ?_); simp -implicitDefEqProofs -dsimp only [go_sem]) | ((first | refine callT.at (itoa_ok Z ⟨by omega, by omega⟩) ⟨leA, trivial⟩ ?_ | refine callS.at (itoa_ok Z ⟨by omega, by omega⟩) ⟨leA, trivial⟩ ?_); simp -implicitDefEqProofs -dsimp only [go_sem]) | (with_reducible refine And.intro (by first | omega | (show drawOk _ = true; kernel_rfl) | (simp only [ByteArray.size_append, ba_size, List.size_toArray, List.length_cons, List.length_nil]; omega)) ?_; try (repeat1' (first | simp -implicitDefEqProofs -dsimp only [go_sem] | simp -dsimp (disch := omega) only [wrap_i64]))))
   exact WeakR.drop' (by simp [shockText, shockHead, stateWord]) (by rfl)
theorem l25Text_ok (n t : Int) (x : Shock) (h : shockB n t x = true) : Ctr Tryd.prog 97 [x.v] [] (.str (shockText x)) [] := by
 have hv := shockB_iff.1 h
 have hs := shockNums h
 obtain ⟨N, S, E, Z, T⟩ := x
 simp only at hv hs
 have hst : S = 0 ∨ S = 1 ∨ S = 2 ∨ S = 3 := by omega
 rcases hst with rfl | rfl | rfl | rfl
 all_goals
   refine Ctr.intro Tryd.mixed Tryd.func97 rfl Tryd.okF97 ?_
   simp -implicitDefEqProofs -dsimp only [go_sem, Tryd.ntmps97, Tryd.results97]
   simp -implicitDefEqProofs -dsimp only [go_sem, Shock.v]
   repeat (first | ((first | refine callT.at (l1Num_ok E (by omega) (by omega)) ⟨leA, trivial⟩ ?_ | refine callS.at (l1Num_ok E (by omega) (by omega)) ⟨leA, trivial⟩ ?_); simp -implicitDefEqProofs -dsimp only [go_sem]) | ((first | refine callT.at (l1Num_ok Z (by omega) (by omega)) ⟨leA, trivial⟩ ?_ | refine callS.at (l1Num_ok Z (by omega) (by omega)) ⟨leA, trivial⟩ ?_); simp -implicitDefEqProofs -dsimp only [go_sem]) | (with_reducible refine And.intro (by first | omega | (show drawOk _ = true; kernel_rfl) | (simp only [ByteArray.size_append, ba_size, List.size_toArray, List.length_cons, List.length_nil]; omega)) ?_; try (repeat1' (first | simp -implicitDefEqProofs -dsimp only [go_sem] | simp -dsimp (disch := omega) only [wrap_i64]))))
   exact WeakR.drop' (by simp [shockText, shockHead, stateWord, ByteArray.append_assoc]) (by rfl)
theorem idxI_find {α : Type} (p : α → Bool) (L : List α) : (∃ i, ∃ h : i < L.length, idxI p L = (i : Int) ∧ L.find? p = some L[i]) ∨ (idxI p L = -1 ∧ L.find? p = none) := by
 unfold idxI
 cases h : L.findIdx? p with
 | none =>
   right
   refine ⟨rfl, ?_⟩
   rw [List.findIdx?_eq_none_iff] at h
   rw [List.find?_eq_none]
   intro x hx
   simpa using h x hx
 | some i =>
   left
   rw [List.findIdx?_eq_some_iff_getElem] at h
   obtain ⟨hi, h1, h2⟩ := h
   refine ⟨i, hi, rfl, ?_⟩
   rw [List.find?_eq_some_iff_getElem]
   exact ⟨h1, i, hi, rfl, fun j hj => by simpa using h2 j hj⟩
theorem iShockText_ok (w : Watch) (n : Int) (hp : w.Posts.length ≤ 281474976710656) (hs : w.Shocks.length ≤ 281474976710656) : Ctr Tryd.prog 39 [w.v, .int .i64 n] [] (shockTextR w n) [] := by
 refine Ctr.intro Tryd.mixed Tryd.func39 rfl Tryd.okF39 ?_
 simp -implicitDefEqProofs -dsimp only [go_sem, Tryd.ntmps39, Tryd.results39]
 simp -implicitDefEqProofs -dsimp only [go_sem, Watch.v]
 (first | refine callT.at (shockAt_ok w n hs) ⟨leA, leA, trivial⟩ ?_ | refine callS.at (shockAt_ok w n hs) ⟨leA, leA, trivial⟩ ?_)
 simp -implicitDefEqProofs -dsimp only [go_sem]
 (first | refine callT.at (iIsWatch_ok w hp hs) ⟨leA, trivial⟩ ?_ | refine callS.at (iIsWatch_ok w hp hs) ⟨leA, trivial⟩ ?_)
 cases h : wB w with
 | false =>
   simp -implicitDefEqProofs -dsimp only [go_sem, h]
   exact WeakR.drop' (by simp [shockTextR, h]; rfl) (by rfl)
 | true =>
   have hw := wB_ok h
   rcases idxI_find (shockIs n) w.Shocks with ⟨i, hi, e1, e2⟩ | ⟨e1, e2⟩
   · rw [e1]
     have hsh := hw.shocks _ (List.getElem_mem hi)
     have hr := rows_at Shock.csl hi
     have hd : decide ((i : Int) < 0) = false := decide_eq_false (by omega)
     (repeat ((repeat1' (first | simp -implicitDefEqProofs -dsimp only [go_sem, h, hd, hr, Shock.cs, Watch.cs] | simp -dsimp (disch := omega) only [wrap_i64])); repeat (with_reducible refine And.intro ?_ ?_; focus (first | omega | with_reducible rfl | (show drawOk _ = true; kernel_rfl) | (simp only [rows_length, rows_cell, List.length_append, List.length_cons, List.length_nil, List.all_append, List.all_cons, List.all_nil, isCell, Nat.mul_one, Nat.one_mul, Bool.and_self]; first | done | omega) | (simp only [ByteArray.size_append, ba_size, List.size_toArray, List.length_cons, List.length_nil]; omega)))))
     (first | refine callT.at (shockText_ok _ _ w.Shocks[i] hsh) ⟨leA, trivial⟩ ?_ | refine callS.at (shockText_ok _ _ w.Shocks[i] hsh) ⟨leA, trivial⟩ ?_)
     simp -implicitDefEqProofs -dsimp only [go_sem]
     exact WeakR.drop' (by simp [shockTextR, h, e2]) (by rfl)
   · rw [e1]
     simp -implicitDefEqProofs -dsimp only [go_sem, h]
     exact WeakR.drop' (by simp [shockTextR, h, e2]; rfl) (by rfl)
theorem sShockText_ok (w : Watch) (n : Int) (hp : w.Posts.length ≤ 281474976710656) (hs : w.Shocks.length ≤ 281474976710656) : Ctr Tryd.prog 40 [w.v, .int .i64 n] [] (shockTextR w n) [] := by
 refine Ctr.intro Tryd.mixed Tryd.func40 rfl Tryd.okF40 ?_
 simp -implicitDefEqProofs -dsimp only [go_sem, Tryd.ntmps40, Tryd.results40]
 simp -implicitDefEqProofs -dsimp only [go_sem, Watch.v]
 (first | refine callT.at (l25Find_ok w n hs) ⟨leA, leA, trivial⟩ ?_ | refine callS.at (l25Find_ok w n hs) ⟨leA, leA, trivial⟩ ?_)
 simp -implicitDefEqProofs -dsimp only [go_sem]
 (first | refine callT.at (l25Good_ok w hp hs) ⟨leA, trivial⟩ ?_ | refine callS.at (l25Good_ok w hp hs) ⟨leA, trivial⟩ ?_)
 cases h : wB w with
 | false =>
   simp -implicitDefEqProofs -dsimp only [go_sem, h]
   exact WeakR.drop' (by simp [shockTextR, h]; rfl) (by rfl)
 | true =>
   have hw := wB_ok h
   rcases idxI_find (shockIs n) w.Shocks with ⟨i, hi, e1, e2⟩ | ⟨e1, e2⟩
   · rw [e1]
     have hsh := hw.shocks _ (List.getElem_mem hi)
     have hr := rows_at Shock.csl hi
     have hd : decide ((i : Int) < 0) = false := decide_eq_false (by omega)
     (repeat ((repeat1' (first | simp -implicitDefEqProofs -dsimp only [go_sem, h, hd, hr, Shock.cs, Watch.cs] | simp -dsimp (disch := omega) only [wrap_i64])); repeat (with_reducible refine And.intro ?_ ?_; focus (first | omega | with_reducible rfl | (show drawOk _ = true; kernel_rfl) | (simp only [rows_length, rows_cell, List.length_append, List.length_cons, List.length_nil, List.all_append, List.all_cons, List.all_nil, isCell, Nat.mul_one, Nat.one_mul, Bool.and_self]; first | done | omega) | (simp only [ByteArray.size_append, ba_size, List.size_toArray, List.length_cons, List.length_nil]; omega)))))
     (first | refine callT.at (l25Text_ok _ _ w.Shocks[i] hsh) ⟨leA, trivial⟩ ?_ | refine callS.at (l25Text_ok _ _ w.Shocks[i] hsh) ⟨leA, trivial⟩ ?_)
     simp -implicitDefEqProofs -dsimp only [go_sem]
     exact WeakR.drop' (by simp [shockTextR, h, e2]) (by rfl)
   · rw [e1]
     simp -implicitDefEqProofs -dsimp only [go_sem, h]
     exact WeakR.drop' (by simp [shockTextR, h, e2]; rfl) (by rfl)
end Go.Proofs
end
section
set_option maxRecDepth 100000
namespace Go.Proofs
open Go.Lv
def u8R (x : Int) : Prop := 0 ≤ x ∧ x ≤ 255
def ByteS.cs (x : Int) : List V := [.int .u8 x]
instance instFlatPByteS : FlatP ByteS.cs 1 := ⟨fun _ => rfl, fun _ d => by cases d <;> rfl, fun _ => rfl, fun _ => rfl⟩
theorem ByteS.csl (a : Int) : (ByteS.cs a).length = 1 := rfl
abbrev ByteS.ok (x : Int) : Prop := u8R x
abbrev ByteS.sl (L : List Int) : V := .sl L.length 1 (Go.Lv.rows ByteS.cs L)

end Go.Proofs
end
section
set_option maxRecDepth 100000
set_option maxHeartbeats 1000000
namespace Go.Proofs
open Go.Lv
structure Cur where
 a : Int
 s : Int
def Cur.cs (B : List Int) (c : Cur) : List V := [ByteS.sl B, .int .i64 c.a, .int .u64 c.s]
def CB (B : List Int) : Prop := lstR u8R B
def Cur.le (c : Cur) (k : Int) : Prop := 0 ≤ c.a ∧ c.a ≤ k
theorem Cur.ren (B : List Int) (c : Cur) (f : Nat → R) (d : Nat) : (c.cs B).map (Go.Lv.ren f d) = c.cs B := by cases d <;> simp [Cur.cs, Go.Lv.ren]
theorem lendCur {B : List Int} {c : Cur} {h : Hp} {id : Nat} (hid : h[id]? = some (some (c.cs B))) : pickH [id] h false = [some (c.cs B)] := by
 simp only [pickH, List.map_cons, List.map_nil, pickB, hid, Cur.ren]
theorem lendCur2 {α : Type} {cs : α → List V} {w : Nat} [FlatP cs w] {L : List α} {B : List Int} {c : Cur} {h : Hp} {i j : Nat} (hi : h[i]? = some (some (c.cs B))) (hj : h[j]? = some (some (rows cs L))) : pickH [i, j] h false = [some (c.cs B), some (rows cs L)] := by
 simp only [pickH, List.map_cons, List.map_nil, pickB, hi, hj, Cur.ren, map_ren_rows]
theorem growCur (B : List Int) (c c' : Cur) : grown [some (c.cs B)] [some (c'.cs B)] := ⟨⟨rfl, rfl⟩, trivial⟩
theorem growCur2 {α : Type} {cs : α → List V} {L : List α} (B : List Int) (c c' : Cur) : grown [some (c.cs B), some (rows cs L)] [some (c'.cs B), some (rows cs L)] := ⟨⟨rfl, rfl⟩, ⟨rfl, rfl⟩, trivial⟩
theorem andI_255 (x : Int) : 0 ≤ andI .u64 x 255 ∧ andI .u64 x 255 ≤ 255 := by
 have h : ∀ y : BitVec 64, (y &&& BitVec.ofInt 64 255).toNat ≤ 255 := fun y => by
   rw [BitVec.toNat_and]
   exact Nat.le_trans Nat.and_le_right (by decide)
 have hb : (BitVec.ofInt 64 x &&& BitVec.ofInt 64 255).toNat ≤ 255 := h _
 have hw : andI .u64 x 255 = (((BitVec.ofInt 64 x &&& BitVec.ofInt 64 255).toNat : Nat) : Int) := by
   unfold andI
   show IntKind.u64.wrap (((BitVec.ofInt 64 x &&& BitVec.ofInt 64 255).toNat : Nat) : Int) = _
   generalize (BitVec.ofInt 64 x &&& BitVec.ofInt 64 255).toNat = n at hb
   simp [IntKind.wrap, IntKind.bits, IntKind.signed]
   omega
 rw [hw]
 omega
def nextB (B : List Int) (c : Cur) : Int := if c.a < B.length then B.getD c.a.toNat 0 else 0
def nextS (B : List Int) (c : Cur) : Int := IntKind.u64.wrap (IntKind.u64.wrap (IntKind.u64.wrap (c.s * 6364136223846793005) + IntKind.u64.wrap (nextB B c)) + 101717)
def nextC (B : List Int) (c : Cur) : Cur := ⟨c.a + 1, nextS B c⟩
def nextV (B : List Int) (c : Cur) : Int := if c.a < B.length then nextB B c else andI .u64 (shrI .u64 (nextS B c) 40) 255
theorem nextB_bd {B : List Int} (hB : CB B) {c : Cur} (h : 0 ≤ c.a) : 0 ≤ nextB B c ∧ nextB B c ≤ 255 := by
 unfold nextB
 split
 · have hi : c.a.toNat < B.length := by omega
   have := hB.2 _ (List.getElem_mem hi)
   simpa [List.getD, hi, u8R] using this
 · omega
theorem nextV_bd {B : List Int} (hB : CB B) {c : Cur} (h : 0 ≤ c.a) : 0 ≤ nextV B c ∧ nextV B c ≤ 255 := by
 unfold nextV
 split
 · exact nextB_bd hB h
 · exact andI_255 _
theorem next_ok {B : List Int} (hB : CB B) {c : Cur} (hc : c.le 4611686018427387904) : Ctr Tryd.prog 145 [.ptr 0 0] [some (c.cs B)] (.int .i64 (nextV B c)) [some ((nextC B c).cs B)] := by
 obtain ⟨a, s⟩ := c
 obtain ⟨ha, hak⟩ := hc
 dsimp only at ha hak
 have hw : IntKind.i64.wrap (a + 1) = a + 1 := wrap_i64 (by omega) (by omega)
 have hbl := hB.1
 by_cases h1 : a < B.length
 · obtain ⟨i, rfl⟩ : ∃ i : Nat, a = i := ⟨a.toNat, by omega⟩
   have hi : i < B.length := by omega
   have hr := rows_at ByteS.csl hi
   obtain ⟨b0, b1⟩ : 0 ≤ B[i] ∧ B[i] ≤ 255 := by have := hB.2 _ (List.getElem_mem hi); simpa [u8R] using this
   have hwb : IntKind.i64.wrap B[i] = B[i] := wrap_i64 (by omega) (by omega)
   have hd : decide ((i : Int) < (B.length : Int)) = true := by simp; omega
   have hd2 : decide ((i : Int) + 1 ≤ (B.length : Int)) = true := by simp; omega
   have e1 : nextB B ⟨i, s⟩ = B[i] := by simp [nextB, h1, List.getD, hi]
   have e2 : nextV B ⟨i, s⟩ = B[i] := by simp [nextV, h1, e1]
   rw [nextC, nextS, e1, e2]
   refine Ctr.intro Tryd.mixed Tryd.func145 rfl Tryd.okF145 ?_
   simp -implicitDefEqProofs -dsimp only [go_sem, Tryd.ntmps145, Tryd.results145]
   (repeat ((repeat1' (first | simp -implicitDefEqProofs -dsimp only [go_sem, Cur.cs, hw, hd, hd2, hr, ByteS.cs, hwb] | simp -dsimp (disch := omega) only [wrap_i64])); repeat (with_reducible refine sideA ?_)))
   exact WeakR.refl _ _ _
 · have hd : decide (a < (B.length : Int)) = false := by simp; omega
   have hd2 : decide (a + 1 ≤ (B.length : Int)) = false := by simp; omega
   have e3 : nextV B ⟨a, s⟩ = andI .u64 (shrI .u64 (nextS B ⟨a, s⟩) 40) 255 := by simp [nextV, h1]
   have e4 : nextB B ⟨a, s⟩ = 0 := by simp [nextB, h1]
   rw [nextC, e3]
   rw [nextS, e4]
   obtain ⟨e1, e2⟩ := andI_255 (shrI .u64 (IntKind.u64.wrap (IntKind.u64.wrap (IntKind.u64.wrap (s * 6364136223846793005) + IntKind.u64.wrap 0) + 101717)) 40)
   generalize hq : andI .u64 (shrI .u64 (IntKind.u64.wrap (IntKind.u64.wrap (IntKind.u64.wrap (s * 6364136223846793005) + IntKind.u64.wrap 0) + 101717)) 40) 255 = q at e1 e2 ⊢
   have hwq : IntKind.i64.wrap q = q := wrap_i64 (by omega) (by omega)
   refine Ctr.intro Tryd.mixed Tryd.func145 rfl Tryd.okF145 ?_
   simp -implicitDefEqProofs -dsimp only [go_sem, Tryd.ntmps145, Tryd.results145]
   (repeat ((repeat1' (first | simp -implicitDefEqProofs -dsimp only [go_sem, Cur.cs, hw, hd, hd2, hq] | simp -dsimp (disch := omega) only [wrap_i64])); repeat (with_reducible refine sideA ?_)))
   exact WeakR.refl _ _ _
def pickV (B : List Int) (n : Int) (c : Cur) : Int := if n ≤ 1 then 0 else if 200 < n then (nextV B c * 256 + nextV B (nextC B c)).tmod n else (nextV B c).tmod n
def pickC (B : List Int) (n : Int) (c : Cur) : Cur := if n ≤ 1 then c else if 200 < n then nextC B (nextC B c) else nextC B c
theorem pickC_le {B : List Int} {n k : Int} {c : Cur} (h : c.le k) : (pickC B n c).le (k + 2) := by
 unfold pickC nextC Cur.le at *
 split
 · omega
 · split <;> (simp only []; omega)
theorem pickV_bd {B : List Int} (hB : CB B) {n : Int} {c : Cur} (h : 0 ≤ c.a) : 0 ≤ pickV B n c ∧ (1 ≤ n → pickV B n c < n) := by
 have h1 := nextV_bd hB h
 have h2 := nextV_bd hB (c := nextC B c) (by simp [nextC]; omega)
 unfold pickV
 split
 · omega
 · split
   · exact ⟨Int.tmod_nonneg _ (by omega), fun _ => Int.tmod_lt_of_pos _ (by omega)⟩
   · exact ⟨Int.tmod_nonneg _ (by omega), fun _ => Int.tmod_lt_of_pos _ (by omega)⟩
theorem pick_ok {B : List Int} (hB : CB B) {c : Cur} (hc : c.le 4611686018427387903) (n : Int) (hn : n ≤ 1000000000) : Ctr Tryd.prog 92 [.ptr 0 0, .int .i64 n] [some (c.cs B)] (.int .i64 (pickV B n c)) [some ((pickC B n c).cs B)] := by
 obtain ⟨r1, r2⟩ := nextV_bd hB hc.1
 have hc1 : (nextC B c).le 4611686018427387904 := by obtain ⟨h, h'⟩ := hc; exact ⟨by simp [nextC]; omega, by simp [nextC]; omega⟩
 obtain ⟨q1, q2⟩ := nextV_bd hB hc1.1
 have p4 := next_ok hB (c := c) ⟨hc.1, by have := hc.2; omega⟩
 have q4 := next_ok hB hc1
 by_cases h1 : n ≤ 1
 · have hd : decide (n ≤ 1) = true := by simp [h1]
   rw [pickV, pickC, if_pos h1, if_pos h1]
   refine Ctr.intro Tryd.mixed Tryd.func92 rfl Tryd.okF92 ?_
   simp -implicitDefEqProofs -dsimp only [go_sem, Tryd.ntmps92, Tryd.results92]
   (repeat ((repeat1' (first | simp -implicitDefEqProofs -dsimp only [go_sem, hd] | simp -dsimp (disch := omega) only [wrap_i64])); repeat (with_reducible refine sideA ?_)))
   exact WeakR.refl _ _ _
 have hd : decide (n ≤ 1) = false := by simp; omega
 by_cases h2 : 200 < n
 · have hd2 : decide (200 < n) = true := by simp [h2]
   have hw : IntKind.i64.wrap (nextV B c * 256) = nextV B c * 256 := wrap_i64 (by omega) (by omega)
   have hw2 : IntKind.i64.wrap (nextV B c * 256 + nextV B (nextC B c)) = nextV B c * 256 + nextV B (nextC B c) := wrap_i64 (by omega) (by omega)
   rw [pickV, pickC, if_neg h1, if_neg h1, if_pos h2, if_pos h2]
   refine Ctr.intro Tryd.mixed Tryd.func92 rfl Tryd.okF92 ?_
   simp -implicitDefEqProofs -dsimp only [go_sem, Tryd.ntmps92, Tryd.results92]
   (repeat ((repeat1' (first | simp -implicitDefEqProofs -dsimp only [go_sem, hd] | simp -dsimp (disch := omega) only [wrap_i64])); repeat (with_reducible refine sideA ?_)))
   refine callS.lend [0] false p4 (by decide) ⟨leO, trivial⟩ (lendCur rfl) (growCur B _ _) (.inl rfl) ?_
   (repeat ((repeat1' (first | simp -implicitDefEqProofs -dsimp only [go_sem, hd2, hw, Cur.ren] | simp -dsimp (disch := omega) only [wrap_i64])); repeat (with_reducible refine sideA ?_)))
   refine callS.lend [0] false q4 (by decide) ⟨leO, trivial⟩ (lendCur rfl) (growCur B _ _) (.inl rfl) ?_
   (repeat ((repeat1' (first | simp -implicitDefEqProofs -dsimp only [go_sem, hw2, Cur.ren] | simp -dsimp (disch := omega) only [wrap_i64])); repeat (with_reducible refine sideA ?_)))
   exact WeakR.refl _ _ _
 · have hd2 : decide (200 < n) = false := by simp [h2]
   rw [pickV, pickC, if_neg h1, if_neg h1, if_neg h2, if_neg h2]
   refine Ctr.intro Tryd.mixed Tryd.func92 rfl Tryd.okF92 ?_
   simp -implicitDefEqProofs -dsimp only [go_sem, Tryd.ntmps92, Tryd.results92]
   (repeat ((repeat1' (first | simp -implicitDefEqProofs -dsimp only [go_sem, hd] | simp -dsimp (disch := omega) only [wrap_i64])); repeat (with_reducible refine sideA ?_)))
   refine callS.lend [0] false p4 (by decide) ⟨leO, trivial⟩ (lendCur rfl) (growCur B _ _) (.inl rfl) ?_
   (repeat ((repeat1' (first | simp -implicitDefEqProofs -dsimp only [go_sem, hd2, Cur.ren] | simp -dsimp (disch := omega) only [wrap_i64])); repeat (with_reducible refine sideA ?_)))
   exact WeakR.refl _ _ _
theorem pick_call {B : List Int} (hB : CB B) {c : Cur} {k : Int} (hc : c.le k) (hk : k ≤ 4000000) (n : Int) (hn : n ≤ 1000000000) {t : List V} {h : Hp} {kk : Nat} {dst : Option Tmp} {Q : St → Prop} {x : Tag Q} {ci : Nat} (h0 : h[ci]? = some (some (c.cs B)))
   (hq : ∀ (v : Int) (c' : Cur), (0 ≤ v ∧ (1 ≤ n → v < n)) → c'.le (k + 2) → Q (afterM ⟨t, h, kk⟩ dst [ci] (.int .i64 v) [some (c'.cs B)])) : callS Tryd.prog ⟨t, h, kk⟩ dst (.fn (.func 92) [] []) [.ptr ci 0, .int .i64 n] Q x :=
 callS.lend [ci] false (pick_ok hB ⟨hc.1, by have := hc.2; omega⟩ n hn) (by simp) ⟨by simp [ren, pickF, posOf, LeV], leO, trivial⟩ (lendCur h0) (growCur B _ _) (.inl rfl) (hq _ _ (pickV_bd hB hc.1) (pickC_le hc))
def oneV (B : List Int) (n : Int) (c : Cur) : Bool := pickV B n c == 0
theorem one_ok {B : List Int} (hB : CB B) {c : Cur} (hc : c.le 4611686018427387903) (n : Int) (hn : n ≤ 1000000000) : Ctr Tryd.prog 91 [.ptr 0 0, .int .i64 n] [some (c.cs B)] (.bool (oneV B n c)) [some ((pickC B n c).cs B)] := by
 refine Ctr.intro Tryd.mixed Tryd.func91 rfl Tryd.okF91 ?_
 simp -implicitDefEqProofs -dsimp only [go_sem, Tryd.ntmps91, Tryd.results91]
 (repeat ((repeat1' (first | simp -implicitDefEqProofs -dsimp only [go_sem] | simp -dsimp (disch := omega) only [wrap_i64])); repeat (with_reducible refine sideA ?_)))
 refine callS.lend [0] false (pick_ok hB hc n hn) (by decide) ⟨leO, leO, trivial⟩ (lendCur rfl) (growCur B _ _) (.inl rfl) ?_
 (repeat ((repeat1' (first | simp -implicitDefEqProofs -dsimp only [go_sem, Cur.ren] | simp -dsimp (disch := omega) only [wrap_i64])); repeat (with_reducible refine sideA ?_)))
 exact WeakR.refl _ _ _
theorem one_call {B : List Int} (hB : CB B) {c : Cur} {k : Int} (hc : c.le k) (hk : k ≤ 4000000) (n : Int) (hn : n ≤ 1000000000) {t : List V} {h : Hp} {kk : Nat} {dst : Option Tmp} {Q : St → Prop} {x : Tag Q} {ci : Nat} (h0 : h[ci]? = some (some (c.cs B)))
   (hq : ∀ (v : Bool) (c' : Cur), c'.le (k + 2) → Q (afterM ⟨t, h, kk⟩ dst [ci] (.bool v) [some (c'.cs B)])) : callS Tryd.prog ⟨t, h, kk⟩ dst (.fn (.func 91) [] []) [.ptr ci 0, .int .i64 n] Q x :=
 callS.lend [ci] false (one_ok hB ⟨hc.1, by have := hc.2; omega⟩ n hn) (by simp) ⟨by simp [ren, pickF, posOf, LeV], leO, trivial⟩ (lendCur h0) (growCur B _ _) (.inl rfl) (hq _ _ (pickC_le hc))
def amongV (B : List Int) (K : List Int) (c : Cur) : Int := K.getD (pickV B K.length c).toNat 0
theorem amongV_mem {B : List Int} (hB : CB B) {K : List Int} (hK : 0 < K.length) {c : Cur} (h : 0 ≤ c.a) : amongV B K c ∈ K := by
 obtain ⟨h1, h2⟩ := pickV_bd hB (n := K.length) h
 have hi : (pickV B K.length c).toNat < K.length := by omega
 simp [amongV, List.getD, hi]
theorem among_ok {B : List Int} (hB : CB B) {c : Cur} (hc : c.le 4611686018427387903) (K : List Int) (hK0 : 0 < K.length) (hK : K.length ≤ 1000000000) : Ctr Tryd.prog 93 [.ptr 0 0, .osl 1 0 K.length 1] [some (c.cs B), some (rows IntS.cs K)] (.int .i64 (amongV B K c)) [some ((pickC B K.length c).cs B), some (rows IntS.cs K)] := by
 obtain ⟨h1, h2⟩ := pickV_bd hB (n := K.length) hc.1
 obtain ⟨i, hi'⟩ : ∃ i : Nat, pickV B K.length c = i := ⟨(pickV B K.length c).toNat, by omega⟩
 have hi : i < K.length := by omega
 have hr := rows_at IntS.csl hi
 have e : amongV B K c = K[i] := by simp [amongV, hi', List.getD, hi]
 have hp := pick_ok hB hc K.length (by omega)
 rw [hi'] at hp
 rw [e]
 refine Ctr.intro Tryd.mixed Tryd.func93 rfl Tryd.okF93 ?_
 simp -implicitDefEqProofs -dsimp only [go_sem, Tryd.ntmps93, Tryd.results93]
 (repeat ((repeat1' (first | simp -implicitDefEqProofs -dsimp only [go_sem] | simp -dsimp (disch := omega) only [wrap_i64])); repeat (with_reducible refine sideA ?_)))
 refine callS.lend [0] false hp (by decide) ⟨leO, leO, trivial⟩ (lendCur rfl) (growCur B _ _) (.inl rfl) ?_
 (repeat ((repeat1' (first | simp -implicitDefEqProofs -dsimp only [go_sem, Cur.ren, hr, IntS.cs] | simp -dsimp (disch := omega) only [wrap_i64])); repeat (with_reducible refine sideA ?_)))
 exact WeakR.refl _ _ _
theorem among_call {B : List Int} (hB : CB B) {c : Cur} {k : Int} (hc : c.le k) (hk : k ≤ 4000000) (K : List Int) (hK0 : 0 < K.length) (hK : K.length ≤ 1000000000) {t : List V} {h : Hp} {kk : Nat} {dst : Option Tmp} {Q : St → Prop} {x : Tag Q} {ci : Nat} (h0 : h[ci]? = some (some (c.cs B))) {i : Nat} (h1 : h[i]? = some (some (rows IntS.cs K))) (hne : (ci == i) = false)
   (hq : ∀ (v : Int) (c' : Cur), v ∈ K → c'.le (k + 2) → Q (afterM ⟨t, h, kk⟩ dst [ci, i] (.int .i64 v) [some (c'.cs B), some (rows IntS.cs K)])) : callS Tryd.prog ⟨t, h, kk⟩ dst (.fn (.func 93) [] []) [.ptr ci 0, .osl i 0 K.length 1] Q x := by
 have hn : ci ≠ i := by simpa using hne
 have hn' : (i == ci) = false := by simpa using Ne.symm hn
 exact callS.lend [ci, i] false (among_ok hB ⟨hc.1, by have := hc.2; omega⟩ K hK0 hK) (by simp [hn]) ⟨by simp [ren, pickF, posOf, LeV], by simp [ren, pickF, posOf, LeV, Ne.symm hn], trivial⟩ (lendCur2 h0 h1) (growCur2 B _ _) (.inl rfl) (hq _ _ (amongV_mem hB hK0 hc.1) (pickC_le hc))
end Go.Proofs
end
section
set_option maxRecDepth 100000
set_option maxHeartbeats 2000000
namespace Go.Proofs
open Go.Lv
def stationsP (B : List Int) (k : Int) (r : V) (hout : Hp) : Prop := ∃ (K : List Int) (c : Cur), K.length ≤ 10 ∧ c.le k ∧ r = .osl 1 0 K.length 1 ∧ hout = [some (c.cs B), some (rows IntS.cs K)]
theorem watchStations_ok {B : List Int} (hB : CB B) {k : Int} (hk : k ≤ 1000000) {c : Cur} (hc : c.le k) : CtrP Tryd.prog 142 [.ptr 0 0] [some (c.cs B)] (stationsP B (k + 100)) := by
 refine CtrP.intro Tryd.mixed Tryd.func142 rfl Tryd.okF142 ?_
 simp -implicitDefEqProofs -dsimp only [go_sem, Tryd.ntmps142, Tryd.results142]
 (repeat ((repeat1' (first | simp -implicitDefEqProofs -dsimp only [go_sem] | simp -dsimp (disch := omega) only [wrap_i64])); repeat (with_reducible refine sideA ?_)))
 refine LoopT.intro (fun x : Nat × List Int × Cur => 1 ≤ x.1 ∧ x.1 ≤ 7 ∧ x.2.1.length + 1 ≤ x.1 ∧ x.2.2.le (k + 2 * x.1)) (fun x => ⟨[.ptr 0 0, .undef, .undef, .osl 1 0 x.2.1.length 1, .int .i64 x.1, .undef, .undef, .undef, .undef, .undef, .undef, .undef, .undef, .undef, .undef, .undef, .undef, .undef, .undef, .undef, .undef, .undef, .undef, .undef, .undef, .undef, .undef, .undef, .undef, .undef, .undef, .undef, .undef, .undef, .undef, .undef, .undef, .undef, .undef, .undef, .undef, .undef, .undef], [some (x.2.2.cs B), some (rows IntS.cs x.2.1)], 1⟩) (fun x => 7 - x.1) (1, [], c) ⟨Nat.le_refl 1, (by decide : 1 ≤ 7), Nat.le_refl 1, ⟨hc.1, by have := hc.2; simp only []; omega⟩⟩ ?_ (fun x hx => ?_)
 · refine Weak.cut (2) (by simp) (by simp) ?_ ?_
   · simp [LeC, LeV, ren, cutF]
   · simp [cutH, cutB, Cur.ren, rows]
 obtain ⟨n, K, c1⟩ := x
 obtain ⟨x1, x2, x3, x4⟩ := hx
 dsimp only at x1 x2 x3 x4
 simp -implicitDefEqProofs -dsimp only [go_sem]
 refine condT.split (fun h1 => ?_) (fun h1 => ?_) <;> simp -implicitDefEqProofs -dsimp only [go_sem, h1]
 · have hn : n < 7 := by have := of_decide_eq_true h1; omega
   have hw : IntKind.i64.wrap (4 * (n : Int)) = 4 * (n : Int) := wrap_i64 (by omega) (by omega)
   have hw2 : IntKind.i64.wrap ((n : Int) + 1) = ((n + 1 : Nat) : Int) := by rw [wrap_i64 (by omega) (by omega)]; omega
   have hc2 := pickC_le (B := B) (n := 3) x4
   refine callS.lend [0] false (one_ok hB ⟨x4.1, by have := x4.2; omega⟩ 3 (by omega)) (by decide) ⟨leO, leO, trivial⟩ (lendCur rfl) (growCur B _ _) (.inl rfl) ?_
   (repeat ((repeat1' (first | simp -implicitDefEqProofs -dsimp only [go_sem, hw, Cur.ren] | simp -dsimp (disch := omega) only [wrap_i64])); repeat (with_reducible refine sideA ?_)))
   refine condT.split (fun h2 => ?_) (fun h2 => ?_)
   · (repeat ((repeat1' (first | simp -implicitDefEqProofs -dsimp only [go_sem, h2, hw, hw2] | simp -dsimp (disch := omega) only [wrap_i64])); repeat (with_reducible refine sideA ?_)))
     refine ⟨(n + 1, K ++ [4 * (n : Int)], pickC B 3 c1), ⟨by simp only []; omega, by simp only []; omega, by simp only [List.length_append, List.length_singleton]; omega, ⟨hc2.1, by have := hc2.2; simp only []; omega⟩⟩, ?_, by simp only []; omega⟩
     refine Weak.cut (2) (by simp) (by simp) ?_ ?_
     · simp [LeC, LeV, ren, cutF]
     · simp only [← rows_snoc]; simp [cutH, cutB, Cur.ren, map_ren_rows, ren, IntS.cs]
   · (repeat ((repeat1' (first | simp -implicitDefEqProofs -dsimp only [go_sem, h2, hw2] | simp -dsimp (disch := omega) only [wrap_i64])); repeat (with_reducible refine sideA ?_)))
     refine ⟨(n + 1, K, pickC B 3 c1), ⟨by simp only []; omega, by simp only []; omega, by simp only []; omega, ⟨hc2.1, by have := hc2.2; simp only []; omega⟩⟩, ?_, by simp only []; omega⟩
     refine Weak.cut (2) (by simp) (by simp) ?_ ?_
     · simp [LeC, LeV, ren, cutF]
     · simp [cutH, cutB, Cur.ren, map_ren_rows]
 · have hn : n = 7 := by have := of_decide_eq_false h1; omega
   subst hn
   have hp := pickV_bd hB (n := 32) x4.1
   have hc2 := pickC_le (B := B) (n := 32) x4
   have fin : ∀ (K' : List Int) (c' : Cur), K'.length ≤ 10 → c'.le (k + 100) → stationsP B (k + 100) (.osl 1 0 K'.length 1) [some (c'.cs B), some (rows IntS.cs K')] := fun K' c' h h' => ⟨K', c', h, h', rfl, rfl⟩
   refine callS.lend [0] false (pick_ok hB ⟨x4.1, by have := x4.2; omega⟩ 32 (by omega)) (by decide) ⟨leO, leO, trivial⟩ (lendCur rfl) (growCur B _ _) (.inl rfl) ?_
   (repeat ((repeat1' (first | simp -implicitDefEqProofs -dsimp only [go_sem, Cur.ren] | simp -dsimp (disch := omega) only [wrap_i64])); repeat (with_reducible refine sideA ?_)))
   refine condT.split (fun h2 => ?_) (fun h2 => ?_)
   · (repeat ((repeat1' (first | simp -implicitDefEqProofs -dsimp only [go_sem, h2] | simp -dsimp (disch := omega) only [wrap_i64])); repeat (with_reducible refine sideA ?_)))
     have hc3 := pickC_le (B := B) (n := 4) hc2
     have bnd : (pickC B 32 c1).le 4611686018427387903 := ⟨hc2.1, by have := hc2.2; omega⟩
     refine callS.lend [0, 2] false (among_ok hB bnd [0, 4, 99, 100] (by decide) (by decide)) (by decide) ⟨leO, leO, trivial⟩ (lendCur2 rfl rfl) (growCur2 B _ _) (.inl rfl) ?_
     (repeat ((repeat1' (first | simp -implicitDefEqProofs -dsimp only [go_sem, Cur.ren] | simp -dsimp (disch := omega) only [wrap_i64])); repeat (with_reducible refine sideA ?_)))
     refine ⟨_, _, fin (K ++ [amongV B [0, 4, 99, 100] (pickC B 32 c1)]) (pickC B 4 (pickC B 32 c1)) (by simp only [List.length_append, List.length_singleton]; omega) ⟨hc3.1, by have := hc3.2; omega⟩, ?_⟩
     have hsn : rows IntS.cs K ++ [.int .i64 (amongV B [0, 4, 99, 100] (pickC B 32 c1))] = rows IntS.cs (K ++ [amongV B [0, 4, 99, 100] (pickC B 32 c1)]) := rows_snoc _ _
     rw [List.length_append, List.length_singleton, hsn]
     refine WeakR.pick [0, 1] (by decide) (fun j hj => by cases j <;> simp_all) (.inl ?_) ?_
     · simp [ren, pickF, posOf]
     · simp only [pickH, List.map_cons, List.map_nil, pickB, List.getElem?_cons_zero, List.getElem?_cons_succ, map_ren_rows, Cur.ren]; rfl
   · (repeat ((repeat1' (first | simp -implicitDefEqProofs -dsimp only [go_sem, h2] | simp -dsimp (disch := omega) only [wrap_i64])); repeat (with_reducible refine sideA ?_)))
     refine condT.split (fun h3 => ?_) (fun h3 => ?_)
     · (repeat ((repeat1' (first | simp -implicitDefEqProofs -dsimp only [go_sem, h3] | simp -dsimp (disch := omega) only [wrap_i64])); repeat (with_reducible refine sideA ?_)))
       refine LoopT.intro (fun x : List Int × Cur => x.1.length ≤ 9 ∧ x.2.le (k + 20 + 2 * x.1.length)) (fun x => ⟨[.ptr 0 0, .undef, .undef, .osl 1 0 x.1.length 1, .undef, .undef, .undef, .undef, .undef, .undef, .undef, .undef, .undef, .undef, .undef, .undef, .undef, .undef, .undef, .undef, .undef, .undef, .undef, .undef, .undef, .undef, .undef, .undef, .undef, .undef, .undef, .undef, .undef, .undef, .undef, .undef, .undef, .undef, .undef, .undef, .undef, .undef, .undef], [some (x.2.cs B), some (rows IntS.cs x.1)], 1⟩) (fun x => 10 - x.1.length) (K, pickC B 32 c1) ⟨by simp only []; omega, ⟨hc2.1, by have := hc2.2; simp only []; omega⟩⟩ ?_ (fun x hx => ?_)
       · refine Weak.cut (2) (by simp) (by simp) ?_ ?_
         · simp [LeC, LeV, ren, cutF]
         · simp [cutH, cutB, Cur.ren, map_ren_rows]
       obtain ⟨K2, c2⟩ := x
       obtain ⟨y1, y2⟩ := hx
       dsimp only at y1 y2
       have hp2 := pickV_bd hB (n := 2) y2.1
       have hc4 := pickC_le (B := B) (n := 2) y2
       simp -implicitDefEqProofs -dsimp only [go_sem]
       refine callS.lend [0] false (pick_ok hB ⟨y2.1, by have := y2.2; omega⟩ 2 (by omega)) (by decide) ⟨leO, leO, trivial⟩ (lendCur rfl) (growCur B _ _) (.inl rfl) ?_
       generalize hq : pickV B 2 c2 = q at *
       have hwq : IntKind.i64.wrap (8 + q) = 8 + q := wrap_i64 (by omega) (by omega)
       have hwl : IntKind.i64.wrap (50 + (K2.length : Int)) = 50 + (K2.length : Int) := wrap_i64 (by omega) (by omega)
       (repeat ((repeat1' (first | simp -implicitDefEqProofs -dsimp only [go_sem, Cur.ren, hwq] | simp -dsimp (disch := omega) only [wrap_i64])); repeat (with_reducible refine sideA ?_)))
       refine condT.split (fun h4 => ?_) (fun h4 => ?_)
       · (repeat ((repeat1' (first | simp -implicitDefEqProofs -dsimp only [go_sem, h4, hwl] | simp -dsimp (disch := omega) only [wrap_i64])); repeat (with_reducible refine sideA ?_)))
         have h4' := of_decide_eq_true h4
         refine ⟨(K2 ++ [50 + (K2.length : Int)], pickC B 2 c2), ⟨by simp only [List.length_append, List.length_singleton]; omega, ⟨hc4.1, by have := hc4.2; simp only [List.length_append, List.length_singleton]; omega⟩⟩, ?_, by simp only [List.length_append, List.length_singleton]; omega⟩
         refine Weak.cut (2) (by simp) (by simp) ?_ ?_
         · simp [LeC, LeV, ren, cutF]
         · simp only [← rows_snoc]; simp [cutH, cutB, Cur.ren, map_ren_rows, ren, IntS.cs]
       · (repeat ((repeat1' (first | simp -implicitDefEqProofs -dsimp only [go_sem, h4] | simp -dsimp (disch := omega) only [wrap_i64])); repeat (with_reducible refine sideA ?_)))
         exact ⟨_, _, fin K2 (pickC B 2 c2) (by omega) ⟨hc4.1, by have := hc4.2; omega⟩, WeakR.refl _ _ _⟩
     · (repeat ((repeat1' (first | simp -implicitDefEqProofs -dsimp only [go_sem, h3] | simp -dsimp (disch := omega) only [wrap_i64])); repeat (with_reducible refine sideA ?_)))
       exact ⟨_, _, fin K (pickC B 32 c1) (by omega) ⟨hc2.1, by have := hc2.2; omega⟩, WeakR.refl _ _ _⟩
end Go.Proofs
end
section
set_option maxRecDepth 100000
set_option maxHeartbeats 2000000
namespace Go.Proofs
open Go.Lv
def stepP (B : List Int) (k : Int) (r : V) (hout : Hp) : Prop := ∃ (s : WatchStep) (c : Cur), s.ok ∧ c.le k ∧ r = s.v ∧ hout = [some (c.cs B)]
theorem step_fin {B : List Int} {k : Int} {h : Hp} {K N v : Int} {c : Cur} (h0 : h[0]? = some (some (c.cs B))) (hK : i64R K) (hN : i64R N) (hv : i64R v) (hc : c.le k) : RelR 1 (.agg [.int .i64 K, .int .i64 N, .int .i64 v]) h (stepP B k) := by
 refine ⟨_, _, ⟨⟨K, N, v⟩, c, ⟨hK, hN, hv⟩, hc, rfl, rfl⟩, WeakR.pick [0] (by decide) (fun j hj => by cases j <;> simp_all) (.inl rfl) ?_⟩
 simp only [pickH, List.map_cons, List.map_nil, pickB, h0, Cur.ren]
theorem lmono {c : Cur} {a b : Int} (h : c.le a) (hab : a ≤ b) : c.le b := ⟨h.1, Int.le_trans h.2 hab⟩
theorem i64R_mem {K : List Int} {v : Int} (h : v ∈ K) (hk : ∀ x ∈ K, i64R x) : i64R v := hk v h
theorem watchStep_ok {B : List Int} (hB : CB B) {k : Int} (hk : k ≤ 1000000) {c : Cur} (hc : c.le k) (w : Watch) (hw : w.ok) (hp : w.Posts.length ≤ 1000) (hs : w.Shocks.length ≤ 1000) : CtrP Tryd.prog 144 [.ptr 0 0, w.v] [some (c.cs B)] (stepP B (k + 20)) := by
 have hcb : ∀ {c' : Cur} {k' : Int}, c'.le k' → k' ≤ 4000000 → c'.le 4611686018427387903 := fun h h' => ⟨h.1, by have := h.2; omega⟩
 refine CtrP.intro Tryd.mixed Tryd.func144 rfl Tryd.okF144 ?_
 simp -implicitDefEqProofs -dsimp only [go_sem, Tryd.ntmps144, Tryd.results144]
 (repeat ((repeat1' (first | simp -implicitDefEqProofs -dsimp only [go_sem, Watch.v] | simp -dsimp (disch := omega) only [wrap_i64])); repeat (with_reducible refine sideA ?_)))
 refine among_call hB hc (by omega) [1, 1, 2, 3, 4, 4, 5, 6, 7, 8] (by simp) (by simp) rfl rfl rfl (fun vc1 c1 pvc1 hc1 => ?_)
 have hk1 : i64R vc1 := i64R_mem pvc1 (by simp [i64R])
 (repeat ((repeat1' (first | simp -implicitDefEqProofs -dsimp only [go_sem, Cur.ren] | simp -dsimp (disch := omega) only [wrap_i64])); repeat (with_reducible refine sideA ?_)))
 refine condT.split (fun h1 => ?_) (fun h1 => ?_)
 · have h1' := of_decide_eq_true h1
   obtain ⟨i, hi⟩ : ∃ i : Nat, pickV B w.Posts.length c1 = i := ⟨(pickV B w.Posts.length c1).toNat, by have := (pickV_bd hB (n := w.Posts.length) hc1.1).1; omega⟩
   have hi' : i < w.Posts.length := by have := (pickV_bd hB (n := w.Posts.length) hc1.1).2; omega
   have hr0 := rows_drop_at0 (cs := Post.cs) Post.csl hi'
   (repeat ((repeat1' (first | simp -implicitDefEqProofs -dsimp only [go_sem, h1] | simp -dsimp (disch := omega) only [wrap_i64])); repeat (with_reducible refine sideA ?_)))
   refine clT.tree (fun s2 => ∃ (st : Int) (c2 : Cur), i64R st ∧ c2.le (k + 4) ∧ s2 = ⟨[.ptr 0 0, .undef, .undef, .ptr 1 0, .ptr 2 0, .int .i64 1, .int .i64 st, .int .i64 vc1, .undef, .undef, .undef, .undef, .undef, .undef, .undef, .undef, .undef, .undef, .undef, .undef, .undef, .undef, .undef, .undef, .undef, .undef, .undef, .undef, .undef, .undef, .undef, .undef, .undef, .undef, .undef, .undef, .undef, .undef, .undef, .undef, .undef, .undef, .undef, .undef, .undef, .undef, .undef, .undef, .undef, .undef, .undef, .undef, .undef, .undef, .undef, .undef, .undef, .undef, .undef, .undef, .undef, .undef, .undef, .undef, .undef, .undef, .undef, .undef, .undef, .undef, .undef, .undef, .undef, .undef, .undef, .undef, .undef, .undef, .undef, .undef, .undef, .undef, .undef, .undef, .undef, .undef, .undef, .undef, .undef, .undef, .undef, .undef, .undef, .undef, .undef, .undef, .undef, .undef, .undef, .undef, .undef, .undef, .undef], [some (c2.cs B), some w.cs, some [.int .i64 0, .int .i64 0, .int .i64 0]], 1⟩) (.take 0 (.take 2 (.take 3 (.alt 1 (.alt 4 (.alt 5 (.alt 6 (.take 7 (.take 8 (.alt 9 (.alt 10 .done .stop) .stop))) .stop) .stop) .stop) (.alt 4 (.alt 1 (.alt 5 (.alt 6 (.take 7 (.take 8 (.alt 9 (.alt 10 .done .stop) .stop))) .stop) .stop) (.alt 5 (.alt 1 (.alt 6 (.take 7 (.take 8 (.alt 9 (.alt 10 .done .stop) .stop))) .stop) (.alt 6 (.alt 1 (.take 7 (.take 8 (.alt 9 (.alt 10 .done .stop) .stop))) .stop) .stop)) .stop)) .stop))))) (by kernel_rfl) (fun s2 hs2 => ?_) ?_
   · obtain ⟨st, c2, hst, hc2, rfl⟩ := hs2
     have hst1 : st = st := rfl
     (repeat ((repeat1' (first | simp -implicitDefEqProofs -dsimp only [go_sem, Watch.cs] | simp -dsimp (disch := omega) only [wrap_i64])); repeat (with_reducible refine sideA ?_)))
     refine condT.split (fun h2 => ?_) (fun h2 => ?_)
     · have h2' := of_decide_eq_true h2
       obtain ⟨j, hj⟩ : ∃ j : Nat, pickV B w.Shocks.length c2 = j := ⟨(pickV B w.Shocks.length c2).toNat, by have := (pickV_bd hB (n := w.Shocks.length) hc2.1).1; omega⟩
       have hj' : j < w.Shocks.length := by have := (pickV_bd hB (n := w.Shocks.length) hc2.1).2; omega
       have hr0 := rows_at Shock.csl hj'
       (repeat ((repeat1' (first | simp -implicitDefEqProofs -dsimp only [go_sem, h2] | simp -dsimp (disch := omega) only [wrap_i64])); repeat (with_reducible refine sideA ?_)))
       refine clT.tree (fun s2 => ∃ (c3 : Cur), c3.le (k + 6) ∧ s2 = ⟨[.ptr 0 0, .undef, .undef, .ptr 1 0, .ptr 2 0, .int .i64 1, .int .i64 st, .int .i64 vc1, .ptr 3 0, .undef, .undef, .undef, .undef, .undef, .undef, .undef, .undef, .undef, .undef, .undef, .undef, .undef, .undef, .undef, .undef, .undef, .undef, .undef, .undef, .undef, .undef, .undef, .undef, .undef, .undef, .undef, .undef, .undef, .undef, .undef, .undef, .undef, .undef, .undef, .undef, .undef, .undef, .undef, .undef, .undef, .undef, .undef, .undef, .undef, .undef, .undef, .undef, .undef, .undef, .undef, .undef, .undef, .undef, .undef, .undef, .undef, .undef, .undef, .undef, .undef, .undef, .undef, .undef, .undef, .undef, .undef, .undef, .undef, .undef, .undef, .undef, .undef, .undef, .undef, .undef, .undef, .undef, .undef, .undef, .undef, .undef, .undef, .undef, .undef, .undef, .undef, .undef, .undef, .undef, .undef, .undef, .undef, .undef], [some (c3.cs B), some w.cs, some [.int .i64 0, .int .i64 0, .int .i64 0], some w.Shocks[j].cs], 1⟩) (.take 0 (.take 2 (.take 3 (.alt 1 (.alt 4 (.alt 5 (.alt 6 (.take 7 (.alt 8 (.alt 9 (.alt 10 .done .stop) .stop) (.alt 9 (.alt 8 (.alt 10 .done .stop) .stop) .stop))) (.alt 9 (.alt 6 (.take 7 (.alt 8 (.alt 10 .done .stop) .stop)) .stop) .stop)) (.alt 9 (.alt 5 (.alt 6 (.take 7 (.alt 8 (.alt 10 .done .stop) .stop)) .stop) .stop) .stop)) (.alt 9 (.alt 4 (.alt 5 (.alt 6 (.take 7 (.alt 8 (.alt 10 .done .stop) .stop)) .stop) .stop) .stop) .stop)) (.alt 4 (.alt 1 (.alt 5 (.alt 6 (.take 7 (.alt 8 (.alt 9 (.alt 10 .done .stop) .stop) (.alt 9 (.alt 8 (.alt 10 .done .stop) .stop) .stop))) (.alt 9 (.alt 6 (.take 7 (.alt 8 (.alt 10 .done .stop) .stop)) .stop) .stop)) (.alt 9 (.alt 5 (.alt 6 (.take 7 (.alt 8 (.alt 10 .done .stop) .stop)) .stop) .stop) .stop)) (.alt 5 (.alt 1 (.alt 6 (.take 7 (.alt 8 (.alt 9 (.alt 10 .done .stop) .stop) (.alt 9 (.alt 8 (.alt 10 .done .stop) .stop) .stop))) (.alt 9 (.alt 6 (.take 7 (.alt 8 (.alt 10 .done .stop) .stop)) .stop) .stop)) (.alt 6 (.alt 1 (.take 7 (.alt 8 (.alt 9 (.alt 10 .done .stop) .stop) (.alt 9 (.alt 8 (.alt 10 .done .stop) .stop) .stop))) (.alt 9 (.alt 1 (.take 7 (.alt 8 (.alt 10 .done .stop) .stop)) .stop) .stop)) (.alt 9 (.alt 1 (.alt 6 (.take 7 (.alt 8 (.alt 10 .done .stop) .stop)) .stop) (.alt 6 (.alt 1 (.take 7 (.alt 8 (.alt 10 .done .stop) .stop)) .stop) .stop)) .stop))) (.alt 9 (.alt 1 (.alt 5 (.alt 6 (.take 7 (.alt 8 (.alt 10 .done .stop) .stop)) .stop) .stop) (.alt 5 (.alt 1 (.alt 6 (.take 7 (.alt 8 (.alt 10 .done .stop) .stop)) .stop) (.alt 6 (.alt 1 (.take 7 (.alt 8 (.alt 10 .done .stop) .stop)) .stop) .stop)) .stop)) .stop))) (.alt 9 (.alt 1 (.alt 4 (.alt 5 (.alt 6 (.take 7 (.alt 8 (.alt 10 .done .stop) .stop)) .stop) .stop) .stop) (.alt 4 (.alt 1 (.alt 5 (.alt 6 (.take 7 (.alt 8 (.alt 10 .done .stop) .stop)) .stop) .stop) (.alt 5 (.alt 1 (.alt 6 (.take 7 (.alt 8 (.alt 10 .done .stop) .stop)) .stop) (.alt 6 (.alt 1 (.take 7 (.alt 8 (.alt 10 .done .stop) .stop)) .stop) .stop)) .stop)) .stop)) .stop)))))) (by kernel_rfl) (fun s2 hs2 => ?_) ?_
       · obtain ⟨c8, hc8, rfl⟩ := hs2
         have hnm : i64R w.Shocks[j].Number := (hw.2.2.1.2 _ (List.getElem_mem hj')).1
         (repeat ((repeat1' (first | simp -implicitDefEqProofs -dsimp only [go_sem, Shock.cs] | simp -dsimp (disch := omega) only [wrap_i64])); repeat (with_reducible refine sideA ?_)))
         generalize w.Shocks[j].Number = nm at hnm ⊢
         generalize w.Shocks[j].State = sv
         refine one_call hB hc8 (by omega) 2 (by omega) rfl (fun vc3 c3 hc3 => ?_)
         (repeat ((repeat1' (first | simp -implicitDefEqProofs -dsimp only [go_sem, Cur.ren] | simp -dsimp (disch := omega) only [wrap_i64])); repeat (with_reducible refine sideA ?_)))
         refine guardT.split (fun h7 => ?_) (fun h7 => ?_) <;> (repeat ((repeat1' (first | simp -implicitDefEqProofs -dsimp only [go_sem, h7, Cur.ren] | simp -dsimp (disch := omega) only [wrap_i64])); repeat (with_reducible refine sideA ?_)))
         · (first | refine callT.at (l1In_ok _ _ _) ⟨leA, leA, leA, trivial⟩ ?_ | refine callS.at (l1In_ok _ _ _) ⟨leA, leA, leA, trivial⟩ ?_)
           (repeat ((repeat1' (first | simp -implicitDefEqProofs -dsimp only [go_sem] | simp -dsimp (disch := omega) only [wrap_i64])); repeat (with_reducible refine sideA ?_)))
           refine condT.split (fun h8 => ?_) (fun h8 => ?_)
           · have hsv : sv = 0 ∨ sv = 1 ∨ sv = 2 ∨ sv = 3 := by simp [inB'] at h8; omega
             rcases hsv with rfl | rfl | rfl | rfl
             all_goals
               (repeat ((repeat1' (first | simp -implicitDefEqProofs -dsimp only [go_sem, h8] | simp -dsimp (disch := omega) only [wrap_i64])); repeat (with_reducible refine sideA ?_)))
               refine one_call hB hc3 (by omega) 40 (by omega) rfl (fun vc4 c4 hc4 => ?_)
               (repeat ((repeat1' (first | simp -implicitDefEqProofs -dsimp only [go_sem, Cur.ren] | simp -dsimp (disch := omega) only [wrap_i64])); repeat (with_reducible refine sideA ?_)))
               refine condT.split (fun h5 => ?_) (fun h5 => ?_)
               · (repeat ((repeat1' (first | simp -implicitDefEqProofs -dsimp only [go_sem, h5] | simp -dsimp (disch := omega) only [wrap_i64])); repeat (with_reducible refine sideA ?_)))
                 refine among_call hB hc4 (by omega) [0, 9, 6] (by simp) (by simp) rfl rfl rfl (fun vc5 c5 pvc5 hc5 => ?_)
                 (repeat ((repeat1' (first | simp -implicitDefEqProofs -dsimp only [go_sem, Cur.ren] | simp -dsimp (disch := omega) only [wrap_i64])); repeat (with_reducible refine sideA ?_)))
                 refine among_call hB hc5 (by omega) [0, nm, 999] (by simp) (by simp) rfl rfl rfl (fun vc6 c6 pvc6 hc6 => ?_)
                 (repeat ((repeat1' (first | simp -implicitDefEqProofs -dsimp only [go_sem, Cur.ren] | simp -dsimp (disch := omega) only [wrap_i64])); repeat (with_reducible refine sideA ?_)))
                 refine among_call hB hc6 (by omega) [0, 1, -1] (by simp) (by simp) rfl rfl rfl (fun vc7 c7 pvc7 hc7 => ?_)
                 (repeat ((repeat1' (first | simp -implicitDefEqProofs -dsimp only [go_sem, Cur.ren] | simp -dsimp (disch := omega) only [wrap_i64])); repeat (with_reducible refine sideA ?_)))
                 exact step_fin rfl (i64R_mem pvc5 (by simp [i64R])) (i64R_mem pvc6 (by intro x hx; simp at hx; rcases hx with rfl | rfl | rfl <;> first | assumption | simp [i64R])) (i64R_mem pvc7 (by simp [i64R])) (lmono hc7 (by omega))
               · (repeat ((repeat1' (first | simp -implicitDefEqProofs -dsimp only [go_sem, h5] | simp -dsimp (disch := omega) only [wrap_i64])); repeat (with_reducible refine sideA ?_)))
                 repeat' (first | (refine condT.split (fun h6 => ?_) (fun h6 => ?_) <;> (repeat ((repeat1' (first | simp -implicitDefEqProofs -dsimp only [go_sem, h6, Cur.ren] | simp -dsimp (disch := omega) only [wrap_i64])); repeat (with_reducible refine sideA ?_)))) | (exact step_fin rfl (by first | assumption | (simp [i64R]; done) | exact i64R_mem pvc5 (by simp [i64R])) (by first | assumption | (simp [i64R]; done) | exact i64R_mem pvc5 (by simp [i64R])) (by first | assumption | (simp [i64R]; done) | exact i64R_mem pvc5 (by simp [i64R])) (by first | exact lmono hc5 (by omega) | exact lmono hc4 (by omega))) | (refine among_call hB hc4 (by omega) [1, 100, 6000, 6001, 1000001, 0] (by simp) (by simp) rfl rfl rfl (fun vc5 c5 pvc5 hc5 => ?_); (repeat ((repeat1' (first | simp -implicitDefEqProofs -dsimp only [go_sem, Cur.ren] | simp -dsimp (disch := omega) only [wrap_i64])); repeat (with_reducible refine sideA ?_)))) | (refine among_call hB hc4 (by omega) [-20, 12, 30, 49, 50, 95, 96] (by simp) (by simp) rfl rfl rfl (fun vc5 c5 pvc5 hc5 => ?_); (repeat ((repeat1' (first | simp -implicitDefEqProofs -dsimp only [go_sem, Cur.ren] | simp -dsimp (disch := omega) only [wrap_i64])); repeat (with_reducible refine sideA ?_)))) | (refine among_call hB hc4 (by omega) [0, 1, -3, 10, -10, 11] (by simp) (by simp) rfl rfl rfl (fun vc5 c5 pvc5 hc5 => ?_); (repeat ((repeat1' (first | simp -implicitDefEqProofs -dsimp only [go_sem, Cur.ren] | simp -dsimp (disch := omega) only [wrap_i64])); repeat (with_reducible refine sideA ?_)))))
           · (repeat ((repeat1' (first | simp -implicitDefEqProofs -dsimp only [go_sem, h8] | simp -dsimp (disch := omega) only [wrap_i64])); repeat (with_reducible refine sideA ?_)))
             refine one_call hB hc3 (by omega) 40 (by omega) rfl (fun vc4 c4 hc4 => ?_)
             (repeat ((repeat1' (first | simp -implicitDefEqProofs -dsimp only [go_sem, Cur.ren] | simp -dsimp (disch := omega) only [wrap_i64])); repeat (with_reducible refine sideA ?_)))
             refine condT.split (fun h5 => ?_) (fun h5 => ?_)
             · (repeat ((repeat1' (first | simp -implicitDefEqProofs -dsimp only [go_sem, h5] | simp -dsimp (disch := omega) only [wrap_i64])); repeat (with_reducible refine sideA ?_)))
               refine among_call hB hc4 (by omega) [0, 9, 6] (by simp) (by simp) rfl rfl rfl (fun vc5 c5 pvc5 hc5 => ?_)
               (repeat ((repeat1' (first | simp -implicitDefEqProofs -dsimp only [go_sem, Cur.ren] | simp -dsimp (disch := omega) only [wrap_i64])); repeat (with_reducible refine sideA ?_)))
               refine among_call hB hc5 (by omega) [0, nm, 999] (by simp) (by simp) rfl rfl rfl (fun vc6 c6 pvc6 hc6 => ?_)
               (repeat ((repeat1' (first | simp -implicitDefEqProofs -dsimp only [go_sem, Cur.ren] | simp -dsimp (disch := omega) only [wrap_i64])); repeat (with_reducible refine sideA ?_)))
               refine among_call hB hc6 (by omega) [0, 1, -1] (by simp) (by simp) rfl rfl rfl (fun vc7 c7 pvc7 hc7 => ?_)
               (repeat ((repeat1' (first | simp -implicitDefEqProofs -dsimp only [go_sem, Cur.ren] | simp -dsimp (disch := omega) only [wrap_i64])); repeat (with_reducible refine sideA ?_)))
               exact step_fin rfl (i64R_mem pvc5 (by simp [i64R])) (i64R_mem pvc6 (by intro x hx; simp at hx; rcases hx with rfl | rfl | rfl <;> first | assumption | simp [i64R])) (i64R_mem pvc7 (by simp [i64R])) (lmono hc7 (by omega))
             · (repeat ((repeat1' (first | simp -implicitDefEqProofs -dsimp only [go_sem, h5] | simp -dsimp (disch := omega) only [wrap_i64])); repeat (with_reducible refine sideA ?_)))
               repeat' (first | (refine condT.split (fun h6 => ?_) (fun h6 => ?_) <;> (repeat ((repeat1' (first | simp -implicitDefEqProofs -dsimp only [go_sem, h6, Cur.ren] | simp -dsimp (disch := omega) only [wrap_i64])); repeat (with_reducible refine sideA ?_)))) | (exact step_fin rfl (by first | assumption | (simp [i64R]; done) | exact i64R_mem pvc5 (by simp [i64R])) (by first | assumption | (simp [i64R]; done) | exact i64R_mem pvc5 (by simp [i64R])) (by first | assumption | (simp [i64R]; done) | exact i64R_mem pvc5 (by simp [i64R])) (by first | exact lmono hc5 (by omega) | exact lmono hc4 (by omega))) | (refine among_call hB hc4 (by omega) [1, 100, 6000, 6001, 1000001, 0] (by simp) (by simp) rfl rfl rfl (fun vc5 c5 pvc5 hc5 => ?_); (repeat ((repeat1' (first | simp -implicitDefEqProofs -dsimp only [go_sem, Cur.ren] | simp -dsimp (disch := omega) only [wrap_i64])); repeat (with_reducible refine sideA ?_)))) | (refine among_call hB hc4 (by omega) [-20, 12, 30, 49, 50, 95, 96] (by simp) (by simp) rfl rfl rfl (fun vc5 c5 pvc5 hc5 => ?_); (repeat ((repeat1' (first | simp -implicitDefEqProofs -dsimp only [go_sem, Cur.ren] | simp -dsimp (disch := omega) only [wrap_i64])); repeat (with_reducible refine sideA ?_)))) | (refine among_call hB hc4 (by omega) [0, 1, -3, 10, -10, 11] (by simp) (by simp) rfl rfl rfl (fun vc5 c5 pvc5 hc5 => ?_); (repeat ((repeat1' (first | simp -implicitDefEqProofs -dsimp only [go_sem, Cur.ren] | simp -dsimp (disch := omega) only [wrap_i64])); repeat (with_reducible refine sideA ?_)))))
         · skip
           refine one_call hB hc3 (by omega) 40 (by omega) rfl (fun vc4 c4 hc4 => ?_)
           (repeat ((repeat1' (first | simp -implicitDefEqProofs -dsimp only [go_sem, Cur.ren] | simp -dsimp (disch := omega) only [wrap_i64])); repeat (with_reducible refine sideA ?_)))
           refine condT.split (fun h5 => ?_) (fun h5 => ?_)
           · (repeat ((repeat1' (first | simp -implicitDefEqProofs -dsimp only [go_sem, h5] | simp -dsimp (disch := omega) only [wrap_i64])); repeat (with_reducible refine sideA ?_)))
             refine among_call hB hc4 (by omega) [0, 9, 6] (by simp) (by simp) rfl rfl rfl (fun vc5 c5 pvc5 hc5 => ?_)
             (repeat ((repeat1' (first | simp -implicitDefEqProofs -dsimp only [go_sem, Cur.ren] | simp -dsimp (disch := omega) only [wrap_i64])); repeat (with_reducible refine sideA ?_)))
             refine among_call hB hc5 (by omega) [0, nm, 999] (by simp) (by simp) rfl rfl rfl (fun vc6 c6 pvc6 hc6 => ?_)
             (repeat ((repeat1' (first | simp -implicitDefEqProofs -dsimp only [go_sem, Cur.ren] | simp -dsimp (disch := omega) only [wrap_i64])); repeat (with_reducible refine sideA ?_)))
             refine among_call hB hc6 (by omega) [0, 1, -1] (by simp) (by simp) rfl rfl rfl (fun vc7 c7 pvc7 hc7 => ?_)
             (repeat ((repeat1' (first | simp -implicitDefEqProofs -dsimp only [go_sem, Cur.ren] | simp -dsimp (disch := omega) only [wrap_i64])); repeat (with_reducible refine sideA ?_)))
             exact step_fin rfl (i64R_mem pvc5 (by simp [i64R])) (i64R_mem pvc6 (by intro x hx; simp at hx; rcases hx with rfl | rfl | rfl <;> first | assumption | simp [i64R])) (i64R_mem pvc7 (by simp [i64R])) (lmono hc7 (by omega))
           · (repeat ((repeat1' (first | simp -implicitDefEqProofs -dsimp only [go_sem, h5] | simp -dsimp (disch := omega) only [wrap_i64])); repeat (with_reducible refine sideA ?_)))
             repeat' (first | (refine condT.split (fun h6 => ?_) (fun h6 => ?_) <;> (repeat ((repeat1' (first | simp -implicitDefEqProofs -dsimp only [go_sem, h6, Cur.ren] | simp -dsimp (disch := omega) only [wrap_i64])); repeat (with_reducible refine sideA ?_)))) | (exact step_fin rfl (by first | assumption | (simp [i64R]; done) | exact i64R_mem pvc5 (by simp [i64R])) (by first | assumption | (simp [i64R]; done) | exact i64R_mem pvc5 (by simp [i64R])) (by first | assumption | (simp [i64R]; done) | exact i64R_mem pvc5 (by simp [i64R])) (by first | exact lmono hc5 (by omega) | exact lmono hc4 (by omega))) | (refine among_call hB hc4 (by omega) [1, 100, 6000, 6001, 1000001, 0] (by simp) (by simp) rfl rfl rfl (fun vc5 c5 pvc5 hc5 => ?_); (repeat ((repeat1' (first | simp -implicitDefEqProofs -dsimp only [go_sem, Cur.ren] | simp -dsimp (disch := omega) only [wrap_i64])); repeat (with_reducible refine sideA ?_)))) | (refine among_call hB hc4 (by omega) [-20, 12, 30, 49, 50, 95, 96] (by simp) (by simp) rfl rfl rfl (fun vc5 c5 pvc5 hc5 => ?_); (repeat ((repeat1' (first | simp -implicitDefEqProofs -dsimp only [go_sem, Cur.ren] | simp -dsimp (disch := omega) only [wrap_i64])); repeat (with_reducible refine sideA ?_)))) | (refine among_call hB hc4 (by omega) [0, 1, -3, 10, -10, 11] (by simp) (by simp) rfl rfl rfl (fun vc5 c5 pvc5 hc5 => ?_); (repeat ((repeat1' (first | simp -implicitDefEqProofs -dsimp only [go_sem, Cur.ren] | simp -dsimp (disch := omega) only [wrap_i64])); repeat (with_reducible refine sideA ?_)))))
       · have pk := pick_ok hB (hcb hc2 (by omega)) w.Shocks.length (by omega)
         have hq := pickC_le (B := B) (n := w.Shocks.length) hc2
         rw [hj] at pk
         generalize pickC B w.Shocks.length c2 = c3 at pk hq
         (repeat ((repeat1' (first | simp -implicitDefEqProofs -dsimp only [go_sem] | simp -dsimp (disch := omega) only [wrap_i64])); repeat (with_reducible refine sideA ?_)))
         repeat' (first | (refine callS.lend [0] false pk (by decide) ⟨leO, leO, trivial⟩ (lendCur rfl) (growCur B _ _) (.inl rfl) ?_; (repeat ((repeat1' (first | simp -implicitDefEqProofs -dsimp only [go_sem, hr0, Shock.cs, Cur.ren] | simp -dsimp (disch := omega) only [wrap_i64])); repeat (with_reducible refine sideA ?_)))) | (refine And.intro ?_ ?_) | exact trivial)
         all_goals
           refine ⟨_, ⟨c3, lmono hq (by omega), rfl⟩, ?_⟩
           first
           | (refine Weak.cut 4 (by simp) (by simp) ?_ ?_
              · (simp [LeC, LeV, ren, cutF, hst1]; done)
              · (simp [cutH, cutB, Cur.ren, ren, Watch.cs, map_ren_rows, Shock.cs]; done))
           | (refine Weak.pick [0, 1, 2, 4] (by decide) (fun j hj => by cases j <;> simp_all) ?_ ?_
              · (simp [LeG, LeC, LeV, ren, pickF, posOf, hst1]; done)
              · (simp [pickH, pickB, Cur.ren, ren, Watch.cs, map_ren_rows, Shock.cs]; done))
     · (repeat ((repeat1' (first | simp -implicitDefEqProofs -dsimp only [go_sem, h2] | simp -dsimp (disch := omega) only [wrap_i64])); repeat (with_reducible refine sideA ?_)))
       obtain ⟨c3, ec3⟩ : ∃ x, x = c2 := ⟨_, rfl⟩
       have hc3 : c3.le (k + 6) := by rw [ec3]; exact lmono hc2 (by omega)
       rw [← ec3]
       refine one_call hB hc3 (by omega) 40 (by omega) rfl (fun vc4 c4 hc4 => ?_)
       (repeat ((repeat1' (first | simp -implicitDefEqProofs -dsimp only [go_sem, Cur.ren] | simp -dsimp (disch := omega) only [wrap_i64])); repeat (with_reducible refine sideA ?_)))
       refine condT.split (fun h5 => ?_) (fun h5 => ?_)
       · (repeat ((repeat1' (first | simp -implicitDefEqProofs -dsimp only [go_sem, h5] | simp -dsimp (disch := omega) only [wrap_i64])); repeat (with_reducible refine sideA ?_)))
         refine among_call hB hc4 (by omega) [0, 9, 6] (by simp) (by simp) rfl rfl rfl (fun vc5 c5 pvc5 hc5 => ?_)
         (repeat ((repeat1' (first | simp -implicitDefEqProofs -dsimp only [go_sem, Cur.ren] | simp -dsimp (disch := omega) only [wrap_i64])); repeat (with_reducible refine sideA ?_)))
         refine among_call hB hc5 (by omega) [0, 1, 999] (by simp) (by simp) rfl rfl rfl (fun vc6 c6 pvc6 hc6 => ?_)
         (repeat ((repeat1' (first | simp -implicitDefEqProofs -dsimp only [go_sem, Cur.ren] | simp -dsimp (disch := omega) only [wrap_i64])); repeat (with_reducible refine sideA ?_)))
         refine among_call hB hc6 (by omega) [0, 1, -1] (by simp) (by simp) rfl rfl rfl (fun vc7 c7 pvc7 hc7 => ?_)
         (repeat ((repeat1' (first | simp -implicitDefEqProofs -dsimp only [go_sem, Cur.ren] | simp -dsimp (disch := omega) only [wrap_i64])); repeat (with_reducible refine sideA ?_)))
         exact step_fin rfl (i64R_mem pvc5 (by simp [i64R])) (i64R_mem pvc6 (by intro x hx; simp at hx; rcases hx with rfl | rfl | rfl <;> first | assumption | simp [i64R])) (i64R_mem pvc7 (by simp [i64R])) (lmono hc7 (by omega))
       · (repeat ((repeat1' (first | simp -implicitDefEqProofs -dsimp only [go_sem, h5] | simp -dsimp (disch := omega) only [wrap_i64])); repeat (with_reducible refine sideA ?_)))
         repeat' (first | (refine condT.split (fun h6 => ?_) (fun h6 => ?_) <;> (repeat ((repeat1' (first | simp -implicitDefEqProofs -dsimp only [go_sem, h6, Cur.ren] | simp -dsimp (disch := omega) only [wrap_i64])); repeat (with_reducible refine sideA ?_)))) | (exact step_fin rfl (by first | assumption | (simp [i64R]; done) | exact i64R_mem pvc5 (by simp [i64R])) (by first | assumption | (simp [i64R]; done) | exact i64R_mem pvc5 (by simp [i64R])) (by first | assumption | (simp [i64R]; done) | exact i64R_mem pvc5 (by simp [i64R])) (by first | exact lmono hc5 (by omega) | exact lmono hc4 (by omega))) | (refine among_call hB hc4 (by omega) [1, 100, 6000, 6001, 1000001, 0] (by simp) (by simp) rfl rfl rfl (fun vc5 c5 pvc5 hc5 => ?_); (repeat ((repeat1' (first | simp -implicitDefEqProofs -dsimp only [go_sem, Cur.ren] | simp -dsimp (disch := omega) only [wrap_i64])); repeat (with_reducible refine sideA ?_)))) | (refine among_call hB hc4 (by omega) [-20, 12, 30, 49, 50, 95, 96] (by simp) (by simp) rfl rfl rfl (fun vc5 c5 pvc5 hc5 => ?_); (repeat ((repeat1' (first | simp -implicitDefEqProofs -dsimp only [go_sem, Cur.ren] | simp -dsimp (disch := omega) only [wrap_i64])); repeat (with_reducible refine sideA ?_)))) | (refine among_call hB hc4 (by omega) [0, 1, -3, 10, -10, 11] (by simp) (by simp) rfl rfl rfl (fun vc5 c5 pvc5 hc5 => ?_); (repeat ((repeat1' (first | simp -implicitDefEqProofs -dsimp only [go_sem, Cur.ren] | simp -dsimp (disch := omega) only [wrap_i64])); repeat (with_reducible refine sideA ?_)))))
   · have pk := pick_ok hB (hcb hc1 (by omega)) w.Posts.length (by omega)
     have hq := pickC_le (B := B) (n := w.Posts.length) hc1
     rw [hi] at pk
     generalize pickC B w.Posts.length c1 = c2 at pk hq
     have hok := hw.2.1.2 _ (List.getElem_mem hi')
     (repeat ((repeat1' (first | simp -implicitDefEqProofs -dsimp only [go_sem] | simp -dsimp (disch := omega) only [wrap_i64])); repeat (with_reducible refine sideA ?_)))
     repeat' (first | (refine callS.lend [0] false pk (by decide) ⟨leO, leO, trivial⟩ (lendCur rfl) (growCur B _ _) (.inl rfl) ?_; (repeat ((repeat1' (first | simp -implicitDefEqProofs -dsimp only [go_sem, hr0, Post.cs, Cur.ren] | simp -dsimp (disch := omega) only [wrap_i64])); repeat (with_reducible refine sideA ?_)))) | (refine And.intro ?_ ?_) | exact trivial)
     all_goals
       refine ⟨_, ⟨w.Posts[i].Station, c2, hok.1, lmono hq (by omega), rfl⟩, ?_⟩
       refine Weak.cut (3) (by simp) (by simp) ?_ ?_
       · simp [LeC, LeV, ren, cutF]
       · simp [cutH, cutB, Cur.ren, ren, Watch.cs, map_ren_rows]
 · (repeat ((repeat1' (first | simp -implicitDefEqProofs -dsimp only [go_sem, h1] | simp -dsimp (disch := omega) only [wrap_i64])); repeat (with_reducible refine sideA ?_)))
   obtain ⟨c2, ec2⟩ : ∃ x, x = c1 := ⟨_, rfl⟩
   rw [← ec2] at hc1 ⊢
   have hc2 : c2.le (k + 4) := lmono hc1 (by omega)
   obtain ⟨st, hst1⟩ : ∃ x : Int, x = 1 := ⟨1, rfl⟩
   have hst : i64R st := by rw [hst1]; simp [i64R]
   refine condT.split (fun h2 => ?_) (fun h2 => ?_)
   · have h2' := of_decide_eq_true h2
     obtain ⟨j, hj⟩ : ∃ j : Nat, pickV B w.Shocks.length c2 = j := ⟨(pickV B w.Shocks.length c2).toNat, by have := (pickV_bd hB (n := w.Shocks.length) hc2.1).1; omega⟩
     have hj' : j < w.Shocks.length := by have := (pickV_bd hB (n := w.Shocks.length) hc2.1).2; omega
     have hr0 := rows_at Shock.csl hj'
     (repeat ((repeat1' (first | simp -implicitDefEqProofs -dsimp only [go_sem, h2] | simp -dsimp (disch := omega) only [wrap_i64])); repeat (with_reducible refine sideA ?_)))
     refine clT.tree (fun s2 => ∃ (c3 : Cur), c3.le (k + 6) ∧ s2 = ⟨[.ptr 0 0, .undef, .undef, .ptr 1 0, .ptr 2 0, .int .i64 1, .int .i64 st, .int .i64 vc1, .ptr 3 0, .undef, .undef, .undef, .undef, .undef, .undef, .undef, .undef, .undef, .undef, .undef, .undef, .undef, .undef, .undef, .undef, .undef, .undef, .undef, .undef, .undef, .undef, .undef, .undef, .undef, .undef, .undef, .undef, .undef, .undef, .undef, .undef, .undef, .undef, .undef, .undef, .undef, .undef, .undef, .undef, .undef, .undef, .undef, .undef, .undef, .undef, .undef, .undef, .undef, .undef, .undef, .undef, .undef, .undef, .undef, .undef, .undef, .undef, .undef, .undef, .undef, .undef, .undef, .undef, .undef, .undef, .undef, .undef, .undef, .undef, .undef, .undef, .undef, .undef, .undef, .undef, .undef, .undef, .undef, .undef, .undef, .undef, .undef, .undef, .undef, .undef, .undef, .undef, .undef, .undef, .undef, .undef, .undef, .undef], [some (c3.cs B), some w.cs, some [.int .i64 0, .int .i64 0, .int .i64 0], some w.Shocks[j].cs], 1⟩) (.take 0 (.take 2 (.take 3 (.alt 1 (.alt 4 (.alt 5 (.alt 6 (.take 7 (.alt 8 (.alt 9 (.alt 10 .done .stop) .stop) (.alt 9 (.alt 8 (.alt 10 .done .stop) .stop) .stop))) (.alt 9 (.alt 6 (.take 7 (.alt 8 (.alt 10 .done .stop) .stop)) .stop) .stop)) (.alt 9 (.alt 5 (.alt 6 (.take 7 (.alt 8 (.alt 10 .done .stop) .stop)) .stop) .stop) .stop)) (.alt 9 (.alt 4 (.alt 5 (.alt 6 (.take 7 (.alt 8 (.alt 10 .done .stop) .stop)) .stop) .stop) .stop) .stop)) (.alt 4 (.alt 1 (.alt 5 (.alt 6 (.take 7 (.alt 8 (.alt 9 (.alt 10 .done .stop) .stop) (.alt 9 (.alt 8 (.alt 10 .done .stop) .stop) .stop))) (.alt 9 (.alt 6 (.take 7 (.alt 8 (.alt 10 .done .stop) .stop)) .stop) .stop)) (.alt 9 (.alt 5 (.alt 6 (.take 7 (.alt 8 (.alt 10 .done .stop) .stop)) .stop) .stop) .stop)) (.alt 5 (.alt 1 (.alt 6 (.take 7 (.alt 8 (.alt 9 (.alt 10 .done .stop) .stop) (.alt 9 (.alt 8 (.alt 10 .done .stop) .stop) .stop))) (.alt 9 (.alt 6 (.take 7 (.alt 8 (.alt 10 .done .stop) .stop)) .stop) .stop)) (.alt 6 (.alt 1 (.take 7 (.alt 8 (.alt 9 (.alt 10 .done .stop) .stop) (.alt 9 (.alt 8 (.alt 10 .done .stop) .stop) .stop))) (.alt 9 (.alt 1 (.take 7 (.alt 8 (.alt 10 .done .stop) .stop)) .stop) .stop)) (.alt 9 (.alt 1 (.alt 6 (.take 7 (.alt 8 (.alt 10 .done .stop) .stop)) .stop) (.alt 6 (.alt 1 (.take 7 (.alt 8 (.alt 10 .done .stop) .stop)) .stop) .stop)) .stop))) (.alt 9 (.alt 1 (.alt 5 (.alt 6 (.take 7 (.alt 8 (.alt 10 .done .stop) .stop)) .stop) .stop) (.alt 5 (.alt 1 (.alt 6 (.take 7 (.alt 8 (.alt 10 .done .stop) .stop)) .stop) (.alt 6 (.alt 1 (.take 7 (.alt 8 (.alt 10 .done .stop) .stop)) .stop) .stop)) .stop)) .stop))) (.alt 9 (.alt 1 (.alt 4 (.alt 5 (.alt 6 (.take 7 (.alt 8 (.alt 10 .done .stop) .stop)) .stop) .stop) .stop) (.alt 4 (.alt 1 (.alt 5 (.alt 6 (.take 7 (.alt 8 (.alt 10 .done .stop) .stop)) .stop) .stop) (.alt 5 (.alt 1 (.alt 6 (.take 7 (.alt 8 (.alt 10 .done .stop) .stop)) .stop) (.alt 6 (.alt 1 (.take 7 (.alt 8 (.alt 10 .done .stop) .stop)) .stop) .stop)) .stop)) .stop)) .stop)))))) (by kernel_rfl) (fun s2 hs2 => ?_) ?_
     · obtain ⟨c8, hc8, rfl⟩ := hs2
       have hnm : i64R w.Shocks[j].Number := (hw.2.2.1.2 _ (List.getElem_mem hj')).1
       (repeat ((repeat1' (first | simp -implicitDefEqProofs -dsimp only [go_sem, Shock.cs] | simp -dsimp (disch := omega) only [wrap_i64])); repeat (with_reducible refine sideA ?_)))
       generalize w.Shocks[j].Number = nm at hnm ⊢
       generalize w.Shocks[j].State = sv
       refine one_call hB hc8 (by omega) 2 (by omega) rfl (fun vc3 c3 hc3 => ?_)
       (repeat ((repeat1' (first | simp -implicitDefEqProofs -dsimp only [go_sem, Cur.ren] | simp -dsimp (disch := omega) only [wrap_i64])); repeat (with_reducible refine sideA ?_)))
       refine guardT.split (fun h7 => ?_) (fun h7 => ?_) <;> (repeat ((repeat1' (first | simp -implicitDefEqProofs -dsimp only [go_sem, h7, Cur.ren] | simp -dsimp (disch := omega) only [wrap_i64])); repeat (with_reducible refine sideA ?_)))
       · (first | refine callT.at (l1In_ok _ _ _) ⟨leA, leA, leA, trivial⟩ ?_ | refine callS.at (l1In_ok _ _ _) ⟨leA, leA, leA, trivial⟩ ?_)
         (repeat ((repeat1' (first | simp -implicitDefEqProofs -dsimp only [go_sem] | simp -dsimp (disch := omega) only [wrap_i64])); repeat (with_reducible refine sideA ?_)))
         refine condT.split (fun h8 => ?_) (fun h8 => ?_)
         · have hsv : sv = 0 ∨ sv = 1 ∨ sv = 2 ∨ sv = 3 := by simp [inB'] at h8; omega
           rcases hsv with rfl | rfl | rfl | rfl
           all_goals
             (repeat ((repeat1' (first | simp -implicitDefEqProofs -dsimp only [go_sem, h8] | simp -dsimp (disch := omega) only [wrap_i64])); repeat (with_reducible refine sideA ?_)))
             refine one_call hB hc3 (by omega) 40 (by omega) rfl (fun vc4 c4 hc4 => ?_)
             (repeat ((repeat1' (first | simp -implicitDefEqProofs -dsimp only [go_sem, Cur.ren] | simp -dsimp (disch := omega) only [wrap_i64])); repeat (with_reducible refine sideA ?_)))
             refine condT.split (fun h5 => ?_) (fun h5 => ?_)
             · (repeat ((repeat1' (first | simp -implicitDefEqProofs -dsimp only [go_sem, h5] | simp -dsimp (disch := omega) only [wrap_i64])); repeat (with_reducible refine sideA ?_)))
               refine among_call hB hc4 (by omega) [0, 9, 6] (by simp) (by simp) rfl rfl rfl (fun vc5 c5 pvc5 hc5 => ?_)
               (repeat ((repeat1' (first | simp -implicitDefEqProofs -dsimp only [go_sem, Cur.ren] | simp -dsimp (disch := omega) only [wrap_i64])); repeat (with_reducible refine sideA ?_)))
               refine among_call hB hc5 (by omega) [0, nm, 999] (by simp) (by simp) rfl rfl rfl (fun vc6 c6 pvc6 hc6 => ?_)
               (repeat ((repeat1' (first | simp -implicitDefEqProofs -dsimp only [go_sem, Cur.ren] | simp -dsimp (disch := omega) only [wrap_i64])); repeat (with_reducible refine sideA ?_)))
               refine among_call hB hc6 (by omega) [0, 1, -1] (by simp) (by simp) rfl rfl rfl (fun vc7 c7 pvc7 hc7 => ?_)
               (repeat ((repeat1' (first | simp -implicitDefEqProofs -dsimp only [go_sem, Cur.ren] | simp -dsimp (disch := omega) only [wrap_i64])); repeat (with_reducible refine sideA ?_)))
               exact step_fin rfl (i64R_mem pvc5 (by simp [i64R])) (i64R_mem pvc6 (by intro x hx; simp at hx; rcases hx with rfl | rfl | rfl <;> first | assumption | simp [i64R])) (i64R_mem pvc7 (by simp [i64R])) (lmono hc7 (by omega))
             · (repeat ((repeat1' (first | simp -implicitDefEqProofs -dsimp only [go_sem, h5] | simp -dsimp (disch := omega) only [wrap_i64])); repeat (with_reducible refine sideA ?_)))
               repeat' (first | (refine condT.split (fun h6 => ?_) (fun h6 => ?_) <;> (repeat ((repeat1' (first | simp -implicitDefEqProofs -dsimp only [go_sem, h6, Cur.ren] | simp -dsimp (disch := omega) only [wrap_i64])); repeat (with_reducible refine sideA ?_)))) | (exact step_fin rfl (by first | assumption | (simp [i64R]; done) | exact i64R_mem pvc5 (by simp [i64R])) (by first | assumption | (simp [i64R]; done) | exact i64R_mem pvc5 (by simp [i64R])) (by first | assumption | (simp [i64R]; done) | exact i64R_mem pvc5 (by simp [i64R])) (by first | exact lmono hc5 (by omega) | exact lmono hc4 (by omega))) | (refine among_call hB hc4 (by omega) [1, 100, 6000, 6001, 1000001, 0] (by simp) (by simp) rfl rfl rfl (fun vc5 c5 pvc5 hc5 => ?_); (repeat ((repeat1' (first | simp -implicitDefEqProofs -dsimp only [go_sem, Cur.ren] | simp -dsimp (disch := omega) only [wrap_i64])); repeat (with_reducible refine sideA ?_)))) | (refine among_call hB hc4 (by omega) [-20, 12, 30, 49, 50, 95, 96] (by simp) (by simp) rfl rfl rfl (fun vc5 c5 pvc5 hc5 => ?_); (repeat ((repeat1' (first | simp -implicitDefEqProofs -dsimp only [go_sem, Cur.ren] | simp -dsimp (disch := omega) only [wrap_i64])); repeat (with_reducible refine sideA ?_)))) | (refine among_call hB hc4 (by omega) [0, 1, -3, 10, -10, 11] (by simp) (by simp) rfl rfl rfl (fun vc5 c5 pvc5 hc5 => ?_); (repeat ((repeat1' (first | simp -implicitDefEqProofs -dsimp only [go_sem, Cur.ren] | simp -dsimp (disch := omega) only [wrap_i64])); repeat (with_reducible refine sideA ?_)))))
         · (repeat ((repeat1' (first | simp -implicitDefEqProofs -dsimp only [go_sem, h8] | simp -dsimp (disch := omega) only [wrap_i64])); repeat (with_reducible refine sideA ?_)))
           refine one_call hB hc3 (by omega) 40 (by omega) rfl (fun vc4 c4 hc4 => ?_)
           (repeat ((repeat1' (first | simp -implicitDefEqProofs -dsimp only [go_sem, Cur.ren] | simp -dsimp (disch := omega) only [wrap_i64])); repeat (with_reducible refine sideA ?_)))
           refine condT.split (fun h5 => ?_) (fun h5 => ?_)
           · (repeat ((repeat1' (first | simp -implicitDefEqProofs -dsimp only [go_sem, h5] | simp -dsimp (disch := omega) only [wrap_i64])); repeat (with_reducible refine sideA ?_)))
             refine among_call hB hc4 (by omega) [0, 9, 6] (by simp) (by simp) rfl rfl rfl (fun vc5 c5 pvc5 hc5 => ?_)
             (repeat ((repeat1' (first | simp -implicitDefEqProofs -dsimp only [go_sem, Cur.ren] | simp -dsimp (disch := omega) only [wrap_i64])); repeat (with_reducible refine sideA ?_)))
             refine among_call hB hc5 (by omega) [0, nm, 999] (by simp) (by simp) rfl rfl rfl (fun vc6 c6 pvc6 hc6 => ?_)
             (repeat ((repeat1' (first | simp -implicitDefEqProofs -dsimp only [go_sem, Cur.ren] | simp -dsimp (disch := omega) only [wrap_i64])); repeat (with_reducible refine sideA ?_)))
             refine among_call hB hc6 (by omega) [0, 1, -1] (by simp) (by simp) rfl rfl rfl (fun vc7 c7 pvc7 hc7 => ?_)
             (repeat ((repeat1' (first | simp -implicitDefEqProofs -dsimp only [go_sem, Cur.ren] | simp -dsimp (disch := omega) only [wrap_i64])); repeat (with_reducible refine sideA ?_)))
             exact step_fin rfl (i64R_mem pvc5 (by simp [i64R])) (i64R_mem pvc6 (by intro x hx; simp at hx; rcases hx with rfl | rfl | rfl <;> first | assumption | simp [i64R])) (i64R_mem pvc7 (by simp [i64R])) (lmono hc7 (by omega))
           · (repeat ((repeat1' (first | simp -implicitDefEqProofs -dsimp only [go_sem, h5] | simp -dsimp (disch := omega) only [wrap_i64])); repeat (with_reducible refine sideA ?_)))
             repeat' (first | (refine condT.split (fun h6 => ?_) (fun h6 => ?_) <;> (repeat ((repeat1' (first | simp -implicitDefEqProofs -dsimp only [go_sem, h6, Cur.ren] | simp -dsimp (disch := omega) only [wrap_i64])); repeat (with_reducible refine sideA ?_)))) | (exact step_fin rfl (by first | assumption | (simp [i64R]; done) | exact i64R_mem pvc5 (by simp [i64R])) (by first | assumption | (simp [i64R]; done) | exact i64R_mem pvc5 (by simp [i64R])) (by first | assumption | (simp [i64R]; done) | exact i64R_mem pvc5 (by simp [i64R])) (by first | exact lmono hc5 (by omega) | exact lmono hc4 (by omega))) | (refine among_call hB hc4 (by omega) [1, 100, 6000, 6001, 1000001, 0] (by simp) (by simp) rfl rfl rfl (fun vc5 c5 pvc5 hc5 => ?_); (repeat ((repeat1' (first | simp -implicitDefEqProofs -dsimp only [go_sem, Cur.ren] | simp -dsimp (disch := omega) only [wrap_i64])); repeat (with_reducible refine sideA ?_)))) | (refine among_call hB hc4 (by omega) [-20, 12, 30, 49, 50, 95, 96] (by simp) (by simp) rfl rfl rfl (fun vc5 c5 pvc5 hc5 => ?_); (repeat ((repeat1' (first | simp -implicitDefEqProofs -dsimp only [go_sem, Cur.ren] | simp -dsimp (disch := omega) only [wrap_i64])); repeat (with_reducible refine sideA ?_)))) | (refine among_call hB hc4 (by omega) [0, 1, -3, 10, -10, 11] (by simp) (by simp) rfl rfl rfl (fun vc5 c5 pvc5 hc5 => ?_); (repeat ((repeat1' (first | simp -implicitDefEqProofs -dsimp only [go_sem, Cur.ren] | simp -dsimp (disch := omega) only [wrap_i64])); repeat (with_reducible refine sideA ?_)))))
       · skip
         refine one_call hB hc3 (by omega) 40 (by omega) rfl (fun vc4 c4 hc4 => ?_)
         (repeat ((repeat1' (first | simp -implicitDefEqProofs -dsimp only [go_sem, Cur.ren] | simp -dsimp (disch := omega) only [wrap_i64])); repeat (with_reducible refine sideA ?_)))
         refine condT.split (fun h5 => ?_) (fun h5 => ?_)
         · (repeat ((repeat1' (first | simp -implicitDefEqProofs -dsimp only [go_sem, h5] | simp -dsimp (disch := omega) only [wrap_i64])); repeat (with_reducible refine sideA ?_)))
           refine among_call hB hc4 (by omega) [0, 9, 6] (by simp) (by simp) rfl rfl rfl (fun vc5 c5 pvc5 hc5 => ?_)
           (repeat ((repeat1' (first | simp -implicitDefEqProofs -dsimp only [go_sem, Cur.ren] | simp -dsimp (disch := omega) only [wrap_i64])); repeat (with_reducible refine sideA ?_)))
           refine among_call hB hc5 (by omega) [0, nm, 999] (by simp) (by simp) rfl rfl rfl (fun vc6 c6 pvc6 hc6 => ?_)
           (repeat ((repeat1' (first | simp -implicitDefEqProofs -dsimp only [go_sem, Cur.ren] | simp -dsimp (disch := omega) only [wrap_i64])); repeat (with_reducible refine sideA ?_)))
           refine among_call hB hc6 (by omega) [0, 1, -1] (by simp) (by simp) rfl rfl rfl (fun vc7 c7 pvc7 hc7 => ?_)
           (repeat ((repeat1' (first | simp -implicitDefEqProofs -dsimp only [go_sem, Cur.ren] | simp -dsimp (disch := omega) only [wrap_i64])); repeat (with_reducible refine sideA ?_)))
           exact step_fin rfl (i64R_mem pvc5 (by simp [i64R])) (i64R_mem pvc6 (by intro x hx; simp at hx; rcases hx with rfl | rfl | rfl <;> first | assumption | simp [i64R])) (i64R_mem pvc7 (by simp [i64R])) (lmono hc7 (by omega))
         · (repeat ((repeat1' (first | simp -implicitDefEqProofs -dsimp only [go_sem, h5] | simp -dsimp (disch := omega) only [wrap_i64])); repeat (with_reducible refine sideA ?_)))
           repeat' (first | (refine condT.split (fun h6 => ?_) (fun h6 => ?_) <;> (repeat ((repeat1' (first | simp -implicitDefEqProofs -dsimp only [go_sem, h6, Cur.ren] | simp -dsimp (disch := omega) only [wrap_i64])); repeat (with_reducible refine sideA ?_)))) | (exact step_fin rfl (by first | assumption | (simp [i64R]; done) | exact i64R_mem pvc5 (by simp [i64R])) (by first | assumption | (simp [i64R]; done) | exact i64R_mem pvc5 (by simp [i64R])) (by first | assumption | (simp [i64R]; done) | exact i64R_mem pvc5 (by simp [i64R])) (by first | exact lmono hc5 (by omega) | exact lmono hc4 (by omega))) | (refine among_call hB hc4 (by omega) [1, 100, 6000, 6001, 1000001, 0] (by simp) (by simp) rfl rfl rfl (fun vc5 c5 pvc5 hc5 => ?_); (repeat ((repeat1' (first | simp -implicitDefEqProofs -dsimp only [go_sem, Cur.ren] | simp -dsimp (disch := omega) only [wrap_i64])); repeat (with_reducible refine sideA ?_)))) | (refine among_call hB hc4 (by omega) [-20, 12, 30, 49, 50, 95, 96] (by simp) (by simp) rfl rfl rfl (fun vc5 c5 pvc5 hc5 => ?_); (repeat ((repeat1' (first | simp -implicitDefEqProofs -dsimp only [go_sem, Cur.ren] | simp -dsimp (disch := omega) only [wrap_i64])); repeat (with_reducible refine sideA ?_)))) | (refine among_call hB hc4 (by omega) [0, 1, -3, 10, -10, 11] (by simp) (by simp) rfl rfl rfl (fun vc5 c5 pvc5 hc5 => ?_); (repeat ((repeat1' (first | simp -implicitDefEqProofs -dsimp only [go_sem, Cur.ren] | simp -dsimp (disch := omega) only [wrap_i64])); repeat (with_reducible refine sideA ?_)))))
     · have pk := pick_ok hB (hcb hc2 (by omega)) w.Shocks.length (by omega)
       have hq := pickC_le (B := B) (n := w.Shocks.length) hc2
       rw [hj] at pk
       generalize pickC B w.Shocks.length c2 = c3 at pk hq
       (repeat ((repeat1' (first | simp -implicitDefEqProofs -dsimp only [go_sem] | simp -dsimp (disch := omega) only [wrap_i64])); repeat (with_reducible refine sideA ?_)))
       repeat' (first | (refine callS.lend [0] false pk (by decide) ⟨leO, leO, trivial⟩ (lendCur rfl) (growCur B _ _) (.inl rfl) ?_; (repeat ((repeat1' (first | simp -implicitDefEqProofs -dsimp only [go_sem, hr0, Shock.cs, Cur.ren] | simp -dsimp (disch := omega) only [wrap_i64])); repeat (with_reducible refine sideA ?_)))) | (refine And.intro ?_ ?_) | exact trivial)
       all_goals
         refine ⟨_, ⟨c3, lmono hq (by omega), rfl⟩, ?_⟩
         first
         | (refine Weak.cut 4 (by simp) (by simp) ?_ ?_
            · (simp [LeC, LeV, ren, cutF, hst1]; done)
            · (simp [cutH, cutB, Cur.ren, ren, Watch.cs, map_ren_rows, Shock.cs]; done))
         | (refine Weak.pick [0, 1, 2, 4] (by decide) (fun j hj => by cases j <;> simp_all) ?_ ?_
            · (simp [LeG, LeC, LeV, ren, pickF, posOf, hst1]; done)
            · (simp [pickH, pickB, Cur.ren, ren, Watch.cs, map_ren_rows, Shock.cs]; done))
   · (repeat ((repeat1' (first | simp -implicitDefEqProofs -dsimp only [go_sem, h2] | simp -dsimp (disch := omega) only [wrap_i64])); repeat (with_reducible refine sideA ?_)))
     obtain ⟨c3, ec3⟩ : ∃ x, x = c2 := ⟨_, rfl⟩
     have hc3 : c3.le (k + 6) := by rw [ec3]; exact lmono hc2 (by omega)
     rw [← ec3]
     refine one_call hB hc3 (by omega) 40 (by omega) rfl (fun vc4 c4 hc4 => ?_)
     (repeat ((repeat1' (first | simp -implicitDefEqProofs -dsimp only [go_sem, Cur.ren] | simp -dsimp (disch := omega) only [wrap_i64])); repeat (with_reducible refine sideA ?_)))
     refine condT.split (fun h5 => ?_) (fun h5 => ?_)
     · (repeat ((repeat1' (first | simp -implicitDefEqProofs -dsimp only [go_sem, h5] | simp -dsimp (disch := omega) only [wrap_i64])); repeat (with_reducible refine sideA ?_)))
       refine among_call hB hc4 (by omega) [0, 9, 6] (by simp) (by simp) rfl rfl rfl (fun vc5 c5 pvc5 hc5 => ?_)
       (repeat ((repeat1' (first | simp -implicitDefEqProofs -dsimp only [go_sem, Cur.ren] | simp -dsimp (disch := omega) only [wrap_i64])); repeat (with_reducible refine sideA ?_)))
       refine among_call hB hc5 (by omega) [0, 1, 999] (by simp) (by simp) rfl rfl rfl (fun vc6 c6 pvc6 hc6 => ?_)
       (repeat ((repeat1' (first | simp -implicitDefEqProofs -dsimp only [go_sem, Cur.ren] | simp -dsimp (disch := omega) only [wrap_i64])); repeat (with_reducible refine sideA ?_)))
       refine among_call hB hc6 (by omega) [0, 1, -1] (by simp) (by simp) rfl rfl rfl (fun vc7 c7 pvc7 hc7 => ?_)
       (repeat ((repeat1' (first | simp -implicitDefEqProofs -dsimp only [go_sem, Cur.ren] | simp -dsimp (disch := omega) only [wrap_i64])); repeat (with_reducible refine sideA ?_)))
       exact step_fin rfl (i64R_mem pvc5 (by simp [i64R])) (i64R_mem pvc6 (by intro x hx; simp at hx; rcases hx with rfl | rfl | rfl <;> first | assumption | simp [i64R])) (i64R_mem pvc7 (by simp [i64R])) (lmono hc7 (by omega))
     · (repeat ((repeat1' (first | simp -implicitDefEqProofs -dsimp only [go_sem, h5] | simp -dsimp (disch := omega) only [wrap_i64])); repeat (with_reducible refine sideA ?_)))
       repeat' (first | (refine condT.split (fun h6 => ?_) (fun h6 => ?_) <;> (repeat ((repeat1' (first | simp -implicitDefEqProofs -dsimp only [go_sem, h6, Cur.ren] | simp -dsimp (disch := omega) only [wrap_i64])); repeat (with_reducible refine sideA ?_)))) | (exact step_fin rfl (by first | assumption | (simp [i64R]; done) | exact i64R_mem pvc5 (by simp [i64R])) (by first | assumption | (simp [i64R]; done) | exact i64R_mem pvc5 (by simp [i64R])) (by first | assumption | (simp [i64R]; done) | exact i64R_mem pvc5 (by simp [i64R])) (by first | exact lmono hc5 (by omega) | exact lmono hc4 (by omega))) | (refine among_call hB hc4 (by omega) [1, 100, 6000, 6001, 1000001, 0] (by simp) (by simp) rfl rfl rfl (fun vc5 c5 pvc5 hc5 => ?_); (repeat ((repeat1' (first | simp -implicitDefEqProofs -dsimp only [go_sem, Cur.ren] | simp -dsimp (disch := omega) only [wrap_i64])); repeat (with_reducible refine sideA ?_)))) | (refine among_call hB hc4 (by omega) [-20, 12, 30, 49, 50, 95, 96] (by simp) (by simp) rfl rfl rfl (fun vc5 c5 pvc5 hc5 => ?_); (repeat ((repeat1' (first | simp -implicitDefEqProofs -dsimp only [go_sem, Cur.ren] | simp -dsimp (disch := omega) only [wrap_i64])); repeat (with_reducible refine sideA ?_)))) | (refine among_call hB hc4 (by omega) [0, 1, -3, 10, -10, 11] (by simp) (by simp) rfl rfl rfl (fun vc5 c5 pvc5 hc5 => ?_); (repeat ((repeat1' (first | simp -implicitDefEqProofs -dsimp only [go_sem, Cur.ren] | simp -dsimp (disch := omega) only [wrap_i64])); repeat (with_reducible refine sideA ?_)))))
end Go.Proofs
end
section
set_option maxRecDepth 100000
set_option maxHeartbeats 2000000
namespace Go.Proofs
open Go.Lv
def Watch.mc (r : Watch) (i : Nat) : List V := [.int .i64 r.Now, .sl r.Posts.length 3 (rows Post.cs r.Posts), .osl i 0 r.Shocks.length 5, .int .i64 r.Next, .int .i64 r.Archived]
def stepP1 (B : List Int) (k : Int) (L : List Shock) (r : V) (hout : Hp) : Prop := ∃ (s : WatchStep) (c : Cur), s.ok ∧ c.le k ∧ r = s.v ∧ hout = [some (c.cs B), some (rows Shock.cs L)]
theorem step_fin1 {B : List Int} {k : Int} {L : List Shock} {h : Hp} {K N v : Int} {c : Cur} (h0 : h[0]? = some (some (c.cs B))) (h1 : h[1]? = some (some (rows Shock.cs L))) (hK : i64R K) (hN : i64R N) (hv : i64R v) (hc : c.le k) : RelR 2 (.agg [.int .i64 K, .int .i64 N, .int .i64 v]) h (stepP1 B k L) := by
 refine ⟨_, _, ⟨⟨K, N, v⟩, c, ⟨hK, hN, hv⟩, hc, rfl, rfl⟩, WeakR.pick [0, 1] (by decide) (fun j hj => by rcases j with _ | _ | j <;> first | rfl | omega) (.inl rfl) ?_⟩
 simp only [pickH, List.map_cons, List.map_nil, pickB, h0, h1, Cur.ren, map_ren_rows]
theorem watchStepM_ok {B : List Int} (hB : CB B) {k : Int} (hk : k ≤ 1000000) {c : Cur} (hc : c.le k) (w : Watch) (hw : w.ok) (hp : w.Posts.length ≤ 1000) (hs : w.Shocks.length ≤ 1000) : CtrP Tryd.prog 144 [.ptr 0 0, .agg (w.mc 1)] [some (c.cs B), some (rows Shock.cs w.Shocks)] (stepP1 B (k + 20) w.Shocks) := by
 have hcb : ∀ {c' : Cur} {k' : Int}, c'.le k' → k' ≤ 4000000 → c'.le 4611686018427387903 := fun h h' => ⟨h.1, by have := h.2; omega⟩
 refine CtrP.intro Tryd.mixed Tryd.func144 rfl Tryd.okF144 ?_
 simp -implicitDefEqProofs -dsimp only [go_sem, Tryd.ntmps144, Tryd.results144]
 (repeat ((repeat1' (first | simp -implicitDefEqProofs -dsimp only [go_sem, Watch.mc] | simp -dsimp (disch := omega) only [wrap_i64])); repeat (with_reducible refine sideA ?_)))
 refine among_call hB hc (by omega) [1, 1, 2, 3, 4, 4, 5, 6, 7, 8] (by simp) (by simp) rfl rfl rfl (fun vc1 c1 pvc1 hc1 => ?_)
 have hk1 : i64R vc1 := i64R_mem pvc1 (by simp [i64R])
 (repeat ((repeat1' (first | simp -implicitDefEqProofs -dsimp only [go_sem, Cur.ren] | simp -dsimp (disch := omega) only [wrap_i64])); repeat (with_reducible refine sideA ?_)))
 refine condT.split (fun h1 => ?_) (fun h1 => ?_)
 · have h1' := of_decide_eq_true h1
   obtain ⟨i, hi⟩ : ∃ i : Nat, pickV B w.Posts.length c1 = i := ⟨(pickV B w.Posts.length c1).toNat, by have := (pickV_bd hB (n := w.Posts.length) hc1.1).1; omega⟩
   have hi' : i < w.Posts.length := by have := (pickV_bd hB (n := w.Posts.length) hc1.1).2; omega
   have hr0 := rows_drop_at0 (cs := Post.cs) Post.csl hi'
   (repeat ((repeat1' (first | simp -implicitDefEqProofs -dsimp only [go_sem, h1] | simp -dsimp (disch := omega) only [wrap_i64])); repeat (with_reducible refine sideA ?_)))
   refine clT.tree (fun s2 => ∃ (st : Int) (c2 : Cur), i64R st ∧ c2.le (k + 4) ∧ s2 = ⟨[.ptr 0 0, .undef, .undef, .ptr 2 0, .ptr 3 0, .int .i64 1, .int .i64 st, .int .i64 vc1, .undef, .undef, .undef, .undef, .undef, .undef, .undef, .undef, .undef, .undef, .undef, .undef, .undef, .undef, .undef, .undef, .undef, .undef, .undef, .undef, .undef, .undef, .undef, .undef, .undef, .undef, .undef, .undef, .undef, .undef, .undef, .undef, .undef, .undef, .undef, .undef, .undef, .undef, .undef, .undef, .undef, .undef, .undef, .undef, .undef, .undef, .undef, .undef, .undef, .undef, .undef, .undef, .undef, .undef, .undef, .undef, .undef, .undef, .undef, .undef, .undef, .undef, .undef, .undef, .undef, .undef, .undef, .undef, .undef, .undef, .undef, .undef, .undef, .undef, .undef, .undef, .undef, .undef, .undef, .undef, .undef, .undef, .undef, .undef, .undef, .undef, .undef, .undef, .undef, .undef, .undef, .undef, .undef, .undef, .undef], [some (c2.cs B), some (rows Shock.cs w.Shocks), some (w.mc 1), some [.int .i64 0, .int .i64 0, .int .i64 0]], 2⟩) (.take 0 (.take 2 (.take 3 (.alt 1 (.alt 4 (.alt 5 (.alt 6 (.take 7 (.take 8 (.alt 9 (.alt 10 .done .stop) .stop))) .stop) .stop) .stop) (.alt 4 (.alt 1 (.alt 5 (.alt 6 (.take 7 (.take 8 (.alt 9 (.alt 10 .done .stop) .stop))) .stop) .stop) (.alt 5 (.alt 1 (.alt 6 (.take 7 (.take 8 (.alt 9 (.alt 10 .done .stop) .stop))) .stop) (.alt 6 (.alt 1 (.take 7 (.take 8 (.alt 9 (.alt 10 .done .stop) .stop))) .stop) .stop)) .stop)) .stop))))) (by kernel_rfl) (fun s2 hs2 => ?_) ?_
   · obtain ⟨st, c2, hst, hc2, rfl⟩ := hs2
     have hst1 : st = st := rfl
     (repeat ((repeat1' (first | simp -implicitDefEqProofs -dsimp only [go_sem, Watch.mc] | simp -dsimp (disch := omega) only [wrap_i64])); repeat (with_reducible refine sideA ?_)))
     refine condT.split (fun h2 => ?_) (fun h2 => ?_)
     · have h2' := of_decide_eq_true h2
       obtain ⟨j, hj⟩ : ∃ j : Nat, pickV B w.Shocks.length c2 = j := ⟨(pickV B w.Shocks.length c2).toNat, by have := (pickV_bd hB (n := w.Shocks.length) hc2.1).1; omega⟩
       have hj' : j < w.Shocks.length := by have := (pickV_bd hB (n := w.Shocks.length) hc2.1).2; omega
       have hr0 := rows_at Shock.csl hj'
       have hlr := rows_len (w := 5) Shock.csl w.Shocks
       (repeat ((repeat1' (first | simp -implicitDefEqProofs -dsimp only [go_sem, h2] | simp -dsimp (disch := omega) only [wrap_i64])); repeat (with_reducible refine sideA ?_)))
       refine clT.tree (fun s2 => ∃ (c3 : Cur), c3.le (k + 6) ∧ s2 = ⟨[.ptr 0 0, .undef, .undef, .ptr 2 0, .ptr 3 0, .int .i64 1, .int .i64 st, .int .i64 vc1, .ptr 4 0, .undef, .undef, .undef, .undef, .undef, .undef, .undef, .undef, .undef, .undef, .undef, .undef, .undef, .undef, .undef, .undef, .undef, .undef, .undef, .undef, .undef, .undef, .undef, .undef, .undef, .undef, .undef, .undef, .undef, .undef, .undef, .undef, .undef, .undef, .undef, .undef, .undef, .undef, .undef, .undef, .undef, .undef, .undef, .undef, .undef, .undef, .undef, .undef, .undef, .undef, .undef, .undef, .undef, .undef, .undef, .undef, .undef, .undef, .undef, .undef, .undef, .undef, .undef, .undef, .undef, .undef, .undef, .undef, .undef, .undef, .undef, .undef, .undef, .undef, .undef, .undef, .undef, .undef, .undef, .undef, .undef, .undef, .undef, .undef, .undef, .undef, .undef, .undef, .undef, .undef, .undef, .undef, .undef, .undef], [some (c3.cs B), some (rows Shock.cs w.Shocks), some (w.mc 1), some [.int .i64 0, .int .i64 0, .int .i64 0], some w.Shocks[j].cs], 2⟩) (.take 0 (.take 2 (.take 3 (.alt 1 (.alt 4 (.alt 5 (.alt 6 (.take 7 (.alt 8 (.alt 9 (.alt 10 .done .stop) .stop) (.alt 9 (.alt 8 (.alt 10 .done .stop) .stop) .stop))) (.alt 9 (.alt 6 (.take 7 (.alt 8 (.alt 10 .done .stop) .stop)) .stop) .stop)) (.alt 9 (.alt 5 (.alt 6 (.take 7 (.alt 8 (.alt 10 .done .stop) .stop)) .stop) .stop) .stop)) (.alt 9 (.alt 4 (.alt 5 (.alt 6 (.take 7 (.alt 8 (.alt 10 .done .stop) .stop)) .stop) .stop) .stop) .stop)) (.alt 4 (.alt 1 (.alt 5 (.alt 6 (.take 7 (.alt 8 (.alt 9 (.alt 10 .done .stop) .stop) (.alt 9 (.alt 8 (.alt 10 .done .stop) .stop) .stop))) (.alt 9 (.alt 6 (.take 7 (.alt 8 (.alt 10 .done .stop) .stop)) .stop) .stop)) (.alt 9 (.alt 5 (.alt 6 (.take 7 (.alt 8 (.alt 10 .done .stop) .stop)) .stop) .stop) .stop)) (.alt 5 (.alt 1 (.alt 6 (.take 7 (.alt 8 (.alt 9 (.alt 10 .done .stop) .stop) (.alt 9 (.alt 8 (.alt 10 .done .stop) .stop) .stop))) (.alt 9 (.alt 6 (.take 7 (.alt 8 (.alt 10 .done .stop) .stop)) .stop) .stop)) (.alt 6 (.alt 1 (.take 7 (.alt 8 (.alt 9 (.alt 10 .done .stop) .stop) (.alt 9 (.alt 8 (.alt 10 .done .stop) .stop) .stop))) (.alt 9 (.alt 1 (.take 7 (.alt 8 (.alt 10 .done .stop) .stop)) .stop) .stop)) (.alt 9 (.alt 1 (.alt 6 (.take 7 (.alt 8 (.alt 10 .done .stop) .stop)) .stop) (.alt 6 (.alt 1 (.take 7 (.alt 8 (.alt 10 .done .stop) .stop)) .stop) .stop)) .stop))) (.alt 9 (.alt 1 (.alt 5 (.alt 6 (.take 7 (.alt 8 (.alt 10 .done .stop) .stop)) .stop) .stop) (.alt 5 (.alt 1 (.alt 6 (.take 7 (.alt 8 (.alt 10 .done .stop) .stop)) .stop) (.alt 6 (.alt 1 (.take 7 (.alt 8 (.alt 10 .done .stop) .stop)) .stop) .stop)) .stop)) .stop))) (.alt 9 (.alt 1 (.alt 4 (.alt 5 (.alt 6 (.take 7 (.alt 8 (.alt 10 .done .stop) .stop)) .stop) .stop) .stop) (.alt 4 (.alt 1 (.alt 5 (.alt 6 (.take 7 (.alt 8 (.alt 10 .done .stop) .stop)) .stop) .stop) (.alt 5 (.alt 1 (.alt 6 (.take 7 (.alt 8 (.alt 10 .done .stop) .stop)) .stop) (.alt 6 (.alt 1 (.take 7 (.alt 8 (.alt 10 .done .stop) .stop)) .stop) .stop)) .stop)) .stop)) .stop)))))) (by kernel_rfl) (fun s2 hs2 => ?_) ?_
       · obtain ⟨c8, hc8, rfl⟩ := hs2
         have hnm : i64R w.Shocks[j].Number := (hw.2.2.1.2 _ (List.getElem_mem hj')).1
         (repeat ((repeat1' (first | simp -implicitDefEqProofs -dsimp only [go_sem, Shock.cs] | simp -dsimp (disch := omega) only [wrap_i64])); repeat (with_reducible refine sideA ?_)))
         generalize w.Shocks[j].Number = nm at hnm ⊢
         generalize w.Shocks[j].State = sv
         refine one_call hB hc8 (by omega) 2 (by omega) rfl (fun vc3 c3 hc3 => ?_)
         (repeat ((repeat1' (first | simp -implicitDefEqProofs -dsimp only [go_sem, Cur.ren] | simp -dsimp (disch := omega) only [wrap_i64])); repeat (with_reducible refine sideA ?_)))
         refine guardT.split (fun h7 => ?_) (fun h7 => ?_) <;> (repeat ((repeat1' (first | simp -implicitDefEqProofs -dsimp only [go_sem, h7, Cur.ren] | simp -dsimp (disch := omega) only [wrap_i64])); repeat (with_reducible refine sideA ?_)))
         · (first | refine callT.at (l1In_ok _ _ _) ⟨leA, leA, leA, trivial⟩ ?_ | refine callS.at (l1In_ok _ _ _) ⟨leA, leA, leA, trivial⟩ ?_)
           (repeat ((repeat1' (first | simp -implicitDefEqProofs -dsimp only [go_sem] | simp -dsimp (disch := omega) only [wrap_i64])); repeat (with_reducible refine sideA ?_)))
           refine condT.split (fun h8 => ?_) (fun h8 => ?_)
           · have hsv : sv = 0 ∨ sv = 1 ∨ sv = 2 ∨ sv = 3 := by simp [inB'] at h8; omega
             rcases hsv with rfl | rfl | rfl | rfl
             all_goals
               (repeat ((repeat1' (first | simp -implicitDefEqProofs -dsimp only [go_sem, h8] | simp -dsimp (disch := omega) only [wrap_i64])); repeat (with_reducible refine sideA ?_)))
               refine one_call hB hc3 (by omega) 40 (by omega) rfl (fun vc4 c4 hc4 => ?_)
               (repeat ((repeat1' (first | simp -implicitDefEqProofs -dsimp only [go_sem, Cur.ren] | simp -dsimp (disch := omega) only [wrap_i64])); repeat (with_reducible refine sideA ?_)))
               refine condT.split (fun h5 => ?_) (fun h5 => ?_)
               · (repeat ((repeat1' (first | simp -implicitDefEqProofs -dsimp only [go_sem, h5] | simp -dsimp (disch := omega) only [wrap_i64])); repeat (with_reducible refine sideA ?_)))
                 refine among_call hB hc4 (by omega) [0, 9, 6] (by simp) (by simp) rfl rfl rfl (fun vc5 c5 pvc5 hc5 => ?_)
                 (repeat ((repeat1' (first | simp -implicitDefEqProofs -dsimp only [go_sem, Cur.ren] | simp -dsimp (disch := omega) only [wrap_i64])); repeat (with_reducible refine sideA ?_)))
                 refine among_call hB hc5 (by omega) [0, nm, 999] (by simp) (by simp) rfl rfl rfl (fun vc6 c6 pvc6 hc6 => ?_)
                 (repeat ((repeat1' (first | simp -implicitDefEqProofs -dsimp only [go_sem, Cur.ren] | simp -dsimp (disch := omega) only [wrap_i64])); repeat (with_reducible refine sideA ?_)))
                 refine among_call hB hc6 (by omega) [0, 1, -1] (by simp) (by simp) rfl rfl rfl (fun vc7 c7 pvc7 hc7 => ?_)
                 (repeat ((repeat1' (first | simp -implicitDefEqProofs -dsimp only [go_sem, Cur.ren] | simp -dsimp (disch := omega) only [wrap_i64])); repeat (with_reducible refine sideA ?_)))
                 exact step_fin1 rfl rfl (i64R_mem pvc5 (by simp [i64R])) (i64R_mem pvc6 (by intro x hx; simp at hx; rcases hx with rfl | rfl | rfl <;> first | assumption | simp [i64R])) (i64R_mem pvc7 (by simp [i64R])) (lmono hc7 (by omega))
               · (repeat ((repeat1' (first | simp -implicitDefEqProofs -dsimp only [go_sem, h5] | simp -dsimp (disch := omega) only [wrap_i64])); repeat (with_reducible refine sideA ?_)))
                 repeat' (first | (refine condT.split (fun h6 => ?_) (fun h6 => ?_) <;> (repeat ((repeat1' (first | simp -implicitDefEqProofs -dsimp only [go_sem, h6, Cur.ren] | simp -dsimp (disch := omega) only [wrap_i64])); repeat (with_reducible refine sideA ?_)))) | (exact step_fin1 rfl rfl (by first | assumption | (simp [i64R]; done) | exact i64R_mem pvc5 (by simp [i64R])) (by first | assumption | (simp [i64R]; done) | exact i64R_mem pvc5 (by simp [i64R])) (by first | assumption | (simp [i64R]; done) | exact i64R_mem pvc5 (by simp [i64R])) (by first | exact lmono hc5 (by omega) | exact lmono hc4 (by omega))) | (refine among_call hB hc4 (by omega) [1, 100, 6000, 6001, 1000001, 0] (by simp) (by simp) rfl rfl rfl (fun vc5 c5 pvc5 hc5 => ?_); (repeat ((repeat1' (first | simp -implicitDefEqProofs -dsimp only [go_sem, Cur.ren] | simp -dsimp (disch := omega) only [wrap_i64])); repeat (with_reducible refine sideA ?_)))) | (refine among_call hB hc4 (by omega) [-20, 12, 30, 49, 50, 95, 96] (by simp) (by simp) rfl rfl rfl (fun vc5 c5 pvc5 hc5 => ?_); (repeat ((repeat1' (first | simp -implicitDefEqProofs -dsimp only [go_sem, Cur.ren] | simp -dsimp (disch := omega) only [wrap_i64])); repeat (with_reducible refine sideA ?_)))) | (refine among_call hB hc4 (by omega) [0, 1, -3, 10, -10, 11] (by simp) (by simp) rfl rfl rfl (fun vc5 c5 pvc5 hc5 => ?_); (repeat ((repeat1' (first | simp -implicitDefEqProofs -dsimp only [go_sem, Cur.ren] | simp -dsimp (disch := omega) only [wrap_i64])); repeat (with_reducible refine sideA ?_)))))
           · (repeat ((repeat1' (first | simp -implicitDefEqProofs -dsimp only [go_sem, h8] | simp -dsimp (disch := omega) only [wrap_i64])); repeat (with_reducible refine sideA ?_)))
             refine one_call hB hc3 (by omega) 40 (by omega) rfl (fun vc4 c4 hc4 => ?_)
             (repeat ((repeat1' (first | simp -implicitDefEqProofs -dsimp only [go_sem, Cur.ren] | simp -dsimp (disch := omega) only [wrap_i64])); repeat (with_reducible refine sideA ?_)))
             refine condT.split (fun h5 => ?_) (fun h5 => ?_)
             · (repeat ((repeat1' (first | simp -implicitDefEqProofs -dsimp only [go_sem, h5] | simp -dsimp (disch := omega) only [wrap_i64])); repeat (with_reducible refine sideA ?_)))
               refine among_call hB hc4 (by omega) [0, 9, 6] (by simp) (by simp) rfl rfl rfl (fun vc5 c5 pvc5 hc5 => ?_)
               (repeat ((repeat1' (first | simp -implicitDefEqProofs -dsimp only [go_sem, Cur.ren] | simp -dsimp (disch := omega) only [wrap_i64])); repeat (with_reducible refine sideA ?_)))
               refine among_call hB hc5 (by omega) [0, nm, 999] (by simp) (by simp) rfl rfl rfl (fun vc6 c6 pvc6 hc6 => ?_)
               (repeat ((repeat1' (first | simp -implicitDefEqProofs -dsimp only [go_sem, Cur.ren] | simp -dsimp (disch := omega) only [wrap_i64])); repeat (with_reducible refine sideA ?_)))
               refine among_call hB hc6 (by omega) [0, 1, -1] (by simp) (by simp) rfl rfl rfl (fun vc7 c7 pvc7 hc7 => ?_)
               (repeat ((repeat1' (first | simp -implicitDefEqProofs -dsimp only [go_sem, Cur.ren] | simp -dsimp (disch := omega) only [wrap_i64])); repeat (with_reducible refine sideA ?_)))
               exact step_fin1 rfl rfl (i64R_mem pvc5 (by simp [i64R])) (i64R_mem pvc6 (by intro x hx; simp at hx; rcases hx with rfl | rfl | rfl <;> first | assumption | simp [i64R])) (i64R_mem pvc7 (by simp [i64R])) (lmono hc7 (by omega))
             · (repeat ((repeat1' (first | simp -implicitDefEqProofs -dsimp only [go_sem, h5] | simp -dsimp (disch := omega) only [wrap_i64])); repeat (with_reducible refine sideA ?_)))
               repeat' (first | (refine condT.split (fun h6 => ?_) (fun h6 => ?_) <;> (repeat ((repeat1' (first | simp -implicitDefEqProofs -dsimp only [go_sem, h6, Cur.ren] | simp -dsimp (disch := omega) only [wrap_i64])); repeat (with_reducible refine sideA ?_)))) | (exact step_fin1 rfl rfl (by first | assumption | (simp [i64R]; done) | exact i64R_mem pvc5 (by simp [i64R])) (by first | assumption | (simp [i64R]; done) | exact i64R_mem pvc5 (by simp [i64R])) (by first | assumption | (simp [i64R]; done) | exact i64R_mem pvc5 (by simp [i64R])) (by first | exact lmono hc5 (by omega) | exact lmono hc4 (by omega))) | (refine among_call hB hc4 (by omega) [1, 100, 6000, 6001, 1000001, 0] (by simp) (by simp) rfl rfl rfl (fun vc5 c5 pvc5 hc5 => ?_); (repeat ((repeat1' (first | simp -implicitDefEqProofs -dsimp only [go_sem, Cur.ren] | simp -dsimp (disch := omega) only [wrap_i64])); repeat (with_reducible refine sideA ?_)))) | (refine among_call hB hc4 (by omega) [-20, 12, 30, 49, 50, 95, 96] (by simp) (by simp) rfl rfl rfl (fun vc5 c5 pvc5 hc5 => ?_); (repeat ((repeat1' (first | simp -implicitDefEqProofs -dsimp only [go_sem, Cur.ren] | simp -dsimp (disch := omega) only [wrap_i64])); repeat (with_reducible refine sideA ?_)))) | (refine among_call hB hc4 (by omega) [0, 1, -3, 10, -10, 11] (by simp) (by simp) rfl rfl rfl (fun vc5 c5 pvc5 hc5 => ?_); (repeat ((repeat1' (first | simp -implicitDefEqProofs -dsimp only [go_sem, Cur.ren] | simp -dsimp (disch := omega) only [wrap_i64])); repeat (with_reducible refine sideA ?_)))))
         · skip
           refine one_call hB hc3 (by omega) 40 (by omega) rfl (fun vc4 c4 hc4 => ?_)
           (repeat ((repeat1' (first | simp -implicitDefEqProofs -dsimp only [go_sem, Cur.ren] | simp -dsimp (disch := omega) only [wrap_i64])); repeat (with_reducible refine sideA ?_)))
           refine condT.split (fun h5 => ?_) (fun h5 => ?_)
           · (repeat ((repeat1' (first | simp -implicitDefEqProofs -dsimp only [go_sem, h5] | simp -dsimp (disch := omega) only [wrap_i64])); repeat (with_reducible refine sideA ?_)))
             refine among_call hB hc4 (by omega) [0, 9, 6] (by simp) (by simp) rfl rfl rfl (fun vc5 c5 pvc5 hc5 => ?_)
             (repeat ((repeat1' (first | simp -implicitDefEqProofs -dsimp only [go_sem, Cur.ren] | simp -dsimp (disch := omega) only [wrap_i64])); repeat (with_reducible refine sideA ?_)))
             refine among_call hB hc5 (by omega) [0, nm, 999] (by simp) (by simp) rfl rfl rfl (fun vc6 c6 pvc6 hc6 => ?_)
             (repeat ((repeat1' (first | simp -implicitDefEqProofs -dsimp only [go_sem, Cur.ren] | simp -dsimp (disch := omega) only [wrap_i64])); repeat (with_reducible refine sideA ?_)))
             refine among_call hB hc6 (by omega) [0, 1, -1] (by simp) (by simp) rfl rfl rfl (fun vc7 c7 pvc7 hc7 => ?_)
             (repeat ((repeat1' (first | simp -implicitDefEqProofs -dsimp only [go_sem, Cur.ren] | simp -dsimp (disch := omega) only [wrap_i64])); repeat (with_reducible refine sideA ?_)))
             exact step_fin1 rfl rfl (i64R_mem pvc5 (by simp [i64R])) (i64R_mem pvc6 (by intro x hx; simp at hx; rcases hx with rfl | rfl | rfl <;> first | assumption | simp [i64R])) (i64R_mem pvc7 (by simp [i64R])) (lmono hc7 (by omega))
           · (repeat ((repeat1' (first | simp -implicitDefEqProofs -dsimp only [go_sem, h5] | simp -dsimp (disch := omega) only [wrap_i64])); repeat (with_reducible refine sideA ?_)))
             repeat' (first | (refine condT.split (fun h6 => ?_) (fun h6 => ?_) <;> (repeat ((repeat1' (first | simp -implicitDefEqProofs -dsimp only [go_sem, h6, Cur.ren] | simp -dsimp (disch := omega) only [wrap_i64])); repeat (with_reducible refine sideA ?_)))) | (exact step_fin1 rfl rfl (by first | assumption | (simp [i64R]; done) | exact i64R_mem pvc5 (by simp [i64R])) (by first | assumption | (simp [i64R]; done) | exact i64R_mem pvc5 (by simp [i64R])) (by first | assumption | (simp [i64R]; done) | exact i64R_mem pvc5 (by simp [i64R])) (by first | exact lmono hc5 (by omega) | exact lmono hc4 (by omega))) | (refine among_call hB hc4 (by omega) [1, 100, 6000, 6001, 1000001, 0] (by simp) (by simp) rfl rfl rfl (fun vc5 c5 pvc5 hc5 => ?_); (repeat ((repeat1' (first | simp -implicitDefEqProofs -dsimp only [go_sem, Cur.ren] | simp -dsimp (disch := omega) only [wrap_i64])); repeat (with_reducible refine sideA ?_)))) | (refine among_call hB hc4 (by omega) [-20, 12, 30, 49, 50, 95, 96] (by simp) (by simp) rfl rfl rfl (fun vc5 c5 pvc5 hc5 => ?_); (repeat ((repeat1' (first | simp -implicitDefEqProofs -dsimp only [go_sem, Cur.ren] | simp -dsimp (disch := omega) only [wrap_i64])); repeat (with_reducible refine sideA ?_)))) | (refine among_call hB hc4 (by omega) [0, 1, -3, 10, -10, 11] (by simp) (by simp) rfl rfl rfl (fun vc5 c5 pvc5 hc5 => ?_); (repeat ((repeat1' (first | simp -implicitDefEqProofs -dsimp only [go_sem, Cur.ren] | simp -dsimp (disch := omega) only [wrap_i64])); repeat (with_reducible refine sideA ?_)))))
       · have pk := pick_ok hB (hcb hc2 (by omega)) w.Shocks.length (by omega)
         have hq := pickC_le (B := B) (n := w.Shocks.length) hc2
         rw [hj] at pk
         generalize pickC B w.Shocks.length c2 = c3 at pk hq
         (repeat ((repeat1' (first | simp -implicitDefEqProofs -dsimp only [go_sem] | simp -dsimp (disch := omega) only [wrap_i64])); repeat (with_reducible refine sideA ?_)))
         repeat' (first | (refine callS.lend [0] false pk (by decide) ⟨leO, leO, trivial⟩ (lendCur rfl) (growCur B _ _) (.inl rfl) ?_; (repeat ((repeat1' (first | simp -implicitDefEqProofs -dsimp only [go_sem, hr0, hlr, Shock.cs, Cur.ren] | simp -dsimp (disch := omega) only [wrap_i64])); repeat (with_reducible refine sideA ?_)))) | (refine And.intro ?_ ?_) | exact trivial)
         all_goals
           refine ⟨_, ⟨c3, lmono hq (by omega), rfl⟩, ?_⟩
           first
           | (refine Weak.cut 5 (by simp) (by simp) ?_ ?_
              · (simp [LeC, LeV, ren, cutF, hst1]; done)
              · (simp [cutH, cutB, cutF, Cur.ren, ren, Watch.mc, map_ren_rows, Shock.cs]; done))
           | (refine Weak.pick [0, 1, 2, 3, 5] (by decide) (fun j hj => by rcases j with _ | _ | j <;> first | rfl | omega) ?_ ?_
              · (simp [LeG, LeC, LeV, ren, pickF, posOf, hst1]; done)
              · (simp [pickH, pickB, pickF, posOf, Cur.ren, ren, Watch.mc, map_ren_rows, Shock.cs]; done))
     · (repeat ((repeat1' (first | simp -implicitDefEqProofs -dsimp only [go_sem, h2] | simp -dsimp (disch := omega) only [wrap_i64])); repeat (with_reducible refine sideA ?_)))
       obtain ⟨c3, ec3⟩ : ∃ x, x = c2 := ⟨_, rfl⟩
       have hc3 : c3.le (k + 6) := by rw [ec3]; exact lmono hc2 (by omega)
       rw [← ec3]
       refine one_call hB hc3 (by omega) 40 (by omega) rfl (fun vc4 c4 hc4 => ?_)
       (repeat ((repeat1' (first | simp -implicitDefEqProofs -dsimp only [go_sem, Cur.ren] | simp -dsimp (disch := omega) only [wrap_i64])); repeat (with_reducible refine sideA ?_)))
       refine condT.split (fun h5 => ?_) (fun h5 => ?_)
       · (repeat ((repeat1' (first | simp -implicitDefEqProofs -dsimp only [go_sem, h5] | simp -dsimp (disch := omega) only [wrap_i64])); repeat (with_reducible refine sideA ?_)))
         refine among_call hB hc4 (by omega) [0, 9, 6] (by simp) (by simp) rfl rfl rfl (fun vc5 c5 pvc5 hc5 => ?_)
         (repeat ((repeat1' (first | simp -implicitDefEqProofs -dsimp only [go_sem, Cur.ren] | simp -dsimp (disch := omega) only [wrap_i64])); repeat (with_reducible refine sideA ?_)))
         refine among_call hB hc5 (by omega) [0, 1, 999] (by simp) (by simp) rfl rfl rfl (fun vc6 c6 pvc6 hc6 => ?_)
         (repeat ((repeat1' (first | simp -implicitDefEqProofs -dsimp only [go_sem, Cur.ren] | simp -dsimp (disch := omega) only [wrap_i64])); repeat (with_reducible refine sideA ?_)))
         refine among_call hB hc6 (by omega) [0, 1, -1] (by simp) (by simp) rfl rfl rfl (fun vc7 c7 pvc7 hc7 => ?_)
         (repeat ((repeat1' (first | simp -implicitDefEqProofs -dsimp only [go_sem, Cur.ren] | simp -dsimp (disch := omega) only [wrap_i64])); repeat (with_reducible refine sideA ?_)))
         exact step_fin1 rfl rfl (i64R_mem pvc5 (by simp [i64R])) (i64R_mem pvc6 (by intro x hx; simp at hx; rcases hx with rfl | rfl | rfl <;> first | assumption | simp [i64R])) (i64R_mem pvc7 (by simp [i64R])) (lmono hc7 (by omega))
       · (repeat ((repeat1' (first | simp -implicitDefEqProofs -dsimp only [go_sem, h5] | simp -dsimp (disch := omega) only [wrap_i64])); repeat (with_reducible refine sideA ?_)))
         repeat' (first | (refine condT.split (fun h6 => ?_) (fun h6 => ?_) <;> (repeat ((repeat1' (first | simp -implicitDefEqProofs -dsimp only [go_sem, h6, Cur.ren] | simp -dsimp (disch := omega) only [wrap_i64])); repeat (with_reducible refine sideA ?_)))) | (exact step_fin1 rfl rfl (by first | assumption | (simp [i64R]; done) | exact i64R_mem pvc5 (by simp [i64R])) (by first | assumption | (simp [i64R]; done) | exact i64R_mem pvc5 (by simp [i64R])) (by first | assumption | (simp [i64R]; done) | exact i64R_mem pvc5 (by simp [i64R])) (by first | exact lmono hc5 (by omega) | exact lmono hc4 (by omega))) | (refine among_call hB hc4 (by omega) [1, 100, 6000, 6001, 1000001, 0] (by simp) (by simp) rfl rfl rfl (fun vc5 c5 pvc5 hc5 => ?_); (repeat ((repeat1' (first | simp -implicitDefEqProofs -dsimp only [go_sem, Cur.ren] | simp -dsimp (disch := omega) only [wrap_i64])); repeat (with_reducible refine sideA ?_)))) | (refine among_call hB hc4 (by omega) [-20, 12, 30, 49, 50, 95, 96] (by simp) (by simp) rfl rfl rfl (fun vc5 c5 pvc5 hc5 => ?_); (repeat ((repeat1' (first | simp -implicitDefEqProofs -dsimp only [go_sem, Cur.ren] | simp -dsimp (disch := omega) only [wrap_i64])); repeat (with_reducible refine sideA ?_)))) | (refine among_call hB hc4 (by omega) [0, 1, -3, 10, -10, 11] (by simp) (by simp) rfl rfl rfl (fun vc5 c5 pvc5 hc5 => ?_); (repeat ((repeat1' (first | simp -implicitDefEqProofs -dsimp only [go_sem, Cur.ren] | simp -dsimp (disch := omega) only [wrap_i64])); repeat (with_reducible refine sideA ?_)))))
   · have pk := pick_ok hB (hcb hc1 (by omega)) w.Posts.length (by omega)
     have hq := pickC_le (B := B) (n := w.Posts.length) hc1
     rw [hi] at pk
     generalize pickC B w.Posts.length c1 = c2 at pk hq
     have hok := hw.2.1.2 _ (List.getElem_mem hi')
     (repeat ((repeat1' (first | simp -implicitDefEqProofs -dsimp only [go_sem] | simp -dsimp (disch := omega) only [wrap_i64])); repeat (with_reducible refine sideA ?_)))
     repeat' (first | (refine callS.lend [0] false pk (by decide) ⟨leO, leO, trivial⟩ (lendCur rfl) (growCur B _ _) (.inl rfl) ?_; (repeat ((repeat1' (first | simp -implicitDefEqProofs -dsimp only [go_sem, hr0, Post.cs, Cur.ren] | simp -dsimp (disch := omega) only [wrap_i64])); repeat (with_reducible refine sideA ?_)))) | (refine And.intro ?_ ?_) | exact trivial)
     all_goals
       refine ⟨_, ⟨w.Posts[i].Station, c2, hok.1, lmono hq (by omega), rfl⟩, ?_⟩
       refine Weak.cut (4) (by simp) (by simp) ?_ ?_
       · simp [LeC, LeV, ren, cutF]
       · simp [cutH, cutB, cutF, Cur.ren, ren, Watch.mc, map_ren_rows]
 · (repeat ((repeat1' (first | simp -implicitDefEqProofs -dsimp only [go_sem, h1] | simp -dsimp (disch := omega) only [wrap_i64])); repeat (with_reducible refine sideA ?_)))
   obtain ⟨c2, ec2⟩ : ∃ x, x = c1 := ⟨_, rfl⟩
   rw [← ec2] at hc1 ⊢
   have hc2 : c2.le (k + 4) := lmono hc1 (by omega)
   obtain ⟨st, hst1⟩ : ∃ x : Int, x = 1 := ⟨1, rfl⟩
   have hst : i64R st := by rw [hst1]; simp [i64R]
   refine condT.split (fun h2 => ?_) (fun h2 => ?_)
   · have h2' := of_decide_eq_true h2
     obtain ⟨j, hj⟩ : ∃ j : Nat, pickV B w.Shocks.length c2 = j := ⟨(pickV B w.Shocks.length c2).toNat, by have := (pickV_bd hB (n := w.Shocks.length) hc2.1).1; omega⟩
     have hj' : j < w.Shocks.length := by have := (pickV_bd hB (n := w.Shocks.length) hc2.1).2; omega
     have hr0 := rows_at Shock.csl hj'
     have hlr := rows_len (w := 5) Shock.csl w.Shocks
     (repeat ((repeat1' (first | simp -implicitDefEqProofs -dsimp only [go_sem, h2] | simp -dsimp (disch := omega) only [wrap_i64])); repeat (with_reducible refine sideA ?_)))
     refine clT.tree (fun s2 => ∃ (c3 : Cur), c3.le (k + 6) ∧ s2 = ⟨[.ptr 0 0, .undef, .undef, .ptr 2 0, .ptr 3 0, .int .i64 1, .int .i64 st, .int .i64 vc1, .ptr 4 0, .undef, .undef, .undef, .undef, .undef, .undef, .undef, .undef, .undef, .undef, .undef, .undef, .undef, .undef, .undef, .undef, .undef, .undef, .undef, .undef, .undef, .undef, .undef, .undef, .undef, .undef, .undef, .undef, .undef, .undef, .undef, .undef, .undef, .undef, .undef, .undef, .undef, .undef, .undef, .undef, .undef, .undef, .undef, .undef, .undef, .undef, .undef, .undef, .undef, .undef, .undef, .undef, .undef, .undef, .undef, .undef, .undef, .undef, .undef, .undef, .undef, .undef, .undef, .undef, .undef, .undef, .undef, .undef, .undef, .undef, .undef, .undef, .undef, .undef, .undef, .undef, .undef, .undef, .undef, .undef, .undef, .undef, .undef, .undef, .undef, .undef, .undef, .undef, .undef, .undef, .undef, .undef, .undef, .undef], [some (c3.cs B), some (rows Shock.cs w.Shocks), some (w.mc 1), some [.int .i64 0, .int .i64 0, .int .i64 0], some w.Shocks[j].cs], 2⟩) (.take 0 (.take 2 (.take 3 (.alt 1 (.alt 4 (.alt 5 (.alt 6 (.take 7 (.alt 8 (.alt 9 (.alt 10 .done .stop) .stop) (.alt 9 (.alt 8 (.alt 10 .done .stop) .stop) .stop))) (.alt 9 (.alt 6 (.take 7 (.alt 8 (.alt 10 .done .stop) .stop)) .stop) .stop)) (.alt 9 (.alt 5 (.alt 6 (.take 7 (.alt 8 (.alt 10 .done .stop) .stop)) .stop) .stop) .stop)) (.alt 9 (.alt 4 (.alt 5 (.alt 6 (.take 7 (.alt 8 (.alt 10 .done .stop) .stop)) .stop) .stop) .stop) .stop)) (.alt 4 (.alt 1 (.alt 5 (.alt 6 (.take 7 (.alt 8 (.alt 9 (.alt 10 .done .stop) .stop) (.alt 9 (.alt 8 (.alt 10 .done .stop) .stop) .stop))) (.alt 9 (.alt 6 (.take 7 (.alt 8 (.alt 10 .done .stop) .stop)) .stop) .stop)) (.alt 9 (.alt 5 (.alt 6 (.take 7 (.alt 8 (.alt 10 .done .stop) .stop)) .stop) .stop) .stop)) (.alt 5 (.alt 1 (.alt 6 (.take 7 (.alt 8 (.alt 9 (.alt 10 .done .stop) .stop) (.alt 9 (.alt 8 (.alt 10 .done .stop) .stop) .stop))) (.alt 9 (.alt 6 (.take 7 (.alt 8 (.alt 10 .done .stop) .stop)) .stop) .stop)) (.alt 6 (.alt 1 (.take 7 (.alt 8 (.alt 9 (.alt 10 .done .stop) .stop) (.alt 9 (.alt 8 (.alt 10 .done .stop) .stop) .stop))) (.alt 9 (.alt 1 (.take 7 (.alt 8 (.alt 10 .done .stop) .stop)) .stop) .stop)) (.alt 9 (.alt 1 (.alt 6 (.take 7 (.alt 8 (.alt 10 .done .stop) .stop)) .stop) (.alt 6 (.alt 1 (.take 7 (.alt 8 (.alt 10 .done .stop) .stop)) .stop) .stop)) .stop))) (.alt 9 (.alt 1 (.alt 5 (.alt 6 (.take 7 (.alt 8 (.alt 10 .done .stop) .stop)) .stop) .stop) (.alt 5 (.alt 1 (.alt 6 (.take 7 (.alt 8 (.alt 10 .done .stop) .stop)) .stop) (.alt 6 (.alt 1 (.take 7 (.alt 8 (.alt 10 .done .stop) .stop)) .stop) .stop)) .stop)) .stop))) (.alt 9 (.alt 1 (.alt 4 (.alt 5 (.alt 6 (.take 7 (.alt 8 (.alt 10 .done .stop) .stop)) .stop) .stop) .stop) (.alt 4 (.alt 1 (.alt 5 (.alt 6 (.take 7 (.alt 8 (.alt 10 .done .stop) .stop)) .stop) .stop) (.alt 5 (.alt 1 (.alt 6 (.take 7 (.alt 8 (.alt 10 .done .stop) .stop)) .stop) (.alt 6 (.alt 1 (.take 7 (.alt 8 (.alt 10 .done .stop) .stop)) .stop) .stop)) .stop)) .stop)) .stop)))))) (by kernel_rfl) (fun s2 hs2 => ?_) ?_
     · obtain ⟨c8, hc8, rfl⟩ := hs2
       have hnm : i64R w.Shocks[j].Number := (hw.2.2.1.2 _ (List.getElem_mem hj')).1
       (repeat ((repeat1' (first | simp -implicitDefEqProofs -dsimp only [go_sem, Shock.cs] | simp -dsimp (disch := omega) only [wrap_i64])); repeat (with_reducible refine sideA ?_)))
       generalize w.Shocks[j].Number = nm at hnm ⊢
       generalize w.Shocks[j].State = sv
       refine one_call hB hc8 (by omega) 2 (by omega) rfl (fun vc3 c3 hc3 => ?_)
       (repeat ((repeat1' (first | simp -implicitDefEqProofs -dsimp only [go_sem, Cur.ren] | simp -dsimp (disch := omega) only [wrap_i64])); repeat (with_reducible refine sideA ?_)))
       refine guardT.split (fun h7 => ?_) (fun h7 => ?_) <;> (repeat ((repeat1' (first | simp -implicitDefEqProofs -dsimp only [go_sem, h7, Cur.ren] | simp -dsimp (disch := omega) only [wrap_i64])); repeat (with_reducible refine sideA ?_)))
       · (first | refine callT.at (l1In_ok _ _ _) ⟨leA, leA, leA, trivial⟩ ?_ | refine callS.at (l1In_ok _ _ _) ⟨leA, leA, leA, trivial⟩ ?_)
         (repeat ((repeat1' (first | simp -implicitDefEqProofs -dsimp only [go_sem] | simp -dsimp (disch := omega) only [wrap_i64])); repeat (with_reducible refine sideA ?_)))
         refine condT.split (fun h8 => ?_) (fun h8 => ?_)
         · have hsv : sv = 0 ∨ sv = 1 ∨ sv = 2 ∨ sv = 3 := by simp [inB'] at h8; omega
           rcases hsv with rfl | rfl | rfl | rfl
           all_goals
             (repeat ((repeat1' (first | simp -implicitDefEqProofs -dsimp only [go_sem, h8] | simp -dsimp (disch := omega) only [wrap_i64])); repeat (with_reducible refine sideA ?_)))
             refine one_call hB hc3 (by omega) 40 (by omega) rfl (fun vc4 c4 hc4 => ?_)
             (repeat ((repeat1' (first | simp -implicitDefEqProofs -dsimp only [go_sem, Cur.ren] | simp -dsimp (disch := omega) only [wrap_i64])); repeat (with_reducible refine sideA ?_)))
             refine condT.split (fun h5 => ?_) (fun h5 => ?_)
             · (repeat ((repeat1' (first | simp -implicitDefEqProofs -dsimp only [go_sem, h5] | simp -dsimp (disch := omega) only [wrap_i64])); repeat (with_reducible refine sideA ?_)))
               refine among_call hB hc4 (by omega) [0, 9, 6] (by simp) (by simp) rfl rfl rfl (fun vc5 c5 pvc5 hc5 => ?_)
               (repeat ((repeat1' (first | simp -implicitDefEqProofs -dsimp only [go_sem, Cur.ren] | simp -dsimp (disch := omega) only [wrap_i64])); repeat (with_reducible refine sideA ?_)))
               refine among_call hB hc5 (by omega) [0, nm, 999] (by simp) (by simp) rfl rfl rfl (fun vc6 c6 pvc6 hc6 => ?_)
               (repeat ((repeat1' (first | simp -implicitDefEqProofs -dsimp only [go_sem, Cur.ren] | simp -dsimp (disch := omega) only [wrap_i64])); repeat (with_reducible refine sideA ?_)))
               refine among_call hB hc6 (by omega) [0, 1, -1] (by simp) (by simp) rfl rfl rfl (fun vc7 c7 pvc7 hc7 => ?_)
               (repeat ((repeat1' (first | simp -implicitDefEqProofs -dsimp only [go_sem, Cur.ren] | simp -dsimp (disch := omega) only [wrap_i64])); repeat (with_reducible refine sideA ?_)))
               exact step_fin1 rfl rfl (i64R_mem pvc5 (by simp [i64R])) (i64R_mem pvc6 (by intro x hx; simp at hx; rcases hx with rfl | rfl | rfl <;> first | assumption | simp [i64R])) (i64R_mem pvc7 (by simp [i64R])) (lmono hc7 (by omega))
             · (repeat ((repeat1' (first | simp -implicitDefEqProofs -dsimp only [go_sem, h5] | simp -dsimp (disch := omega) only [wrap_i64])); repeat (with_reducible refine sideA ?_)))
               repeat' (first | (refine condT.split (fun h6 => ?_) (fun h6 => ?_) <;> (repeat ((repeat1' (first | simp -implicitDefEqProofs -dsimp only [go_sem, h6, Cur.ren] | simp -dsimp (disch := omega) only [wrap_i64])); repeat (with_reducible refine sideA ?_)))) | (exact step_fin1 rfl rfl (by first | assumption | (simp [i64R]; done) | exact i64R_mem pvc5 (by simp [i64R])) (by first | assumption | (simp [i64R]; done) | exact i64R_mem pvc5 (by simp [i64R])) (by first | assumption | (simp [i64R]; done) | exact i64R_mem pvc5 (by simp [i64R])) (by first | exact lmono hc5 (by omega) | exact lmono hc4 (by omega))) | (refine among_call hB hc4 (by omega) [1, 100, 6000, 6001, 1000001, 0] (by simp) (by simp) rfl rfl rfl (fun vc5 c5 pvc5 hc5 => ?_); (repeat ((repeat1' (first | simp -implicitDefEqProofs -dsimp only [go_sem, Cur.ren] | simp -dsimp (disch := omega) only [wrap_i64])); repeat (with_reducible refine sideA ?_)))) | (refine among_call hB hc4 (by omega) [-20, 12, 30, 49, 50, 95, 96] (by simp) (by simp) rfl rfl rfl (fun vc5 c5 pvc5 hc5 => ?_); (repeat ((repeat1' (first | simp -implicitDefEqProofs -dsimp only [go_sem, Cur.ren] | simp -dsimp (disch := omega) only [wrap_i64])); repeat (with_reducible refine sideA ?_)))) | (refine among_call hB hc4 (by omega) [0, 1, -3, 10, -10, 11] (by simp) (by simp) rfl rfl rfl (fun vc5 c5 pvc5 hc5 => ?_); (repeat ((repeat1' (first | simp -implicitDefEqProofs -dsimp only [go_sem, Cur.ren] | simp -dsimp (disch := omega) only [wrap_i64])); repeat (with_reducible refine sideA ?_)))))
         · (repeat ((repeat1' (first | simp -implicitDefEqProofs -dsimp only [go_sem, h8] | simp -dsimp (disch := omega) only [wrap_i64])); repeat (with_reducible refine sideA ?_)))
           refine one_call hB hc3 (by omega) 40 (by omega) rfl (fun vc4 c4 hc4 => ?_)
           (repeat ((repeat1' (first | simp -implicitDefEqProofs -dsimp only [go_sem, Cur.ren] | simp -dsimp (disch := omega) only [wrap_i64])); repeat (with_reducible refine sideA ?_)))
           refine condT.split (fun h5 => ?_) (fun h5 => ?_)
           · (repeat ((repeat1' (first | simp -implicitDefEqProofs -dsimp only [go_sem, h5] | simp -dsimp (disch := omega) only [wrap_i64])); repeat (with_reducible refine sideA ?_)))
             refine among_call hB hc4 (by omega) [0, 9, 6] (by simp) (by simp) rfl rfl rfl (fun vc5 c5 pvc5 hc5 => ?_)
             (repeat ((repeat1' (first | simp -implicitDefEqProofs -dsimp only [go_sem, Cur.ren] | simp -dsimp (disch := omega) only [wrap_i64])); repeat (with_reducible refine sideA ?_)))
             refine among_call hB hc5 (by omega) [0, nm, 999] (by simp) (by simp) rfl rfl rfl (fun vc6 c6 pvc6 hc6 => ?_)
             (repeat ((repeat1' (first | simp -implicitDefEqProofs -dsimp only [go_sem, Cur.ren] | simp -dsimp (disch := omega) only [wrap_i64])); repeat (with_reducible refine sideA ?_)))
             refine among_call hB hc6 (by omega) [0, 1, -1] (by simp) (by simp) rfl rfl rfl (fun vc7 c7 pvc7 hc7 => ?_)
             (repeat ((repeat1' (first | simp -implicitDefEqProofs -dsimp only [go_sem, Cur.ren] | simp -dsimp (disch := omega) only [wrap_i64])); repeat (with_reducible refine sideA ?_)))
             exact step_fin1 rfl rfl (i64R_mem pvc5 (by simp [i64R])) (i64R_mem pvc6 (by intro x hx; simp at hx; rcases hx with rfl | rfl | rfl <;> first | assumption | simp [i64R])) (i64R_mem pvc7 (by simp [i64R])) (lmono hc7 (by omega))
           · (repeat ((repeat1' (first | simp -implicitDefEqProofs -dsimp only [go_sem, h5] | simp -dsimp (disch := omega) only [wrap_i64])); repeat (with_reducible refine sideA ?_)))
             repeat' (first | (refine condT.split (fun h6 => ?_) (fun h6 => ?_) <;> (repeat ((repeat1' (first | simp -implicitDefEqProofs -dsimp only [go_sem, h6, Cur.ren] | simp -dsimp (disch := omega) only [wrap_i64])); repeat (with_reducible refine sideA ?_)))) | (exact step_fin1 rfl rfl (by first | assumption | (simp [i64R]; done) | exact i64R_mem pvc5 (by simp [i64R])) (by first | assumption | (simp [i64R]; done) | exact i64R_mem pvc5 (by simp [i64R])) (by first | assumption | (simp [i64R]; done) | exact i64R_mem pvc5 (by simp [i64R])) (by first | exact lmono hc5 (by omega) | exact lmono hc4 (by omega))) | (refine among_call hB hc4 (by omega) [1, 100, 6000, 6001, 1000001, 0] (by simp) (by simp) rfl rfl rfl (fun vc5 c5 pvc5 hc5 => ?_); (repeat ((repeat1' (first | simp -implicitDefEqProofs -dsimp only [go_sem, Cur.ren] | simp -dsimp (disch := omega) only [wrap_i64])); repeat (with_reducible refine sideA ?_)))) | (refine among_call hB hc4 (by omega) [-20, 12, 30, 49, 50, 95, 96] (by simp) (by simp) rfl rfl rfl (fun vc5 c5 pvc5 hc5 => ?_); (repeat ((repeat1' (first | simp -implicitDefEqProofs -dsimp only [go_sem, Cur.ren] | simp -dsimp (disch := omega) only [wrap_i64])); repeat (with_reducible refine sideA ?_)))) | (refine among_call hB hc4 (by omega) [0, 1, -3, 10, -10, 11] (by simp) (by simp) rfl rfl rfl (fun vc5 c5 pvc5 hc5 => ?_); (repeat ((repeat1' (first | simp -implicitDefEqProofs -dsimp only [go_sem, Cur.ren] | simp -dsimp (disch := omega) only [wrap_i64])); repeat (with_reducible refine sideA ?_)))))
       · skip
         refine one_call hB hc3 (by omega) 40 (by omega) rfl (fun vc4 c4 hc4 => ?_)
         (repeat ((repeat1' (first | simp -implicitDefEqProofs -dsimp only [go_sem, Cur.ren] | simp -dsimp (disch := omega) only [wrap_i64])); repeat (with_reducible refine sideA ?_)))
         refine condT.split (fun h5 => ?_) (fun h5 => ?_)
         · (repeat ((repeat1' (first | simp -implicitDefEqProofs -dsimp only [go_sem, h5] | simp -dsimp (disch := omega) only [wrap_i64])); repeat (with_reducible refine sideA ?_)))
           refine among_call hB hc4 (by omega) [0, 9, 6] (by simp) (by simp) rfl rfl rfl (fun vc5 c5 pvc5 hc5 => ?_)
           (repeat ((repeat1' (first | simp -implicitDefEqProofs -dsimp only [go_sem, Cur.ren] | simp -dsimp (disch := omega) only [wrap_i64])); repeat (with_reducible refine sideA ?_)))
           refine among_call hB hc5 (by omega) [0, nm, 999] (by simp) (by simp) rfl rfl rfl (fun vc6 c6 pvc6 hc6 => ?_)
           (repeat ((repeat1' (first | simp -implicitDefEqProofs -dsimp only [go_sem, Cur.ren] | simp -dsimp (disch := omega) only [wrap_i64])); repeat (with_reducible refine sideA ?_)))
           refine among_call hB hc6 (by omega) [0, 1, -1] (by simp) (by simp) rfl rfl rfl (fun vc7 c7 pvc7 hc7 => ?_)
           (repeat ((repeat1' (first | simp -implicitDefEqProofs -dsimp only [go_sem, Cur.ren] | simp -dsimp (disch := omega) only [wrap_i64])); repeat (with_reducible refine sideA ?_)))
           exact step_fin1 rfl rfl (i64R_mem pvc5 (by simp [i64R])) (i64R_mem pvc6 (by intro x hx; simp at hx; rcases hx with rfl | rfl | rfl <;> first | assumption | simp [i64R])) (i64R_mem pvc7 (by simp [i64R])) (lmono hc7 (by omega))
         · (repeat ((repeat1' (first | simp -implicitDefEqProofs -dsimp only [go_sem, h5] | simp -dsimp (disch := omega) only [wrap_i64])); repeat (with_reducible refine sideA ?_)))
           repeat' (first | (refine condT.split (fun h6 => ?_) (fun h6 => ?_) <;> (repeat ((repeat1' (first | simp -implicitDefEqProofs -dsimp only [go_sem, h6, Cur.ren] | simp -dsimp (disch := omega) only [wrap_i64])); repeat (with_reducible refine sideA ?_)))) | (exact step_fin1 rfl rfl (by first | assumption | (simp [i64R]; done) | exact i64R_mem pvc5 (by simp [i64R])) (by first | assumption | (simp [i64R]; done) | exact i64R_mem pvc5 (by simp [i64R])) (by first | assumption | (simp [i64R]; done) | exact i64R_mem pvc5 (by simp [i64R])) (by first | exact lmono hc5 (by omega) | exact lmono hc4 (by omega))) | (refine among_call hB hc4 (by omega) [1, 100, 6000, 6001, 1000001, 0] (by simp) (by simp) rfl rfl rfl (fun vc5 c5 pvc5 hc5 => ?_); (repeat ((repeat1' (first | simp -implicitDefEqProofs -dsimp only [go_sem, Cur.ren] | simp -dsimp (disch := omega) only [wrap_i64])); repeat (with_reducible refine sideA ?_)))) | (refine among_call hB hc4 (by omega) [-20, 12, 30, 49, 50, 95, 96] (by simp) (by simp) rfl rfl rfl (fun vc5 c5 pvc5 hc5 => ?_); (repeat ((repeat1' (first | simp -implicitDefEqProofs -dsimp only [go_sem, Cur.ren] | simp -dsimp (disch := omega) only [wrap_i64])); repeat (with_reducible refine sideA ?_)))) | (refine among_call hB hc4 (by omega) [0, 1, -3, 10, -10, 11] (by simp) (by simp) rfl rfl rfl (fun vc5 c5 pvc5 hc5 => ?_); (repeat ((repeat1' (first | simp -implicitDefEqProofs -dsimp only [go_sem, Cur.ren] | simp -dsimp (disch := omega) only [wrap_i64])); repeat (with_reducible refine sideA ?_)))))
     · have pk := pick_ok hB (hcb hc2 (by omega)) w.Shocks.length (by omega)
       have hq := pickC_le (B := B) (n := w.Shocks.length) hc2
       rw [hj] at pk
       generalize pickC B w.Shocks.length c2 = c3 at pk hq
       (repeat ((repeat1' (first | simp -implicitDefEqProofs -dsimp only [go_sem] | simp -dsimp (disch := omega) only [wrap_i64])); repeat (with_reducible refine sideA ?_)))
       repeat' (first | (refine callS.lend [0] false pk (by decide) ⟨leO, leO, trivial⟩ (lendCur rfl) (growCur B _ _) (.inl rfl) ?_; (repeat ((repeat1' (first | simp -implicitDefEqProofs -dsimp only [go_sem, hr0, hlr, Shock.cs, Cur.ren] | simp -dsimp (disch := omega) only [wrap_i64])); repeat (with_reducible refine sideA ?_)))) | (refine And.intro ?_ ?_) | exact trivial)
       all_goals
         refine ⟨_, ⟨c3, lmono hq (by omega), rfl⟩, ?_⟩
         first
         | (refine Weak.cut 5 (by simp) (by simp) ?_ ?_
            · (simp [LeC, LeV, ren, cutF, hst1]; done)
            · (simp [cutH, cutB, cutF, Cur.ren, ren, Watch.mc, map_ren_rows, Shock.cs]; done))
         | (refine Weak.pick [0, 1, 2, 3, 5] (by decide) (fun j hj => by rcases j with _ | _ | j <;> first | rfl | omega) ?_ ?_
            · (simp [LeG, LeC, LeV, ren, pickF, posOf, hst1]; done)
            · (simp [pickH, pickB, pickF, posOf, Cur.ren, ren, Watch.mc, map_ren_rows, Shock.cs]; done))
   · (repeat ((repeat1' (first | simp -implicitDefEqProofs -dsimp only [go_sem, h2] | simp -dsimp (disch := omega) only [wrap_i64])); repeat (with_reducible refine sideA ?_)))
     obtain ⟨c3, ec3⟩ : ∃ x, x = c2 := ⟨_, rfl⟩
     have hc3 : c3.le (k + 6) := by rw [ec3]; exact lmono hc2 (by omega)
     rw [← ec3]
     refine one_call hB hc3 (by omega) 40 (by omega) rfl (fun vc4 c4 hc4 => ?_)
     (repeat ((repeat1' (first | simp -implicitDefEqProofs -dsimp only [go_sem, Cur.ren] | simp -dsimp (disch := omega) only [wrap_i64])); repeat (with_reducible refine sideA ?_)))
     refine condT.split (fun h5 => ?_) (fun h5 => ?_)
     · (repeat ((repeat1' (first | simp -implicitDefEqProofs -dsimp only [go_sem, h5] | simp -dsimp (disch := omega) only [wrap_i64])); repeat (with_reducible refine sideA ?_)))
       refine among_call hB hc4 (by omega) [0, 9, 6] (by simp) (by simp) rfl rfl rfl (fun vc5 c5 pvc5 hc5 => ?_)
       (repeat ((repeat1' (first | simp -implicitDefEqProofs -dsimp only [go_sem, Cur.ren] | simp -dsimp (disch := omega) only [wrap_i64])); repeat (with_reducible refine sideA ?_)))
       refine among_call hB hc5 (by omega) [0, 1, 999] (by simp) (by simp) rfl rfl rfl (fun vc6 c6 pvc6 hc6 => ?_)
       (repeat ((repeat1' (first | simp -implicitDefEqProofs -dsimp only [go_sem, Cur.ren] | simp -dsimp (disch := omega) only [wrap_i64])); repeat (with_reducible refine sideA ?_)))
       refine among_call hB hc6 (by omega) [0, 1, -1] (by simp) (by simp) rfl rfl rfl (fun vc7 c7 pvc7 hc7 => ?_)
       (repeat ((repeat1' (first | simp -implicitDefEqProofs -dsimp only [go_sem, Cur.ren] | simp -dsimp (disch := omega) only [wrap_i64])); repeat (with_reducible refine sideA ?_)))
       exact step_fin1 rfl rfl (i64R_mem pvc5 (by simp [i64R])) (i64R_mem pvc6 (by intro x hx; simp at hx; rcases hx with rfl | rfl | rfl <;> first | assumption | simp [i64R])) (i64R_mem pvc7 (by simp [i64R])) (lmono hc7 (by omega))
     · (repeat ((repeat1' (first | simp -implicitDefEqProofs -dsimp only [go_sem, h5] | simp -dsimp (disch := omega) only [wrap_i64])); repeat (with_reducible refine sideA ?_)))
       repeat' (first | (refine condT.split (fun h6 => ?_) (fun h6 => ?_) <;> (repeat ((repeat1' (first | simp -implicitDefEqProofs -dsimp only [go_sem, h6, Cur.ren] | simp -dsimp (disch := omega) only [wrap_i64])); repeat (with_reducible refine sideA ?_)))) | (exact step_fin1 rfl rfl (by first | assumption | (simp [i64R]; done) | exact i64R_mem pvc5 (by simp [i64R])) (by first | assumption | (simp [i64R]; done) | exact i64R_mem pvc5 (by simp [i64R])) (by first | assumption | (simp [i64R]; done) | exact i64R_mem pvc5 (by simp [i64R])) (by first | exact lmono hc5 (by omega) | exact lmono hc4 (by omega))) | (refine among_call hB hc4 (by omega) [1, 100, 6000, 6001, 1000001, 0] (by simp) (by simp) rfl rfl rfl (fun vc5 c5 pvc5 hc5 => ?_); (repeat ((repeat1' (first | simp -implicitDefEqProofs -dsimp only [go_sem, Cur.ren] | simp -dsimp (disch := omega) only [wrap_i64])); repeat (with_reducible refine sideA ?_)))) | (refine among_call hB hc4 (by omega) [-20, 12, 30, 49, 50, 95, 96] (by simp) (by simp) rfl rfl rfl (fun vc5 c5 pvc5 hc5 => ?_); (repeat ((repeat1' (first | simp -implicitDefEqProofs -dsimp only [go_sem, Cur.ren] | simp -dsimp (disch := omega) only [wrap_i64])); repeat (with_reducible refine sideA ?_)))) | (refine among_call hB hc4 (by omega) [0, 1, -3, 10, -10, 11] (by simp) (by simp) rfl rfl rfl (fun vc5 c5 pvc5 hc5 => ?_); (repeat ((repeat1' (first | simp -implicitDefEqProofs -dsimp only [go_sem, Cur.ren] | simp -dsimp (disch := omega) only [wrap_i64])); repeat (with_reducible refine sideA ?_)))))
end Go.Proofs
end
section
set_option maxRecDepth 100000
set_option maxHeartbeats 2000000
namespace Go.Proofs
open Go.Lv
def watchP (B : List Int) (k : Int) (r : V) (hout : Hp) : Prop := ∃ (w : Watch) (c : Cur), w.ok ∧ w.Posts.length ≤ 100 ∧ w.Shocks.length ≤ 100 ∧ c.le k ∧ r = w.v ∧ hout = [some (c.cs B)]
theorem Watch.leM {h : Hp} {r : Watch} {i : Nat} (h1 : h[i]? = some (some (rows Shock.cs r.Shocks))) : LeV (ren (snapR h 3) 3 (.agg (r.mc i))) r.v := by
 refine .inl ?_
 simp only [Watch.mc, Watch.v, ren, List.map_cons, List.map_nil, snapR, h1, map_ren_rows, List.drop_zero, take_rows]
theorem stepW_B {w w' : Watch} {k n v : Int} (h : stepW w k n v = some w') : wB w' = true := by
 unfold stepW doneW at h
 split at h
 · rename_i hb
   simp only [Option.some.injEq] at h
   subst h
   simp only [Bool.and_eq_true] at hb
   exact hb.2.2
 · cases h
theorem wB_wok {w : Watch} (h : wB w = true) : w.ok ∧ w.Posts.length ≤ 8 ∧ w.Shocks.length ≤ 6 := by
 have W := wB_ok h
 have hn := W.now
 have hx := W.next
 have ha := W.arch
 refine ⟨⟨⟨by omega, by omega⟩, ⟨by have := W.plen; omega, fun p hp => ?_⟩, ⟨by have := W.slen; omega, fun x hxm => ?_⟩, ⟨by omega, by omega⟩, ⟨by omega, by omega⟩⟩, W.plen, W.slen⟩
 · have := postB_iff.1 (W.posts p hp)
   exact ⟨⟨by omega, by omega⟩, ⟨by omega, by omega⟩⟩
 · have := shockB_iff.1 (W.shocks x hxm)
   exact ⟨⟨by omega, by omega⟩, ⟨by omega, by omega⟩, ⟨by omega, by omega⟩, ⟨by omega, by omega⟩, ⟨by omega, by omega⟩⟩
def getT : List (Nat × St) → Nat → Option St
 | [], _ => none
 | p :: l, m => if Nat.beq p.1 m = true then some p.2 else getT l m
def gA (s0 : St) (l : List (Nat × St)) (m : Nat) (s : St) : Prop := cond (Nat.beq m 0) (some s0 = some s) (getT l m = some s)
def tabZ (B : List Int) (c5 c6 c7 c8 c9 : Cur) (v6 v7 v8 v9 : Int) : List (Nat × St) :=
 [(0, ⟨[.ptr 0 0, .undef, .ptr 1 0, .ptr 2 0, .undef, .undef, .undef, .undef, .undef, .undef, .undef, .undef, .undef, .undef, .undef, .undef, .undef, .undef, .undef, .undef, .undef, .undef, .undef, .undef, .undef, .undef, .undef, .undef, .undef, .undef, .undef, .undef, .undef, .undef, .undef, .undef, .undef, .undef, .undef, .undef, .undef, .undef, .undef, .undef, .undef, .undef, .undef, .undef, .undef, .undef, .undef, .undef, .undef, .undef, .undef, .undef, .undef, .undef, .undef, .undef, .undef, .undef, .undef, .undef], [some (c5.cs B), some [.int .i64 0, .nilsl, .nilsl, .int .i64 0, .int .i64 0], some [.int .i64 0, .nilsl, .nilsl, .int .i64 0, .int .i64 0]], 1⟩),
  (1, ⟨[.ptr 0 0, .undef, .ptr 1 0, .ptr 2 0, .undef, .undef, .undef, .undef, .undef, .undef, .undef, .undef, .undef, .undef, .undef, .undef, .undef, .undef, .undef, .undef, .undef, .undef, .undef, .undef, .undef, .undef, .undef, .undef, .undef, .undef, .undef, .undef, .undef, .undef, .undef, .undef, .undef, .undef, .undef, .undef, .undef, .undef, .undef, .undef, .undef, .undef, .ptr 2 2, .undef, .undef, .undef, .undef, .undef, .undef, .undef, .undef, .undef, .undef, .undef, .undef, .undef, .undef, .undef, .undef, .undef], [some (c5.cs B), some [.int .i64 0, .nilsl, .nilsl, .int .i64 0, .int .i64 0], some [.int .i64 0, .nilsl, .nilsl, .int .i64 0, .int .i64 0]], 1⟩),
  (5, ⟨[.ptr 0 0, .undef, .ptr 1 0, .ptr 2 0, .undef, .undef, .undef, .undef, .undef, .undef, .undef, .undef, .undef, .undef, .undef, .undef, .undef, .undef, .undef, .undef, .undef, .undef, .undef, .undef, .undef, .undef, .undef, .undef, .undef, .undef, .undef, .undef, .undef, .undef, .undef, .undef, .undef, .undef, .undef, .undef, .undef, .undef, .undef, .undef, .undef, .undef, .ptr 2 2, .undef, .ptr 0 0, .undef, .undef, .undef, .undef, .undef, .undef, .undef, .undef, .undef, .undef, .undef, .undef, .undef, .undef, .undef], [some (c5.cs B), some [.int .i64 0, .nilsl, .nilsl, .int .i64 0, .int .i64 0], some [.int .i64 0, .nilsl, .nilsl, .int .i64 0, .int .i64 0]], 1⟩),
  (37, ⟨[.ptr 0 0, .undef, .ptr 1 0, .ptr 2 0, .undef, .undef, .undef, .undef, .undef, .undef, .undef, .undef, .undef, .undef, .undef, .undef, .undef, .undef, .undef, .undef, .undef, .undef, .undef, .undef, .undef, .undef, .undef, .undef, .undef, .undef, .undef, .undef, .undef, .undef, .undef, .undef, .undef, .undef, .undef, .undef, .undef, .undef, .undef, .undef, .undef, .undef, .ptr 2 2, .undef, .ptr 0 0, .undef, .undef, .ptr 0 0, .undef, .undef, .undef, .undef, .undef, .undef, .undef, .undef, .undef, .undef, .undef, .undef], [some (c5.cs B), some [.int .i64 0, .nilsl, .nilsl, .int .i64 0, .int .i64 0], some [.int .i64 0, .nilsl, .nilsl, .int .i64 0, .int .i64 0]], 1⟩),
  (165, ⟨[.ptr 0 0, .undef, .ptr 1 0, .ptr 2 0, .undef, .undef, .undef, .undef, .undef, .undef, .undef, .undef, .undef, .undef, .undef, .undef, .undef, .undef, .undef, .undef, .undef, .undef, .undef, .undef, .undef, .undef, .undef, .undef, .undef, .undef, .undef, .undef, .undef, .undef, .undef, .undef, .undef, .undef, .undef, .undef, .undef, .undef, .undef, .undef, .undef, .undef, .ptr 2 2, .undef, .ptr 0 0, .undef, .undef, .ptr 0 0, .undef, .ptr 0 0, .undef, .undef, .undef, .undef, .undef, .undef, .undef, .undef, .undef, .undef], [some (c5.cs B), some [.int .i64 0, .nilsl, .nilsl, .int .i64 0, .int .i64 0], some [.int .i64 0, .nilsl, .nilsl, .int .i64 0, .int .i64 0]], 1⟩),
  (1189, ⟨[.ptr 0 0, .undef, .ptr 1 0, .ptr 2 0, .undef, .undef, .undef, .undef, .undef, .undef, .undef, .undef, .undef, .undef, .undef, .undef, .undef, .undef, .undef, .undef, .undef, .undef, .undef, .undef, .undef, .undef, .undef, .undef, .undef, .undef, .undef, .undef, .undef, .undef, .undef, .undef, .undef, .undef, .undef, .undef, .undef, .undef, .undef, .undef, .undef, .undef, .ptr 2 2, .undef, .ptr 0 0, .undef, .undef, .ptr 0 0, .undef, .ptr 0 0, .undef, .undef, .ptr 0 0, .undef, .undef, .undef, .undef, .undef, .undef, .undef], [some (c5.cs B), some [.int .i64 0, .nilsl, .nilsl, .int .i64 0, .int .i64 0], some [.int .i64 0, .nilsl, .nilsl, .int .i64 0, .int .i64 0]], 1⟩),
  (1191, ⟨[.ptr 0 0, .undef, .ptr 1 0, .ptr 2 0, .undef, .undef, .undef, .undef, .undef, .undef, .undef, .undef, .undef, .undef, .undef, .undef, .undef, .undef, .undef, .undef, .undef, .undef, .undef, .undef, .undef, .undef, .undef, .undef, .undef, .undef, .undef, .undef, .undef, .undef, .undef, .undef, .undef, .undef, .undef, .undef, .undef, .undef, .undef, .undef, .undef, .undef, .undef, .nilsl, .ptr 0 0, .undef, .undef, .ptr 0 0, .undef, .ptr 0 0, .undef, .undef, .ptr 0 0, .undef, .undef, .undef, .undef, .undef, .undef, .undef], [some (c5.cs B), some [.int .i64 0, .nilsl, .nilsl, .int .i64 0, .int .i64 0], some [.int .i64 0, .nilsl, .nilsl, .int .i64 0, .int .i64 0]], 1⟩),
  (1197, ⟨[.ptr 0 0, .undef, .ptr 1 0, .ptr 2 0, .undef, .undef, .undef, .undef, .undef, .undef, .undef, .undef, .undef, .undef, .undef, .undef, .undef, .undef, .undef, .undef, .undef, .undef, .undef, .undef, .undef, .undef, .undef, .undef, .undef, .undef, .undef, .undef, .undef, .undef, .undef, .undef, .undef, .undef, .undef, .undef, .undef, .undef, .undef, .undef, .undef, .undef, .ptr 2 2, .undef, .ptr 0 0, .osl 3 0 2 1, .undef, .ptr 0 0, .undef, .ptr 0 0, .undef, .undef, .ptr 0 0, .undef, .undef, .undef, .undef, .undef, .undef, .undef], [some (c5.cs B), some [.int .i64 0, .nilsl, .nilsl, .int .i64 0, .int .i64 0], some [.int .i64 0, .nilsl, .nilsl, .int .i64 0, .int .i64 0], some (rows IntS.cs [0, 1])], 1⟩),
  (1199, ⟨[.ptr 0 0, .undef, .ptr 1 0, .ptr 2 0, .undef, .undef, .undef, .undef, .undef, .undef, .undef, .undef, .undef, .undef, .undef, .undef, .undef, .undef, .undef, .undef, .undef, .undef, .undef, .undef, .undef, .undef, .undef, .undef, .undef, .undef, .undef, .undef, .undef, .undef, .undef, .undef, .undef, .undef, .undef, .undef, .undef, .undef, .undef, .undef, .undef, .undef, .undef, .nilsl, .ptr 0 0, .osl 3 0 2 1, .undef, .ptr 0 0, .undef, .ptr 0 0, .undef, .undef, .ptr 0 0, .undef, .undef, .undef, .undef, .undef, .undef, .undef], [some (c5.cs B), some [.int .i64 0, .nilsl, .nilsl, .int .i64 0, .int .i64 0], some [.int .i64 0, .nilsl, .nilsl, .int .i64 0, .int .i64 0], some (rows IntS.cs [0, 1])], 1⟩),
  (1213, ⟨[.ptr 0 0, .undef, .ptr 1 0, .ptr 2 0, .undef, .undef, .undef, .undef, .undef, .undef, .undef, .undef, .undef, .undef, .undef, .undef, .undef, .undef, .undef, .undef, .undef, .undef, .undef, .undef, .undef, .undef, .undef, .undef, .undef, .undef, .undef, .undef, .undef, .undef, .undef, .undef, .undef, .undef, .undef, .undef, .undef, .undef, .undef, .undef, .undef, .undef, .ptr 2 2, .undef, .undef, .undef, .int .i64 v6, .ptr 0 0, .undef, .ptr 0 0, .undef, .undef, .ptr 0 0, .undef, .undef, .undef, .undef, .undef, .undef, .undef], [some (c6.cs B), some [.int .i64 0, .nilsl, .nilsl, .int .i64 0, .int .i64 0], some [.int .i64 0, .nilsl, .nilsl, .int .i64 0, .int .i64 0]], 1⟩),
  (1215, ⟨[.ptr 0 0, .undef, .ptr 1 0, .ptr 2 0, .undef, .undef, .undef, .undef, .undef, .undef, .undef, .undef, .undef, .undef, .undef, .undef, .undef, .undef, .undef, .undef, .undef, .undef, .undef, .undef, .undef, .undef, .undef, .undef, .undef, .undef, .undef, .undef, .undef, .undef, .undef, .undef, .undef, .undef, .undef, .undef, .undef, .undef, .undef, .undef, .undef, .undef, .undef, .nilsl, .undef, .undef, .int .i64 v6, .ptr 0 0, .undef, .ptr 0 0, .undef, .undef, .ptr 0 0, .undef, .undef, .undef, .undef, .undef, .undef, .undef], [some (c6.cs B), some [.int .i64 0, .nilsl, .nilsl, .int .i64 0, .int .i64 0], some [.int .i64 0, .nilsl, .nilsl, .int .i64 0, .int .i64 0]], 1⟩),
  (1277, ⟨[.ptr 0 0, .undef, .ptr 1 0, .ptr 2 0, .undef, .undef, .undef, .undef, .undef, .undef, .undef, .undef, .undef, .undef, .undef, .undef, .undef, .undef, .undef, .undef, .undef, .undef, .undef, .undef, .undef, .undef, .undef, .undef, .undef, .undef, .undef, .undef, .undef, .undef, .undef, .undef, .undef, .undef, .undef, .undef, .undef, .undef, .undef, .undef, .undef, .undef, .ptr 2 2, .undef, .undef, .undef, .int .i64 v6, .undef, .int .i64 v7, .ptr 0 0, .undef, .undef, .ptr 0 0, .undef, .undef, .undef, .undef, .undef, .undef, .undef], [some (c7.cs B), some [.int .i64 0, .nilsl, .nilsl, .int .i64 0, .int .i64 0], some [.int .i64 0, .nilsl, .nilsl, .int .i64 0, .int .i64 0]], 1⟩),
  (1279, ⟨[.ptr 0 0, .undef, .ptr 1 0, .ptr 2 0, .undef, .undef, .undef, .undef, .undef, .undef, .undef, .undef, .undef, .undef, .undef, .undef, .undef, .undef, .undef, .undef, .undef, .undef, .undef, .undef, .undef, .undef, .undef, .undef, .undef, .undef, .undef, .undef, .undef, .undef, .undef, .undef, .undef, .undef, .undef, .undef, .undef, .undef, .undef, .undef, .undef, .undef, .undef, .nilsl, .undef, .undef, .int .i64 v6, .undef, .int .i64 v7, .ptr 0 0, .undef, .undef, .ptr 0 0, .undef, .undef, .undef, .undef, .undef, .undef, .undef], [some (c7.cs B), some [.int .i64 0, .nilsl, .nilsl, .int .i64 0, .int .i64 0], some [.int .i64 0, .nilsl, .nilsl, .int .i64 0, .int .i64 0]], 1⟩),
  (1445, ⟨[.ptr 0 0, .undef, .ptr 1 0, .ptr 2 0, .undef, .undef, .undef, .undef, .undef, .undef, .undef, .undef, .undef, .undef, .undef, .undef, .undef, .undef, .undef, .undef, .undef, .undef, .undef, .undef, .undef, .undef, .undef, .undef, .undef, .undef, .undef, .undef, .undef, .undef, .undef, .undef, .undef, .undef, .undef, .undef, .undef, .undef, .undef, .undef, .undef, .undef, .ptr 2 2, .undef, .ptr 0 0, .undef, .undef, .ptr 0 0, .undef, .ptr 0 0, .osl 3 0 2 1, .undef, .ptr 0 0, .undef, .undef, .undef, .undef, .undef, .undef, .undef], [some (c5.cs B), some [.int .i64 0, .nilsl, .nilsl, .int .i64 0, .int .i64 0], some [.int .i64 0, .nilsl, .nilsl, .int .i64 0, .int .i64 0], some (rows IntS.cs [0, 9])], 1⟩),
  (1447, ⟨[.ptr 0 0, .undef, .ptr 1 0, .ptr 2 0, .undef, .undef, .undef, .undef, .undef, .undef, .undef, .undef, .undef, .undef, .undef, .undef, .undef, .undef, .undef, .undef, .undef, .undef, .undef, .undef, .undef, .undef, .undef, .undef, .undef, .undef, .undef, .undef, .undef, .undef, .undef, .undef, .undef, .undef, .undef, .undef, .undef, .undef, .undef, .undef, .undef, .undef, .undef, .nilsl, .ptr 0 0, .undef, .undef, .ptr 0 0, .undef, .ptr 0 0, .osl 3 0 2 1, .undef, .ptr 0 0, .undef, .undef, .undef, .undef, .undef, .undef, .undef], [some (c5.cs B), some [.int .i64 0, .nilsl, .nilsl, .int .i64 0, .int .i64 0], some [.int .i64 0, .nilsl, .nilsl, .int .i64 0, .int .i64 0], some (rows IntS.cs [0, 9])], 1⟩),
  (1453, ⟨[.ptr 0 0, .undef, .ptr 1 0, .ptr 2 0, .undef, .undef, .undef, .undef, .undef, .undef, .undef, .undef, .undef, .undef, .undef, .undef, .undef, .undef, .undef, .undef, .undef, .undef, .undef, .undef, .undef, .undef, .undef, .undef, .undef, .undef, .undef, .undef, .undef, .undef, .undef, .undef, .undef, .undef, .undef, .undef, .undef, .undef, .undef, .undef, .undef, .undef, .ptr 2 2, .undef, .ptr 0 0, .osl 3 0 2 1, .undef, .ptr 0 0, .undef, .ptr 0 0, .osl 4 0 2 1, .undef, .ptr 0 0, .undef, .undef, .undef, .undef, .undef, .undef, .undef], [some (c5.cs B), some [.int .i64 0, .nilsl, .nilsl, .int .i64 0, .int .i64 0], some [.int .i64 0, .nilsl, .nilsl, .int .i64 0, .int .i64 0], some (rows IntS.cs [0, 1]), some (rows IntS.cs [0, 9])], 1⟩),
  (1455, ⟨[.ptr 0 0, .undef, .ptr 1 0, .ptr 2 0, .undef, .undef, .undef, .undef, .undef, .undef, .undef, .undef, .undef, .undef, .undef, .undef, .undef, .undef, .undef, .undef, .undef, .undef, .undef, .undef, .undef, .undef, .undef, .undef, .undef, .undef, .undef, .undef, .undef, .undef, .undef, .undef, .undef, .undef, .undef, .undef, .undef, .undef, .undef, .undef, .undef, .undef, .undef, .nilsl, .ptr 0 0, .osl 3 0 2 1, .undef, .ptr 0 0, .undef, .ptr 0 0, .osl 4 0 2 1, .undef, .ptr 0 0, .undef, .undef, .undef, .undef, .undef, .undef, .undef], [some (c5.cs B), some [.int .i64 0, .nilsl, .nilsl, .int .i64 0, .int .i64 0], some [.int .i64 0, .nilsl, .nilsl, .int .i64 0, .int .i64 0], some (rows IntS.cs [0, 1]), some (rows IntS.cs [0, 9])], 1⟩),
  (1469, ⟨[.ptr 0 0, .undef, .ptr 1 0, .ptr 2 0, .undef, .undef, .undef, .undef, .undef, .undef, .undef, .undef, .undef, .undef, .undef, .undef, .undef, .undef, .undef, .undef, .undef, .undef, .undef, .undef, .undef, .undef, .undef, .undef, .undef, .undef, .undef, .undef, .undef, .undef, .undef, .undef, .undef, .undef, .undef, .undef, .undef, .undef, .undef, .undef, .undef, .undef, .ptr 2 2, .undef, .undef, .undef, .int .i64 v6, .ptr 0 0, .undef, .ptr 0 0, .osl 3 0 2 1, .undef, .ptr 0 0, .undef, .undef, .undef, .undef, .undef, .undef, .undef], [some (c6.cs B), some [.int .i64 0, .nilsl, .nilsl, .int .i64 0, .int .i64 0], some [.int .i64 0, .nilsl, .nilsl, .int .i64 0, .int .i64 0], some (rows IntS.cs [0, 9])], 1⟩),
  (1471, ⟨[.ptr 0 0, .undef, .ptr 1 0, .ptr 2 0, .undef, .undef, .undef, .undef, .undef, .undef, .undef, .undef, .undef, .undef, .undef, .undef, .undef, .undef, .undef, .undef, .undef, .undef, .undef, .undef, .undef, .undef, .undef, .undef, .undef, .undef, .undef, .undef, .undef, .undef, .undef, .undef, .undef, .undef, .undef, .undef, .undef, .undef, .undef, .undef, .undef, .undef, .undef, .nilsl, .undef, .undef, .int .i64 v6, .ptr 0 0, .undef, .ptr 0 0, .osl 3 0 2 1, .undef, .ptr 0 0, .undef, .undef, .undef, .undef, .undef, .undef, .undef], [some (c6.cs B), some [.int .i64 0, .nilsl, .nilsl, .int .i64 0, .int .i64 0], some [.int .i64 0, .nilsl, .nilsl, .int .i64 0, .int .i64 0], some (rows IntS.cs [0, 9])], 1⟩),
  (1533, ⟨[.ptr 0 0, .undef, .ptr 1 0, .ptr 2 0, .undef, .undef, .undef, .undef, .undef, .undef, .undef, .undef, .undef, .undef, .undef, .undef, .undef, .undef, .undef, .undef, .undef, .undef, .undef, .undef, .undef, .undef, .undef, .undef, .undef, .undef, .undef, .undef, .undef, .undef, .undef, .undef, .undef, .undef, .undef, .undef, .undef, .undef, .undef, .undef, .undef, .undef, .ptr 2 2, .undef, .undef, .undef, .int .i64 v6, .undef, .int .i64 v7, .ptr 0 0, .osl 3 0 2 1, .undef, .ptr 0 0, .undef, .undef, .undef, .undef, .undef, .undef, .undef], [some (c7.cs B), some [.int .i64 0, .nilsl, .nilsl, .int .i64 0, .int .i64 0], some [.int .i64 0, .nilsl, .nilsl, .int .i64 0, .int .i64 0], some (rows IntS.cs [0, 9])], 1⟩),
  (1535, ⟨[.ptr 0 0, .undef, .ptr 1 0, .ptr 2 0, .undef, .undef, .undef, .undef, .undef, .undef, .undef, .undef, .undef, .undef, .undef, .undef, .undef, .undef, .undef, .undef, .undef, .undef, .undef, .undef, .undef, .undef, .undef, .undef, .undef, .undef, .undef, .undef, .undef, .undef, .undef, .undef, .undef, .undef, .undef, .undef, .undef, .undef, .undef, .undef, .undef, .undef, .undef, .nilsl, .undef, .undef, .int .i64 v6, .undef, .int .i64 v7, .ptr 0 0, .osl 3 0 2 1, .undef, .ptr 0 0, .undef, .undef, .undef, .undef, .undef, .undef, .undef], [some (c7.cs B), some [.int .i64 0, .nilsl, .nilsl, .int .i64 0, .int .i64 0], some [.int .i64 0, .nilsl, .nilsl, .int .i64 0, .int .i64 0], some (rows IntS.cs [0, 9])], 1⟩),
  (2045, ⟨[.ptr 0 0, .undef, .ptr 1 0, .ptr 2 0, .undef, .undef, .undef, .undef, .undef, .undef, .undef, .undef, .undef, .undef, .undef, .undef, .undef, .undef, .undef, .undef, .undef, .undef, .undef, .undef, .undef, .undef, .undef, .undef, .undef, .undef, .undef, .undef, .undef, .undef, .undef, .undef, .undef, .undef, .undef, .undef, .undef, .undef, .undef, .undef, .undef, .undef, .ptr 2 2, .undef, .undef, .undef, .int .i64 v6, .undef, .int .i64 v7, .undef, .undef, .int .i64 v8, .ptr 0 0, .undef, .undef, .undef, .undef, .undef, .undef, .undef], [some (c8.cs B), some [.int .i64 0, .nilsl, .nilsl, .int .i64 0, .int .i64 0], some [.int .i64 0, .nilsl, .nilsl, .int .i64 0, .int .i64 0]], 1⟩),
  (2047, ⟨[.ptr 0 0, .undef, .ptr 1 0, .ptr 2 0, .undef, .undef, .undef, .undef, .undef, .undef, .undef, .undef, .undef, .undef, .undef, .undef, .undef, .undef, .undef, .undef, .undef, .undef, .undef, .undef, .undef, .undef, .undef, .undef, .undef, .undef, .undef, .undef, .undef, .undef, .undef, .undef, .undef, .undef, .undef, .undef, .undef, .undef, .undef, .undef, .undef, .undef, .undef, .nilsl, .undef, .undef, .int .i64 v6, .undef, .int .i64 v7, .undef, .undef, .int .i64 v8, .ptr 0 0, .undef, .undef, .undef, .undef, .undef, .undef, .undef], [some (c8.cs B), some [.int .i64 0, .nilsl, .nilsl, .int .i64 0, .int .i64 0], some [.int .i64 0, .nilsl, .nilsl, .int .i64 0, .int .i64 0]], 1⟩),
  (3237, ⟨[.ptr 0 0, .undef, .ptr 1 0, .ptr 2 0, .undef, .undef, .undef, .undef, .undef, .undef, .undef, .undef, .undef, .undef, .undef, .undef, .undef, .undef, .undef, .undef, .undef, .undef, .undef, .undef, .undef, .undef, .undef, .undef, .undef, .undef, .undef, .undef, .undef, .undef, .undef, .undef, .undef, .undef, .undef, .undef, .undef, .undef, .undef, .undef, .undef, .undef, .ptr 2 2, .undef, .ptr 0 0, .undef, .undef, .ptr 0 0, .undef, .ptr 0 0, .undef, .undef, .ptr 0 0, .osl 3 0 2 1, .undef, .undef, .undef, .undef, .undef, .undef], [some (c5.cs B), some [.int .i64 0, .nilsl, .nilsl, .int .i64 0, .int .i64 0], some [.int .i64 0, .nilsl, .nilsl, .int .i64 0, .int .i64 0], some (rows IntS.cs [0, 96])], 1⟩),
  (3239, ⟨[.ptr 0 0, .undef, .ptr 1 0, .ptr 2 0, .undef, .undef, .undef, .undef, .undef, .undef, .undef, .undef, .undef, .undef, .undef, .undef, .undef, .undef, .undef, .undef, .undef, .undef, .undef, .undef, .undef, .undef, .undef, .undef, .undef, .undef, .undef, .undef, .undef, .undef, .undef, .undef, .undef, .undef, .undef, .undef, .undef, .undef, .undef, .undef, .undef, .undef, .undef, .nilsl, .ptr 0 0, .undef, .undef, .ptr 0 0, .undef, .ptr 0 0, .undef, .undef, .ptr 0 0, .osl 3 0 2 1, .undef, .undef, .undef, .undef, .undef, .undef], [some (c5.cs B), some [.int .i64 0, .nilsl, .nilsl, .int .i64 0, .int .i64 0], some [.int .i64 0, .nilsl, .nilsl, .int .i64 0, .int .i64 0], some (rows IntS.cs [0, 96])], 1⟩),
  (3245, ⟨[.ptr 0 0, .undef, .ptr 1 0, .ptr 2 0, .undef, .undef, .undef, .undef, .undef, .undef, .undef, .undef, .undef, .undef, .undef, .undef, .undef, .undef, .undef, .undef, .undef, .undef, .undef, .undef, .undef, .undef, .undef, .undef, .undef, .undef, .undef, .undef, .undef, .undef, .undef, .undef, .undef, .undef, .undef, .undef, .undef, .undef, .undef, .undef, .undef, .undef, .ptr 2 2, .undef, .ptr 0 0, .osl 3 0 2 1, .undef, .ptr 0 0, .undef, .ptr 0 0, .undef, .undef, .ptr 0 0, .osl 4 0 2 1, .undef, .undef, .undef, .undef, .undef, .undef], [some (c5.cs B), some [.int .i64 0, .nilsl, .nilsl, .int .i64 0, .int .i64 0], some [.int .i64 0, .nilsl, .nilsl, .int .i64 0, .int .i64 0], some (rows IntS.cs [0, 1]), some (rows IntS.cs [0, 96])], 1⟩),
  (3247, ⟨[.ptr 0 0, .undef, .ptr 1 0, .ptr 2 0, .undef, .undef, .undef, .undef, .undef, .undef, .undef, .undef, .undef, .undef, .undef, .undef, .undef, .undef, .undef, .undef, .undef, .undef, .undef, .undef, .undef, .undef, .undef, .undef, .undef, .undef, .undef, .undef, .undef, .undef, .undef, .undef, .undef, .undef, .undef, .undef, .undef, .undef, .undef, .undef, .undef, .undef, .undef, .nilsl, .ptr 0 0, .osl 3 0 2 1, .undef, .ptr 0 0, .undef, .ptr 0 0, .undef, .undef, .ptr 0 0, .osl 4 0 2 1, .undef, .undef, .undef, .undef, .undef, .undef], [some (c5.cs B), some [.int .i64 0, .nilsl, .nilsl, .int .i64 0, .int .i64 0], some [.int .i64 0, .nilsl, .nilsl, .int .i64 0, .int .i64 0], some (rows IntS.cs [0, 1]), some (rows IntS.cs [0, 96])], 1⟩),
  (3261, ⟨[.ptr 0 0, .undef, .ptr 1 0, .ptr 2 0, .undef, .undef, .undef, .undef, .undef, .undef, .undef, .undef, .undef, .undef, .undef, .undef, .undef, .undef, .undef, .undef, .undef, .undef, .undef, .undef, .undef, .undef, .undef, .undef, .undef, .undef, .undef, .undef, .undef, .undef, .undef, .undef, .undef, .undef, .undef, .undef, .undef, .undef, .undef, .undef, .undef, .undef, .ptr 2 2, .undef, .undef, .undef, .int .i64 v6, .ptr 0 0, .undef, .ptr 0 0, .undef, .undef, .ptr 0 0, .osl 3 0 2 1, .undef, .undef, .undef, .undef, .undef, .undef], [some (c6.cs B), some [.int .i64 0, .nilsl, .nilsl, .int .i64 0, .int .i64 0], some [.int .i64 0, .nilsl, .nilsl, .int .i64 0, .int .i64 0], some (rows IntS.cs [0, 96])], 1⟩),
  (3263, ⟨[.ptr 0 0, .undef, .ptr 1 0, .ptr 2 0, .undef, .undef, .undef, .undef, .undef, .undef, .undef, .undef, .undef, .undef, .undef, .undef, .undef, .undef, .undef, .undef, .undef, .undef, .undef, .undef, .undef, .undef, .undef, .undef, .undef, .undef, .undef, .undef, .undef, .undef, .undef, .undef, .undef, .undef, .undef, .undef, .undef, .undef, .undef, .undef, .undef, .undef, .undef, .nilsl, .undef, .undef, .int .i64 v6, .ptr 0 0, .undef, .ptr 0 0, .undef, .undef, .ptr 0 0, .osl 3 0 2 1, .undef, .undef, .undef, .undef, .undef, .undef], [some (c6.cs B), some [.int .i64 0, .nilsl, .nilsl, .int .i64 0, .int .i64 0], some [.int .i64 0, .nilsl, .nilsl, .int .i64 0, .int .i64 0], some (rows IntS.cs [0, 96])], 1⟩),
  (3325, ⟨[.ptr 0 0, .undef, .ptr 1 0, .ptr 2 0, .undef, .undef, .undef, .undef, .undef, .undef, .undef, .undef, .undef, .undef, .undef, .undef, .undef, .undef, .undef, .undef, .undef, .undef, .undef, .undef, .undef, .undef, .undef, .undef, .undef, .undef, .undef, .undef, .undef, .undef, .undef, .undef, .undef, .undef, .undef, .undef, .undef, .undef, .undef, .undef, .undef, .undef, .ptr 2 2, .undef, .undef, .undef, .int .i64 v6, .undef, .int .i64 v7, .ptr 0 0, .undef, .undef, .ptr 0 0, .osl 3 0 2 1, .undef, .undef, .undef, .undef, .undef, .undef], [some (c7.cs B), some [.int .i64 0, .nilsl, .nilsl, .int .i64 0, .int .i64 0], some [.int .i64 0, .nilsl, .nilsl, .int .i64 0, .int .i64 0], some (rows IntS.cs [0, 96])], 1⟩),
  (3327, ⟨[.ptr 0 0, .undef, .ptr 1 0, .ptr 2 0, .undef, .undef, .undef, .undef, .undef, .undef, .undef, .undef, .undef, .undef, .undef, .undef, .undef, .undef, .undef, .undef, .undef, .undef, .undef, .undef, .undef, .undef, .undef, .undef, .undef, .undef, .undef, .undef, .undef, .undef, .undef, .undef, .undef, .undef, .undef, .undef, .undef, .undef, .undef, .undef, .undef, .undef, .undef, .nilsl, .undef, .undef, .int .i64 v6, .undef, .int .i64 v7, .ptr 0 0, .undef, .undef, .ptr 0 0, .osl 3 0 2 1, .undef, .undef, .undef, .undef, .undef, .undef], [some (c7.cs B), some [.int .i64 0, .nilsl, .nilsl, .int .i64 0, .int .i64 0], some [.int .i64 0, .nilsl, .nilsl, .int .i64 0, .int .i64 0], some (rows IntS.cs [0, 96])], 1⟩),
  (3493, ⟨[.ptr 0 0, .undef, .ptr 1 0, .ptr 2 0, .undef, .undef, .undef, .undef, .undef, .undef, .undef, .undef, .undef, .undef, .undef, .undef, .undef, .undef, .undef, .undef, .undef, .undef, .undef, .undef, .undef, .undef, .undef, .undef, .undef, .undef, .undef, .undef, .undef, .undef, .undef, .undef, .undef, .undef, .undef, .undef, .undef, .undef, .undef, .undef, .undef, .undef, .ptr 2 2, .undef, .ptr 0 0, .undef, .undef, .ptr 0 0, .undef, .ptr 0 0, .osl 3 0 2 1, .undef, .ptr 0 0, .osl 4 0 2 1, .undef, .undef, .undef, .undef, .undef, .undef], [some (c5.cs B), some [.int .i64 0, .nilsl, .nilsl, .int .i64 0, .int .i64 0], some [.int .i64 0, .nilsl, .nilsl, .int .i64 0, .int .i64 0], some (rows IntS.cs [0, 9]), some (rows IntS.cs [0, 96])], 1⟩),
  (3495, ⟨[.ptr 0 0, .undef, .ptr 1 0, .ptr 2 0, .undef, .undef, .undef, .undef, .undef, .undef, .undef, .undef, .undef, .undef, .undef, .undef, .undef, .undef, .undef, .undef, .undef, .undef, .undef, .undef, .undef, .undef, .undef, .undef, .undef, .undef, .undef, .undef, .undef, .undef, .undef, .undef, .undef, .undef, .undef, .undef, .undef, .undef, .undef, .undef, .undef, .undef, .undef, .nilsl, .ptr 0 0, .undef, .undef, .ptr 0 0, .undef, .ptr 0 0, .osl 3 0 2 1, .undef, .ptr 0 0, .osl 4 0 2 1, .undef, .undef, .undef, .undef, .undef, .undef], [some (c5.cs B), some [.int .i64 0, .nilsl, .nilsl, .int .i64 0, .int .i64 0], some [.int .i64 0, .nilsl, .nilsl, .int .i64 0, .int .i64 0], some (rows IntS.cs [0, 9]), some (rows IntS.cs [0, 96])], 1⟩),
  (3501, ⟨[.ptr 0 0, .undef, .ptr 1 0, .ptr 2 0, .undef, .undef, .undef, .undef, .undef, .undef, .undef, .undef, .undef, .undef, .undef, .undef, .undef, .undef, .undef, .undef, .undef, .undef, .undef, .undef, .undef, .undef, .undef, .undef, .undef, .undef, .undef, .undef, .undef, .undef, .undef, .undef, .undef, .undef, .undef, .undef, .undef, .undef, .undef, .undef, .undef, .undef, .ptr 2 2, .undef, .ptr 0 0, .osl 3 0 2 1, .undef, .ptr 0 0, .undef, .ptr 0 0, .osl 4 0 2 1, .undef, .ptr 0 0, .osl 5 0 2 1, .undef, .undef, .undef, .undef, .undef, .undef], [some (c5.cs B), some [.int .i64 0, .nilsl, .nilsl, .int .i64 0, .int .i64 0], some [.int .i64 0, .nilsl, .nilsl, .int .i64 0, .int .i64 0], some (rows IntS.cs [0, 1]), some (rows IntS.cs [0, 9]), some (rows IntS.cs [0, 96])], 1⟩),
  (3503, ⟨[.ptr 0 0, .undef, .ptr 1 0, .ptr 2 0, .undef, .undef, .undef, .undef, .undef, .undef, .undef, .undef, .undef, .undef, .undef, .undef, .undef, .undef, .undef, .undef, .undef, .undef, .undef, .undef, .undef, .undef, .undef, .undef, .undef, .undef, .undef, .undef, .undef, .undef, .undef, .undef, .undef, .undef, .undef, .undef, .undef, .undef, .undef, .undef, .undef, .undef, .undef, .nilsl, .ptr 0 0, .osl 3 0 2 1, .undef, .ptr 0 0, .undef, .ptr 0 0, .osl 4 0 2 1, .undef, .ptr 0 0, .osl 5 0 2 1, .undef, .undef, .undef, .undef, .undef, .undef], [some (c5.cs B), some [.int .i64 0, .nilsl, .nilsl, .int .i64 0, .int .i64 0], some [.int .i64 0, .nilsl, .nilsl, .int .i64 0, .int .i64 0], some (rows IntS.cs [0, 1]), some (rows IntS.cs [0, 9]), some (rows IntS.cs [0, 96])], 1⟩),
  (3517, ⟨[.ptr 0 0, .undef, .ptr 1 0, .ptr 2 0, .undef, .undef, .undef, .undef, .undef, .undef, .undef, .undef, .undef, .undef, .undef, .undef, .undef, .undef, .undef, .undef, .undef, .undef, .undef, .undef, .undef, .undef, .undef, .undef, .undef, .undef, .undef, .undef, .undef, .undef, .undef, .undef, .undef, .undef, .undef, .undef, .undef, .undef, .undef, .undef, .undef, .undef, .ptr 2 2, .undef, .undef, .undef, .int .i64 v6, .ptr 0 0, .undef, .ptr 0 0, .osl 3 0 2 1, .undef, .ptr 0 0, .osl 4 0 2 1, .undef, .undef, .undef, .undef, .undef, .undef], [some (c6.cs B), some [.int .i64 0, .nilsl, .nilsl, .int .i64 0, .int .i64 0], some [.int .i64 0, .nilsl, .nilsl, .int .i64 0, .int .i64 0], some (rows IntS.cs [0, 9]), some (rows IntS.cs [0, 96])], 1⟩),
  (3519, ⟨[.ptr 0 0, .undef, .ptr 1 0, .ptr 2 0, .undef, .undef, .undef, .undef, .undef, .undef, .undef, .undef, .undef, .undef, .undef, .undef, .undef, .undef, .undef, .undef, .undef, .undef, .undef, .undef, .undef, .undef, .undef, .undef, .undef, .undef, .undef, .undef, .undef, .undef, .undef, .undef, .undef, .undef, .undef, .undef, .undef, .undef, .undef, .undef, .undef, .undef, .undef, .nilsl, .undef, .undef, .int .i64 v6, .ptr 0 0, .undef, .ptr 0 0, .osl 3 0 2 1, .undef, .ptr 0 0, .osl 4 0 2 1, .undef, .undef, .undef, .undef, .undef, .undef], [some (c6.cs B), some [.int .i64 0, .nilsl, .nilsl, .int .i64 0, .int .i64 0], some [.int .i64 0, .nilsl, .nilsl, .int .i64 0, .int .i64 0], some (rows IntS.cs [0, 9]), some (rows IntS.cs [0, 96])], 1⟩),
  (3581, ⟨[.ptr 0 0, .undef, .ptr 1 0, .ptr 2 0, .undef, .undef, .undef, .undef, .undef, .undef, .undef, .undef, .undef, .undef, .undef, .undef, .undef, .undef, .undef, .undef, .undef, .undef, .undef, .undef, .undef, .undef, .undef, .undef, .undef, .undef, .undef, .undef, .undef, .undef, .undef, .undef, .undef, .undef, .undef, .undef, .undef, .undef, .undef, .undef, .undef, .undef, .ptr 2 2, .undef, .undef, .undef, .int .i64 v6, .undef, .int .i64 v7, .ptr 0 0, .osl 3 0 2 1, .undef, .ptr 0 0, .osl 4 0 2 1, .undef, .undef, .undef, .undef, .undef, .undef], [some (c7.cs B), some [.int .i64 0, .nilsl, .nilsl, .int .i64 0, .int .i64 0], some [.int .i64 0, .nilsl, .nilsl, .int .i64 0, .int .i64 0], some (rows IntS.cs [0, 9]), some (rows IntS.cs [0, 96])], 1⟩),
  (3583, ⟨[.ptr 0 0, .undef, .ptr 1 0, .ptr 2 0, .undef, .undef, .undef, .undef, .undef, .undef, .undef, .undef, .undef, .undef, .undef, .undef, .undef, .undef, .undef, .undef, .undef, .undef, .undef, .undef, .undef, .undef, .undef, .undef, .undef, .undef, .undef, .undef, .undef, .undef, .undef, .undef, .undef, .undef, .undef, .undef, .undef, .undef, .undef, .undef, .undef, .undef, .undef, .nilsl, .undef, .undef, .int .i64 v6, .undef, .int .i64 v7, .ptr 0 0, .osl 3 0 2 1, .undef, .ptr 0 0, .osl 4 0 2 1, .undef, .undef, .undef, .undef, .undef, .undef], [some (c7.cs B), some [.int .i64 0, .nilsl, .nilsl, .int .i64 0, .int .i64 0], some [.int .i64 0, .nilsl, .nilsl, .int .i64 0, .int .i64 0], some (rows IntS.cs [0, 9]), some (rows IntS.cs [0, 96])], 1⟩),
  (4093, ⟨[.ptr 0 0, .undef, .ptr 1 0, .ptr 2 0, .undef, .undef, .undef, .undef, .undef, .undef, .undef, .undef, .undef, .undef, .undef, .undef, .undef, .undef, .undef, .undef, .undef, .undef, .undef, .undef, .undef, .undef, .undef, .undef, .undef, .undef, .undef, .undef, .undef, .undef, .undef, .undef, .undef, .undef, .undef, .undef, .undef, .undef, .undef, .undef, .undef, .undef, .ptr 2 2, .undef, .undef, .undef, .int .i64 v6, .undef, .int .i64 v7, .undef, .undef, .int .i64 v8, .ptr 0 0, .osl 3 0 2 1, .undef, .undef, .undef, .undef, .undef, .undef], [some (c8.cs B), some [.int .i64 0, .nilsl, .nilsl, .int .i64 0, .int .i64 0], some [.int .i64 0, .nilsl, .nilsl, .int .i64 0, .int .i64 0], some (rows IntS.cs [0, 96])], 1⟩),
  (4095, ⟨[.ptr 0 0, .undef, .ptr 1 0, .ptr 2 0, .undef, .undef, .undef, .undef, .undef, .undef, .undef, .undef, .undef, .undef, .undef, .undef, .undef, .undef, .undef, .undef, .undef, .undef, .undef, .undef, .undef, .undef, .undef, .undef, .undef, .undef, .undef, .undef, .undef, .undef, .undef, .undef, .undef, .undef, .undef, .undef, .undef, .undef, .undef, .undef, .undef, .undef, .undef, .nilsl, .undef, .undef, .int .i64 v6, .undef, .int .i64 v7, .undef, .undef, .int .i64 v8, .ptr 0 0, .osl 3 0 2 1, .undef, .undef, .undef, .undef, .undef, .undef], [some (c8.cs B), some [.int .i64 0, .nilsl, .nilsl, .int .i64 0, .int .i64 0], some [.int .i64 0, .nilsl, .nilsl, .int .i64 0, .int .i64 0], some (rows IntS.cs [0, 96])], 1⟩),
  (8189, ⟨[.ptr 0 0, .undef, .ptr 1 0, .ptr 2 0, .undef, .undef, .undef, .undef, .undef, .undef, .undef, .undef, .undef, .undef, .undef, .undef, .undef, .undef, .undef, .undef, .undef, .undef, .undef, .undef, .undef, .undef, .undef, .undef, .undef, .undef, .undef, .undef, .undef, .undef, .undef, .undef, .undef, .undef, .undef, .undef, .undef, .undef, .undef, .undef, .undef, .undef, .ptr 2 2, .undef, .undef, .undef, .int .i64 v6, .undef, .int .i64 v7, .undef, .undef, .int .i64 v8, .undef, .undef, .int .i64 v9, .undef, .undef, .undef, .undef, .undef], [some (c9.cs B), some [.int .i64 0, .nilsl, .nilsl, .int .i64 0, .int .i64 0], some [.int .i64 0, .nilsl, .nilsl, .int .i64 0, .int .i64 0]], 1⟩),
  (8191, ⟨[.ptr 0 0, .undef, .ptr 1 0, .ptr 2 0, .undef, .undef, .undef, .undef, .undef, .undef, .undef, .undef, .undef, .undef, .undef, .undef, .undef, .undef, .undef, .undef, .undef, .undef, .undef, .undef, .undef, .undef, .undef, .undef, .undef, .undef, .undef, .undef, .undef, .undef, .undef, .undef, .undef, .undef, .undef, .undef, .undef, .undef, .undef, .undef, .undef, .undef, .undef, .nilsl, .undef, .undef, .int .i64 v6, .undef, .int .i64 v7, .undef, .undef, .int .i64 v8, .undef, .undef, .int .i64 v9, .undef, .undef, .undef, .undef, .undef], [some (c9.cs B), some [.int .i64 0, .nilsl, .nilsl, .int .i64 0, .int .i64 0], some [.int .i64 0, .nilsl, .nilsl, .int .i64 0, .int .i64 0]], 1⟩),
  (16381, ⟨[.ptr 0 0, .undef, .ptr 1 0, .ptr 2 0, .undef, .undef, .undef, .undef, .undef, .undef, .undef, .undef, .undef, .undef, .undef, .undef, .undef, .undef, .undef, .undef, .undef, .undef, .undef, .undef, .undef, .undef, .undef, .undef, .undef, .undef, .undef, .undef, .undef, .undef, .undef, .undef, .undef, .undef, .undef, .undef, .undef, .undef, .undef, .undef, .undef, .undef, .ptr 2 2, .undef, .undef, .undef, .undef, .undef, .undef, .undef, .undef, .undef, .undef, .undef, .undef, .agg [.int .i64 v6, .int .i64 v7, .int .i64 v8, .int .i64 v9, .int .i64 0], .undef, .undef, .undef, .undef], [some (c9.cs B), some [.int .i64 0, .nilsl, .nilsl, .int .i64 0, .int .i64 0], some [.int .i64 0, .nilsl, .nilsl, .int .i64 0, .int .i64 0]], 1⟩),
  (16383, ⟨[.ptr 0 0, .undef, .ptr 1 0, .ptr 2 0, .undef, .undef, .undef, .undef, .undef, .undef, .undef, .undef, .undef, .undef, .undef, .undef, .undef, .undef, .undef, .undef, .undef, .undef, .undef, .undef, .undef, .undef, .undef, .undef, .undef, .undef, .undef, .undef, .undef, .undef, .undef, .undef, .undef, .undef, .undef, .undef, .undef, .undef, .undef, .undef, .undef, .undef, .undef, .nilsl, .undef, .undef, .undef, .undef, .undef, .undef, .undef, .undef, .undef, .undef, .undef, .agg [.int .i64 v6, .int .i64 v7, .int .i64 v8, .int .i64 v9, .int .i64 0], .undef, .undef, .undef, .undef], [some (c9.cs B), some [.int .i64 0, .nilsl, .nilsl, .int .i64 0, .int .i64 0], some [.int .i64 0, .nilsl, .nilsl, .int .i64 0, .int .i64 0]], 1⟩),
  (32765, ⟨[.ptr 0 0, .undef, .ptr 1 0, .ptr 2 0, .undef, .undef, .undef, .undef, .undef, .undef, .undef, .undef, .undef, .undef, .undef, .undef, .undef, .undef, .undef, .undef, .undef, .undef, .undef, .undef, .undef, .undef, .undef, .undef, .undef, .undef, .undef, .undef, .undef, .undef, .undef, .undef, .undef, .undef, .undef, .undef, .undef, .undef, .undef, .undef, .undef, .undef, .ptr 2 2, .undef, .undef, .undef, .undef, .undef, .undef, .undef, .undef, .undef, .undef, .undef, .undef, .undef, .osl 3 0 1 5, .undef, .undef, .undef], [some (c9.cs B), some [.int .i64 0, .nilsl, .nilsl, .int .i64 0, .int .i64 0], some [.int .i64 0, .nilsl, .nilsl, .int .i64 0, .int .i64 0], some [.int .i64 v6, .int .i64 v7, .int .i64 v8, .int .i64 v9, .int .i64 0]], 1⟩),
  (32767, ⟨[.ptr 0 0, .undef, .ptr 1 0, .ptr 2 0, .undef, .undef, .undef, .undef, .undef, .undef, .undef, .undef, .undef, .undef, .undef, .undef, .undef, .undef, .undef, .undef, .undef, .undef, .undef, .undef, .undef, .undef, .undef, .undef, .undef, .undef, .undef, .undef, .undef, .undef, .undef, .undef, .undef, .undef, .undef, .undef, .undef, .undef, .undef, .undef, .undef, .undef, .undef, .nilsl, .undef, .undef, .undef, .undef, .undef, .undef, .undef, .undef, .undef, .undef, .undef, .undef, .osl 3 0 1 5, .undef, .undef, .undef], [some (c9.cs B), some [.int .i64 0, .nilsl, .nilsl, .int .i64 0, .int .i64 0], some [.int .i64 0, .nilsl, .nilsl, .int .i64 0, .int .i64 0], some [.int .i64 v6, .int .i64 v7, .int .i64 v8, .int .i64 v9, .int .i64 0]], 1⟩),
  (65535, ⟨[.ptr 0 0, .undef, .ptr 1 0, .ptr 2 0, .undef, .undef, .undef, .undef, .undef, .undef, .undef, .undef, .undef, .undef, .undef, .undef, .undef, .undef, .undef, .undef, .undef, .undef, .undef, .undef, .undef, .undef, .undef, .undef, .undef, .undef, .undef, .undef, .undef, .undef, .undef, .undef, .undef, .undef, .undef, .undef, .undef, .undef, .undef, .undef, .undef, .undef, .undef, .undef, .undef, .undef, .undef, .undef, .undef, .undef, .undef, .undef, .undef, .undef, .undef, .undef, .undef, .osl 3 0 1 5, .undef, .undef], [some (c9.cs B), some [.int .i64 0, .nilsl, .nilsl, .int .i64 0, .int .i64 0], some [.int .i64 0, .nilsl, .nilsl, .int .i64 0, .int .i64 0], some [.int .i64 v6, .int .i64 v7, .int .i64 v8, .int .i64 v9, .int .i64 0]], 1⟩),
  (131071, ⟨[.ptr 0 0, .undef, .ptr 1 0, .ptr 2 0, .undef, .undef, .undef, .undef, .undef, .undef, .undef, .undef, .undef, .undef, .undef, .undef, .undef, .undef, .undef, .undef, .undef, .undef, .undef, .undef, .undef, .undef, .undef, .undef, .undef, .undef, .undef, .undef, .undef, .undef, .undef, .undef, .undef, .undef, .undef, .undef, .undef, .undef, .undef, .undef, .undef, .undef, .undef, .undef, .undef, .undef, .undef, .undef, .undef, .undef, .undef, .undef, .undef, .undef, .undef, .undef, .undef, .osl 3 0 1 5, .ptr 2 2, .undef], [some (c9.cs B), some [.int .i64 0, .nilsl, .nilsl, .int .i64 0, .int .i64 0], some [.int .i64 0, .nilsl, .nilsl, .int .i64 0, .int .i64 0], some [.int .i64 v6, .int .i64 v7, .int .i64 v8, .int .i64 v9, .int .i64 0]], 1⟩),
  (262143, ⟨[.ptr 0 0, .undef, .ptr 1 0, .ptr 2 0, .undef, .undef, .undef, .undef, .undef, .undef, .undef, .undef, .undef, .undef, .undef, .undef, .undef, .undef, .undef, .undef, .undef, .undef, .undef, .undef, .undef, .undef, .undef, .undef, .undef, .undef, .undef, .undef, .undef, .undef, .undef, .undef, .undef, .undef, .undef, .undef, .undef, .undef, .undef, .undef, .undef, .undef, .undef, .undef, .undef, .undef, .undef, .undef, .undef, .undef, .undef, .undef, .undef, .undef, .undef, .undef, .undef, .undef, .undef, .undef], [some (c9.cs B), some [.int .i64 0, .nilsl, .nilsl, .int .i64 0, .int .i64 0], some [.int .i64 0, .nilsl, .osl 3 0 1 5, .int .i64 0, .int .i64 0], some [.int .i64 v6, .int .i64 v7, .int .i64 v8, .int .i64 v9, .int .i64 0]], 1⟩)]
def tabM (B : List Int) (w : Watch) (c5 c6 c7 c8 c9 : Cur) (v6 v7 v8 v9 : Int) : List (Nat × St) :=
 [(0, ⟨[.ptr 0 0, .undef, .ptr 1 0, .ptr 2 0, .undef, .undef, .undef, .undef, .undef, .undef, .undef, .undef, .undef, .undef, .undef, .undef, .undef, .undef, .undef, .undef, .undef, .undef, .undef, .undef, .undef, .undef, .undef, .undef, .undef, .undef, .undef, .undef, .undef, .undef, .undef, .undef, .undef, .undef, .undef, .undef, .undef, .undef, .undef, .undef, .undef, .undef, .undef, .undef, .undef, .undef, .undef, .undef, .undef, .undef, .undef, .undef, .undef, .undef, .undef, .undef, .undef, .undef, .undef, .undef], [some (c5.cs B), some [.int .i64 0, .nilsl, .nilsl, .int .i64 0, .int .i64 0], some (w.mc 3), some (rows Shock.cs w.Shocks)], 1⟩),
  (1, ⟨[.ptr 0 0, .undef, .ptr 1 0, .ptr 2 0, .undef, .undef, .undef, .undef, .undef, .undef, .undef, .undef, .undef, .undef, .undef, .undef, .undef, .undef, .undef, .undef, .undef, .undef, .undef, .undef, .undef, .undef, .undef, .undef, .undef, .undef, .undef, .undef, .undef, .undef, .undef, .undef, .undef, .undef, .undef, .undef, .undef, .undef, .undef, .undef, .undef, .undef, .ptr 2 2, .undef, .undef, .undef, .undef, .undef, .undef, .undef, .undef, .undef, .undef, .undef, .undef, .undef, .undef, .undef, .undef, .undef], [some (c5.cs B), some [.int .i64 0, .nilsl, .nilsl, .int .i64 0, .int .i64 0], some (w.mc 3), some (rows Shock.cs w.Shocks)], 1⟩),
  (5, ⟨[.ptr 0 0, .undef, .ptr 1 0, .ptr 2 0, .undef, .undef, .undef, .undef, .undef, .undef, .undef, .undef, .undef, .undef, .undef, .undef, .undef, .undef, .undef, .undef, .undef, .undef, .undef, .undef, .undef, .undef, .undef, .undef, .undef, .undef, .undef, .undef, .undef, .undef, .undef, .undef, .undef, .undef, .undef, .undef, .undef, .undef, .undef, .undef, .undef, .undef, .ptr 2 2, .undef, .ptr 0 0, .undef, .undef, .undef, .undef, .undef, .undef, .undef, .undef, .undef, .undef, .undef, .undef, .undef, .undef, .undef], [some (c5.cs B), some [.int .i64 0, .nilsl, .nilsl, .int .i64 0, .int .i64 0], some (w.mc 3), some (rows Shock.cs w.Shocks)], 1⟩),
  (37, ⟨[.ptr 0 0, .undef, .ptr 1 0, .ptr 2 0, .undef, .undef, .undef, .undef, .undef, .undef, .undef, .undef, .undef, .undef, .undef, .undef, .undef, .undef, .undef, .undef, .undef, .undef, .undef, .undef, .undef, .undef, .undef, .undef, .undef, .undef, .undef, .undef, .undef, .undef, .undef, .undef, .undef, .undef, .undef, .undef, .undef, .undef, .undef, .undef, .undef, .undef, .ptr 2 2, .undef, .ptr 0 0, .undef, .undef, .ptr 0 0, .undef, .undef, .undef, .undef, .undef, .undef, .undef, .undef, .undef, .undef, .undef, .undef], [some (c5.cs B), some [.int .i64 0, .nilsl, .nilsl, .int .i64 0, .int .i64 0], some (w.mc 3), some (rows Shock.cs w.Shocks)], 1⟩),
  (165, ⟨[.ptr 0 0, .undef, .ptr 1 0, .ptr 2 0, .undef, .undef, .undef, .undef, .undef, .undef, .undef, .undef, .undef, .undef, .undef, .undef, .undef, .undef, .undef, .undef, .undef, .undef, .undef, .undef, .undef, .undef, .undef, .undef, .undef, .undef, .undef, .undef, .undef, .undef, .undef, .undef, .undef, .undef, .undef, .undef, .undef, .undef, .undef, .undef, .undef, .undef, .ptr 2 2, .undef, .ptr 0 0, .undef, .undef, .ptr 0 0, .undef, .ptr 0 0, .undef, .undef, .undef, .undef, .undef, .undef, .undef, .undef, .undef, .undef], [some (c5.cs B), some [.int .i64 0, .nilsl, .nilsl, .int .i64 0, .int .i64 0], some (w.mc 3), some (rows Shock.cs w.Shocks)], 1⟩),
  (1189, ⟨[.ptr 0 0, .undef, .ptr 1 0, .ptr 2 0, .undef, .undef, .undef, .undef, .undef, .undef, .undef, .undef, .undef, .undef, .undef, .undef, .undef, .undef, .undef, .undef, .undef, .undef, .undef, .undef, .undef, .undef, .undef, .undef, .undef, .undef, .undef, .undef, .undef, .undef, .undef, .undef, .undef, .undef, .undef, .undef, .undef, .undef, .undef, .undef, .undef, .undef, .ptr 2 2, .undef, .ptr 0 0, .undef, .undef, .ptr 0 0, .undef, .ptr 0 0, .undef, .undef, .ptr 0 0, .undef, .undef, .undef, .undef, .undef, .undef, .undef], [some (c5.cs B), some [.int .i64 0, .nilsl, .nilsl, .int .i64 0, .int .i64 0], some (w.mc 3), some (rows Shock.cs w.Shocks)], 1⟩),
  (1191, ⟨[.ptr 0 0, .undef, .ptr 1 0, .ptr 2 0, .undef, .undef, .undef, .undef, .undef, .undef, .undef, .undef, .undef, .undef, .undef, .undef, .undef, .undef, .undef, .undef, .undef, .undef, .undef, .undef, .undef, .undef, .undef, .undef, .undef, .undef, .undef, .undef, .undef, .undef, .undef, .undef, .undef, .undef, .undef, .undef, .undef, .undef, .undef, .undef, .undef, .undef, .undef, .osl 3 0 w.Shocks.length 5, .ptr 0 0, .undef, .undef, .ptr 0 0, .undef, .ptr 0 0, .undef, .undef, .ptr 0 0, .undef, .undef, .undef, .undef, .undef, .undef, .undef], [some (c5.cs B), some [.int .i64 0, .nilsl, .nilsl, .int .i64 0, .int .i64 0], some (w.mc 3), some (rows Shock.cs w.Shocks)], 1⟩),
  (1197, ⟨[.ptr 0 0, .undef, .ptr 1 0, .ptr 2 0, .undef, .undef, .undef, .undef, .undef, .undef, .undef, .undef, .undef, .undef, .undef, .undef, .undef, .undef, .undef, .undef, .undef, .undef, .undef, .undef, .undef, .undef, .undef, .undef, .undef, .undef, .undef, .undef, .undef, .undef, .undef, .undef, .undef, .undef, .undef, .undef, .undef, .undef, .undef, .undef, .undef, .undef, .ptr 2 2, .undef, .ptr 0 0, .osl 4 0 2 1, .undef, .ptr 0 0, .undef, .ptr 0 0, .undef, .undef, .ptr 0 0, .undef, .undef, .undef, .undef, .undef, .undef, .undef], [some (c5.cs B), some [.int .i64 0, .nilsl, .nilsl, .int .i64 0, .int .i64 0], some (w.mc 3), some (rows Shock.cs w.Shocks), some (rows IntS.cs [0, 1])], 1⟩),
  (1199, ⟨[.ptr 0 0, .undef, .ptr 1 0, .ptr 2 0, .undef, .undef, .undef, .undef, .undef, .undef, .undef, .undef, .undef, .undef, .undef, .undef, .undef, .undef, .undef, .undef, .undef, .undef, .undef, .undef, .undef, .undef, .undef, .undef, .undef, .undef, .undef, .undef, .undef, .undef, .undef, .undef, .undef, .undef, .undef, .undef, .undef, .undef, .undef, .undef, .undef, .undef, .undef, .osl 3 0 w.Shocks.length 5, .ptr 0 0, .osl 4 0 2 1, .undef, .ptr 0 0, .undef, .ptr 0 0, .undef, .undef, .ptr 0 0, .undef, .undef, .undef, .undef, .undef, .undef, .undef], [some (c5.cs B), some [.int .i64 0, .nilsl, .nilsl, .int .i64 0, .int .i64 0], some (w.mc 3), some (rows Shock.cs w.Shocks), some (rows IntS.cs [0, 1])], 1⟩),
  (1213, ⟨[.ptr 0 0, .undef, .ptr 1 0, .ptr 2 0, .undef, .undef, .undef, .undef, .undef, .undef, .undef, .undef, .undef, .undef, .undef, .undef, .undef, .undef, .undef, .undef, .undef, .undef, .undef, .undef, .undef, .undef, .undef, .undef, .undef, .undef, .undef, .undef, .undef, .undef, .undef, .undef, .undef, .undef, .undef, .undef, .undef, .undef, .undef, .undef, .undef, .undef, .ptr 2 2, .undef, .undef, .undef, .int .i64 v6, .ptr 0 0, .undef, .ptr 0 0, .undef, .undef, .ptr 0 0, .undef, .undef, .undef, .undef, .undef, .undef, .undef], [some (c6.cs B), some [.int .i64 0, .nilsl, .nilsl, .int .i64 0, .int .i64 0], some (w.mc 3), some (rows Shock.cs w.Shocks)], 1⟩),
  (1215, ⟨[.ptr 0 0, .undef, .ptr 1 0, .ptr 2 0, .undef, .undef, .undef, .undef, .undef, .undef, .undef, .undef, .undef, .undef, .undef, .undef, .undef, .undef, .undef, .undef, .undef, .undef, .undef, .undef, .undef, .undef, .undef, .undef, .undef, .undef, .undef, .undef, .undef, .undef, .undef, .undef, .undef, .undef, .undef, .undef, .undef, .undef, .undef, .undef, .undef, .undef, .undef, .osl 3 0 w.Shocks.length 5, .undef, .undef, .int .i64 v6, .ptr 0 0, .undef, .ptr 0 0, .undef, .undef, .ptr 0 0, .undef, .undef, .undef, .undef, .undef, .undef, .undef], [some (c6.cs B), some [.int .i64 0, .nilsl, .nilsl, .int .i64 0, .int .i64 0], some (w.mc 3), some (rows Shock.cs w.Shocks)], 1⟩),
  (1277, ⟨[.ptr 0 0, .undef, .ptr 1 0, .ptr 2 0, .undef, .undef, .undef, .undef, .undef, .undef, .undef, .undef, .undef, .undef, .undef, .undef, .undef, .undef, .undef, .undef, .undef, .undef, .undef, .undef, .undef, .undef, .undef, .undef, .undef, .undef, .undef, .undef, .undef, .undef, .undef, .undef, .undef, .undef, .undef, .undef, .undef, .undef, .undef, .undef, .undef, .undef, .ptr 2 2, .undef, .undef, .undef, .int .i64 v6, .undef, .int .i64 v7, .ptr 0 0, .undef, .undef, .ptr 0 0, .undef, .undef, .undef, .undef, .undef, .undef, .undef], [some (c7.cs B), some [.int .i64 0, .nilsl, .nilsl, .int .i64 0, .int .i64 0], some (w.mc 3), some (rows Shock.cs w.Shocks)], 1⟩),
  (1279, ⟨[.ptr 0 0, .undef, .ptr 1 0, .ptr 2 0, .undef, .undef, .undef, .undef, .undef, .undef, .undef, .undef, .undef, .undef, .undef, .undef, .undef, .undef, .undef, .undef, .undef, .undef, .undef, .undef, .undef, .undef, .undef, .undef, .undef, .undef, .undef, .undef, .undef, .undef, .undef, .undef, .undef, .undef, .undef, .undef, .undef, .undef, .undef, .undef, .undef, .undef, .undef, .osl 3 0 w.Shocks.length 5, .undef, .undef, .int .i64 v6, .undef, .int .i64 v7, .ptr 0 0, .undef, .undef, .ptr 0 0, .undef, .undef, .undef, .undef, .undef, .undef, .undef], [some (c7.cs B), some [.int .i64 0, .nilsl, .nilsl, .int .i64 0, .int .i64 0], some (w.mc 3), some (rows Shock.cs w.Shocks)], 1⟩),
  (1445, ⟨[.ptr 0 0, .undef, .ptr 1 0, .ptr 2 0, .undef, .undef, .undef, .undef, .undef, .undef, .undef, .undef, .undef, .undef, .undef, .undef, .undef, .undef, .undef, .undef, .undef, .undef, .undef, .undef, .undef, .undef, .undef, .undef, .undef, .undef, .undef, .undef, .undef, .undef, .undef, .undef, .undef, .undef, .undef, .undef, .undef, .undef, .undef, .undef, .undef, .undef, .ptr 2 2, .undef, .ptr 0 0, .undef, .undef, .ptr 0 0, .undef, .ptr 0 0, .osl 4 0 2 1, .undef, .ptr 0 0, .undef, .undef, .undef, .undef, .undef, .undef, .undef], [some (c5.cs B), some [.int .i64 0, .nilsl, .nilsl, .int .i64 0, .int .i64 0], some (w.mc 3), some (rows Shock.cs w.Shocks), some (rows IntS.cs [0, 9])], 1⟩),
  (1447, ⟨[.ptr 0 0, .undef, .ptr 1 0, .ptr 2 0, .undef, .undef, .undef, .undef, .undef, .undef, .undef, .undef, .undef, .undef, .undef, .undef, .undef, .undef, .undef, .undef, .undef, .undef, .undef, .undef, .undef, .undef, .undef, .undef, .undef, .undef, .undef, .undef, .undef, .undef, .undef, .undef, .undef, .undef, .undef, .undef, .undef, .undef, .undef, .undef, .undef, .undef, .undef, .osl 3 0 w.Shocks.length 5, .ptr 0 0, .undef, .undef, .ptr 0 0, .undef, .ptr 0 0, .osl 4 0 2 1, .undef, .ptr 0 0, .undef, .undef, .undef, .undef, .undef, .undef, .undef], [some (c5.cs B), some [.int .i64 0, .nilsl, .nilsl, .int .i64 0, .int .i64 0], some (w.mc 3), some (rows Shock.cs w.Shocks), some (rows IntS.cs [0, 9])], 1⟩),
  (1453, ⟨[.ptr 0 0, .undef, .ptr 1 0, .ptr 2 0, .undef, .undef, .undef, .undef, .undef, .undef, .undef, .undef, .undef, .undef, .undef, .undef, .undef, .undef, .undef, .undef, .undef, .undef, .undef, .undef, .undef, .undef, .undef, .undef, .undef, .undef, .undef, .undef, .undef, .undef, .undef, .undef, .undef, .undef, .undef, .undef, .undef, .undef, .undef, .undef, .undef, .undef, .ptr 2 2, .undef, .ptr 0 0, .osl 4 0 2 1, .undef, .ptr 0 0, .undef, .ptr 0 0, .osl 5 0 2 1, .undef, .ptr 0 0, .undef, .undef, .undef, .undef, .undef, .undef, .undef], [some (c5.cs B), some [.int .i64 0, .nilsl, .nilsl, .int .i64 0, .int .i64 0], some (w.mc 3), some (rows Shock.cs w.Shocks), some (rows IntS.cs [0, 1]), some (rows IntS.cs [0, 9])], 1⟩),
  (1455, ⟨[.ptr 0 0, .undef, .ptr 1 0, .ptr 2 0, .undef, .undef, .undef, .undef, .undef, .undef, .undef, .undef, .undef, .undef, .undef, .undef, .undef, .undef, .undef, .undef, .undef, .undef, .undef, .undef, .undef, .undef, .undef, .undef, .undef, .undef, .undef, .undef, .undef, .undef, .undef, .undef, .undef, .undef, .undef, .undef, .undef, .undef, .undef, .undef, .undef, .undef, .undef, .osl 3 0 w.Shocks.length 5, .ptr 0 0, .osl 4 0 2 1, .undef, .ptr 0 0, .undef, .ptr 0 0, .osl 5 0 2 1, .undef, .ptr 0 0, .undef, .undef, .undef, .undef, .undef, .undef, .undef], [some (c5.cs B), some [.int .i64 0, .nilsl, .nilsl, .int .i64 0, .int .i64 0], some (w.mc 3), some (rows Shock.cs w.Shocks), some (rows IntS.cs [0, 1]), some (rows IntS.cs [0, 9])], 1⟩),
  (1469, ⟨[.ptr 0 0, .undef, .ptr 1 0, .ptr 2 0, .undef, .undef, .undef, .undef, .undef, .undef, .undef, .undef, .undef, .undef, .undef, .undef, .undef, .undef, .undef, .undef, .undef, .undef, .undef, .undef, .undef, .undef, .undef, .undef, .undef, .undef, .undef, .undef, .undef, .undef, .undef, .undef, .undef, .undef, .undef, .undef, .undef, .undef, .undef, .undef, .undef, .undef, .ptr 2 2, .undef, .undef, .undef, .int .i64 v6, .ptr 0 0, .undef, .ptr 0 0, .osl 4 0 2 1, .undef, .ptr 0 0, .undef, .undef, .undef, .undef, .undef, .undef, .undef], [some (c6.cs B), some [.int .i64 0, .nilsl, .nilsl, .int .i64 0, .int .i64 0], some (w.mc 3), some (rows Shock.cs w.Shocks), some (rows IntS.cs [0, 9])], 1⟩),
  (1471, ⟨[.ptr 0 0, .undef, .ptr 1 0, .ptr 2 0, .undef, .undef, .undef, .undef, .undef, .undef, .undef, .undef, .undef, .undef, .undef, .undef, .undef, .undef, .undef, .undef, .undef, .undef, .undef, .undef, .undef, .undef, .undef, .undef, .undef, .undef, .undef, .undef, .undef, .undef, .undef, .undef, .undef, .undef, .undef, .undef, .undef, .undef, .undef, .undef, .undef, .undef, .undef, .osl 3 0 w.Shocks.length 5, .undef, .undef, .int .i64 v6, .ptr 0 0, .undef, .ptr 0 0, .osl 4 0 2 1, .undef, .ptr 0 0, .undef, .undef, .undef, .undef, .undef, .undef, .undef], [some (c6.cs B), some [.int .i64 0, .nilsl, .nilsl, .int .i64 0, .int .i64 0], some (w.mc 3), some (rows Shock.cs w.Shocks), some (rows IntS.cs [0, 9])], 1⟩),
  (1533, ⟨[.ptr 0 0, .undef, .ptr 1 0, .ptr 2 0, .undef, .undef, .undef, .undef, .undef, .undef, .undef, .undef, .undef, .undef, .undef, .undef, .undef, .undef, .undef, .undef, .undef, .undef, .undef, .undef, .undef, .undef, .undef, .undef, .undef, .undef, .undef, .undef, .undef, .undef, .undef, .undef, .undef, .undef, .undef, .undef, .undef, .undef, .undef, .undef, .undef, .undef, .ptr 2 2, .undef, .undef, .undef, .int .i64 v6, .undef, .int .i64 v7, .ptr 0 0, .osl 4 0 2 1, .undef, .ptr 0 0, .undef, .undef, .undef, .undef, .undef, .undef, .undef], [some (c7.cs B), some [.int .i64 0, .nilsl, .nilsl, .int .i64 0, .int .i64 0], some (w.mc 3), some (rows Shock.cs w.Shocks), some (rows IntS.cs [0, 9])], 1⟩),
  (1535, ⟨[.ptr 0 0, .undef, .ptr 1 0, .ptr 2 0, .undef, .undef, .undef, .undef, .undef, .undef, .undef, .undef, .undef, .undef, .undef, .undef, .undef, .undef, .undef, .undef, .undef, .undef, .undef, .undef, .undef, .undef, .undef, .undef, .undef, .undef, .undef, .undef, .undef, .undef, .undef, .undef, .undef, .undef, .undef, .undef, .undef, .undef, .undef, .undef, .undef, .undef, .undef, .osl 3 0 w.Shocks.length 5, .undef, .undef, .int .i64 v6, .undef, .int .i64 v7, .ptr 0 0, .osl 4 0 2 1, .undef, .ptr 0 0, .undef, .undef, .undef, .undef, .undef, .undef, .undef], [some (c7.cs B), some [.int .i64 0, .nilsl, .nilsl, .int .i64 0, .int .i64 0], some (w.mc 3), some (rows Shock.cs w.Shocks), some (rows IntS.cs [0, 9])], 1⟩),
  (2045, ⟨[.ptr 0 0, .undef, .ptr 1 0, .ptr 2 0, .undef, .undef, .undef, .undef, .undef, .undef, .undef, .undef, .undef, .undef, .undef, .undef, .undef, .undef, .undef, .undef, .undef, .undef, .undef, .undef, .undef, .undef, .undef, .undef, .undef, .undef, .undef, .undef, .undef, .undef, .undef, .undef, .undef, .undef, .undef, .undef, .undef, .undef, .undef, .undef, .undef, .undef, .ptr 2 2, .undef, .undef, .undef, .int .i64 v6, .undef, .int .i64 v7, .undef, .undef, .int .i64 v8, .ptr 0 0, .undef, .undef, .undef, .undef, .undef, .undef, .undef], [some (c8.cs B), some [.int .i64 0, .nilsl, .nilsl, .int .i64 0, .int .i64 0], some (w.mc 3), some (rows Shock.cs w.Shocks)], 1⟩),
  (2047, ⟨[.ptr 0 0, .undef, .ptr 1 0, .ptr 2 0, .undef, .undef, .undef, .undef, .undef, .undef, .undef, .undef, .undef, .undef, .undef, .undef, .undef, .undef, .undef, .undef, .undef, .undef, .undef, .undef, .undef, .undef, .undef, .undef, .undef, .undef, .undef, .undef, .undef, .undef, .undef, .undef, .undef, .undef, .undef, .undef, .undef, .undef, .undef, .undef, .undef, .undef, .undef, .osl 3 0 w.Shocks.length 5, .undef, .undef, .int .i64 v6, .undef, .int .i64 v7, .undef, .undef, .int .i64 v8, .ptr 0 0, .undef, .undef, .undef, .undef, .undef, .undef, .undef], [some (c8.cs B), some [.int .i64 0, .nilsl, .nilsl, .int .i64 0, .int .i64 0], some (w.mc 3), some (rows Shock.cs w.Shocks)], 1⟩),
  (3237, ⟨[.ptr 0 0, .undef, .ptr 1 0, .ptr 2 0, .undef, .undef, .undef, .undef, .undef, .undef, .undef, .undef, .undef, .undef, .undef, .undef, .undef, .undef, .undef, .undef, .undef, .undef, .undef, .undef, .undef, .undef, .undef, .undef, .undef, .undef, .undef, .undef, .undef, .undef, .undef, .undef, .undef, .undef, .undef, .undef, .undef, .undef, .undef, .undef, .undef, .undef, .ptr 2 2, .undef, .ptr 0 0, .undef, .undef, .ptr 0 0, .undef, .ptr 0 0, .undef, .undef, .ptr 0 0, .osl 4 0 2 1, .undef, .undef, .undef, .undef, .undef, .undef], [some (c5.cs B), some [.int .i64 0, .nilsl, .nilsl, .int .i64 0, .int .i64 0], some (w.mc 3), some (rows Shock.cs w.Shocks), some (rows IntS.cs [0, 96])], 1⟩),
  (3239, ⟨[.ptr 0 0, .undef, .ptr 1 0, .ptr 2 0, .undef, .undef, .undef, .undef, .undef, .undef, .undef, .undef, .undef, .undef, .undef, .undef, .undef, .undef, .undef, .undef, .undef, .undef, .undef, .undef, .undef, .undef, .undef, .undef, .undef, .undef, .undef, .undef, .undef, .undef, .undef, .undef, .undef, .undef, .undef, .undef, .undef, .undef, .undef, .undef, .undef, .undef, .undef, .osl 3 0 w.Shocks.length 5, .ptr 0 0, .undef, .undef, .ptr 0 0, .undef, .ptr 0 0, .undef, .undef, .ptr 0 0, .osl 4 0 2 1, .undef, .undef, .undef, .undef, .undef, .undef], [some (c5.cs B), some [.int .i64 0, .nilsl, .nilsl, .int .i64 0, .int .i64 0], some (w.mc 3), some (rows Shock.cs w.Shocks), some (rows IntS.cs [0, 96])], 1⟩),
  (3245, ⟨[.ptr 0 0, .undef, .ptr 1 0, .ptr 2 0, .undef, .undef, .undef, .undef, .undef, .undef, .undef, .undef, .undef, .undef, .undef, .undef, .undef, .undef, .undef, .undef, .undef, .undef, .undef, .undef, .undef, .undef, .undef, .undef, .undef, .undef, .undef, .undef, .undef, .undef, .undef, .undef, .undef, .undef, .undef, .undef, .undef, .undef, .undef, .undef, .undef, .undef, .ptr 2 2, .undef, .ptr 0 0, .osl 4 0 2 1, .undef, .ptr 0 0, .undef, .ptr 0 0, .undef, .undef, .ptr 0 0, .osl 5 0 2 1, .undef, .undef, .undef, .undef, .undef, .undef], [some (c5.cs B), some [.int .i64 0, .nilsl, .nilsl, .int .i64 0, .int .i64 0], some (w.mc 3), some (rows Shock.cs w.Shocks), some (rows IntS.cs [0, 1]), some (rows IntS.cs [0, 96])], 1⟩),
  (3247, ⟨[.ptr 0 0, .undef, .ptr 1 0, .ptr 2 0, .undef, .undef, .undef, .undef, .undef, .undef, .undef, .undef, .undef, .undef, .undef, .undef, .undef, .undef, .undef, .undef, .undef, .undef, .undef, .undef, .undef, .undef, .undef, .undef, .undef, .undef, .undef, .undef, .undef, .undef, .undef, .undef, .undef, .undef, .undef, .undef, .undef, .undef, .undef, .undef, .undef, .undef, .undef, .osl 3 0 w.Shocks.length 5, .ptr 0 0, .osl 4 0 2 1, .undef, .ptr 0 0, .undef, .ptr 0 0, .undef, .undef, .ptr 0 0, .osl 5 0 2 1, .undef, .undef, .undef, .undef, .undef, .undef], [some (c5.cs B), some [.int .i64 0, .nilsl, .nilsl, .int .i64 0, .int .i64 0], some (w.mc 3), some (rows Shock.cs w.Shocks), some (rows IntS.cs [0, 1]), some (rows IntS.cs [0, 96])], 1⟩),
  (3261, ⟨[.ptr 0 0, .undef, .ptr 1 0, .ptr 2 0, .undef, .undef, .undef, .undef, .undef, .undef, .undef, .undef, .undef, .undef, .undef, .undef, .undef, .undef, .undef, .undef, .undef, .undef, .undef, .undef, .undef, .undef, .undef, .undef, .undef, .undef, .undef, .undef, .undef, .undef, .undef, .undef, .undef, .undef, .undef, .undef, .undef, .undef, .undef, .undef, .undef, .undef, .ptr 2 2, .undef, .undef, .undef, .int .i64 v6, .ptr 0 0, .undef, .ptr 0 0, .undef, .undef, .ptr 0 0, .osl 4 0 2 1, .undef, .undef, .undef, .undef, .undef, .undef], [some (c6.cs B), some [.int .i64 0, .nilsl, .nilsl, .int .i64 0, .int .i64 0], some (w.mc 3), some (rows Shock.cs w.Shocks), some (rows IntS.cs [0, 96])], 1⟩),
  (3263, ⟨[.ptr 0 0, .undef, .ptr 1 0, .ptr 2 0, .undef, .undef, .undef, .undef, .undef, .undef, .undef, .undef, .undef, .undef, .undef, .undef, .undef, .undef, .undef, .undef, .undef, .undef, .undef, .undef, .undef, .undef, .undef, .undef, .undef, .undef, .undef, .undef, .undef, .undef, .undef, .undef, .undef, .undef, .undef, .undef, .undef, .undef, .undef, .undef, .undef, .undef, .undef, .osl 3 0 w.Shocks.length 5, .undef, .undef, .int .i64 v6, .ptr 0 0, .undef, .ptr 0 0, .undef, .undef, .ptr 0 0, .osl 4 0 2 1, .undef, .undef, .undef, .undef, .undef, .undef], [some (c6.cs B), some [.int .i64 0, .nilsl, .nilsl, .int .i64 0, .int .i64 0], some (w.mc 3), some (rows Shock.cs w.Shocks), some (rows IntS.cs [0, 96])], 1⟩),
  (3325, ⟨[.ptr 0 0, .undef, .ptr 1 0, .ptr 2 0, .undef, .undef, .undef, .undef, .undef, .undef, .undef, .undef, .undef, .undef, .undef, .undef, .undef, .undef, .undef, .undef, .undef, .undef, .undef, .undef, .undef, .undef, .undef, .undef, .undef, .undef, .undef, .undef, .undef, .undef, .undef, .undef, .undef, .undef, .undef, .undef, .undef, .undef, .undef, .undef, .undef, .undef, .ptr 2 2, .undef, .undef, .undef, .int .i64 v6, .undef, .int .i64 v7, .ptr 0 0, .undef, .undef, .ptr 0 0, .osl 4 0 2 1, .undef, .undef, .undef, .undef, .undef, .undef], [some (c7.cs B), some [.int .i64 0, .nilsl, .nilsl, .int .i64 0, .int .i64 0], some (w.mc 3), some (rows Shock.cs w.Shocks), some (rows IntS.cs [0, 96])], 1⟩),
  (3327, ⟨[.ptr 0 0, .undef, .ptr 1 0, .ptr 2 0, .undef, .undef, .undef, .undef, .undef, .undef, .undef, .undef, .undef, .undef, .undef, .undef, .undef, .undef, .undef, .undef, .undef, .undef, .undef, .undef, .undef, .undef, .undef, .undef, .undef, .undef, .undef, .undef, .undef, .undef, .undef, .undef, .undef, .undef, .undef, .undef, .undef, .undef, .undef, .undef, .undef, .undef, .undef, .osl 3 0 w.Shocks.length 5, .undef, .undef, .int .i64 v6, .undef, .int .i64 v7, .ptr 0 0, .undef, .undef, .ptr 0 0, .osl 4 0 2 1, .undef, .undef, .undef, .undef, .undef, .undef], [some (c7.cs B), some [.int .i64 0, .nilsl, .nilsl, .int .i64 0, .int .i64 0], some (w.mc 3), some (rows Shock.cs w.Shocks), some (rows IntS.cs [0, 96])], 1⟩),
  (3493, ⟨[.ptr 0 0, .undef, .ptr 1 0, .ptr 2 0, .undef, .undef, .undef, .undef, .undef, .undef, .undef, .undef, .undef, .undef, .undef, .undef, .undef, .undef, .undef, .undef, .undef, .undef, .undef, .undef, .undef, .undef, .undef, .undef, .undef, .undef, .undef, .undef, .undef, .undef, .undef, .undef, .undef, .undef, .undef, .undef, .undef, .undef, .undef, .undef, .undef, .undef, .ptr 2 2, .undef, .ptr 0 0, .undef, .undef, .ptr 0 0, .undef, .ptr 0 0, .osl 4 0 2 1, .undef, .ptr 0 0, .osl 5 0 2 1, .undef, .undef, .undef, .undef, .undef, .undef], [some (c5.cs B), some [.int .i64 0, .nilsl, .nilsl, .int .i64 0, .int .i64 0], some (w.mc 3), some (rows Shock.cs w.Shocks), some (rows IntS.cs [0, 9]), some (rows IntS.cs [0, 96])], 1⟩),
  (3495, ⟨[.ptr 0 0, .undef, .ptr 1 0, .ptr 2 0, .undef, .undef, .undef, .undef, .undef, .undef, .undef, .undef, .undef, .undef, .undef, .undef, .undef, .undef, .undef, .undef, .undef, .undef, .undef, .undef, .undef, .undef, .undef, .undef, .undef, .undef, .undef, .undef, .undef, .undef, .undef, .undef, .undef, .undef, .undef, .undef, .undef, .undef, .undef, .undef, .undef, .undef, .undef, .osl 3 0 w.Shocks.length 5, .ptr 0 0, .undef, .undef, .ptr 0 0, .undef, .ptr 0 0, .osl 4 0 2 1, .undef, .ptr 0 0, .osl 5 0 2 1, .undef, .undef, .undef, .undef, .undef, .undef], [some (c5.cs B), some [.int .i64 0, .nilsl, .nilsl, .int .i64 0, .int .i64 0], some (w.mc 3), some (rows Shock.cs w.Shocks), some (rows IntS.cs [0, 9]), some (rows IntS.cs [0, 96])], 1⟩),
  (3501, ⟨[.ptr 0 0, .undef, .ptr 1 0, .ptr 2 0, .undef, .undef, .undef, .undef, .undef, .undef, .undef, .undef, .undef, .undef, .undef, .undef, .undef, .undef, .undef, .undef, .undef, .undef, .undef, .undef, .undef, .undef, .undef, .undef, .undef, .undef, .undef, .undef, .undef, .undef, .undef, .undef, .undef, .undef, .undef, .undef, .undef, .undef, .undef, .undef, .undef, .undef, .ptr 2 2, .undef, .ptr 0 0, .osl 4 0 2 1, .undef, .ptr 0 0, .undef, .ptr 0 0, .osl 5 0 2 1, .undef, .ptr 0 0, .osl 6 0 2 1, .undef, .undef, .undef, .undef, .undef, .undef], [some (c5.cs B), some [.int .i64 0, .nilsl, .nilsl, .int .i64 0, .int .i64 0], some (w.mc 3), some (rows Shock.cs w.Shocks), some (rows IntS.cs [0, 1]), some (rows IntS.cs [0, 9]), some (rows IntS.cs [0, 96])], 1⟩),
  (3503, ⟨[.ptr 0 0, .undef, .ptr 1 0, .ptr 2 0, .undef, .undef, .undef, .undef, .undef, .undef, .undef, .undef, .undef, .undef, .undef, .undef, .undef, .undef, .undef, .undef, .undef, .undef, .undef, .undef, .undef, .undef, .undef, .undef, .undef, .undef, .undef, .undef, .undef, .undef, .undef, .undef, .undef, .undef, .undef, .undef, .undef, .undef, .undef, .undef, .undef, .undef, .undef, .osl 3 0 w.Shocks.length 5, .ptr 0 0, .osl 4 0 2 1, .undef, .ptr 0 0, .undef, .ptr 0 0, .osl 5 0 2 1, .undef, .ptr 0 0, .osl 6 0 2 1, .undef, .undef, .undef, .undef, .undef, .undef], [some (c5.cs B), some [.int .i64 0, .nilsl, .nilsl, .int .i64 0, .int .i64 0], some (w.mc 3), some (rows Shock.cs w.Shocks), some (rows IntS.cs [0, 1]), some (rows IntS.cs [0, 9]), some (rows IntS.cs [0, 96])], 1⟩),
  (3517, ⟨[.ptr 0 0, .undef, .ptr 1 0, .ptr 2 0, .undef, .undef, .undef, .undef, .undef, .undef, .undef, .undef, .undef, .undef, .undef, .undef, .undef, .undef, .undef, .undef, .undef, .undef, .undef, .undef, .undef, .undef, .undef, .undef, .undef, .undef, .undef, .undef, .undef, .undef, .undef, .undef, .undef, .undef, .undef, .undef, .undef, .undef, .undef, .undef, .undef, .undef, .ptr 2 2, .undef, .undef, .undef, .int .i64 v6, .ptr 0 0, .undef, .ptr 0 0, .osl 4 0 2 1, .undef, .ptr 0 0, .osl 5 0 2 1, .undef, .undef, .undef, .undef, .undef, .undef], [some (c6.cs B), some [.int .i64 0, .nilsl, .nilsl, .int .i64 0, .int .i64 0], some (w.mc 3), some (rows Shock.cs w.Shocks), some (rows IntS.cs [0, 9]), some (rows IntS.cs [0, 96])], 1⟩),
  (3519, ⟨[.ptr 0 0, .undef, .ptr 1 0, .ptr 2 0, .undef, .undef, .undef, .undef, .undef, .undef, .undef, .undef, .undef, .undef, .undef, .undef, .undef, .undef, .undef, .undef, .undef, .undef, .undef, .undef, .undef, .undef, .undef, .undef, .undef, .undef, .undef, .undef, .undef, .undef, .undef, .undef, .undef, .undef, .undef, .undef, .undef, .undef, .undef, .undef, .undef, .undef, .undef, .osl 3 0 w.Shocks.length 5, .undef, .undef, .int .i64 v6, .ptr 0 0, .undef, .ptr 0 0, .osl 4 0 2 1, .undef, .ptr 0 0, .osl 5 0 2 1, .undef, .undef, .undef, .undef, .undef, .undef], [some (c6.cs B), some [.int .i64 0, .nilsl, .nilsl, .int .i64 0, .int .i64 0], some (w.mc 3), some (rows Shock.cs w.Shocks), some (rows IntS.cs [0, 9]), some (rows IntS.cs [0, 96])], 1⟩),
  (3581, ⟨[.ptr 0 0, .undef, .ptr 1 0, .ptr 2 0, .undef, .undef, .undef, .undef, .undef, .undef, .undef, .undef, .undef, .undef, .undef, .undef, .undef, .undef, .undef, .undef, .undef, .undef, .undef, .undef, .undef, .undef, .undef, .undef, .undef, .undef, .undef, .undef, .undef, .undef, .undef, .undef, .undef, .undef, .undef, .undef, .undef, .undef, .undef, .undef, .undef, .undef, .ptr 2 2, .undef, .undef, .undef, .int .i64 v6, .undef, .int .i64 v7, .ptr 0 0, .osl 4 0 2 1, .undef, .ptr 0 0, .osl 5 0 2 1, .undef, .undef, .undef, .undef, .undef, .undef], [some (c7.cs B), some [.int .i64 0, .nilsl, .nilsl, .int .i64 0, .int .i64 0], some (w.mc 3), some (rows Shock.cs w.Shocks), some (rows IntS.cs [0, 9]), some (rows IntS.cs [0, 96])], 1⟩),
  (3583, ⟨[.ptr 0 0, .undef, .ptr 1 0, .ptr 2 0, .undef, .undef, .undef, .undef, .undef, .undef, .undef, .undef, .undef, .undef, .undef, .undef, .undef, .undef, .undef, .undef, .undef, .undef, .undef, .undef, .undef, .undef, .undef, .undef, .undef, .undef, .undef, .undef, .undef, .undef, .undef, .undef, .undef, .undef, .undef, .undef, .undef, .undef, .undef, .undef, .undef, .undef, .undef, .osl 3 0 w.Shocks.length 5, .undef, .undef, .int .i64 v6, .undef, .int .i64 v7, .ptr 0 0, .osl 4 0 2 1, .undef, .ptr 0 0, .osl 5 0 2 1, .undef, .undef, .undef, .undef, .undef, .undef], [some (c7.cs B), some [.int .i64 0, .nilsl, .nilsl, .int .i64 0, .int .i64 0], some (w.mc 3), some (rows Shock.cs w.Shocks), some (rows IntS.cs [0, 9]), some (rows IntS.cs [0, 96])], 1⟩),
  (4093, ⟨[.ptr 0 0, .undef, .ptr 1 0, .ptr 2 0, .undef, .undef, .undef, .undef, .undef, .undef, .undef, .undef, .undef, .undef, .undef, .undef, .undef, .undef, .undef, .undef, .undef, .undef, .undef, .undef, .undef, .undef, .undef, .undef, .undef, .undef, .undef, .undef, .undef, .undef, .undef, .undef, .undef, .undef, .undef, .undef, .undef, .undef, .undef, .undef, .undef, .undef, .ptr 2 2, .undef, .undef, .undef, .int .i64 v6, .undef, .int .i64 v7, .undef, .undef, .int .i64 v8, .ptr 0 0, .osl 4 0 2 1, .undef, .undef, .undef, .undef, .undef, .undef], [some (c8.cs B), some [.int .i64 0, .nilsl, .nilsl, .int .i64 0, .int .i64 0], some (w.mc 3), some (rows Shock.cs w.Shocks), some (rows IntS.cs [0, 96])], 1⟩),
  (4095, ⟨[.ptr 0 0, .undef, .ptr 1 0, .ptr 2 0, .undef, .undef, .undef, .undef, .undef, .undef, .undef, .undef, .undef, .undef, .undef, .undef, .undef, .undef, .undef, .undef, .undef, .undef, .undef, .undef, .undef, .undef, .undef, .undef, .undef, .undef, .undef, .undef, .undef, .undef, .undef, .undef, .undef, .undef, .undef, .undef, .undef, .undef, .undef, .undef, .undef, .undef, .undef, .osl 3 0 w.Shocks.length 5, .undef, .undef, .int .i64 v6, .undef, .int .i64 v7, .undef, .undef, .int .i64 v8, .ptr 0 0, .osl 4 0 2 1, .undef, .undef, .undef, .undef, .undef, .undef], [some (c8.cs B), some [.int .i64 0, .nilsl, .nilsl, .int .i64 0, .int .i64 0], some (w.mc 3), some (rows Shock.cs w.Shocks), some (rows IntS.cs [0, 96])], 1⟩),
  (8189, ⟨[.ptr 0 0, .undef, .ptr 1 0, .ptr 2 0, .undef, .undef, .undef, .undef, .undef, .undef, .undef, .undef, .undef, .undef, .undef, .undef, .undef, .undef, .undef, .undef, .undef, .undef, .undef, .undef, .undef, .undef, .undef, .undef, .undef, .undef, .undef, .undef, .undef, .undef, .undef, .undef, .undef, .undef, .undef, .undef, .undef, .undef, .undef, .undef, .undef, .undef, .ptr 2 2, .undef, .undef, .undef, .int .i64 v6, .undef, .int .i64 v7, .undef, .undef, .int .i64 v8, .undef, .undef, .int .i64 v9, .undef, .undef, .undef, .undef, .undef], [some (c9.cs B), some [.int .i64 0, .nilsl, .nilsl, .int .i64 0, .int .i64 0], some (w.mc 3), some (rows Shock.cs w.Shocks)], 1⟩),
  (8191, ⟨[.ptr 0 0, .undef, .ptr 1 0, .ptr 2 0, .undef, .undef, .undef, .undef, .undef, .undef, .undef, .undef, .undef, .undef, .undef, .undef, .undef, .undef, .undef, .undef, .undef, .undef, .undef, .undef, .undef, .undef, .undef, .undef, .undef, .undef, .undef, .undef, .undef, .undef, .undef, .undef, .undef, .undef, .undef, .undef, .undef, .undef, .undef, .undef, .undef, .undef, .undef, .osl 3 0 w.Shocks.length 5, .undef, .undef, .int .i64 v6, .undef, .int .i64 v7, .undef, .undef, .int .i64 v8, .undef, .undef, .int .i64 v9, .undef, .undef, .undef, .undef, .undef], [some (c9.cs B), some [.int .i64 0, .nilsl, .nilsl, .int .i64 0, .int .i64 0], some (w.mc 3), some (rows Shock.cs w.Shocks)], 1⟩),
  (16381, ⟨[.ptr 0 0, .undef, .ptr 1 0, .ptr 2 0, .undef, .undef, .undef, .undef, .undef, .undef, .undef, .undef, .undef, .undef, .undef, .undef, .undef, .undef, .undef, .undef, .undef, .undef, .undef, .undef, .undef, .undef, .undef, .undef, .undef, .undef, .undef, .undef, .undef, .undef, .undef, .undef, .undef, .undef, .undef, .undef, .undef, .undef, .undef, .undef, .undef, .undef, .ptr 2 2, .undef, .undef, .undef, .undef, .undef, .undef, .undef, .undef, .undef, .undef, .undef, .undef, .agg [.int .i64 v6, .int .i64 v7, .int .i64 v8, .int .i64 v9, .int .i64 0], .undef, .undef, .undef, .undef], [some (c9.cs B), some [.int .i64 0, .nilsl, .nilsl, .int .i64 0, .int .i64 0], some (w.mc 3), some (rows Shock.cs w.Shocks)], 1⟩),
  (16383, ⟨[.ptr 0 0, .undef, .ptr 1 0, .ptr 2 0, .undef, .undef, .undef, .undef, .undef, .undef, .undef, .undef, .undef, .undef, .undef, .undef, .undef, .undef, .undef, .undef, .undef, .undef, .undef, .undef, .undef, .undef, .undef, .undef, .undef, .undef, .undef, .undef, .undef, .undef, .undef, .undef, .undef, .undef, .undef, .undef, .undef, .undef, .undef, .undef, .undef, .undef, .undef, .osl 3 0 w.Shocks.length 5, .undef, .undef, .undef, .undef, .undef, .undef, .undef, .undef, .undef, .undef, .undef, .agg [.int .i64 v6, .int .i64 v7, .int .i64 v8, .int .i64 v9, .int .i64 0], .undef, .undef, .undef, .undef], [some (c9.cs B), some [.int .i64 0, .nilsl, .nilsl, .int .i64 0, .int .i64 0], some (w.mc 3), some (rows Shock.cs w.Shocks)], 1⟩),
  (32765, ⟨[.ptr 0 0, .undef, .ptr 1 0, .ptr 2 0, .undef, .undef, .undef, .undef, .undef, .undef, .undef, .undef, .undef, .undef, .undef, .undef, .undef, .undef, .undef, .undef, .undef, .undef, .undef, .undef, .undef, .undef, .undef, .undef, .undef, .undef, .undef, .undef, .undef, .undef, .undef, .undef, .undef, .undef, .undef, .undef, .undef, .undef, .undef, .undef, .undef, .undef, .ptr 2 2, .undef, .undef, .undef, .undef, .undef, .undef, .undef, .undef, .undef, .undef, .undef, .undef, .undef, .osl 4 0 1 5, .undef, .undef, .undef], [some (c9.cs B), some [.int .i64 0, .nilsl, .nilsl, .int .i64 0, .int .i64 0], some (w.mc 3), some (rows Shock.cs w.Shocks), some [.int .i64 v6, .int .i64 v7, .int .i64 v8, .int .i64 v9, .int .i64 0]], 1⟩),
  (32767, ⟨[.ptr 0 0, .undef, .ptr 1 0, .ptr 2 0, .undef, .undef, .undef, .undef, .undef, .undef, .undef, .undef, .undef, .undef, .undef, .undef, .undef, .undef, .undef, .undef, .undef, .undef, .undef, .undef, .undef, .undef, .undef, .undef, .undef, .undef, .undef, .undef, .undef, .undef, .undef, .undef, .undef, .undef, .undef, .undef, .undef, .undef, .undef, .undef, .undef, .undef, .undef, .osl 3 0 w.Shocks.length 5, .undef, .undef, .undef, .undef, .undef, .undef, .undef, .undef, .undef, .undef, .undef, .undef, .osl 4 0 1 5, .undef, .undef, .undef], [some (c9.cs B), some [.int .i64 0, .nilsl, .nilsl, .int .i64 0, .int .i64 0], some (w.mc 3), some (rows Shock.cs w.Shocks), some [.int .i64 v6, .int .i64 v7, .int .i64 v8, .int .i64 v9, .int .i64 0]], 1⟩),
  (65535, ⟨[.ptr 0 0, .undef, .ptr 1 0, .ptr 2 0, .undef, .undef, .undef, .undef, .undef, .undef, .undef, .undef, .undef, .undef, .undef, .undef, .undef, .undef, .undef, .undef, .undef, .undef, .undef, .undef, .undef, .undef, .undef, .undef, .undef, .undef, .undef, .undef, .undef, .undef, .undef, .undef, .undef, .undef, .undef, .undef, .undef, .undef, .undef, .undef, .undef, .undef, .undef, .undef, .undef, .undef, .undef, .undef, .undef, .undef, .undef, .undef, .undef, .undef, .undef, .undef, .undef, .osl 3 0 (w.Shocks.length + 1) 5, .undef, .undef], [some (c9.cs B), some [.int .i64 0, .nilsl, .nilsl, .int .i64 0, .int .i64 0], some [.int .i64 w.Now, .sl w.Posts.length 3 (rows Post.cs w.Posts), .undef, .int .i64 w.Next, .int .i64 w.Archived], some (rows Shock.cs (w.Shocks ++ [⟨v6, v7, v8, v9, 0⟩]))], 1⟩),
  (131071, ⟨[.ptr 0 0, .undef, .ptr 1 0, .ptr 2 0, .undef, .undef, .undef, .undef, .undef, .undef, .undef, .undef, .undef, .undef, .undef, .undef, .undef, .undef, .undef, .undef, .undef, .undef, .undef, .undef, .undef, .undef, .undef, .undef, .undef, .undef, .undef, .undef, .undef, .undef, .undef, .undef, .undef, .undef, .undef, .undef, .undef, .undef, .undef, .undef, .undef, .undef, .undef, .undef, .undef, .undef, .undef, .undef, .undef, .undef, .undef, .undef, .undef, .undef, .undef, .undef, .undef, .osl 3 0 (w.Shocks.length + 1) 5, .ptr 2 2, .undef], [some (c9.cs B), some [.int .i64 0, .nilsl, .nilsl, .int .i64 0, .int .i64 0], some [.int .i64 w.Now, .sl w.Posts.length 3 (rows Post.cs w.Posts), .undef, .int .i64 w.Next, .int .i64 w.Archived], some (rows Shock.cs (w.Shocks ++ [⟨v6, v7, v8, v9, 0⟩]))], 1⟩),
  (262143, ⟨[.ptr 0 0, .undef, .ptr 1 0, .ptr 2 0, .undef, .undef, .undef, .undef, .undef, .undef, .undef, .undef, .undef, .undef, .undef, .undef, .undef, .undef, .undef, .undef, .undef, .undef, .undef, .undef, .undef, .undef, .undef, .undef, .undef, .undef, .undef, .undef, .undef, .undef, .undef, .undef, .undef, .undef, .undef, .undef, .undef, .undef, .undef, .undef, .undef, .undef, .undef, .undef, .undef, .undef, .undef, .undef, .undef, .undef, .undef, .undef, .undef, .undef, .undef, .undef, .undef, .undef, .undef, .undef], [some (c9.cs B), some [.int .i64 0, .nilsl, .nilsl, .int .i64 0, .int .i64 0], some [.int .i64 w.Now, .sl w.Posts.length 3 (rows Post.cs w.Posts), .osl 3 0 (w.Shocks.length + 1) 5, .int .i64 w.Next, .int .i64 w.Archived], some (rows Shock.cs (w.Shocks ++ [⟨v6, v7, v8, v9, 0⟩]))], 1⟩)]
theorem watch_fin {B : List Int} {k : Int} {h : Hp} {r : V} {c : Cur} (w : Watch) (h0 : h[0]? = some (some (c.cs B))) (hle : LeV (ren (pickF [0] h true) 3 r) w.v) (hw : w.ok) (hp : w.Posts.length ≤ 100) (hs : w.Shocks.length ≤ 100) (hc : c.le k) : RelR 1 r h (watchP B k) := by
 refine ⟨_, _, ⟨w, c, hw, hp, hs, hc, rfl, rfl⟩, WeakR.pick [0] (by decide) (fun j hj => by cases j <;> simp_all) hle ?_⟩
 simp only [pickH, List.map_cons, List.map_nil, pickB, h0, Cur.ren]
theorem watch_sn (w : Watch) (x : Shock) {h : Hp} (h3 : h[3]? = some (some (rows Shock.cs (w.Shocks ++ [x])))) : (⟨w.Now, w.Posts, w.Shocks ++ [x], w.Next, w.Archived⟩ : Watch).v = ren (pickF [0] h true) 3 (.agg [.int .i64 w.Now, .sl w.Posts.length 3 (rows Post.cs w.Posts), .osl 3 0 (w.Shocks.length + 1) 5, .int .i64 w.Next, .int .i64 w.Archived]) := by
 generalize hW : w.Shocks ++ [x] = W at *
 have hl : w.Shocks.length + 1 = W.length := by rw [← hW]; simp
 rw [hl]
 simp [ren, pickF, posOf, frzR, h3, map_ren_rows, take_rows, Watch.v]
theorem watch_ok {B : List Int} (hB : CB B) {k : Int} (hk : k ≤ 100000) {c : Cur} (hc : c.le k) : CtrP Tryd.prog 90 [.ptr 0 0] [some (c.cs B)] (watchP B (k + 2000)) := by
 have hcb : ∀ {c' : Cur} {k' : Int}, c'.le k' → k' ≤ 4000000 → c'.le 4611686018427387903 := fun h h' => ⟨h.1, by have := h.2; omega⟩
 refine CtrP.intro Tryd.mixed Tryd.func90 rfl Tryd.okF90 ?_
 simp -implicitDefEqProofs -dsimp only [go_sem, Tryd.ntmps90, Tryd.results90]
 (repeat ((repeat1' (first | simp -implicitDefEqProofs -dsimp only [go_sem] | simp -dsimp (disch := omega) only [wrap_i64])); repeat (with_reducible refine sideA ?_)))
 refine callS.rel [0] (watchStations_ok hB (by omega) hc) (by decide) ⟨leO, trivial⟩ (lendCur rfl) rfl (fun r hout hΦ => ?_)
 obtain ⟨K, c1, hK, hc1, rfl, rfl⟩ := hΦ
 refine ⟨⟨⟨rfl, rfl⟩, trivial⟩, ?_⟩
 (repeat ((repeat1' (first | simp -implicitDefEqProofs -dsimp only [go_sem, Cur.ren, map_ren_rows, List.getElem?_nil] | simp -dsimp (disch := omega) only [wrap_i64])); repeat (with_reducible refine sideA ?_)))
 have zok : Watch.ok ⟨0, [], [], 0, 0⟩ := by simp [Watch.ok, i64R, lstR]
 have cz : ∀ k n v : Int, v ≤ 9223372036854775807 → Ctr Tryd.prog 143 [Watch.v ⟨0, [], [], 0, 0⟩, .agg [.int .i64 k, .int .i64 n, .int .i64 v]] [] (.tup [zeroW, .bool false]) [] := by
   intro k n v hv
   have h := sStepWatch_ok ⟨0, [], [], 0, 0⟩ k n v (by simp) (by simp) hv
   have hz : stepW ⟨0, [], [], 0, 0⟩ k n v = none := by simp [stepW, wB, countsB, inB']
   rw [hz] at h
   exact h
 cases hb : wB (newW K) with
 | false =>
   (first | refine callT.at (sNewWatch_no K (by omega) hb) ⟨(by first | exact leA | exact Watch.leM (r := w) (i := 3) rfl), trivial⟩ ?_ | refine callS.at (sNewWatch_no K (by omega) hb) ⟨(by first | exact leA | exact Watch.leM (r := w) (i := 3) rfl), trivial⟩ ?_)
   (repeat ((repeat1' (first | simp -implicitDefEqProofs -dsimp only [go_sem, watchN, Cur.ren] | simp -dsimp (disch := omega) only [wrap_i64])); repeat (with_reducible refine sideA ?_)))
   refine pick_call hB hc1 (by omega) 30 (by omega) rfl (fun vc2 c2 pvc2 hc2 => ?_)
   (repeat ((repeat1' (first | simp -implicitDefEqProofs -dsimp only [go_sem, Cur.ren, map_ren_rows] | simp -dsimp (disch := omega) only [wrap_i64])); repeat (with_reducible refine sideA ?_)))
   obtain ⟨n0, hn0⟩ : ∃ n : Nat, vc2 = n := ⟨vc2.toNat, by omega⟩
   subst hn0
   refine LoopT.intro (fun x : Nat × Cur => x.1 ≤ 30 ∧ x.2.le (k + 102 + 30 * (30 - (x.1 : Int)))) (fun x => ⟨[.ptr 0 0, .undef, .ptr 1 0, .ptr 2 0, .undef, .int .i64 x.1, .undef, .undef, .undef, .undef, .undef, .undef, .undef, .undef, .undef, .undef, .undef, .undef, .undef, .undef, .undef, .undef, .undef, .undef, .undef, .undef, .undef, .undef, .undef, .undef, .undef, .undef, .undef, .undef, .undef, .undef, .undef, .undef, .undef, .undef, .undef, .undef, .undef, .undef, .undef, .undef, .undef, .undef, .undef, .undef, .undef, .undef, .undef, .undef, .undef, .undef, .undef, .undef, .undef, .undef, .undef, .undef, .undef, .undef], [some (x.2.cs B), some [.int .i64 0, .nilsl, .nilsl, .int .i64 0, .int .i64 0], some [.int .i64 0, .nilsl, .nilsl, .int .i64 0, .int .i64 0]], 1⟩) (fun x => x.1) (n0, c2) ⟨by simp only []; omega, lmono hc2 (by simp only []; omega)⟩ ?_ (fun x hx => ?_)
   · refine Weak.pick [0, 1, 3] (by decide) (fun j hj => by cases j <;> simp_all) ?_ ?_
     · simp [LeG, LeC, LeV, ren, pickF, posOf]
     · simp [pickH, pickB, Cur.ren, ren]
   obtain ⟨n, c3⟩ := x
   obtain ⟨x1, hc3⟩ := hx
   dsimp only at x1 hc3
   simp -implicitDefEqProofs -dsimp only [go_sem]
   refine condT.split (fun h1 => ?_) (fun h1 => ?_)
   · have hn : 0 < n := by have := of_decide_eq_true h1; omega
     (repeat ((repeat1' (first | simp -implicitDefEqProofs -dsimp only [go_sem, h1] | simp -dsimp (disch := omega) only [wrap_i64])); repeat (with_reducible refine sideA ?_)))
     refine clT.tree (fun s2 => ∃ (c4 : Cur), c4.le (k + 102 + 30 * (30 - (n : Int)) + 20) ∧ s2 = ⟨[.ptr 0 0, .undef, .ptr 1 0, .ptr 2 0, .undef, .int .i64 n, .undef, .bool false, .undef, .undef, .undef, .undef, .undef, .undef, .undef, .undef, .undef, .undef, .undef, .undef, .undef, .undef, .undef, .undef, .undef, .undef, .undef, .undef, .undef, .undef, .undef, .undef, .undef, .undef, .undef, .undef, .undef, .undef, .undef, .undef, .undef, .undef, .undef, .undef, .undef, .undef, .undef, .undef, .undef, .undef, .undef, .undef, .undef, .undef, .undef, .undef, .undef, .undef, .undef, .undef, .undef, .undef, .undef, .undef], [some (c4.cs B), some [.int .i64 0, .nilsl, .nilsl, .int .i64 0, .int .i64 0], some [.int .i64 0, .nilsl, .nilsl, .int .i64 0, .int .i64 0]], 1⟩) (.take 1 (.alt 0 (.alt 2 (.alt 3 (.alt 4 (.take 5 (.take 6 (.take 7 (.alt 8 (.alt 9 (.alt 10 .done .stop) .stop) .stop)))) (.alt 8 (.alt 4 (.take 5 (.take 6 (.take 7 (.alt 9 (.alt 10 .done .stop) .stop)))) .stop) .stop)) (.alt 8 (.alt 3 (.alt 4 (.take 5 (.take 6 (.take 7 (.alt 9 (.alt 10 .done .stop) .stop)))) .stop) .stop) .stop)) (.alt 8 (.alt 2 (.alt 3 (.alt 4 (.take 5 (.take 6 (.take 7 (.alt 9 (.alt 10 .done .stop) .stop)))) .stop) .stop) .stop) .stop)) (.alt 2 (.alt 0 (.alt 3 (.alt 4 (.take 5 (.take 6 (.take 7 (.alt 8 (.alt 9 (.alt 10 .done .stop) .stop) .stop)))) (.alt 8 (.alt 4 (.take 5 (.take 6 (.take 7 (.alt 9 (.alt 10 .done .stop) .stop)))) .stop) .stop)) (.alt 8 (.alt 3 (.alt 4 (.take 5 (.take 6 (.take 7 (.alt 9 (.alt 10 .done .stop) .stop)))) .stop) .stop) .stop)) (.alt 3 (.alt 0 (.alt 4 (.take 5 (.take 6 (.take 7 (.alt 8 (.alt 9 (.alt 10 .done .stop) .stop) .stop)))) (.alt 8 (.alt 4 (.take 5 (.take 6 (.take 7 (.alt 9 (.alt 10 .done .stop) .stop)))) .stop) .stop)) (.alt 8 (.alt 0 (.alt 4 (.take 5 (.take 6 (.take 7 (.alt 9 (.alt 10 .done .stop) .stop)))) .stop) .stop) .stop)) (.alt 8 (.alt 0 (.alt 3 (.alt 4 (.take 5 (.take 6 (.take 7 (.alt 9 (.alt 10 .done .stop) .stop)))) .stop) .stop) (.alt 3 (.alt 0 (.alt 4 (.take 5 (.take 6 (.take 7 (.alt 9 (.alt 10 .done .stop) .stop)))) .stop) .stop) .stop)) .stop))) (.alt 8 (.alt 0 (.alt 2 (.alt 3 (.alt 4 (.take 5 (.take 6 (.take 7 (.alt 9 (.alt 10 .done .stop) .stop)))) .stop) .stop) .stop) (.alt 2 (.alt 0 (.alt 3 (.alt 4 (.take 5 (.take 6 (.take 7 (.alt 9 (.alt 10 .done .stop) .stop)))) .stop) .stop) (.alt 3 (.alt 0 (.alt 4 (.take 5 (.take 6 (.take 7 (.alt 9 (.alt 10 .done .stop) .stop)))) .stop) .stop) .stop)) .stop)) .stop)))) (by kernel_rfl) (fun s2 hs2 => ?_) ?_
     · obtain ⟨c4, hc4, rfl⟩ := hs2
       (repeat ((repeat1' (first | simp -implicitDefEqProofs -dsimp only [go_sem] | simp -dsimp (disch := omega) only [wrap_i64])); repeat (with_reducible refine sideA ?_)))
       have hn1 : ((n - 1 : Nat) : Int) = (n : Int) - 1 := by omega
       refine ⟨(n - 1, c4), ⟨by simp only []; omega, lmono hc4 (by simp only []; omega)⟩, ?_, by simp only []; omega⟩
       refine Weak.cut (3) (by simp) (by simp) ?_ ?_
       · simp [LeC, LeV, ren, cutF, hn1]
       · simp [cutH, cutB, Cur.ren, ren]
     · (repeat ((repeat1' (first | simp -implicitDefEqProofs -dsimp only [go_sem] | simp -dsimp (disch := omega) only [wrap_i64])); repeat (with_reducible refine sideA ?_)))
       repeat' (first | (refine callS.rel [0] (watchStep_ok hB (by omega) hc3 ⟨0, [], [], 0, 0⟩ zok (by simp) (by simp)) (by decide) ⟨leO, leO, trivial⟩ (lendCur rfl) rfl (fun r hout hΦ => ?_); obtain ⟨s, c4, hs, hc4, rfl, rfl⟩ := hΦ; refine ⟨⟨⟨rfl, rfl⟩, trivial⟩, ?_⟩; (repeat ((repeat1' (first | simp -implicitDefEqProofs -dsimp only [go_sem, Cur.ren, WatchStep.v] | simp -dsimp (disch := omega) only [wrap_i64])); repeat (with_reducible refine sideA ?_)))) | ((first | refine callT.at (cz s.Kind s.Number s.Value hs.2.2.2) ⟨(by first | exact leA | exact Watch.leM (r := w) (i := 3) rfl), (by first | exact leA | exact Watch.leM (r := w) (i := 3) rfl), trivial⟩ ?_ | refine callS.at (cz s.Kind s.Number s.Value hs.2.2.2) ⟨(by first | exact leA | exact Watch.leM (r := w) (i := 3) rfl), (by first | exact leA | exact Watch.leM (r := w) (i := 3) rfl), trivial⟩ ?_); (repeat ((repeat1' (first | simp -implicitDefEqProofs -dsimp only [go_sem, Cur.ren, zeroW] | simp -dsimp (disch := omega) only [wrap_i64])); repeat (with_reducible refine sideA ?_)))) | (refine And.intro ?_ ?_) | exact trivial)
       all_goals
         refine ⟨_, ⟨c4, lmono hc4 (by omega), rfl⟩, ?_⟩
         refine Weak.cut (3) (by simp) (by simp) ?_ ?_
         · simp [LeC, LeV, ren, cutF]
         · simp [cutH, cutB, Cur.ren, ren]
   · (repeat ((repeat1' (first | simp -implicitDefEqProofs -dsimp only [go_sem, h1] | simp -dsimp (disch := omega) only [wrap_i64])); repeat (with_reducible refine sideA ?_)))
     refine pick_call hB hc3 (by omega) 32 (by omega) rfl (fun vc5 c5 pvc5 hc5 => ?_)
     (repeat ((repeat1' (first | simp -implicitDefEqProofs -dsimp only [go_sem, Cur.ren] | simp -dsimp (disch := omega) only [wrap_i64])); repeat (with_reducible refine sideA ?_)))
     refine condT.split (fun h3 => ?_) (fun h3 => ?_)
     · (repeat ((repeat1' (first | simp -implicitDefEqProofs -dsimp only [go_sem, h3] | simp -dsimp (disch := omega) only [wrap_i64])); repeat (with_reducible refine sideA ?_)))
       refine among_call hB hc5 (by omega) [-1, 0, 1000001] (by simp) (by simp) rfl rfl rfl (fun vc6 c6 pvc6 hc6 => ?_)
       (repeat ((repeat1' (first | simp -implicitDefEqProofs -dsimp only [go_sem, Cur.ren] | simp -dsimp (disch := omega) only [wrap_i64])); repeat (with_reducible refine sideA ?_)))
       have hv6 : i64R vc6 := i64R_mem pvc6 (by simp [i64R])
       exact watch_fin ⟨vc6, [], [], 0, 0⟩ rfl leO (by simp [Watch.ok, lstR, hv6]; simp [i64R]) (by simp) (by simp) (lmono hc6 (by omega))
     · (repeat ((repeat1' (first | simp -implicitDefEqProofs -dsimp only [go_sem, h3] | simp -dsimp (disch := omega) only [wrap_i64])); repeat (with_reducible refine sideA ?_)))
       refine condT.split (fun h4 => ?_) (fun h4 => ?_)
       · (repeat ((repeat1' (first | simp -implicitDefEqProofs -dsimp only [go_sem, h4] | simp -dsimp (disch := omega) only [wrap_i64])); repeat (with_reducible refine sideA ?_)))
         refine among_call hB hc5 (by omega) [0, 1, 999, 1000] (by simp) (by simp) rfl rfl rfl (fun vc6 c6 pvc6 hc6 => ?_)
         (repeat ((repeat1' (first | simp -implicitDefEqProofs -dsimp only [go_sem, Cur.ren] | simp -dsimp (disch := omega) only [wrap_i64])); repeat (with_reducible refine sideA ?_)))
         have hv6 : i64R vc6 := i64R_mem pvc6 (by simp [i64R])
         exact watch_fin ⟨0, [], [], vc6, 0⟩ rfl leO (by simp [Watch.ok, lstR, hv6]; simp [i64R]) (by simp) (by simp) (lmono hc6 (by omega))
       · (repeat ((repeat1' (first | simp -implicitDefEqProofs -dsimp only [go_sem, h4] | simp -dsimp (disch := omega) only [wrap_i64])); repeat (with_reducible refine sideA ?_)))
         refine condT.split (fun h5 => ?_) (fun h5 => ?_)
         · (repeat ((repeat1' (first | simp -implicitDefEqProofs -dsimp only [go_sem, h5] | simp -dsimp (disch := omega) only [wrap_i64])); repeat (with_reducible refine sideA ?_)))
           have p6 := among_ok hB (hcb hc5 (by omega)) [0, 1] (by simp) (by simp)
           have hc6 := pickC_le (B := B) (n := (([0, 1] : List Int).length : Int)) hc5
           have m6 := amongV_mem hB (K := [0, 1]) (by simp) hc5.1
           generalize amongV B [0, 1] c5 = v6 at p6 m6
           generalize pickC B (([0, 1] : List Int).length : Int) c5 = c6 at p6 hc6
           have p7 := pick_ok hB (hcb hc6 (by omega)) 5 (by omega)
           have hc7 := pickC_le (B := B) (n := 5) hc6
           have m7 := pickV_bd hB (n := 5) hc6.1
           generalize pickV B 5 c6 = v7 at p7 m7
           generalize pickC B 5 c6 = c7 at p7 hc7
           have p8 := among_ok hB (hcb hc7 (by omega)) [0, 9] (by simp) (by simp)
           have hc8 := pickC_le (B := B) (n := (([0, 9] : List Int).length : Int)) hc7
           have m8 := amongV_mem hB (K := [0, 9]) (by simp) hc7.1
           generalize amongV B [0, 9] c7 = v8 at p8 m8
           generalize pickC B (([0, 9] : List Int).length : Int) c7 = c8 at p8 hc8
           have p9 := among_ok hB (hcb hc8 (by omega)) [0, 96] (by simp) (by simp)
           have hc9 := pickC_le (B := B) (n := (([0, 96] : List Int).length : Int)) hc8
           have m9 := amongV_mem hB (K := [0, 96]) (by simp) hc8.1
           generalize amongV B [0, 96] c8 = v9 at p9 m9
           generalize pickC B (([0, 96] : List Int).length : Int) c8 = c9 at p9 hc9
           have hx : Shock.ok ⟨v6, v7, v8, v9, 0⟩ := ⟨i64R_mem m6 (by simp [i64R]), (show i64R v7 from ⟨by omega, by omega⟩), i64R_mem m8 (by simp [i64R]), i64R_mem m9 (by simp [i64R]), by simp [i64R]⟩
           refine clT.graph [(262143, []), (131071, [17]), (65535, [16]), (32767, [15]), (32765, [1]), (16383, [14]), (16381, [1, 14]), (8191, [13]), (8189, [1, 13]), (4095, [12]), (4093, [1, 12]), (3583, [9]), (3581, [1, 9]), (3519, [6]), (3517, [1, 6]), (3503, [4]), (3501, [1, 4]), (3495, [3]), (3493, [1, 3]), (3327, [8]), (3325, [1, 8]), (3263, [6, 8]), (3261, [1, 6, 8]), (3247, [4, 8]), (3245, [1, 4, 8]), (3239, [3, 8]), (3237, [1, 3, 8]), (2047, [11]), (2045, [1, 11]), (1535, [9, 11]), (1533, [1, 9, 11]), (1471, [6, 11]), (1469, [1, 6, 11]), (1455, [4, 11]), (1453, [1, 4, 11]), (1447, [3, 11]), (1445, [1, 3, 11]), (1279, [8, 11]), (1277, [1, 8, 11]), (1215, [6, 8, 11]), (1213, [1, 6, 8, 11]), (1199, [4, 8, 11]), (1197, [1, 4, 8, 11]), (1191, [3, 8, 11]), (1189, [1, 3, 8, 11]), (165, [10]), (37, [7]), (5, [5]), (1, [2]), (0, [0])] (gA _ (tabZ B c5 c6 c7 c8 c9 v6 v7 v8 v9)) (by kernel_rfl) rfl ?_
           refine ⟨fun s hs => ?_, fun s hs => ?_, fun s hs => ?_, fun s hs => ?_, fun s hs => ?_, fun s hs => ?_, fun s hs => ?_, fun s hs => ?_, fun s hs => ?_, fun s hs => ?_, fun s hs => ?_, fun s hs => ?_, fun s hs => ?_, fun s hs => ?_, fun s hs => ?_, fun s hs => ?_, fun s hs => ?_, fun s hs => ?_, fun s hs => ?_, fun s hs => ?_, fun s hs => ?_, fun s hs => ?_, fun s hs => ?_, fun s hs => ?_, fun s hs => ?_, fun s hs => ?_, fun s hs => ?_, fun s hs => ?_, fun s hs => ?_, fun s hs => ?_, fun s hs => ?_, fun s hs => ?_, fun s hs => ?_, fun s hs => ?_, fun s hs => ?_, fun s hs => ?_, fun s hs => ?_, fun s hs => ?_, fun s hs => ?_, fun s hs => ?_, fun s hs => ?_, fun s hs => ?_, fun s hs => ?_, fun s hs => ?_, fun s hs => ?_, fun s hs => ?_, fun s hs => ?_, fun s hs => ?_, fun s hs => ?_, fun s hs => ?_, trivial⟩
           · obtain rfl := Option.some.inj (show some _ = some s from hs)
             (repeat ((repeat1' (first | simp -implicitDefEqProofs -dsimp only [go_sem] | simp -dsimp (disch := omega) only [wrap_i64])); repeat (with_reducible refine sideA ?_)))
             exact watch_fin ⟨0, [], [⟨v6, v7, v8, v9, 0⟩], 0, 0⟩ rfl (LeV.aggR ⟨.inl rfl, LeE.nil, .inl (by simp [ren, pickF, posOf, frzR, rows, Shock.cs]), .inl rfl, .inl rfl, trivial⟩) ⟨by simp [i64R], by simp [lstR], ⟨by simp, fun y hy => by rw [List.mem_singleton.1 hy]; exact hx⟩, by simp [i64R], by simp [i64R]⟩ (by simp) (by simp) (lmono hc9 (by omega))
           all_goals (obtain rfl := Option.some.inj (show some _ = some s from hs))
           all_goals (repeat' (first | exact trivial | refine nextA_cons rfl ?_ ?_))
           all_goals (repeat ((repeat1' (first | simp -implicitDefEqProofs -dsimp only [go_sem] | simp -dsimp (disch := omega) only [wrap_i64])); repeat (with_reducible refine sideA ?_)))
           all_goals (try ((first | refine callS.lend [0, 3] false p9 (by decide) ⟨leO, leO, trivial⟩ (lendCur2 rfl rfl) (growCur2 B _ _) (.inl rfl) ?_ | refine callS.lend [0, 3] false p8 (by decide) ⟨leO, leO, trivial⟩ (lendCur2 rfl rfl) (growCur2 B _ _) (.inl rfl) ?_ | refine callS.lend [0] false p7 (by decide) ⟨leO, leO, trivial⟩ (lendCur rfl) (growCur B _ _) (.inl rfl) ?_ | refine callS.lend [0, 3] false p6 (by decide) ⟨leO, leO, trivial⟩ (lendCur2 rfl rfl) (growCur2 B _ _) (.inl rfl) ?_); (repeat ((repeat1' (first | simp -implicitDefEqProofs -dsimp only [go_sem, Cur.ren, map_ren_rows] | simp -dsimp (disch := omega) only [wrap_i64])); repeat (with_reducible refine sideA ?_)))))
           refine ⟨_, rfl, Weak.pk [0, 1, 2, 3] ?_ ?_⟩
           rotate_left 2
           refine ⟨_, rfl, Weak.pk [0, 1, 2, 3] ?_ ?_⟩
           rotate_left 2
           refine ⟨_, rfl, Weak.pk [0, 1, 2, 4] ?_ ?_⟩
           rotate_left 2
           refine ⟨_, rfl, Weak.pk [0, 1, 2, 3] ?_ ?_⟩
           rotate_left 2
           refine ⟨_, rfl, Weak.pk [0, 1, 2, 3] ?_ ?_⟩
           rotate_left 2
           refine ⟨_, rfl, Weak.pk [0, 1, 2] ?_ ?_⟩
           rotate_left 2
           refine ⟨_, rfl, Weak.pk [0, 1, 2, 3] ?_ ?_⟩
           rotate_left 2
           refine ⟨_, rfl, Weak.pk [0, 1, 2] ?_ ?_⟩
           rotate_left 2
           refine ⟨_, rfl, Weak.pk [0, 1, 2] ?_ ?_⟩
           rotate_left 2
           refine ⟨_, rfl, Weak.pk [0, 1, 2] ?_ ?_⟩
           rotate_left 2
           refine ⟨_, rfl, Weak.pk [0, 1, 2] ?_ ?_⟩
           rotate_left 2
           refine ⟨_, rfl, Weak.pk [0, 1, 2, 3] ?_ ?_⟩
           rotate_left 2
           refine ⟨_, rfl, Weak.pk [0, 1, 2] ?_ ?_⟩
           rotate_left 2
           refine ⟨_, rfl, Weak.pk [0, 1, 2, 4] ?_ ?_⟩
           rotate_left 2
           refine ⟨_, rfl, Weak.pk [0, 1, 2, 3, 4] ?_ ?_⟩
           rotate_left 2
           refine ⟨_, rfl, Weak.pk [0, 1, 2, 4] ?_ ?_⟩
           rotate_left 2
           refine ⟨_, rfl, Weak.pk [0, 1, 2, 3, 4] ?_ ?_⟩
           rotate_left 2
           refine ⟨_, rfl, Weak.pk [0, 1, 2, 3, 4] ?_ ?_⟩
           rotate_left 2
           refine ⟨_, rfl, Weak.pk [0, 1, 2, 3, 4] ?_ ?_⟩
           rotate_left 2
           refine ⟨_, rfl, Weak.pk [0, 1, 2, 4, 5] ?_ ?_⟩
           rotate_left 2
           refine ⟨_, rfl, Weak.pk [0, 1, 2, 3, 4, 5] ?_ ?_⟩
           rotate_left 2
           refine ⟨_, rfl, Weak.pk [0, 1, 2, 4, 5] ?_ ?_⟩
           rotate_left 2
           refine ⟨_, rfl, Weak.pk [0, 1, 2, 5, 3, 4] ?_ ?_⟩
           rotate_left 2
           refine ⟨_, rfl, Weak.pk [0, 1, 2, 3, 4] ?_ ?_⟩
           rotate_left 2
           refine ⟨_, rfl, Weak.pk [0, 1, 2, 5, 3, 4] ?_ ?_⟩
           rotate_left 2
           refine ⟨_, rfl, Weak.pk [0, 1, 2, 4, 3] ?_ ?_⟩
           rotate_left 2
           refine ⟨_, rfl, Weak.pk [0, 1, 2, 3] ?_ ?_⟩
           rotate_left 2
           refine ⟨_, rfl, Weak.pk [0, 1, 2, 4, 3] ?_ ?_⟩
           rotate_left 2
           refine ⟨_, rfl, Weak.pk [0, 1, 2, 3] ?_ ?_⟩
           rotate_left 2
           refine ⟨_, rfl, Weak.pk [0, 1, 2, 4, 3] ?_ ?_⟩
           rotate_left 2
           refine ⟨_, rfl, Weak.pk [0, 1, 2, 3] ?_ ?_⟩
           rotate_left 2
           refine ⟨_, rfl, Weak.pk [0, 1, 2, 3] ?_ ?_⟩
           rotate_left 2
           refine ⟨_, rfl, Weak.pk [0, 1, 2, 4, 3] ?_ ?_⟩
           rotate_left 2
           refine ⟨_, rfl, Weak.pk [0, 1, 2, 4] ?_ ?_⟩
           rotate_left 2
           refine ⟨_, rfl, Weak.pk [0, 1, 2, 3, 5, 4] ?_ ?_⟩
           rotate_left 2
           refine ⟨_, rfl, Weak.pk [0, 1, 2, 3, 4] ?_ ?_⟩
           rotate_left 2
           refine ⟨_, rfl, Weak.pk [0, 1, 2, 4] ?_ ?_⟩
           rotate_left 2
           refine ⟨_, rfl, Weak.pk [0, 1, 2, 3, 5, 4] ?_ ?_⟩
           rotate_left 2
           refine ⟨_, rfl, Weak.pk [0, 1, 2, 4, 3] ?_ ?_⟩
           rotate_left 2
           refine ⟨_, rfl, Weak.pk [0, 1, 2, 4, 3] ?_ ?_⟩
           rotate_left 2
           refine ⟨_, rfl, Weak.pk [0, 1, 2, 3] ?_ ?_⟩
           rotate_left 2
           refine ⟨_, rfl, Weak.pk [0, 1, 2, 4, 3] ?_ ?_⟩
           rotate_left 2
           refine ⟨_, rfl, Weak.pk [0, 1, 2, 4, 3] ?_ ?_⟩
           rotate_left 2
           refine ⟨_, rfl, Weak.pk [0, 1, 2, 3] ?_ ?_⟩
           rotate_left 2
           refine ⟨_, rfl, Weak.pk [0, 1, 2] ?_ ?_⟩
           rotate_left 2
           refine ⟨_, rfl, Weak.pk [0, 1, 2, 3] ?_ ?_⟩
           rotate_left 2
           refine ⟨_, rfl, Weak.pk [0, 1, 2] ?_ ?_⟩
           rotate_left 2
           refine ⟨_, rfl, Weak.pk [0, 1, 2, 3, 4] ?_ ?_⟩
           rotate_left 2
           refine ⟨_, rfl, Weak.pk [0, 1, 2, 3] ?_ ?_⟩
           rotate_left 2
           refine ⟨_, rfl, Weak.pk [0, 1, 2] ?_ ?_⟩
           rotate_left 2
           refine ⟨_, rfl, Weak.pk [0, 1, 2, 3, 4] ?_ ?_⟩
           rotate_left 2
           refine ⟨_, rfl, Weak.pk [0, 1, 2, 3] ?_ ?_⟩
           rotate_left 2
           refine ⟨_, rfl, Weak.pk [0, 1, 2, 3, 4] ?_ ?_⟩
           rotate_left 2
           refine ⟨_, rfl, Weak.pk [0, 1, 2, 3] ?_ ?_⟩
           rotate_left 2
           refine ⟨_, rfl, Weak.pk [0, 1, 2, 3] ?_ ?_⟩
           rotate_left 2
           refine ⟨_, rfl, Weak.pk [0, 1, 2, 3, 4] ?_ ?_⟩
           rotate_left 2
           refine ⟨_, rfl, Weak.pk [0, 1, 2, 4] ?_ ?_⟩
           rotate_left 2
           refine ⟨_, rfl, Weak.pk [0, 1, 2, 3, 4, 5] ?_ ?_⟩
           rotate_left 2
           refine ⟨_, rfl, Weak.pk [0, 1, 2, 3, 4] ?_ ?_⟩
           rotate_left 2
           refine ⟨_, rfl, Weak.pk [0, 1, 2, 4] ?_ ?_⟩
           rotate_left 2
           refine ⟨_, rfl, Weak.pk [0, 1, 2, 3, 4, 5] ?_ ?_⟩
           rotate_left 2
           refine ⟨_, rfl, Weak.pk [0, 1, 2, 4, 3] ?_ ?_⟩
           rotate_left 2
           refine ⟨_, rfl, Weak.pk [0, 1, 2, 3, 4] ?_ ?_⟩
           rotate_left 2
           refine ⟨_, rfl, Weak.pk [0, 1, 2, 3] ?_ ?_⟩
           rotate_left 2
           refine ⟨_, rfl, Weak.pk [0, 1, 2, 4, 3] ?_ ?_⟩
           rotate_left 2
           refine ⟨_, rfl, Weak.pk [0, 1, 2, 3, 4] ?_ ?_⟩
           rotate_left 2
           refine ⟨_, rfl, Weak.pk [0, 1, 2, 3] ?_ ?_⟩
           rotate_left 2
           refine ⟨_, rfl, Weak.pk [0, 1, 2, 3] ?_ ?_⟩
           rotate_left 2
           refine ⟨_, rfl, Weak.pk [0, 1, 2] ?_ ?_⟩
           rotate_left 2
           refine ⟨_, rfl, Weak.pk [0, 1, 2, 3] ?_ ?_⟩
           rotate_left 2
           refine ⟨_, rfl, Weak.pk [0, 1, 2, 3] ?_ ?_⟩
           rotate_left 2
           refine ⟨_, rfl, Weak.pk [0, 1, 2] ?_ ?_⟩
           rotate_left 2
           refine ⟨_, rfl, Weak.pk [0, 1, 2, 3] ?_ ?_⟩
           rotate_left 2
           refine ⟨_, rfl, Weak.pk [0, 1, 2, 3] ?_ ?_⟩
           rotate_left 2
           refine ⟨_, rfl, Weak.pk [0, 1, 2] ?_ ?_⟩
           rotate_left 2
           refine ⟨_, rfl, Weak.pk [0, 1, 2] ?_ ?_⟩
           rotate_left 2
           refine ⟨_, rfl, Weak.pk [0, 1, 2, 3] ?_ ?_⟩
           rotate_left 2
           refine ⟨_, rfl, Weak.pk [0, 1, 2, 3] ?_ ?_⟩
           rotate_left 2
           refine ⟨_, rfl, Weak.pk [0, 1, 2] ?_ ?_⟩
           rotate_left 2
           refine ⟨_, rfl, Weak.pk [0, 1, 2, 3, 4] ?_ ?_⟩
           rotate_left 2
           refine ⟨_, rfl, Weak.pk [0, 1, 2, 3, 4] ?_ ?_⟩
           rotate_left 2
           refine ⟨_, rfl, Weak.pk [0, 1, 2, 3] ?_ ?_⟩
           rotate_left 2
           refine ⟨_, rfl, Weak.pk [0, 1, 2] ?_ ?_⟩
           rotate_left 2
           refine ⟨_, rfl, Weak.pk [0, 1, 2, 3, 4] ?_ ?_⟩
           rotate_left 2
           refine ⟨_, rfl, Weak.pk [0, 1, 2, 3, 4] ?_ ?_⟩
           rotate_left 2
           refine ⟨_, rfl, Weak.pk [0, 1, 2, 3] ?_ ?_⟩
           rotate_left 2
           refine ⟨_, rfl, Weak.pk [0, 1, 2, 3] ?_ ?_⟩
           rotate_left 2
           refine ⟨_, rfl, Weak.pk [0, 1, 2, 3] ?_ ?_⟩
           rotate_left 2
           refine ⟨_, rfl, Weak.pk [0, 1, 2] ?_ ?_⟩
           rotate_left 2
           refine ⟨_, rfl, Weak.pk [0, 1, 2, 3] ?_ ?_⟩
           rotate_left 2
           refine ⟨_, rfl, Weak.pk [0, 1, 2, 3] ?_ ?_⟩
           rotate_left 2
           refine ⟨_, rfl, Weak.pk [0, 1, 2, 3] ?_ ?_⟩
           rotate_left 2
           refine ⟨_, rfl, Weak.pk [0, 1, 2] ?_ ?_⟩
           rotate_left 2
           refine ⟨_, rfl, Weak.pk [0, 1, 2] ?_ ?_⟩
           rotate_left 2
           refine ⟨_, rfl, Weak.pk [0, 1, 2] ?_ ?_⟩
           rotate_left 2
           refine ⟨_, rfl, Weak.pk [0, 1, 2] ?_ ?_⟩
           rotate_left 2
           refine ⟨_, rfl, Weak.pk [0, 1, 2] ?_ ?_⟩
           rotate_left 2
           all_goals (first | rfl | (simp [LeG, LeC, LeV, ren, pickF, posOf]; done) | (simp [pickH, pickB, pickF, posOf, Cur.ren, ren, map_ren_rows, rows, IntS.cs]; done) | (simp [pickH, pickB, pickF, posOf, Cur.ren, ren, map_ren_rows]; done) | (simp [pickH, pickB, pickF, posOf, Cur.ren, ren, map_ren_rows] <;> rfl))
         · (repeat ((repeat1' (first | simp -implicitDefEqProofs -dsimp only [go_sem, h5] | simp -dsimp (disch := omega) only [wrap_i64])); repeat (with_reducible refine sideA ?_)))
           exact watch_fin ⟨0, [], [], 0, 0⟩ rfl leO zok (by simp) (by simp) (lmono hc5 (by omega))
 | true =>
   (first | refine callT.at (sNewWatch_ok K (by omega) hb) ⟨(by first | exact leA | exact Watch.leM (r := w) (i := 3) rfl), trivial⟩ ?_ | refine callS.at (sNewWatch_ok K (by omega) hb) ⟨(by first | exact leA | exact Watch.leM (r := w) (i := 3) rfl), trivial⟩ ?_)
   (repeat ((repeat1' (first | simp -implicitDefEqProofs -dsimp only [go_sem, Cur.ren] | simp -dsimp (disch := omega) only [wrap_i64])); repeat (with_reducible refine sideA ?_)))
   refine pick_call hB hc1 (by omega) 30 (by omega) rfl (fun vc2 c2 pvc2 hc2 => ?_)
   (repeat ((repeat1' (first | simp -implicitDefEqProofs -dsimp only [go_sem, Cur.ren, map_ren_rows] | simp -dsimp (disch := omega) only [wrap_i64])); repeat (with_reducible refine sideA ?_)))
   obtain ⟨n0, hn0⟩ : ∃ n : Nat, vc2 = n := ⟨vc2.toNat, by omega⟩
   subst hn0
   refine LoopT.intro (fun x : Nat × Watch × Cur => x.1 ≤ 30 ∧ wB x.2.1 = true ∧ x.2.2.le (k + 102 + 30 * (30 - (x.1 : Int)))) (fun x => ⟨[.ptr 0 0, .undef, .ptr 1 0, .ptr 2 0, .undef, .int .i64 x.1, .undef, .undef, .undef, .undef, .undef, .undef, .undef, .undef, .undef, .undef, .undef, .undef, .undef, .undef, .undef, .undef, .undef, .undef, .undef, .undef, .undef, .undef, .undef, .undef, .undef, .undef, .undef, .undef, .undef, .undef, .undef, .undef, .undef, .undef, .undef, .undef, .undef, .undef, .undef, .undef, .undef, .undef, .undef, .undef, .undef, .undef, .undef, .undef, .undef, .undef, .undef, .undef, .undef, .undef, .undef, .undef, .undef, .undef], [some (x.2.2.cs B), some [.int .i64 0, .nilsl, .nilsl, .int .i64 0, .int .i64 0], some (x.2.1.mc 3), some (rows Shock.cs x.2.1.Shocks)], 1⟩) (fun x => x.1) (n0, newW K, c2) ⟨by simp only []; omega, hb, lmono hc2 (by simp only []; omega)⟩ ?_ (fun x hx => ?_)
   · refine Weak.pick [0, 1, 5, 4] (by decide) (fun j hj => by cases j <;> simp_all) ?_ ?_
     · simp [LeG, LeC, LeV, ren, pickF, posOf]
     · have hlk : (newPosts K).length = K.length := by simp [newPosts]
       have htk : (rows Post.cs (newPosts K)).take (K.length * 3) = rows Post.cs (newPosts K) := List.take_of_length_le (by rw [rows_len (w := 3) Post.csl, hlk]; exact Nat.le_refl _)
       simp [pickH, pickB, Cur.ren, ren, pickF, posOf, frzR, Watch.mc, newW, map_ren_rows, hlk, htk, rows_nil]
   obtain ⟨n, w, c3⟩ := x
   obtain ⟨x1, hwB, hc3⟩ := hx
   dsimp only at x1 hwB hc3
   simp -implicitDefEqProofs -dsimp only [go_sem]
   refine condT.split (fun h1 => ?_) (fun h1 => ?_)
   · have hn : 0 < n := by have := of_decide_eq_true h1; omega
     obtain ⟨wk, wp, ws⟩ := wB_wok hwB
     (repeat ((repeat1' (first | simp -implicitDefEqProofs -dsimp only [go_sem, h1, Watch.mc] | simp -dsimp (disch := omega) only [wrap_i64])); repeat (with_reducible refine sideA ?_)))
     refine clT.tree (fun s2 => (∃ (c4 : Cur), c4.le (k + 102 + 30 * (30 - (n : Int)) + 20) ∧ s2 = ⟨[.ptr 0 0, .undef, .ptr 1 0, .ptr 2 0, .undef, .int .i64 n, .undef, .bool false, .undef, .undef, .undef, .undef, .undef, .undef, .undef, .undef, .undef, .undef, .undef, .undef, .undef, .undef, .undef, .undef, .undef, .undef, .undef, .undef, .undef, .undef, .undef, .undef, .undef, .undef, .undef, .undef, .undef, .undef, .undef, .undef, .undef, .undef, .undef, .undef, .undef, .undef, .undef, .undef, .undef, .undef, .undef, .undef, .undef, .undef, .undef, .undef, .undef, .undef, .undef, .undef, .undef, .undef, .undef, .undef], [some (c4.cs B), some [.int .i64 0, .nilsl, .nilsl, .int .i64 0, .int .i64 0], some (w.mc 3), some (rows Shock.cs w.Shocks)], 1⟩) ∨ (∃ (w' : Watch) (c4 : Cur), wB w' = true ∧ c4.le (k + 102 + 30 * (30 - (n : Int)) + 20) ∧ s2 = ⟨[.ptr 0 0, .undef, .ptr 1 0, .ptr 2 0, .undef, .int .i64 n, .ptr 4 0, .bool true, .undef, .undef, .undef, .undef, .undef, .undef, .undef, .undef, .undef, .undef, .undef, .undef, .undef, .undef, .undef, .undef, .undef, .undef, .undef, .undef, .undef, .undef, .undef, .undef, .undef, .undef, .undef, .undef, .undef, .undef, .undef, .undef, .undef, .undef, .undef, .undef, .undef, .undef, .undef, .undef, .undef, .undef, .undef, .undef, .undef, .undef, .undef, .undef, .undef, .undef, .undef, .undef, .undef, .undef, .undef, .undef], [some (c4.cs B), some [.int .i64 0, .nilsl, .nilsl, .int .i64 0, .int .i64 0], some (w.mc 3), some (rows Shock.cs w.Shocks), some (w'.mc 5), some (rows Shock.cs w'.Shocks)], 1⟩)) (.take 1 (.alt 0 (.alt 2 (.alt 3 (.alt 4 (.take 5 (.take 6 (.take 7 (.alt 8 (.alt 9 (.alt 10 .done .stop) .stop) .stop)))) (.alt 8 (.alt 4 (.take 5 (.take 6 (.take 7 (.alt 9 (.alt 10 .done .stop) .stop)))) .stop) .stop)) (.alt 8 (.alt 3 (.alt 4 (.take 5 (.take 6 (.take 7 (.alt 9 (.alt 10 .done .stop) .stop)))) .stop) .stop) .stop)) (.alt 8 (.alt 2 (.alt 3 (.alt 4 (.take 5 (.take 6 (.take 7 (.alt 9 (.alt 10 .done .stop) .stop)))) .stop) .stop) .stop) .stop)) (.alt 2 (.alt 0 (.alt 3 (.alt 4 (.take 5 (.take 6 (.take 7 (.alt 8 (.alt 9 (.alt 10 .done .stop) .stop) .stop)))) (.alt 8 (.alt 4 (.take 5 (.take 6 (.take 7 (.alt 9 (.alt 10 .done .stop) .stop)))) .stop) .stop)) (.alt 8 (.alt 3 (.alt 4 (.take 5 (.take 6 (.take 7 (.alt 9 (.alt 10 .done .stop) .stop)))) .stop) .stop) .stop)) (.alt 3 (.alt 0 (.alt 4 (.take 5 (.take 6 (.take 7 (.alt 8 (.alt 9 (.alt 10 .done .stop) .stop) .stop)))) (.alt 8 (.alt 4 (.take 5 (.take 6 (.take 7 (.alt 9 (.alt 10 .done .stop) .stop)))) .stop) .stop)) (.alt 8 (.alt 0 (.alt 4 (.take 5 (.take 6 (.take 7 (.alt 9 (.alt 10 .done .stop) .stop)))) .stop) .stop) .stop)) (.alt 8 (.alt 0 (.alt 3 (.alt 4 (.take 5 (.take 6 (.take 7 (.alt 9 (.alt 10 .done .stop) .stop)))) .stop) .stop) (.alt 3 (.alt 0 (.alt 4 (.take 5 (.take 6 (.take 7 (.alt 9 (.alt 10 .done .stop) .stop)))) .stop) .stop) .stop)) .stop))) (.alt 8 (.alt 0 (.alt 2 (.alt 3 (.alt 4 (.take 5 (.take 6 (.take 7 (.alt 9 (.alt 10 .done .stop) .stop)))) .stop) .stop) .stop) (.alt 2 (.alt 0 (.alt 3 (.alt 4 (.take 5 (.take 6 (.take 7 (.alt 9 (.alt 10 .done .stop) .stop)))) .stop) .stop) (.alt 3 (.alt 0 (.alt 4 (.take 5 (.take 6 (.take 7 (.alt 9 (.alt 10 .done .stop) .stop)))) .stop) .stop) .stop)) .stop)) .stop)))) (by kernel_rfl) (fun s2 hs2 => ?_) ?_
     · have hn1 : ((n - 1 : Nat) : Int) = (n : Int) - 1 := by omega
       rcases hs2 with ⟨c4, hc4, rfl⟩ | ⟨w', c4, hwB', hc4, rfl⟩
       · (repeat ((repeat1' (first | simp -implicitDefEqProofs -dsimp only [go_sem, Watch.mc] | simp -dsimp (disch := omega) only [wrap_i64])); repeat (with_reducible refine sideA ?_)))
         refine ⟨(n - 1, w, c4), ⟨by simp only []; omega, hwB, lmono hc4 (by simp only []; omega)⟩, ?_, by simp only []; omega⟩
         refine Weak.cut (4) (by simp) (by simp) ?_ ?_
         · simp [LeC, LeV, ren, cutF, hn1]
         · simp [cutH, cutB, cutF, Cur.ren, ren, Watch.mc, map_ren_rows]
       · (repeat ((repeat1' (first | simp -implicitDefEqProofs -dsimp only [go_sem, Watch.mc] | simp -dsimp (disch := omega) only [wrap_i64])); repeat (with_reducible refine sideA ?_)))
         refine ⟨(n - 1, w', c4), ⟨by simp only []; omega, hwB', lmono hc4 (by simp only []; omega)⟩, ?_, by simp only []; omega⟩
         refine Weak.pick [0, 1, 2, 5] (by decide) (fun j hj => by cases j <;> simp_all) ?_ ?_
         · simp [LeG, LeC, LeV, ren, pickF, posOf, hn1]
         · simp [pickH, pickB, pickF, posOf, Cur.ren, ren, Watch.mc, map_ren_rows]
     · (repeat ((repeat1' (first | simp -implicitDefEqProofs -dsimp only [go_sem] | simp -dsimp (disch := omega) only [wrap_i64])); repeat (with_reducible refine sideA ?_)))
       repeat' (first | (refine callS.rel [0, 3] (watchStepM_ok hB (by omega) hc3 w wk (by omega) (by omega)) (by decide) ⟨leO, leO, trivial⟩ (lendCur2 rfl rfl) rfl (fun r hout hΦ => ?_); obtain ⟨s, c4, hs, hc4, rfl, rfl⟩ := hΦ; refine ⟨growCur2 B _ _, ?_⟩; have cs := sStepWatch_ok w s.Kind s.Number s.Value (by omega) (by omega) hs.2.2.2; rcases hst : stepW w s.Kind s.Number s.Value with _ | w' <;> rw [hst] at cs <;> simp only [stwR, stwH] at cs <;> (repeat ((repeat1' (first | simp -implicitDefEqProofs -dsimp only [go_sem, Cur.ren, WatchStep.v, map_ren_rows] | simp -dsimp (disch := omega) only [wrap_i64])); repeat (with_reducible refine sideA ?_)))) | ((first | refine callT.at (cs) ⟨(by first | exact leA | exact Watch.leM (r := w) (i := 3) rfl), (by first | exact leA | exact Watch.leM (r := w) (i := 3) rfl), trivial⟩ ?_ | refine callS.at (cs) ⟨(by first | exact leA | exact Watch.leM (r := w) (i := 3) rfl), (by first | exact leA | exact Watch.leM (r := w) (i := 3) rfl), trivial⟩ ?_); (repeat ((repeat1' (first | simp -implicitDefEqProofs -dsimp only [go_sem, Cur.ren, zeroW, Watch.o, map_ren_rows] | simp -dsimp (disch := omega) only [wrap_i64])); repeat (with_reducible refine sideA ?_)))) | (refine And.intro ?_ ?_) | exact trivial)
       all_goals first
         | (refine ⟨_, .inl ⟨c4, hc4, rfl⟩, ?_⟩
            refine Weak.cut 4 (by simp) (by simp) ?_ ?_
            · (simp [LeC, LeV, ren, cutF]; done)
            · (simp [cutH, cutB, cutF, Cur.ren, ren, Watch.mc, map_ren_rows]; done))
         | (refine ⟨_, .inr ⟨w', c4, stepW_B hst, hc4, rfl⟩, ?_⟩
            refine Weak.pick [0, 1, 2, 3, 4, 6] (by decide) (fun j hj => by cases j <;> simp_all) ?_ ?_
            · (simp [LeG, LeC, LeV, ren, pickF, posOf]; done)
            · (simp [pickH, pickB, pickF, posOf, frzR, Cur.ren, ren, Watch.mc, map_ren_rows, take_rows]; done))
         | (refine ⟨_, .inr ⟨w', c4, stepW_B hst, hc4, rfl⟩, ?_⟩
            refine Weak.pick [0, 1, 2, 3, 6, 5] (by decide) (fun j hj => by cases j <;> simp_all) ?_ ?_
            · (simp [LeG, LeC, LeV, ren, pickF, posOf]; done)
            · (simp [pickH, pickB, pickF, posOf, frzR, Cur.ren, ren, Watch.mc, map_ren_rows, take_rows]; done))
         | skip
   · obtain ⟨wk, wp, ws⟩ := wB_wok hwB
     obtain ⟨wk1, wk2, wk3, wk4, wk5⟩ := wk
     (repeat ((repeat1' (first | simp -implicitDefEqProofs -dsimp only [go_sem, h1, Watch.mc] | simp -dsimp (disch := omega) only [wrap_i64])); repeat (with_reducible refine sideA ?_)))
     refine pick_call hB hc3 (by omega) 32 (by omega) rfl (fun vc5 c5 pvc5 hc5 => ?_)
     (repeat ((repeat1' (first | simp -implicitDefEqProofs -dsimp only [go_sem, Cur.ren, map_ren_rows] | simp -dsimp (disch := omega) only [wrap_i64])); repeat (with_reducible refine sideA ?_)))
     refine condT.split (fun h3 => ?_) (fun h3 => ?_)
     · (repeat ((repeat1' (first | simp -implicitDefEqProofs -dsimp only [go_sem, h3] | simp -dsimp (disch := omega) only [wrap_i64])); repeat (with_reducible refine sideA ?_)))
       refine among_call hB hc5 (by omega) [-1, 0, 1000001] (by simp) (by simp) rfl rfl rfl (fun vc6 c6 pvc6 hc6 => ?_)
       (repeat ((repeat1' (first | simp -implicitDefEqProofs -dsimp only [go_sem, Cur.ren, map_ren_rows] | simp -dsimp (disch := omega) only [wrap_i64])); repeat (with_reducible refine sideA ?_)))
       have hv6 : i64R vc6 := i64R_mem pvc6 (by simp [i64R])
       refine watch_fin ⟨vc6, w.Posts, w.Shocks, w.Next, w.Archived⟩ rfl (.inl ?_) ⟨hv6, wk2, wk3, wk4, wk5⟩ (by simp only []; omega) (by simp only []; omega) (lmono hc6 (by omega))
       simp [ren, pickF, posOf, frzR, map_ren_rows, take_rows, Watch.v]
     · (repeat ((repeat1' (first | simp -implicitDefEqProofs -dsimp only [go_sem, h3] | simp -dsimp (disch := omega) only [wrap_i64])); repeat (with_reducible refine sideA ?_)))
       refine condT.split (fun h4 => ?_) (fun h4 => ?_)
       · (repeat ((repeat1' (first | simp -implicitDefEqProofs -dsimp only [go_sem, h4] | simp -dsimp (disch := omega) only [wrap_i64])); repeat (with_reducible refine sideA ?_)))
         refine among_call hB hc5 (by omega) [0, 1, 999, 1000] (by simp) (by simp) rfl rfl rfl (fun vc6 c6 pvc6 hc6 => ?_)
         (repeat ((repeat1' (first | simp -implicitDefEqProofs -dsimp only [go_sem, Cur.ren, map_ren_rows] | simp -dsimp (disch := omega) only [wrap_i64])); repeat (with_reducible refine sideA ?_)))
         have hv6 : i64R vc6 := i64R_mem pvc6 (by simp [i64R])
         refine watch_fin ⟨w.Now, w.Posts, w.Shocks, vc6, w.Archived⟩ rfl (.inl ?_) ⟨wk1, wk2, wk3, hv6, wk5⟩ (by simp only []; omega) (by simp only []; omega) (lmono hc6 (by omega))
         simp [ren, pickF, posOf, frzR, map_ren_rows, take_rows, Watch.v]
       · (repeat ((repeat1' (first | simp -implicitDefEqProofs -dsimp only [go_sem, h4] | simp -dsimp (disch := omega) only [wrap_i64])); repeat (with_reducible refine sideA ?_)))
         refine condT.split (fun h5 => ?_) (fun h5 => ?_)
         · (repeat ((repeat1' (first | simp -implicitDefEqProofs -dsimp only [go_sem, h5] | simp -dsimp (disch := omega) only [wrap_i64])); repeat (with_reducible refine sideA ?_)))
           have p6 := among_ok hB (hcb hc5 (by omega)) [0, 1] (by simp) (by simp)
           have hc6 := pickC_le (B := B) (n := (([0, 1] : List Int).length : Int)) hc5
           have m6 := amongV_mem hB (K := [0, 1]) (by simp) hc5.1
           generalize amongV B [0, 1] c5 = v6 at p6 m6
           generalize pickC B (([0, 1] : List Int).length : Int) c5 = c6 at p6 hc6
           have p7 := pick_ok hB (hcb hc6 (by omega)) 5 (by omega)
           have hc7 := pickC_le (B := B) (n := 5) hc6
           have m7 := pickV_bd hB (n := 5) hc6.1
           generalize pickV B 5 c6 = v7 at p7 m7
           generalize pickC B 5 c6 = c7 at p7 hc7
           have p8 := among_ok hB (hcb hc7 (by omega)) [0, 9] (by simp) (by simp)
           have hc8 := pickC_le (B := B) (n := (([0, 9] : List Int).length : Int)) hc7
           have m8 := amongV_mem hB (K := [0, 9]) (by simp) hc7.1
           generalize amongV B [0, 9] c7 = v8 at p8 m8
           generalize pickC B (([0, 9] : List Int).length : Int) c7 = c8 at p8 hc8
           have p9 := among_ok hB (hcb hc8 (by omega)) [0, 96] (by simp) (by simp)
           have hc9 := pickC_le (B := B) (n := (([0, 96] : List Int).length : Int)) hc8
           have m9 := amongV_mem hB (K := [0, 96]) (by simp) hc8.1
           generalize amongV B [0, 96] c8 = v9 at p9 m9
           generalize pickC B (([0, 96] : List Int).length : Int) c8 = c9 at p9 hc9
           have hx : Shock.ok ⟨v6, v7, v8, v9, 0⟩ := ⟨i64R_mem m6 (by simp [i64R]), (show i64R v7 from ⟨by omega, by omega⟩), i64R_mem m8 (by simp [i64R]), i64R_mem m9 (by simp [i64R]), by simp [i64R]⟩
           have hsn : rows Shock.cs w.Shocks ++ [.int .i64 v6, .int .i64 v7, .int .i64 v8, .int .i64 v9, .int .i64 0] = rows Shock.cs (w.Shocks ++ [⟨v6, v7, v8, v9, 0⟩]) := rows_snoc (cs := Shock.cs) w.Shocks ⟨v6, v7, v8, v9, 0⟩
           refine clT.graph [(262143, []), (131071, [17]), (65535, [16]), (32767, [15]), (32765, [1]), (16383, [14]), (16381, [1, 14]), (8191, [13]), (8189, [1, 13]), (4095, [12]), (4093, [1, 12]), (3583, [9]), (3581, [1, 9]), (3519, [6]), (3517, [1, 6]), (3503, [4]), (3501, [1, 4]), (3495, [3]), (3493, [1, 3]), (3327, [8]), (3325, [1, 8]), (3263, [6, 8]), (3261, [1, 6, 8]), (3247, [4, 8]), (3245, [1, 4, 8]), (3239, [3, 8]), (3237, [1, 3, 8]), (2047, [11]), (2045, [1, 11]), (1535, [9, 11]), (1533, [1, 9, 11]), (1471, [6, 11]), (1469, [1, 6, 11]), (1455, [4, 11]), (1453, [1, 4, 11]), (1447, [3, 11]), (1445, [1, 3, 11]), (1279, [8, 11]), (1277, [1, 8, 11]), (1215, [6, 8, 11]), (1213, [1, 6, 8, 11]), (1199, [4, 8, 11]), (1197, [1, 4, 8, 11]), (1191, [3, 8, 11]), (1189, [1, 3, 8, 11]), (165, [10]), (37, [7]), (5, [5]), (1, [2]), (0, [0])] (gA _ (tabM B w c5 c6 c7 c8 c9 v6 v7 v8 v9)) (by kernel_rfl) rfl ?_
           refine ⟨fun s hs => ?_, fun s hs => ?_, fun s hs => ?_, fun s hs => ?_, fun s hs => ?_, fun s hs => ?_, fun s hs => ?_, fun s hs => ?_, fun s hs => ?_, fun s hs => ?_, fun s hs => ?_, fun s hs => ?_, fun s hs => ?_, fun s hs => ?_, fun s hs => ?_, fun s hs => ?_, fun s hs => ?_, fun s hs => ?_, fun s hs => ?_, fun s hs => ?_, fun s hs => ?_, fun s hs => ?_, fun s hs => ?_, fun s hs => ?_, fun s hs => ?_, fun s hs => ?_, fun s hs => ?_, fun s hs => ?_, fun s hs => ?_, fun s hs => ?_, fun s hs => ?_, fun s hs => ?_, fun s hs => ?_, fun s hs => ?_, fun s hs => ?_, fun s hs => ?_, fun s hs => ?_, fun s hs => ?_, fun s hs => ?_, fun s hs => ?_, fun s hs => ?_, fun s hs => ?_, fun s hs => ?_, fun s hs => ?_, fun s hs => ?_, fun s hs => ?_, fun s hs => ?_, fun s hs => ?_, fun s hs => ?_, fun s hs => ?_, trivial⟩
           · obtain rfl := Option.some.inj (show some _ = some s from hs)
             (repeat ((repeat1' (first | simp -implicitDefEqProofs -dsimp only [go_sem, take_rows] | simp -dsimp (disch := omega) only [wrap_i64])); repeat (with_reducible refine sideA ?_)))
             refine watch_fin ⟨w.Now, w.Posts, w.Shocks ++ [⟨v6, v7, v8, v9, 0⟩], w.Next, w.Archived⟩ rfl (.inl ?_) ⟨wk1, wk2, ⟨by simp only [List.length_append, List.length_cons, List.length_nil]; omega, fun y hy => ?_⟩, wk4, wk5⟩ (by simp only []; omega) (by simp only [List.length_append, List.length_cons, List.length_nil]; omega) (lmono hc9 (by omega))
             · exact watch_sn w ⟨v6, v7, v8, v9, 0⟩ rfl
             · rcases List.mem_append.1 hy with h | h
               · exact wk3.2 y h
               · rw [List.mem_singleton.1 h]; exact hx
           all_goals (obtain rfl := Option.some.inj (show some _ = some s from hs))
           all_goals (repeat' (first | exact trivial | refine nextA_cons rfl ?_ ?_))
           all_goals (repeat ((repeat1' (first | simp -implicitDefEqProofs -dsimp only [go_sem, Watch.mc, hsn, take_rows] | simp -dsimp (disch := omega) only [wrap_i64])); repeat (with_reducible refine sideA ?_)))
           all_goals (try ((first | refine callS.lend [0, 4] false p9 (by decide) ⟨leO, leO, trivial⟩ (lendCur2 rfl rfl) (growCur2 B _ _) (.inl rfl) ?_ | refine callS.lend [0, 4] false p8 (by decide) ⟨leO, leO, trivial⟩ (lendCur2 rfl rfl) (growCur2 B _ _) (.inl rfl) ?_ | refine callS.lend [0] false p7 (by decide) ⟨leO, leO, trivial⟩ (lendCur rfl) (growCur B _ _) (.inl rfl) ?_ | refine callS.lend [0, 4] false p6 (by decide) ⟨leO, leO, trivial⟩ (lendCur2 rfl rfl) (growCur2 B _ _) (.inl rfl) ?_); (repeat ((repeat1' (first | simp -implicitDefEqProofs -dsimp only [go_sem, Cur.ren, map_ren_rows, Watch.mc, hsn, take_rows] | simp -dsimp (disch := omega) only [wrap_i64])); repeat (with_reducible refine sideA ?_)))))
           refine ⟨_, rfl, Weak.pk [0, 1, 2, 3] ?_ ?_⟩
           rotate_left 2
           refine ⟨_, rfl, Weak.pk [0, 1, 2, 3] ?_ ?_⟩
           rotate_left 2
           refine ⟨_, rfl, Weak.pk [0, 1, 2, 3] ?_ ?_⟩
           rotate_left 2
           refine ⟨_, rfl, Weak.pk [0, 1, 2, 3, 4] ?_ ?_⟩
           rotate_left 2
           refine ⟨_, rfl, Weak.pk [0, 1, 2, 3, 4] ?_ ?_⟩
           rotate_left 2
           refine ⟨_, rfl, Weak.pk [0, 1, 2, 3] ?_ ?_⟩
           rotate_left 2
           refine ⟨_, rfl, Weak.pk [0, 1, 2, 3, 4] ?_ ?_⟩
           rotate_left 2
           refine ⟨_, rfl, Weak.pk [0, 1, 2, 3] ?_ ?_⟩
           rotate_left 2
           refine ⟨_, rfl, Weak.pk [0, 1, 2, 3] ?_ ?_⟩
           rotate_left 2
           refine ⟨_, rfl, Weak.pk [0, 1, 2, 3] ?_ ?_⟩
           rotate_left 2
           refine ⟨_, rfl, Weak.pk [0, 1, 2, 3] ?_ ?_⟩
           rotate_left 2
           refine ⟨_, rfl, Weak.pk [0, 1, 2, 3, 4] ?_ ?_⟩
           rotate_left 2
           refine ⟨_, rfl, Weak.pk [0, 1, 2, 3] ?_ ?_⟩
           rotate_left 2
           refine ⟨_, rfl, Weak.pk [0, 1, 2, 3, 5] ?_ ?_⟩
           rotate_left 2
           refine ⟨_, rfl, Weak.pk [0, 1, 2, 3, 4, 5] ?_ ?_⟩
           rotate_left 2
           refine ⟨_, rfl, Weak.pk [0, 1, 2, 3, 5] ?_ ?_⟩
           rotate_left 2
           refine ⟨_, rfl, Weak.pk [0, 1, 2, 3, 4, 5] ?_ ?_⟩
           rotate_left 2
           refine ⟨_, rfl, Weak.pk [0, 1, 2, 3, 4, 5] ?_ ?_⟩
           rotate_left 2
           refine ⟨_, rfl, Weak.pk [0, 1, 2, 3, 4, 5] ?_ ?_⟩
           rotate_left 2
           refine ⟨_, rfl, Weak.pk [0, 1, 2, 3, 5, 6] ?_ ?_⟩
           rotate_left 2
           refine ⟨_, rfl, Weak.pk [0, 1, 2, 3, 4, 5, 6] ?_ ?_⟩
           rotate_left 2
           refine ⟨_, rfl, Weak.pk [0, 1, 2, 3, 5, 6] ?_ ?_⟩
           rotate_left 2
           refine ⟨_, rfl, Weak.pk [0, 1, 2, 3, 6, 4, 5] ?_ ?_⟩
           rotate_left 2
           refine ⟨_, rfl, Weak.pk [0, 1, 2, 3, 4, 5] ?_ ?_⟩
           rotate_left 2
           refine ⟨_, rfl, Weak.pk [0, 1, 2, 3, 6, 4, 5] ?_ ?_⟩
           rotate_left 2
           refine ⟨_, rfl, Weak.pk [0, 1, 2, 3, 5, 4] ?_ ?_⟩
           rotate_left 2
           refine ⟨_, rfl, Weak.pk [0, 1, 2, 3, 4] ?_ ?_⟩
           rotate_left 2
           refine ⟨_, rfl, Weak.pk [0, 1, 2, 3, 5, 4] ?_ ?_⟩
           rotate_left 2
           refine ⟨_, rfl, Weak.pk [0, 1, 2, 3, 4] ?_ ?_⟩
           rotate_left 2
           refine ⟨_, rfl, Weak.pk [0, 1, 2, 3, 5, 4] ?_ ?_⟩
           rotate_left 2
           refine ⟨_, rfl, Weak.pk [0, 1, 2, 3, 4] ?_ ?_⟩
           rotate_left 2
           refine ⟨_, rfl, Weak.pk [0, 1, 2, 3, 4] ?_ ?_⟩
           rotate_left 2
           refine ⟨_, rfl, Weak.pk [0, 1, 2, 3, 5, 4] ?_ ?_⟩
           rotate_left 2
           refine ⟨_, rfl, Weak.pk [0, 1, 2, 3, 5] ?_ ?_⟩
           rotate_left 2
           refine ⟨_, rfl, Weak.pk [0, 1, 2, 3, 4, 6, 5] ?_ ?_⟩
           rotate_left 2
           refine ⟨_, rfl, Weak.pk [0, 1, 2, 3, 4, 5] ?_ ?_⟩
           rotate_left 2
           refine ⟨_, rfl, Weak.pk [0, 1, 2, 3, 5] ?_ ?_⟩
           rotate_left 2
           refine ⟨_, rfl, Weak.pk [0, 1, 2, 3, 4, 6, 5] ?_ ?_⟩
           rotate_left 2
           refine ⟨_, rfl, Weak.pk [0, 1, 2, 3, 5, 4] ?_ ?_⟩
           rotate_left 2
           refine ⟨_, rfl, Weak.pk [0, 1, 2, 3, 5, 4] ?_ ?_⟩
           rotate_left 2
           refine ⟨_, rfl, Weak.pk [0, 1, 2, 3, 4] ?_ ?_⟩
           rotate_left 2
           refine ⟨_, rfl, Weak.pk [0, 1, 2, 3, 5, 4] ?_ ?_⟩
           rotate_left 2
           refine ⟨_, rfl, Weak.pk [0, 1, 2, 3, 5, 4] ?_ ?_⟩
           rotate_left 2
           refine ⟨_, rfl, Weak.pk [0, 1, 2, 3, 4] ?_ ?_⟩
           rotate_left 2
           refine ⟨_, rfl, Weak.pk [0, 1, 2, 3] ?_ ?_⟩
           rotate_left 2
           refine ⟨_, rfl, Weak.pk [0, 1, 2, 3, 4] ?_ ?_⟩
           rotate_left 2
           refine ⟨_, rfl, Weak.pk [0, 1, 2, 3] ?_ ?_⟩
           rotate_left 2
           refine ⟨_, rfl, Weak.pk [0, 1, 2, 3, 4, 5] ?_ ?_⟩
           rotate_left 2
           refine ⟨_, rfl, Weak.pk [0, 1, 2, 3, 4] ?_ ?_⟩
           rotate_left 2
           refine ⟨_, rfl, Weak.pk [0, 1, 2, 3] ?_ ?_⟩
           rotate_left 2
           refine ⟨_, rfl, Weak.pk [0, 1, 2, 3, 4, 5] ?_ ?_⟩
           rotate_left 2
           refine ⟨_, rfl, Weak.pk [0, 1, 2, 3, 4] ?_ ?_⟩
           rotate_left 2
           refine ⟨_, rfl, Weak.pk [0, 1, 2, 3, 4, 5] ?_ ?_⟩
           rotate_left 2
           refine ⟨_, rfl, Weak.pk [0, 1, 2, 3, 4] ?_ ?_⟩
           rotate_left 2
           refine ⟨_, rfl, Weak.pk [0, 1, 2, 3, 4] ?_ ?_⟩
           rotate_left 2
           refine ⟨_, rfl, Weak.pk [0, 1, 2, 3, 4, 5] ?_ ?_⟩
           rotate_left 2
           refine ⟨_, rfl, Weak.pk [0, 1, 2, 3, 5] ?_ ?_⟩
           rotate_left 2
           refine ⟨_, rfl, Weak.pk [0, 1, 2, 3, 4, 5, 6] ?_ ?_⟩
           rotate_left 2
           refine ⟨_, rfl, Weak.pk [0, 1, 2, 3, 4, 5] ?_ ?_⟩
           rotate_left 2
           refine ⟨_, rfl, Weak.pk [0, 1, 2, 3, 5] ?_ ?_⟩
           rotate_left 2
           refine ⟨_, rfl, Weak.pk [0, 1, 2, 3, 4, 5, 6] ?_ ?_⟩
           rotate_left 2
           refine ⟨_, rfl, Weak.pk [0, 1, 2, 3, 5, 4] ?_ ?_⟩
           rotate_left 2
           refine ⟨_, rfl, Weak.pk [0, 1, 2, 3, 4, 5] ?_ ?_⟩
           rotate_left 2
           refine ⟨_, rfl, Weak.pk [0, 1, 2, 3, 4] ?_ ?_⟩
           rotate_left 2
           refine ⟨_, rfl, Weak.pk [0, 1, 2, 3, 5, 4] ?_ ?_⟩
           rotate_left 2
           refine ⟨_, rfl, Weak.pk [0, 1, 2, 3, 4, 5] ?_ ?_⟩
           rotate_left 2
           refine ⟨_, rfl, Weak.pk [0, 1, 2, 3, 4] ?_ ?_⟩
           rotate_left 2
           refine ⟨_, rfl, Weak.pk [0, 1, 2, 3, 4] ?_ ?_⟩
           rotate_left 2
           refine ⟨_, rfl, Weak.pk [0, 1, 2, 3] ?_ ?_⟩
           rotate_left 2
           refine ⟨_, rfl, Weak.pk [0, 1, 2, 3, 4] ?_ ?_⟩
           rotate_left 2
           refine ⟨_, rfl, Weak.pk [0, 1, 2, 3, 4] ?_ ?_⟩
           rotate_left 2
           refine ⟨_, rfl, Weak.pk [0, 1, 2, 3] ?_ ?_⟩
           rotate_left 2
           refine ⟨_, rfl, Weak.pk [0, 1, 2, 3, 4] ?_ ?_⟩
           rotate_left 2
           refine ⟨_, rfl, Weak.pk [0, 1, 2, 3, 4] ?_ ?_⟩
           rotate_left 2
           refine ⟨_, rfl, Weak.pk [0, 1, 2, 3] ?_ ?_⟩
           rotate_left 2
           refine ⟨_, rfl, Weak.pk [0, 1, 2, 3] ?_ ?_⟩
           rotate_left 2
           refine ⟨_, rfl, Weak.pk [0, 1, 2, 3, 4] ?_ ?_⟩
           rotate_left 2
           refine ⟨_, rfl, Weak.pk [0, 1, 2, 3, 4] ?_ ?_⟩
           rotate_left 2
           refine ⟨_, rfl, Weak.pk [0, 1, 2, 3] ?_ ?_⟩
           rotate_left 2
           refine ⟨_, rfl, Weak.pk [0, 1, 2, 3, 4, 5] ?_ ?_⟩
           rotate_left 2
           refine ⟨_, rfl, Weak.pk [0, 1, 2, 3, 4, 5] ?_ ?_⟩
           rotate_left 2
           refine ⟨_, rfl, Weak.pk [0, 1, 2, 3, 4] ?_ ?_⟩
           rotate_left 2
           refine ⟨_, rfl, Weak.pk [0, 1, 2, 3] ?_ ?_⟩
           rotate_left 2
           refine ⟨_, rfl, Weak.pk [0, 1, 2, 3, 4, 5] ?_ ?_⟩
           rotate_left 2
           refine ⟨_, rfl, Weak.pk [0, 1, 2, 3, 4, 5] ?_ ?_⟩
           rotate_left 2
           refine ⟨_, rfl, Weak.pk [0, 1, 2, 3, 4] ?_ ?_⟩
           rotate_left 2
           refine ⟨_, rfl, Weak.pk [0, 1, 2, 3, 4] ?_ ?_⟩
           rotate_left 2
           refine ⟨_, rfl, Weak.pk [0, 1, 2, 3, 4] ?_ ?_⟩
           rotate_left 2
           refine ⟨_, rfl, Weak.pk [0, 1, 2, 3] ?_ ?_⟩
           rotate_left 2
           refine ⟨_, rfl, Weak.pk [0, 1, 2, 3, 4] ?_ ?_⟩
           rotate_left 2
           refine ⟨_, rfl, Weak.pk [0, 1, 2, 3, 4] ?_ ?_⟩
           rotate_left 2
           refine ⟨_, rfl, Weak.pk [0, 1, 2, 3, 4] ?_ ?_⟩
           rotate_left 2
           refine ⟨_, rfl, Weak.pk [0, 1, 2, 3] ?_ ?_⟩
           rotate_left 2
           refine ⟨_, rfl, Weak.pk [0, 1, 2, 3] ?_ ?_⟩
           rotate_left 2
           refine ⟨_, rfl, Weak.pk [0, 1, 2, 3] ?_ ?_⟩
           rotate_left 2
           refine ⟨_, rfl, Weak.pk [0, 1, 2, 3] ?_ ?_⟩
           rotate_left 2
           refine ⟨_, rfl, Weak.pk [0, 1, 2, 3] ?_ ?_⟩
           rotate_left 2
           all_goals (first | rfl | (simp [LeG, LeC, LeV, ren, pickF, posOf, Watch.mc, hsn, take_rows]; done) | (simp [pickH, pickB, pickF, posOf, Cur.ren, ren, map_ren_rows, rows, IntS.cs, Watch.mc, hsn, take_rows]; done) | (simp [pickH, pickB, pickF, posOf, Cur.ren, ren, map_ren_rows, Watch.mc, hsn, take_rows]; done) | (simp [pickH, pickB, pickF, posOf, Cur.ren, ren, map_ren_rows, Watch.mc, hsn, take_rows] <;> rfl))
         · (repeat ((repeat1' (first | simp -implicitDefEqProofs -dsimp only [go_sem, h5] | simp -dsimp (disch := omega) only [wrap_i64])); repeat (with_reducible refine sideA ?_)))
           refine watch_fin w rfl (.inl ?_) ⟨wk1, wk2, wk3, wk4, wk5⟩ (by omega) (by omega) (lmono hc5 (by omega))
           simp [ren, pickF, posOf, frzR, map_ren_rows, take_rows, Watch.v]
end Go.Proofs
end
section
set_option maxRecDepth 100000
set_option maxHeartbeats 2000000
namespace Go.Proofs
open Go.Lv
theorem curq_le {k : Int} (h : 0 ≤ k) : (Cur.mk 0 0).le k := ⟨by simp, by simpa using h⟩
end Go.Proofs
end
