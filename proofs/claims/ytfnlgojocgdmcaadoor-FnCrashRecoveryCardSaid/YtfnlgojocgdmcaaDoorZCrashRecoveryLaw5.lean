/-
  A part of the proof: texts put together by a program of the prover. Conditions: none.
-/
import Derived.Test.YtfnlgojocgdmcaaDoorZCrashRecoveryLaw4
import Derived.Shelf.Small.Utf8
import Derived.Shelf.Small.Strs
import Derived.Shelf.Strconv.Itoa0
import Derived.Shelf.Strconv.Itoa1
import Derived.Shelf.LaysM
import Derived.Shelf.Strconv.Itoa2
import Derived.Shelf.Strconv.Itoa3
import Derived.Shelf.Strings.Search1
import Derived.Shelf.Strings.Search2
import Derived.Shelf.Strings.Search3
import Derived.Shelf.Strings.Cut
import Derived.Shelf.Strings.Shaped
import Derived.Shelf.Strings.Runes
import Derived.Shelf.Strings.IndexAny
import Derived.Shelf.Strings.AsciiSet
import Derived.Shelf.Strings.IndexAnyAll
import Derived.Test.YtfnlgojocgdmcaaDoorProg
import Derived.Lib.ItoaNum
import Derived.Lib.ItoaLen
set_option linter.unusedSimpArgs false
set_option linter.unusedVariables false
section
namespace Go.Proofs
open Go.Shelf
open Go.RowKit in
open Go.Lib in
open Go.Lib in
open Go.Lib in
open Go.Lib in
open Go.RowKit Go.Sort Go.Lib in
open Go.RowKit Go.Sort Go.Lib in
open Go.RowKit Go.Sort Go.Lib in
open Go.RowKit Go.Sort Go.Lib in
open Go.RowKit Go.Sort Go.Lib in
def Tryd.laysM171_ren : Go.Shelf.Ren := ⟨fun | 171 => 44 | 243 => 70 | 246 => 97 | 283 => 111 | 284 => 112 | 285 => 113 | 286 => 114 | 129 => 123 | 317 => 122 | 318 => 124 | 319 => 125 | 320 => 126 | 337 => 129 | 338 => 130 | n => n, fun | 3 => 3 | 9 => 9 | 2 => 2 | 4 => 4 | 171 => 147 | 0 => 0 | 53 => 72 | 37 => 30 | 5 => 5 | 173 => 150 | 212 => 156 | 51 => 157 | 20 => 20 | 213 => 158 | 46 => 131 | 232 => 163 | 233 => 164 | n => n, fun | 17 => 1 | 18 => 2 | 19 => 3 | n => n⟩
theorem Tryd.laysM171 : Go.Proofs.LaysM.n171 Tryd.prog Tryd.laysM171_ren := {
  mixed := by kernel_rfl
  f129 := Tryd.func123.trans (congrArg some (by kernel_rfl))
  f171 := Tryd.func44.trans (congrArg some (by kernel_rfl))
  f243 := Tryd.func70.trans (congrArg some (by kernel_rfl))
  f246 := Tryd.func97.trans (congrArg some (by kernel_rfl))
  f283 := Tryd.func111.trans (congrArg some (by kernel_rfl))
  f284 := Tryd.func112.trans (congrArg some (by kernel_rfl))
  f285 := Tryd.func113.trans (congrArg some (by kernel_rfl))
  f286 := Tryd.func114.trans (congrArg some (by kernel_rfl))
  f317 := Tryd.func122.trans (congrArg some (by kernel_rfl))
  f318 := Tryd.func124.trans (congrArg some (by kernel_rfl))
  f319 := Tryd.func125.trans (congrArg some (by kernel_rfl))
  f320 := Tryd.func126.trans (congrArg some (by kernel_rfl))
  f337 := Tryd.func129.trans (congrArg some (by kernel_rfl))
  f338 := Tryd.func130.trans (congrArg some (by kernel_rfl))
  t0 := Tryd.underlying0
  a0 := Tryd.isAgg0
  z0 := Tryd.sizeOf0
  v0 := Tryd.zeroValue0
  t2 := Tryd.underlying2
  a2 := Tryd.isAgg2
  z2 := Tryd.sizeOf2
  v2 := Tryd.zeroValue2
  t3 := Tryd.underlying3
  a3 := Tryd.isAgg3
  z3 := Tryd.sizeOf3
  v3 := Tryd.zeroValue3
  t4 := Tryd.underlying4
  a4 := Tryd.isAgg4
  z4 := Tryd.sizeOf4
  v4 := Tryd.zeroValue4
  t5 := Tryd.underlying5
  a5 := Tryd.isAgg5
  z5 := Tryd.sizeOf5
  v5 := Tryd.zeroValue5
  t9 := Tryd.underlying9
  a9 := Tryd.isAgg9
  z9 := Tryd.sizeOf9
  v9 := Tryd.zeroValue9
  t20 := Tryd.underlying20
  a20 := Tryd.isAgg20
  z20 := Tryd.sizeOf20
  v20 := Tryd.zeroValue20
  t37 := Tryd.underlying30
  a37 := Tryd.isAgg30
  z37 := Tryd.sizeOf30
  v37 := Tryd.zeroValue30
  t46 := Tryd.underlying131
  a46 := Tryd.isAgg131
  z46 := Tryd.sizeOf131
  v46 := Tryd.zeroValue131
  t51 := Tryd.underlying157
  a51 := Tryd.isAgg157
  z51 := Tryd.sizeOf157
  v51 := Tryd.zeroValue157
  t53 := Tryd.underlying72
  a53 := Tryd.isAgg72
  z53 := Tryd.sizeOf72
  v53 := Tryd.zeroValue72
  t171 := Tryd.underlying147
  a171 := Tryd.isAgg147
  z171 := Tryd.sizeOf147
  v171 := Tryd.zeroValue147
  t173 := Tryd.underlying150
  a173 := Tryd.isAgg150
  z173 := Tryd.sizeOf150
  v173 := Tryd.zeroValue150
  t212 := Tryd.underlying156
  a212 := Tryd.isAgg156
  z212 := Tryd.sizeOf156
  v212 := Tryd.zeroValue156
  t213 := Tryd.underlying158
  a213 := Tryd.isAgg158
  z213 := Tryd.sizeOf158
  t232 := Tryd.underlying163
  a232 := Tryd.isAgg163
  z232 := Tryd.sizeOf163
  v232 := Tryd.zeroValue163
  t233 := Tryd.underlying164
  a233 := Tryd.isAgg164
  z233 := Tryd.sizeOf164
  v233 := Tryd.zeroValue164
  g17 := by kernel_rfl
  g18 := by kernel_rfl
  g19 := by kernel_rfl
  i0 := by kernel_rfl
  i2 := by kernel_rfl
  i3 := by kernel_rfl
  i4 := by kernel_rfl
  i5 := by kernel_rfl
  i9 := by kernel_rfl
  i20 := by kernel_rfl
  i37 := by kernel_rfl
  i46 := by kernel_rfl
  i51 := by kernel_rfl
  i53 := by kernel_rfl
  i171 := by kernel_rfl
  i173 := by kernel_rfl
  i212 := by kernel_rfl
  i232 := by kernel_rfl
  i233 := by kernel_rfl
  m17 := by kernel_rfl
  m18 := by kernel_rfl
  m19 := by kernel_rfl }
open Go.RowKit Go.Sort Go.Lib in
theorem Tryd.strconv_Itoa (n : Int) (h0 : -9223372036854775808 ≤ n) (h1 : n ≤ 9223372036854775807) (w : World) (htab : Lib.TabIs Tryd.prog w "internal/strconv.uint64pow10" .u64 Lib.pow10Tab) :
    Calls Tryd.prog 44 #[.int .i64 n] w fun e w' => e = .returned (.string ⟨(Lib.itoa n).toArray⟩) ∧ ∃ k os, w' = grow (w.drewN k) os := Any.strconv_Itoa Tryd.laysM171 n h0 h1 w htab
open Go.RowKit Go.Sort Go.Lib in
open Go.RowKit Go.Lib in
open Go.RowKit Go.Lib in
open Go.RowKit Go.Lib in
open Go.RowKit Go.Lib in
def Tryd.lays219_ren : Go.Shelf.Ren := ⟨fun | 219 => 104 | 217 => 120 | 225 => 119 | 224 => 118 | 267 => 121 | 266 => 127 | 314 => 128 | n => n, fun | 9 => 9 | 3 => 3 | 4 => 4 | 5 => 5 | 46 => 131 | 146 => 160 | 51 => 157 | n => n, fun | 1 => 0 | n => n⟩
theorem Tryd.lays219 : Go.Proofs.Lays.n219 Tryd.prog Tryd.lays219_ren := {
  mixed := by kernel_rfl
  f217 := Tryd.func120.trans (congrArg some (by kernel_rfl))
  f219 := Tryd.func104.trans (congrArg some (by kernel_rfl))
  f224 := Tryd.func118.trans (congrArg some (by kernel_rfl))
  f225 := Tryd.func119.trans (congrArg some (by kernel_rfl))
  f266 := Tryd.func127.trans (congrArg some (by kernel_rfl))
  f267 := Tryd.func121.trans (congrArg some (by kernel_rfl))
  f314 := Tryd.func128.trans (congrArg some (by kernel_rfl))
  t3 := Tryd.underlying3
  a3 := Tryd.isAgg3
  z3 := Tryd.sizeOf3
  v3 := Tryd.zeroValue3
  t4 := Tryd.underlying4
  a4 := Tryd.isAgg4
  z4 := Tryd.sizeOf4
  v4 := Tryd.zeroValue4
  t5 := Tryd.underlying5
  a5 := Tryd.isAgg5
  z5 := Tryd.sizeOf5
  v5 := Tryd.zeroValue5
  t9 := Tryd.underlying9
  a9 := Tryd.isAgg9
  z9 := Tryd.sizeOf9
  v9 := Tryd.zeroValue9
  t46 := Tryd.underlying131
  a46 := Tryd.isAgg131
  z46 := Tryd.sizeOf131
  v46 := Tryd.zeroValue131
  t51 := Tryd.underlying157
  a51 := Tryd.isAgg157
  z51 := Tryd.sizeOf157
  v51 := Tryd.zeroValue157
  t146 := Tryd.underlying160
  a146 := Tryd.isAgg160
  z146 := Tryd.sizeOf160
  v146 := Tryd.zeroValue160
  g1 := by kernel_rfl }
open Go.RowKit Go.Lib in
theorem Tryd.stringslite_Index_one (s : ByteArray) (c : UInt8) (w : World) :
    Calls Tryd.prog 104 #[.string s, .string ⟨#[c]⟩] w fun e w' => e = .returned (.int .i64 (Lib.indexByte s.data.toList c)) ∧ w' = w := Any.stringslite_Index_one Tryd.lays219 s c w
open Go.RowKit Go.Lib in
open Go.RowKit Go.Lib in
open Go.RowKit Go.Lib in
def Tryd.lays144_ren : Go.Shelf.Ren := ⟨fun | 144 => 57 | 143 => 80 | 219 => 104 | 217 => 120 | 225 => 119 | 224 => 118 | 267 => 121 | 266 => 127 | 314 => 128 | n => n, fun | 9 => 9 | 4 => 4 | 3 => 3 | 5 => 5 | 46 => 131 | 146 => 160 | 51 => 157 | n => n, fun | 1 => 0 | n => n⟩
theorem Tryd.lays144 : Go.Proofs.Lays.n144 Tryd.prog Tryd.lays144_ren := {
  mixed := by kernel_rfl
  f143 := Tryd.func80.trans (congrArg some (by kernel_rfl))
  f144 := Tryd.func57.trans (congrArg some (by kernel_rfl))
  f217 := Tryd.func120.trans (congrArg some (by kernel_rfl))
  f219 := Tryd.func104.trans (congrArg some (by kernel_rfl))
  f224 := Tryd.func118.trans (congrArg some (by kernel_rfl))
  f225 := Tryd.func119.trans (congrArg some (by kernel_rfl))
  f266 := Tryd.func127.trans (congrArg some (by kernel_rfl))
  f267 := Tryd.func121.trans (congrArg some (by kernel_rfl))
  f314 := Tryd.func128.trans (congrArg some (by kernel_rfl))
  t3 := Tryd.underlying3
  a3 := Tryd.isAgg3
  z3 := Tryd.sizeOf3
  v3 := Tryd.zeroValue3
  t4 := Tryd.underlying4
  a4 := Tryd.isAgg4
  z4 := Tryd.sizeOf4
  v4 := Tryd.zeroValue4
  t5 := Tryd.underlying5
  a5 := Tryd.isAgg5
  z5 := Tryd.sizeOf5
  v5 := Tryd.zeroValue5
  t9 := Tryd.underlying9
  a9 := Tryd.isAgg9
  z9 := Tryd.sizeOf9
  v9 := Tryd.zeroValue9
  t46 := Tryd.underlying131
  a46 := Tryd.isAgg131
  z46 := Tryd.sizeOf131
  v46 := Tryd.zeroValue131
  t51 := Tryd.underlying157
  a51 := Tryd.isAgg157
  z51 := Tryd.sizeOf157
  v51 := Tryd.zeroValue157
  t146 := Tryd.underlying160
  a146 := Tryd.isAgg160
  z146 := Tryd.sizeOf160
  v146 := Tryd.zeroValue160
  g1 := by kernel_rfl }
open Go.RowKit Go.Lib in
theorem Tryd.strings_Contains_one (s : ByteArray) (c : UInt8) (w : World) :
    Calls Tryd.prog 57 #[.string s, .string ⟨#[c]⟩] w fun e w' => e = .returned (.bool (decide (0 ≤ Lib.indexByte s.data.toList c))) ∧ w' = w := Any.strings_Contains_one Tryd.lays144 s c w
open Go.RowKit Go.Lib in
open Go.RowKit Go.Lib in
open Go.RowKit Go.Lib in
open Go.RowKit Go.Lib in
open Go.RowKit Go.Lib in
open Go.RowKit Go.Lib in
open Go.RowKit Go.Lib in
open Go.RowKit Go.Lib in
open Go.RowKit Go.Lib in
open Go.RowKit Go.Lib in
open Go.RowKit Go.Lib in
open Go.RowKit Go.Lib in
open Go.RowKit Go.Lib in
open Go.RowKit Go.Lib in
open Go.RowKit Go.Lib in
open Go.RowKit Go.Lib in
open Go.RowKit Go.Lib in
def Tryd.lays150_ren : Go.Shelf.Ren := ⟨fun | 150 => 56 | 153 => 79 | 152 => 100 | 226 => 101 | 227 => 102 | 228 => 103 | 137 => 116 | 119 => 117 | 224 => 118 | 225 => 119 | 217 => 120 | 266 => 127 | n => n, fun | 9 => 9 | 4 => 4 | 3 => 3 | 5 => 5 | 21 => 21 | 117 => 137 | 116 => 136 | 0 => 0 | 46 => 131 | 124 => 154 | n => n, fun | n => n⟩
theorem Tryd.lays150 : Go.Proofs.Lays.n150 Tryd.prog Tryd.lays150_ren := {
  mixed := by kernel_rfl
  f119 := Tryd.func117.trans (congrArg some (by kernel_rfl))
  f137 := Tryd.func116.trans (congrArg some (by kernel_rfl))
  f150 := Tryd.func56.trans (congrArg some (by kernel_rfl))
  f152 := Tryd.func100.trans (congrArg some (by kernel_rfl))
  f153 := Tryd.func79.trans (congrArg some (by kernel_rfl))
  f217 := Tryd.func120.trans (congrArg some (by kernel_rfl))
  f224 := Tryd.func118.trans (congrArg some (by kernel_rfl))
  f225 := Tryd.func119.trans (congrArg some (by kernel_rfl))
  f226 := Tryd.func101.trans (congrArg some (by kernel_rfl))
  f227 := Tryd.func102.trans (congrArg some (by kernel_rfl))
  f228 := Tryd.func103.trans (congrArg some (by kernel_rfl))
  f266 := Tryd.func127.trans (congrArg some (by kernel_rfl))
  t0 := Tryd.underlying0
  a0 := Tryd.isAgg0
  z0 := Tryd.sizeOf0
  v0 := Tryd.zeroValue0
  t3 := Tryd.underlying3
  a3 := Tryd.isAgg3
  z3 := Tryd.sizeOf3
  v3 := Tryd.zeroValue3
  t4 := Tryd.underlying4
  a4 := Tryd.isAgg4
  z4 := Tryd.sizeOf4
  v4 := Tryd.zeroValue4
  t5 := Tryd.underlying5
  a5 := Tryd.isAgg5
  z5 := Tryd.sizeOf5
  v5 := Tryd.zeroValue5
  t9 := Tryd.underlying9
  a9 := Tryd.isAgg9
  z9 := Tryd.sizeOf9
  v9 := Tryd.zeroValue9
  t21 := Tryd.underlying21
  a21 := Tryd.isAgg21
  z21 := Tryd.sizeOf21
  v21 := Tryd.zeroValue21
  t46 := Tryd.underlying131
  a46 := Tryd.isAgg131
  z46 := Tryd.sizeOf131
  v46 := Tryd.zeroValue131
  t116 := Tryd.underlying136
  a116 := Tryd.isAgg136
  z116 := Tryd.sizeOf136
  t117 := Tryd.underlying137
  a117 := Tryd.isAgg137
  z117 := Tryd.sizeOf137
  v117 := Tryd.zeroValue137
  t124 := Tryd.underlying154
  a124 := Tryd.isAgg154
  z124 := Tryd.sizeOf154
  v124 := Tryd.zeroValue154 }
open Go.RowKit Go.Lib in
open Go.RowKit Go.Lib in
open Go.RowKit Go.Lib in
theorem Tryd.strings_ContainsAny_laid (s chars : ByteArray) (w : World) (hs : s.size < 4294967281) (hcs : chars.size < 4294967281) (has : ∀ (j : Nat) b, s.data.toList[j]? = some b → b.toNat < 128) (hac : ∀ (j : Nat) b, chars.data.toList[j]? = some b → b.toNat < 128) :
    Calls Tryd.prog 56 #[.string s, .string chars] w fun e w' => e = .returned (.bool (Lib.containsAny s.data.toList chars.data.toList)) ∧ Below w.heap.size w w' := Any.strings_ContainsAny_laid Tryd.lays150 (by kernel_rfl) s chars w hs hcs has hac
end Go.Proofs
end
section
set_option linter.unusedSimpArgs false
set_option linter.unusedVariables false
set_option maxRecDepth 100000
set_option maxHeartbeats 1000000
namespace Go.Proofs
open Go.Lv
def okByte (b : UInt8) : Bool := decide (32 ≤ b.toNat) && decide (b.toNat ≤ 126)
def allS (p : UInt8 → Bool) (s : ByteArray) : Bool := s.data.toList.all p
def allTo (p : UInt8 → Bool) (s : ByteArray) (i : Nat) : Bool := (s.data.toList.take i).all p
theorem ba_len (s : ByteArray) : s.data.toList.length = s.size := rfl
theorem ba_get (s : ByteArray) {i : Nat} (h : i < s.size) : s.data.toList[i]'h = s[i]'h := rfl
theorem allTo_succ {p : UInt8 → Bool} {s : ByteArray} {i : Nat} (h : i < s.size) : allTo p s (i + 1) = (allTo p s i && p (s[i]'h)) := by
  have hl : i < s.data.toList.length := h
  rw [allTo, List.take_succ_eq_append_getElem hl, List.all_append]
  simp [allTo, ba_get s h]
theorem allTo_end {p : UInt8 → Bool} {s : ByteArray} : allTo p s s.size = allS p s := by
  rw [allTo, ← ba_len, List.take_length]; rfl
theorem allS_no {p : UInt8 → Bool} {s : ByteArray} {i : Nat} (h : i < s.size) (hp : p (s[i]'h) = false) : allS p s = false := by
  rw [allS, List.all_eq_false]
  exact ⟨s[i]'h, by rw [← ba_get s h]; exact List.getElem_mem _, by simp [hp]⟩
theorem isPrintable_ok (s : ByteArray) (hs : s.size ≤ 281474976710656) : Ctr Tryd.prog 55 [.str s] [] (.bool (allS okByte s)) [] := by
  refine Ctr.intro Tryd.mixed Tryd.func55 rfl Tryd.okF55 ?_
  simp -implicitDefEqProofs -dsimp only [go_sem, Nat.reduceSub, Nat.reduceAdd, Nat.reduceMul, Nat.reduceLT, Nat.reduceLeDiff, Nat.reduceEqDiff, Nat.reduceDiv, Nat.reduceMod, Int.reduceToNat, Int.reduceLE, Int.reduceLT, Int.reduceBEq, Int.reduceBNe, Int.reduceNeg, Int.reduceAdd, Int.reduceSub, Int.reduceMul, reduceCtorEq, Tryd.ntmps55, Tryd.results55]
  refine LoopT.intro (fun i : Nat => i ≤ s.size ∧ allTo okByte s i = true) (fun i => ⟨[.str s, .undef, .undef, .undef, .undef, .int .i64 s.size, .int .i64 i, .undef, .undef, .undef, .undef, .undef, .undef, .undef, .undef, .undef, .undef, .undef, .undef, .undef], [], 0⟩) (fun i => s.size - i) 0 ⟨Nat.zero_le _, rfl⟩ ?_ (fun i hi => ?_)
  · refine Weak.cut (0) (by simp) (by simp) ?_ ?_
    · simp [LeC, LeV, ren, cutF]
    · rfl
  simp -implicitDefEqProofs -dsimp only [go_sem, Nat.reduceSub, Nat.reduceAdd, Nat.reduceMul, Nat.reduceLT, Nat.reduceLeDiff, Nat.reduceEqDiff, Nat.reduceDiv, Nat.reduceMod, Int.reduceToNat, Int.reduceLE, Int.reduceLT, Int.reduceBEq, Int.reduceBNe, Int.reduceNeg, Int.reduceAdd, Int.reduceSub, Int.reduceMul, reduceCtorEq]
  refine condT.split (fun h1 => ?_) (fun h1 => ?_)
  · simp -implicitDefEqProofs -dsimp only [go_sem, Nat.reduceSub, Nat.reduceAdd, Nat.reduceMul, Nat.reduceLT, Nat.reduceLeDiff, Nat.reduceEqDiff, Nat.reduceDiv, Nat.reduceMod, Int.reduceToNat, Int.reduceLE, Int.reduceLT, Int.reduceBEq, Int.reduceBNe, Int.reduceNeg, Int.reduceAdd, Int.reduceSub, Int.reduceMul, reduceCtorEq, h1]
    have hi' : i < s.size := by simpa using h1
    refine ⟨⟨by omega, hi'⟩, ?_⟩
    have hb : okByte (s[i]'hi') = (decide (32 ≤ ((s[i]'hi').toNat : Int)) && decide (((s[i]'hi').toNat : Int) ≤ 126)) := by rw [okByte, Bool.eq_iff_iff]; simp; omega
    refine guardT.splitF (fun h2 => ?_) (fun h2 => ?_) <;> simp -implicitDefEqProofs -dsimp only [go_sem, Nat.reduceSub, Nat.reduceAdd, Nat.reduceMul, Nat.reduceLT, Nat.reduceLeDiff, Nat.reduceEqDiff, Nat.reduceDiv, Nat.reduceMod, Int.reduceToNat, Int.reduceLE, Int.reduceLT, Int.reduceBEq, Int.reduceBNe, Int.reduceNeg, Int.reduceAdd, Int.reduceSub, Int.reduceMul, reduceCtorEq, h2]
    · refine ⟨⟨by omega, hi'⟩, ?_⟩
      refine condT.split (fun h3 => ?_) (fun h3 => ?_) <;> simp -implicitDefEqProofs -dsimp only [go_sem, Nat.reduceSub, Nat.reduceAdd, Nat.reduceMul, Nat.reduceLT, Nat.reduceLeDiff, Nat.reduceEqDiff, Nat.reduceDiv, Nat.reduceMod, Int.reduceToNat, Int.reduceLE, Int.reduceLT, Int.reduceBEq, Int.reduceBNe, Int.reduceNeg, Int.reduceAdd, Int.reduceSub, Int.reduceMul, reduceCtorEq, h3]
      · have hf : okByte (s[i]'hi') = false := by rw [hb]; simp at h3 ⊢; omega
        exact WeakR.drop' (by rw [allS_no hi' hf]) (by rfl)
      · have hf : okByte (s[i]'hi') = true := by rw [hb]; simp at h2 h3 ⊢; omega
        refine ⟨i + 1, ⟨hi', by rw [allTo_succ hi', hi.2, hf]; rfl⟩, ?_, by omega⟩
        refine Weak.cut (0) (by simp) (by simp) ?_ ?_
        · rw [wrap_i64 (by omega) (by omega)]; simp [LeC, LeV, ren, cutF]
        · rfl
    · have hf : okByte (s[i]'hi') = false := by rw [hb]; simp at h2 ⊢; omega
      exact WeakR.drop' (by rw [allS_no hi' hf]) (by rfl)
  · simp -implicitDefEqProofs -dsimp only [go_sem, Nat.reduceSub, Nat.reduceAdd, Nat.reduceMul, Nat.reduceLT, Nat.reduceLeDiff, Nat.reduceEqDiff, Nat.reduceDiv, Nat.reduceMod, Int.reduceToNat, Int.reduceLE, Int.reduceLT, Int.reduceBEq, Int.reduceBNe, Int.reduceNeg, Int.reduceAdd, Int.reduceSub, Int.reduceMul, reduceCtorEq, h1]
    have hi' : i = s.size := by simp at h1; omega
    subst hi'
    exact WeakR.drop' (by rw [← allTo_end, hi.2]) (by rfl)
def plainByte (b : UInt8) : Bool := okByte b && !(b == 35)
theorem l27Plain_ok (s : ByteArray) (most : Int) (hs : s.size ≤ 281474976710656) : Ctr Tryd.prog 71 [.str s, .int .i64 most] [] (.bool (allS plainByte s && decide ((s.size : Int) ≤ most))) [] := by
  refine Ctr.intro Tryd.mixed Tryd.func71 rfl Tryd.okF71 ?_
  simp -implicitDefEqProofs -dsimp only [go_sem, Nat.reduceSub, Nat.reduceAdd, Nat.reduceMul, Nat.reduceLT, Nat.reduceLeDiff, Nat.reduceEqDiff, Nat.reduceDiv, Nat.reduceMod, Int.reduceToNat, Int.reduceLE, Int.reduceLT, Int.reduceBEq, Int.reduceBNe, Int.reduceNeg, Int.reduceAdd, Int.reduceSub, Int.reduceMul, reduceCtorEq, Tryd.ntmps71, Tryd.results71]
  refine LoopT.intro (fun i : Nat => i ≤ s.size ∧ allTo plainByte s i = true) (fun i => ⟨[.str s, .int .i64 most, .undef, .undef, .undef, .int .i64 i, .undef, .undef, .undef, .undef, .undef, .undef, .undef, .undef, .undef, .undef, .undef, .undef, .undef, .undef, .undef, .undef, .undef, .undef, .undef, .undef, .undef, .undef], [], 0⟩) (fun i => s.size - i) 0 ⟨Nat.zero_le _, rfl⟩ ?_ (fun i hi => ?_)
  · refine Weak.cut (0) (by simp) (by simp) ?_ ?_
    · simp [LeC, LeV, ren, cutF]
    · rfl
  simp -implicitDefEqProofs -dsimp only [go_sem, Nat.reduceSub, Nat.reduceAdd, Nat.reduceMul, Nat.reduceLT, Nat.reduceLeDiff, Nat.reduceEqDiff, Nat.reduceDiv, Nat.reduceMod, Int.reduceToNat, Int.reduceLE, Int.reduceLT, Int.reduceBEq, Int.reduceBNe, Int.reduceNeg, Int.reduceAdd, Int.reduceSub, Int.reduceMul, reduceCtorEq]
  refine condT.split (fun h1 => ?_) (fun h1 => ?_)
  · simp -implicitDefEqProofs -dsimp only [go_sem, Nat.reduceSub, Nat.reduceAdd, Nat.reduceMul, Nat.reduceLT, Nat.reduceLeDiff, Nat.reduceEqDiff, Nat.reduceDiv, Nat.reduceMod, Int.reduceToNat, Int.reduceLE, Int.reduceLT, Int.reduceBEq, Int.reduceBNe, Int.reduceNeg, Int.reduceAdd, Int.reduceSub, Int.reduceMul, reduceCtorEq, h1]
    have hi' : i < s.size := by simpa using h1
    have hu := UInt8.toNat_lt (s[i]'hi')
    refine ⟨⟨by omega, hi'⟩, ?_⟩
    have hwr : IntKind.i64.wrap ((s[i]'hi').toNat : Int) = ((s[i]'hi').toNat : Int) := wrap_i64 (by omega) (by omega)
    try (repeat1' (first | simp -implicitDefEqProofs -dsimp only [go_sem, Nat.reduceSub, Nat.reduceAdd, Nat.reduceMul, Nat.reduceLT, Nat.reduceLeDiff, Nat.reduceEqDiff, Nat.reduceDiv, Nat.reduceMod, Int.reduceToNat, Int.reduceLE, Int.reduceLT, Int.reduceBEq, Int.reduceBNe, Int.reduceNeg, Int.reduceAdd, Int.reduceSub, Int.reduceMul, reduceCtorEq, hwr] | simp -implicitDefEqProofs -dsimp (disch := omega) only [wrap_i64]))
    (first | refine callT.at (l1In_ok _ _ _) ⟨leA, leA, leA, trivial⟩ ?_ | refine callS.at (l1In_ok _ _ _) ⟨leA, leA, leA, trivial⟩ ?_)
    simp -implicitDefEqProofs -dsimp only [go_sem, Nat.reduceSub, Nat.reduceAdd, Nat.reduceMul, Nat.reduceLT, Nat.reduceLeDiff, Nat.reduceEqDiff, Nat.reduceDiv, Nat.reduceMod, Int.reduceToNat, Int.reduceLE, Int.reduceLT, Int.reduceBEq, Int.reduceBNe, Int.reduceNeg, Int.reduceAdd, Int.reduceSub, Int.reduceMul, reduceCtorEq]
    have hb : okByte (s[i]'hi') = inB' ((s[i]'hi').toNat : Int) 32 126 := by rw [okByte, Bool.eq_iff_iff]; simp [inB']; omega
    have h35 : ((s[i]'hi') == 35) = (((s[i]'hi').toNat : Int) == 35) := by
      rw [Bool.eq_iff_iff]; simp only [beq_iff_eq]
      constructor
      · intro g; rw [g]; rfl
      · intro g; exact UInt8.toNat_inj.1 (by show _ = 35; omega)
    refine guardT.splitF (fun h2 => ?_) (fun h2 => ?_) <;> simp -implicitDefEqProofs -dsimp only [go_sem, Nat.reduceSub, Nat.reduceAdd, Nat.reduceMul, Nat.reduceLT, Nat.reduceLeDiff, Nat.reduceEqDiff, Nat.reduceDiv, Nat.reduceMod, Int.reduceToNat, Int.reduceLE, Int.reduceLT, Int.reduceBEq, Int.reduceBNe, Int.reduceNeg, Int.reduceAdd, Int.reduceSub, Int.reduceMul, reduceCtorEq, h2]
    · refine ⟨⟨by omega, hi'⟩, ?_⟩
      refine condT.split (fun h3 => ?_) (fun h3 => ?_) <;> simp -implicitDefEqProofs -dsimp only [go_sem, Nat.reduceSub, Nat.reduceAdd, Nat.reduceMul, Nat.reduceLT, Nat.reduceLeDiff, Nat.reduceEqDiff, Nat.reduceDiv, Nat.reduceMod, Int.reduceToNat, Int.reduceLE, Int.reduceLT, Int.reduceBEq, Int.reduceBNe, Int.reduceNeg, Int.reduceAdd, Int.reduceSub, Int.reduceMul, reduceCtorEq, h3]
      · have hf : plainByte (s[i]'hi') = false := by rw [plainByte, h35, h3]; simp
        exact WeakR.drop' (by rw [allS_no hi' hf]; rfl) (by rfl)
      · have hf : plainByte (s[i]'hi') = true := by rw [plainByte, h35, h3, hb]; simp at h2; simp [h2]
        refine ⟨i + 1, ⟨hi', by rw [allTo_succ hi', hi.2, hf]; rfl⟩, ?_, by omega⟩
        refine Weak.cut (0) (by simp) (by simp) ?_ ?_
        · rw [wrap_i64 (by omega) (by omega)]; simp [LeC, LeV, ren, cutF]
        · rfl
    · have hf : plainByte (s[i]'hi') = false := by rw [plainByte, hb]; simp at h2; simp [h2]
      exact WeakR.drop' (by rw [allS_no hi' hf]; rfl) (by rfl)
  · simp -implicitDefEqProofs -dsimp only [go_sem, Nat.reduceSub, Nat.reduceAdd, Nat.reduceMul, Nat.reduceLT, Nat.reduceLeDiff, Nat.reduceEqDiff, Nat.reduceDiv, Nat.reduceMod, Int.reduceToNat, Int.reduceLE, Int.reduceLT, Int.reduceBEq, Int.reduceBNe, Int.reduceNeg, Int.reduceAdd, Int.reduceSub, Int.reduceMul, reduceCtorEq, h1]
    have hi' : i = s.size := by simp at h1; omega
    subst hi'
    exact WeakR.drop' (by rw [← allTo_end, hi.2]; rfl) (by rfl)
theorem l1Stands_ok (s : ByteArray) (b : UInt8) (hs : s.size ≤ 281474976710656) : Ctr Tryd.prog 72 [.str s, .int .u8 b.toNat] [] (.bool (!(allS (fun x => !(x == b)) s))) [] := by
  refine Ctr.intro Tryd.mixed Tryd.func72 rfl Tryd.okF72 ?_
  simp -implicitDefEqProofs -dsimp only [go_sem, Nat.reduceSub, Nat.reduceAdd, Nat.reduceMul, Nat.reduceLT, Nat.reduceLeDiff, Nat.reduceEqDiff, Nat.reduceDiv, Nat.reduceMod, Int.reduceToNat, Int.reduceLE, Int.reduceLT, Int.reduceBEq, Int.reduceBNe, Int.reduceNeg, Int.reduceAdd, Int.reduceSub, Int.reduceMul, reduceCtorEq, Tryd.ntmps72, Tryd.results72]
  refine LoopT.intro (fun i : Nat => i ≤ s.size ∧ allTo (fun x => !(x == b)) s i = true) (fun i => ⟨[.str s, .int .u8 b.toNat, .undef, .undef, .undef, .int .i64 i, .undef, .undef, .undef, .undef, .undef, .undef, .undef, .undef, .undef, .undef, .undef], [], 0⟩) (fun i => s.size - i) 0 ⟨Nat.zero_le _, rfl⟩ ?_ (fun i hi => ?_)
  · refine Weak.cut (0) (by simp) (by simp) ?_ ?_
    · simp [LeC, LeV, ren, cutF]
    · rfl
  simp -implicitDefEqProofs -dsimp only [go_sem, Nat.reduceSub, Nat.reduceAdd, Nat.reduceMul, Nat.reduceLT, Nat.reduceLeDiff, Nat.reduceEqDiff, Nat.reduceDiv, Nat.reduceMod, Int.reduceToNat, Int.reduceLE, Int.reduceLT, Int.reduceBEq, Int.reduceBNe, Int.reduceNeg, Int.reduceAdd, Int.reduceSub, Int.reduceMul, reduceCtorEq]
  refine condT.split (fun h1 => ?_) (fun h1 => ?_)
  · simp -implicitDefEqProofs -dsimp only [go_sem, Nat.reduceSub, Nat.reduceAdd, Nat.reduceMul, Nat.reduceLT, Nat.reduceLeDiff, Nat.reduceEqDiff, Nat.reduceDiv, Nat.reduceMod, Int.reduceToNat, Int.reduceLE, Int.reduceLT, Int.reduceBEq, Int.reduceBNe, Int.reduceNeg, Int.reduceAdd, Int.reduceSub, Int.reduceMul, reduceCtorEq, h1]
    have hi' : i < s.size := by simpa using h1
    refine ⟨⟨by omega, hi'⟩, ?_⟩
    have hbb : ((s[i]'hi') == b) = (((s[i]'hi').toNat : Int) == (b.toNat : Int)) := by
      rw [Bool.eq_iff_iff]; simp only [beq_iff_eq]
      constructor
      · intro g; rw [g]
      · intro g; exact UInt8.toNat_inj.1 (by omega)
    refine condT.split (fun h2 => ?_) (fun h2 => ?_) <;> simp -implicitDefEqProofs -dsimp only [go_sem, Nat.reduceSub, Nat.reduceAdd, Nat.reduceMul, Nat.reduceLT, Nat.reduceLeDiff, Nat.reduceEqDiff, Nat.reduceDiv, Nat.reduceMod, Int.reduceToNat, Int.reduceLE, Int.reduceLT, Int.reduceBEq, Int.reduceBNe, Int.reduceNeg, Int.reduceAdd, Int.reduceSub, Int.reduceMul, reduceCtorEq, h2]
    · exact WeakR.drop' (by rw [allS_no hi' (by simp only [hbb, h2]; rfl)]; rfl) (by rfl)
    · refine ⟨i + 1, ⟨hi', by rw [allTo_succ hi', hi.2]; simp only [hbb, h2]; rfl⟩, ?_, by omega⟩
      refine Weak.cut (0) (by simp) (by simp) ?_ ?_
      · rw [wrap_i64 (by omega) (by omega)]; simp [LeC, LeV, ren, cutF]
      · rfl
  · simp -implicitDefEqProofs -dsimp only [go_sem, Nat.reduceSub, Nat.reduceAdd, Nat.reduceMul, Nat.reduceLT, Nat.reduceLeDiff, Nat.reduceEqDiff, Nat.reduceDiv, Nat.reduceMod, Int.reduceToNat, Int.reduceLE, Int.reduceLT, Int.reduceBEq, Int.reduceBNe, Int.reduceNeg, Int.reduceAdd, Int.reduceSub, Int.reduceMul, reduceCtorEq, h1]
    have hi' : i = s.size := by simp at h1; omega
    subst hi'
    exact WeakR.drop' (by rw [← allTo_end, hi.2]; rfl) (by rfl)
theorem containsOne_ok (s : ByteArray) (c : UInt8) : Ctr Tryd.prog 57 [.str s, .str ⟨#[c]⟩] [] (.bool (decide (0 ≤ Lib.indexByte s.data.toList c))) [] := by
  refine ⟨Tryd.okF57, fun w vs m av hH hav hgl hsz ha => ?_⟩
  obtain ⟨v, u, rfl⟩ : ∃ v u, vs = #[v, u] := by
    match vs, hsz with
    | ⟨[v, u]⟩, _ => exact ⟨v, u, rfl⟩
  have h0 := ha 0 (by simp)
  have h1 := ha 1 (by simp)
  simp only [List.getElem_cons_zero, List.getElem_cons_succ] at h0 h1
  obtain rfl : v = .string s := by
    simp at h0; cases h0; rfl
  obtain rfl : u = .string ⟨#[c]⟩ := by
    simp at h1; cases h1; rfl
  refine (Tryd.strings_Contains_one s c w).mono ?_
  rintro e w' ⟨rfl, rfl⟩
  exact ⟨_, m, rfl, Ext.refl _ _, ⟨fun i j ci cj h => by simp at h, fun id cs h => by simp at h, fun id cs h => by simp at h⟩, .bool _, fun id cs h => by simp at h⟩
theorem containsAny_ok (s chars : ByteArray) (hs : s.size < 4294967281) (hcs : chars.size < 4294967281) (has : ∀ (j : Nat) b, s.data.toList[j]? = some b → b.toNat < 128) (hac : ∀ (j : Nat) b, chars.data.toList[j]? = some b → b.toNat < 128) :
    Ctr Tryd.prog 56 [.str s, .str chars] [] (.bool (Lib.containsAny s.data.toList chars.data.toList)) [] := by
  refine ⟨Tryd.okF56, fun w vs m av hH hav hgl hsz ha => ?_⟩
  obtain ⟨v, u, rfl⟩ : ∃ v u, vs = #[v, u] := by
    match vs, hsz with
    | ⟨[v, u]⟩, _ => exact ⟨v, u, rfl⟩
  have h0 := ha 0 (by simp)
  have h1 := ha 1 (by simp)
  simp only [List.getElem_cons_zero, List.getElem_cons_succ] at h0 h1
  obtain rfl : v = .string s := by
    simp at h0; cases h0; rfl
  obtain rfl : u = .string chars := by
    simp at h1; cases h1; rfl
  refine (Tryd.strings_ContainsAny_laid s chars w hs hcs has hac).mono ?_
  rintro e w' ⟨rfl, hb⟩
  exact ⟨_, m, rfl, ⟨hb.os, hb.tape, hb.output, hb.size, fun g hg _ => hb.block g hg, fun g hg => Nat.le_of_eq (rowSize_of_block (hb.block g hg)).symm⟩, ⟨fun i j ci cj h => by simp at h, fun id cs h => by simp at h, fun id cs h => by simp at h⟩, .bool _, fun id cs h => by simp at h⟩
/-- Neither of these bytes. -/
def recB (e : LogRecord) : Bool := (decide (1 ≤ e.Command.size) && decide (e.Command.size ≤ 160)) && allS (fun b => plainByte b && !(b == 64)) e.Command && (decide (e.Reply.size ≤ 200) && allS plainByte e.Reply)
theorem allS_and (p q : UInt8 → Bool) (s : ByteArray) : allS (fun b => p b && q b) s = (allS p s && allS q s) := by
  unfold allS
  induction s.data.toList with
  | nil => rfl
  | cons a l ih => simp only [List.all_cons, ih]; cases p a <;> cases q a <;> simp
theorem indexByte_all (c : UInt8) : ∀ l : List UInt8, decide (0 ≤ Lib.indexByte l c) = !(l.all fun x => !(x == c))
  | [] => rfl
  | a :: l => by
    have ih := indexByte_all c l
    have hg := Lib.indexByte_ge l c
    unfold Lib.indexByte
    rw [List.all_cons]
    by_cases h : a = c
    · simp [h]
    · have hf : (a == c) = false := by simpa using h
      rw [hf]
      simp only [Bool.false_eq_true, if_false, Bool.not_false, Bool.true_and]
      rw [← ih]
      by_cases h1 : Lib.indexByte l c = -1
      · simp [h1]
      · have : (Lib.indexByte l c == -1) = false := by simpa using h1
        rw [this]
        rw [Bool.eq_iff_iff]; simp; omega
theorem containsAny_all (chars : List UInt8) : ∀ l : List UInt8, Lib.containsAny l chars = !(l.all fun x => !(chars.contains x))
  | [] => rfl
  | a :: l => by
    have ih := containsAny_all chars l
    have hg := Lib.indexAny_ge chars l
    unfold Lib.containsAny at ih ⊢
    unfold Lib.indexAny
    rw [List.all_cons]
    by_cases h : chars.contains a = true
    · simp only [h, if_true, Bool.not_true, Bool.false_and, Bool.not_false]; rfl
    · have hf : chars.contains a = false := by simpa using h
      rw [hf]
      simp only [Bool.false_eq_true, if_false, Bool.not_false, Bool.true_and]
      rw [← ih]
      by_cases h1 : Lib.indexAny l chars = -1
      · simp [h1]
      · have : (Lib.indexAny l chars == -1) = false := by simpa using h1
        rw [this]
        rw [Bool.eq_iff_iff]; simp; omega
end Go.Proofs
end
section
set_option linter.unusedSimpArgs false
set_option linter.unusedVariables false
set_option maxRecDepth 100000
set_option maxHeartbeats 1000000
namespace Go.Proofs
open Go.Lv
theorem rec_any {s : ByteArray} (h : allS okByte s = true) : Lib.containsAny s.data.toList (⟨#[35, 64]⟩ : ByteArray).data.toList = !(allS (fun b => !(b == 35) && !(b == 64)) s) := by
  rw [containsAny_all]
  congr 2
  funext x
  show (!(List.contains [35, 64] x)) = _
  simp only [List.contains_cons, List.contains_nil, Bool.or_false, Bool.not_or]
theorem rec_cmd (s : ByteArray) : allS (fun b => plainByte b && !(b == 64)) s = (allS okByte s && allS (fun b => !(b == 35) && !(b == 64)) s) := by
  rw [← allS_and]
  congr 1
  funext b
  exact Bool.and_assoc _ _ _
theorem rec_reply (s : ByteArray) : allS plainByte s = (allS okByte s && allS (fun b => !(b == 35)) s) := allS_and okByte _ s
theorem ascii_of {s : ByteArray} (h : allS okByte s = true) : ∀ (j : Nat) b, s.data.toList[j]? = some b → b.toNat < 128 := by
  intro j b hb
  have := List.all_eq_true.1 h b (List.mem_of_getElem? hb)
  simp [okByte] at this; omega
theorem ascii_two : ∀ (j : Nat) b, (⟨#[35, 64]⟩ : ByteArray).data.toList[j]? = some b → b.toNat < 128 := by
  intro j b hb
  have := List.mem_of_getElem? hb
  simp at this
  rcases this with rfl | rfl <;> decide
theorem ba_loop (s : ByteArray) : ∀ (n i : Nat) (r : List UInt8), s.size - i = n → ByteArray.toList.loop s i r = r.reverse ++ s.data.toList.drop i
  | 0, i, r, h => by
    unfold ByteArray.toList.loop
    rw [if_neg (by omega), List.drop_eq_nil_of_le (by rw [ba_len]; omega), List.append_nil]
  | n + 1, i, r, h => by
    have hi : i < s.data.toList.length := by rw [ba_len]; omega
    unfold ByteArray.toList.loop
    rw [if_pos (by omega), ba_loop s n (i + 1) _ (by omega), List.drop_eq_getElem_cons hi]
    have : s.get! i = s.data.toList[i] := by
      rw [ba_get s hi]
      exact getElem!_pos s.data i hi
    rw [this]
    simp
theorem ba_list (s : ByteArray) : s.toList = s.data.toList := by
  rw [ByteArray.toList, ba_loop s s.size 0 [] (by omega)]
  simp
theorem ba_ne (s : ByteArray) : (!(s.toList == (⟨#[]⟩ : ByteArray).toList)) = decide (1 ≤ s.size) := by
  rw [ba_list, ba_list, ← ba_len]
  cases s.data.toList with
  | nil => rfl
  | cons a l => simp
theorem iIsValidRecord_ok (e : LogRecord) (hc : e.Command.size ≤ 281474976710656) (hr : e.Reply.size ≤ 281474976710656) : Ctr Tryd.prog 26 [e.v] [] (.bool (recB e)) [] := by
  refine Ctr.intro Tryd.mixed Tryd.func26 rfl Tryd.okF26 ?_
  simp -implicitDefEqProofs -dsimp only [go_sem, Nat.reduceSub, Nat.reduceAdd, Nat.reduceMul, Nat.reduceLT, Nat.reduceLeDiff, Nat.reduceEqDiff, Nat.reduceDiv, Nat.reduceMod, Int.reduceToNat, Int.reduceLE, Int.reduceLT, Int.reduceBEq, Int.reduceBNe, Int.reduceNeg, Int.reduceAdd, Int.reduceSub, Int.reduceMul, reduceCtorEq, Tryd.ntmps26, Tryd.results26]
  simp -implicitDefEqProofs -dsimp only [go_sem, Nat.reduceSub, Nat.reduceAdd, Nat.reduceMul, Nat.reduceLT, Nat.reduceLeDiff, Nat.reduceEqDiff, Nat.reduceDiv, Nat.reduceMod, Int.reduceToNat, Int.reduceLE, Int.reduceLT, Int.reduceBEq, Int.reduceBNe, Int.reduceNeg, Int.reduceAdd, Int.reduceSub, Int.reduceMul, reduceCtorEq, LogRecord.v]
  (first | refine callT.at (in_ok _ _ _) ⟨leA, leA, leA, trivial⟩ ?_ | refine callS.at (in_ok _ _ _) ⟨leA, leA, leA, trivial⟩ ?_)
  simp -implicitDefEqProofs -dsimp only [go_sem, Nat.reduceSub, Nat.reduceAdd, Nat.reduceMul, Nat.reduceLT, Nat.reduceLeDiff, Nat.reduceEqDiff, Nat.reduceDiv, Nat.reduceMod, Int.reduceToNat, Int.reduceLE, Int.reduceLT, Int.reduceBEq, Int.reduceBNe, Int.reduceNeg, Int.reduceAdd, Int.reduceSub, Int.reduceMul, reduceCtorEq]
  refine guardT.splitT (fun g1 => ?_) (fun g1 => ?_) <;> simp -implicitDefEqProofs -dsimp only [go_sem, Nat.reduceSub, Nat.reduceAdd, Nat.reduceMul, Nat.reduceLT, Nat.reduceLeDiff, Nat.reduceEqDiff, Nat.reduceDiv, Nat.reduceMod, Int.reduceToNat, Int.reduceLE, Int.reduceLT, Int.reduceBEq, Int.reduceBNe, Int.reduceNeg, Int.reduceAdd, Int.reduceSub, Int.reduceMul, reduceCtorEq, g1]
  rotate_left
  · refine WeakR.drop' ?_ (by rfl)
    simp [inB'] at g1
    simp [recB]; omega
  have hs := inB'_iff.1 g1
  have b1 : decide (1 ≤ e.Command.size) = true := decide_eq_true (by omega)
  have b2 : decide (e.Command.size ≤ 160) = true := decide_eq_true (by omega)
  (first | refine callT.at (isPrintable_ok e.Command hc) ⟨leA, trivial⟩ ?_ | refine callS.at (isPrintable_ok e.Command hc) ⟨leA, trivial⟩ ?_)
  simp -implicitDefEqProofs -dsimp only [go_sem, Nat.reduceSub, Nat.reduceAdd, Nat.reduceMul, Nat.reduceLT, Nat.reduceLeDiff, Nat.reduceEqDiff, Nat.reduceDiv, Nat.reduceMod, Int.reduceToNat, Int.reduceLE, Int.reduceLT, Int.reduceBEq, Int.reduceBNe, Int.reduceNeg, Int.reduceAdd, Int.reduceSub, Int.reduceMul, reduceCtorEq]
  refine guardT.splitT (fun g2 => ?_) (fun g2 => ?_) <;> simp -implicitDefEqProofs -dsimp only [go_sem, Nat.reduceSub, Nat.reduceAdd, Nat.reduceMul, Nat.reduceLT, Nat.reduceLeDiff, Nat.reduceEqDiff, Nat.reduceDiv, Nat.reduceMod, Int.reduceToNat, Int.reduceLE, Int.reduceLT, Int.reduceBEq, Int.reduceBNe, Int.reduceNeg, Int.reduceAdd, Int.reduceSub, Int.reduceMul, reduceCtorEq, g2]
  rotate_left
  · refine WeakR.drop' ?_ (by rfl)
    simp [recB, rec_cmd, g2]
  (first | refine callT.at (containsAny_ok e.Command ⟨#[35, 64]⟩ (by omega) (by decide) (ascii_of g2) ascii_two) ⟨leA, leA, trivial⟩ ?_ | refine callS.at (containsAny_ok e.Command ⟨#[35, 64]⟩ (by omega) (by decide) (ascii_of g2) ascii_two) ⟨leA, leA, trivial⟩ ?_)
  simp -implicitDefEqProofs -dsimp only [go_sem, Nat.reduceSub, Nat.reduceAdd, Nat.reduceMul, Nat.reduceLT, Nat.reduceLeDiff, Nat.reduceEqDiff, Nat.reduceDiv, Nat.reduceMod, Int.reduceToNat, Int.reduceLE, Int.reduceLT, Int.reduceBEq, Int.reduceBNe, Int.reduceNeg, Int.reduceAdd, Int.reduceSub, Int.reduceMul, reduceCtorEq, rec_any g2, Bool.not_not]
  refine guardT.splitT (fun g3 => ?_) (fun g3 => ?_) <;> simp -implicitDefEqProofs -dsimp only [go_sem, Nat.reduceSub, Nat.reduceAdd, Nat.reduceMul, Nat.reduceLT, Nat.reduceLeDiff, Nat.reduceEqDiff, Nat.reduceDiv, Nat.reduceMod, Int.reduceToNat, Int.reduceLE, Int.reduceLT, Int.reduceBEq, Int.reduceBNe, Int.reduceNeg, Int.reduceAdd, Int.reduceSub, Int.reduceMul, reduceCtorEq, g3]
  rotate_left
  · refine WeakR.drop' ?_ (by rfl)
    simp [recB, rec_cmd, g2, g3]
  refine guardT.splitT (fun g4 => ?_) (fun g4 => ?_) <;> simp -implicitDefEqProofs -dsimp only [go_sem, Nat.reduceSub, Nat.reduceAdd, Nat.reduceMul, Nat.reduceLT, Nat.reduceLeDiff, Nat.reduceEqDiff, Nat.reduceDiv, Nat.reduceMod, Int.reduceToNat, Int.reduceLE, Int.reduceLT, Int.reduceBEq, Int.reduceBNe, Int.reduceNeg, Int.reduceAdd, Int.reduceSub, Int.reduceMul, reduceCtorEq, g4]
  rotate_left
  · refine WeakR.drop' ?_ (by rfl)
    have : decide (e.Reply.size ≤ 200) = false := by simp at g4 ⊢; omega
    simp only [recB, this, Bool.false_and, Bool.and_false]
  have b3 : decide (e.Reply.size ≤ 200) = true := by simp at g4 ⊢; omega
  (first | refine callT.at (isPrintable_ok e.Reply hr) ⟨leA, trivial⟩ ?_ | refine callS.at (isPrintable_ok e.Reply hr) ⟨leA, trivial⟩ ?_)
  simp -implicitDefEqProofs -dsimp only [go_sem, Nat.reduceSub, Nat.reduceAdd, Nat.reduceMul, Nat.reduceLT, Nat.reduceLeDiff, Nat.reduceEqDiff, Nat.reduceDiv, Nat.reduceMod, Int.reduceToNat, Int.reduceLE, Int.reduceLT, Int.reduceBEq, Int.reduceBNe, Int.reduceNeg, Int.reduceAdd, Int.reduceSub, Int.reduceMul, reduceCtorEq]
  refine guardT.splitT (fun g5 => ?_) (fun g5 => ?_) <;> simp -implicitDefEqProofs -dsimp only [go_sem, Nat.reduceSub, Nat.reduceAdd, Nat.reduceMul, Nat.reduceLT, Nat.reduceLeDiff, Nat.reduceEqDiff, Nat.reduceDiv, Nat.reduceMod, Int.reduceToNat, Int.reduceLE, Int.reduceLT, Int.reduceBEq, Int.reduceBNe, Int.reduceNeg, Int.reduceAdd, Int.reduceSub, Int.reduceMul, reduceCtorEq, g5]
  rotate_left
  · refine WeakR.drop' ?_ (by rfl)
    simp [recB, rec_reply, g5]
  (first | refine callT.at (containsOne_ok e.Reply 35) ⟨leA, leA, trivial⟩ ?_ | refine callS.at (containsOne_ok e.Reply 35) ⟨leA, leA, trivial⟩ ?_)
  simp -implicitDefEqProofs -dsimp only [go_sem, Nat.reduceSub, Nat.reduceAdd, Nat.reduceMul, Nat.reduceLT, Nat.reduceLeDiff, Nat.reduceEqDiff, Nat.reduceDiv, Nat.reduceMod, Int.reduceToNat, Int.reduceLE, Int.reduceLT, Int.reduceBEq, Int.reduceBNe, Int.reduceNeg, Int.reduceAdd, Int.reduceSub, Int.reduceMul, reduceCtorEq, indexByte_all]
  refine WeakR.drop' ?_ (by rfl)
  simp only [recB, rec_cmd, rec_reply, g2, g3, g5, b1, b2, b3, Bool.and_true, Bool.true_and, Bool.not_not]
  rfl
theorem l27Good_ok (e : LogRecord) (hc : e.Command.size ≤ 281474976710656) (hr : e.Reply.size ≤ 281474976710656) : Ctr Tryd.prog 45 [e.v] [] (.bool (recB e)) [] := by
  refine Ctr.intro Tryd.mixed Tryd.func45 rfl Tryd.okF45 ?_
  simp -implicitDefEqProofs -dsimp only [go_sem, Nat.reduceSub, Nat.reduceAdd, Nat.reduceMul, Nat.reduceLT, Nat.reduceLeDiff, Nat.reduceEqDiff, Nat.reduceDiv, Nat.reduceMod, Int.reduceToNat, Int.reduceLE, Int.reduceLT, Int.reduceBEq, Int.reduceBNe, Int.reduceNeg, Int.reduceAdd, Int.reduceSub, Int.reduceMul, reduceCtorEq, Tryd.ntmps45, Tryd.results45]
  simp -implicitDefEqProofs -dsimp only [go_sem, Nat.reduceSub, Nat.reduceAdd, Nat.reduceMul, Nat.reduceLT, Nat.reduceLeDiff, Nat.reduceEqDiff, Nat.reduceDiv, Nat.reduceMod, Int.reduceToNat, Int.reduceLE, Int.reduceLT, Int.reduceBEq, Int.reduceBNe, Int.reduceNeg, Int.reduceAdd, Int.reduceSub, Int.reduceMul, reduceCtorEq, LogRecord.v, ba_ne]
  refine guardT.splitT (fun g1 => ?_) (fun g1 => ?_) <;> simp -implicitDefEqProofs -dsimp only [go_sem, Nat.reduceSub, Nat.reduceAdd, Nat.reduceMul, Nat.reduceLT, Nat.reduceLeDiff, Nat.reduceEqDiff, Nat.reduceDiv, Nat.reduceMod, Int.reduceToNat, Int.reduceLE, Int.reduceLT, Int.reduceBEq, Int.reduceBNe, Int.reduceNeg, Int.reduceAdd, Int.reduceSub, Int.reduceMul, reduceCtorEq, g1, ba_ne]
  rotate_left
  · refine WeakR.drop' ?_ (by rfl)
    simp only [recB, g1, Bool.false_and]
  (first | refine callT.at (l27Plain_ok e.Command 160 hc) ⟨leA, leA, trivial⟩ ?_ | refine callS.at (l27Plain_ok e.Command 160 hc) ⟨leA, leA, trivial⟩ ?_)
  simp -implicitDefEqProofs -dsimp only [go_sem, Nat.reduceSub, Nat.reduceAdd, Nat.reduceMul, Nat.reduceLT, Nat.reduceLeDiff, Nat.reduceEqDiff, Nat.reduceDiv, Nat.reduceMod, Int.reduceToNat, Int.reduceLE, Int.reduceLT, Int.reduceBEq, Int.reduceBNe, Int.reduceNeg, Int.reduceAdd, Int.reduceSub, Int.reduceMul, reduceCtorEq]
  refine guardT.splitT (fun g2 => ?_) (fun g2 => ?_) <;> simp -implicitDefEqProofs -dsimp only [go_sem, Nat.reduceSub, Nat.reduceAdd, Nat.reduceMul, Nat.reduceLT, Nat.reduceLeDiff, Nat.reduceEqDiff, Nat.reduceDiv, Nat.reduceMod, Int.reduceToNat, Int.reduceLE, Int.reduceLT, Int.reduceBEq, Int.reduceBNe, Int.reduceNeg, Int.reduceAdd, Int.reduceSub, Int.reduceMul, reduceCtorEq, g2, ba_ne]
  rotate_left
  · refine WeakR.drop' ?_ (by rfl)
    have : allS (fun b => plainByte b && !(b == 64)) e.Command = (allS plainByte e.Command && allS (fun b => !(b == 64)) e.Command) := allS_and _ _ _
    simp only [recB, this]
    by_cases k : e.Command.size ≤ 160
    · have : allS plainByte e.Command = false := by
        cases q : allS plainByte e.Command with
        | false => rfl
        | true => rw [q] at g2; simp at g2; omega
      simp [this]
    · simp [k]
  have g2' : allS plainByte e.Command = true ∧ e.Command.size ≤ 160 := by simp at g2; exact ⟨g2.1, by omega⟩
  (first | refine callT.at (l1Stands_ok e.Command 64 hc) ⟨leA, leA, trivial⟩ ?_ | refine callS.at (l1Stands_ok e.Command 64 hc) ⟨leA, leA, trivial⟩ ?_)
  simp -implicitDefEqProofs -dsimp only [go_sem, Nat.reduceSub, Nat.reduceAdd, Nat.reduceMul, Nat.reduceLT, Nat.reduceLeDiff, Nat.reduceEqDiff, Nat.reduceDiv, Nat.reduceMod, Int.reduceToNat, Int.reduceLE, Int.reduceLT, Int.reduceBEq, Int.reduceBNe, Int.reduceNeg, Int.reduceAdd, Int.reduceSub, Int.reduceMul, reduceCtorEq, Bool.not_not]
  refine guardT.splitT (fun g3 => ?_) (fun g3 => ?_) <;> simp -implicitDefEqProofs -dsimp only [go_sem, Nat.reduceSub, Nat.reduceAdd, Nat.reduceMul, Nat.reduceLT, Nat.reduceLeDiff, Nat.reduceEqDiff, Nat.reduceDiv, Nat.reduceMod, Int.reduceToNat, Int.reduceLE, Int.reduceLT, Int.reduceBEq, Int.reduceBNe, Int.reduceNeg, Int.reduceAdd, Int.reduceSub, Int.reduceMul, reduceCtorEq, g3, ba_ne]
  rotate_left
  · refine WeakR.drop' ?_ (by rfl)
    have : allS (fun b => plainByte b && !(b == 64)) e.Command = (allS plainByte e.Command && allS (fun b => !(b == 64)) e.Command) := allS_and _ _ _
    simp only [recB, this, g3, Bool.and_false, Bool.false_and]
  (first | refine callT.at (l27Plain_ok e.Reply 200 hr) ⟨leA, leA, trivial⟩ ?_ | refine callS.at (l27Plain_ok e.Reply 200 hr) ⟨leA, leA, trivial⟩ ?_)
  simp -implicitDefEqProofs -dsimp only [go_sem, Nat.reduceSub, Nat.reduceAdd, Nat.reduceMul, Nat.reduceLT, Nat.reduceLeDiff, Nat.reduceEqDiff, Nat.reduceDiv, Nat.reduceMod, Int.reduceToNat, Int.reduceLE, Int.reduceLT, Int.reduceBEq, Int.reduceBNe, Int.reduceNeg, Int.reduceAdd, Int.reduceSub, Int.reduceMul, reduceCtorEq]
  refine WeakR.drop' ?_ (by rfl)
  have h4 : allS (fun b => plainByte b && !(b == 64)) e.Command = (allS plainByte e.Command && allS (fun b => !(b == 64)) e.Command) := allS_and _ _ _
  simp only [recB, h4, g3, g2'.1, g1, decide_eq_true g2'.2, Bool.and_true, Bool.true_and]
  congr 1
  have h6 : decide ((e.Reply.size : Int) ≤ 200) = decide (e.Reply.size ≤ 200) := by rw [Bool.eq_iff_iff]; simp; omega
  rw [h6, Bool.and_comm]
end Go.Proofs
end
section
set_option linter.unusedSimpArgs false
set_option linter.unusedVariables false
namespace Go.Lv

/-- The decimal numeral of a number. -/
def num (n : Int) : ByteArray := ⟨(Lib.itoa n).toArray⟩
theorem num_size {n : Int} (h : i64R n) : (num n).size ≤ 21 := by
  have := Lib.itoa_length_le n h.1 h.2
  simpa [num, ByteArray.size] using this
theorem num_size' {n : Int} (h0 : -9223372036854775808 ≤ n) (h1 : n ≤ 9223372036854775807) : (num n).size ≤ 21 := num_size ⟨h0, h1⟩
theorem ba_size (l : Array UInt8) : (ByteArray.mk l).size = l.size := rfl
theorem ba_add (x y : Array UInt8) : (ByteArray.mk x ++ ByteArray.mk y) = ByteArray.mk (x ++ y) := by
  apply ByteArray.ext
  simp
def digits : ByteArray := ⟨#[48, 49, 50, 51, 52, 53, 54, 55, 56, 57]⟩
theorem digit_at (d : Nat) (h : d < 10) : digits.extract d (d + 1) = ⟨#[UInt8.ofNat (48 + d)]⟩ := by
  apply ByteArray.ext
  rw [ByteArray.data_extract]
  match d, h with
  | 0, _ => decide
  | 1, _ => decide
  | 2, _ => decide
  | 3, _ => decide
  | 4, _ => decide
  | 5, _ => decide
  | 6, _ => decide
  | 7, _ => decide
  | 8, _ => decide
  | 9, _ => decide
theorem itoa_nat (u : Nat) : Lib.itoa (u : Int) = Lib.decDigits u := by unfold Lib.itoa; rw [if_neg (by omega)]; simp
theorem num_neg {u : Nat} (h : 1 ≤ u) : num (-(u : Int)) = ⟨#[45]⟩ ++ num u := by
  have e : Lib.itoa (-(u : Int)) = 45 :: Lib.decDigits u := by unfold Lib.itoa; rw [if_pos (by omega)]; simp
  unfold num
  rw [e, itoa_nat, ba_add]
  simp
theorem num_one {u : Nat} (h : u < 10) : num u = digits.extract u (u + 1) := by
  rw [digit_at u h]
  unfold num
  rw [itoa_nat, Lib.decDigits, dif_pos h]
theorem num_more {u : Nat} (h : ¬ u < 10) : num u = num ((u / 10 : Nat) : Int) ++ digits.extract (u % 10) (u % 10 + 1) := by
  rw [digit_at (u % 10) (by omega)]
  unfold num
  rw [itoa_nat, itoa_nat, Lib.decDigits, dif_neg h, ba_add]
  simp

end Go.Lv
end
