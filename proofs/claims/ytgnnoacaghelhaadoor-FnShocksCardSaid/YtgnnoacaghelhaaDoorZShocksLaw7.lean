/-
  A part of the proof: texts put together by a program of the prover. Conditions: none.
-/
import Derived.Test.YtgnnoacaghelhaaDoorZShocksLaw6
import Derived.Shelf.Small.Bits
import Derived.Shelf.Strconv.Itoa0
import Derived.Shelf.Strconv.Itoa1
import Derived.Shelf.LaysM
import Derived.Shelf.Strconv.Itoa2
import Derived.Shelf.Strconv.Itoa3
import Derived.Shelf.Strings.Search1
import Derived.Shelf.Strings.Search2
import Derived.Shelf.Strings.Search3
import Derived.Shelf.Strings.Cut
import Derived.Shelf.Strings.Count
import Derived.Shelf.Strings.Shaped
import Derived.Shelf.Unicode.DecodeSlow
import Derived.Test.YtgnnoacaghelhaaDoorProg
set_option linter.unusedSimpArgs false
set_option linter.unusedVariables false
section
namespace Go.Proofs
open Go.Shelf
def Tryd.laysM171_ren : Go.Shelf.Ren := ⟨fun | 171 => 122 | 243 => 170 | 246 => 219 | 283 => 247 | 284 => 248 | 285 => 249 | 286 => 250 | 129 => 180 | 317 => 263 | 318 => 264 | 319 => 265 | 320 => 266 | 337 => 269 | 338 => 270 | n => n, fun | 3 => 3 | 9 => 9 | 2 => 2 | 4 => 4 | 171 => 232 | 0 => 0 | 53 => 88 | 37 => 22 | 5 => 5 | 173 => 234 | 212 => 252 | 51 => 179 | 20 => 20 | 213 => 253 | 46 => 140 | 232 => 258 | 233 => 259 | n => n, fun | 17 => 5 | 18 => 6 | 19 => 7 | n => n⟩
theorem Tryd.laysM171 : Go.Proofs.LaysM.n171 Tryd.prog Tryd.laysM171_ren := {
 mixed := by kernel_rfl
 f129 := Tryd.func180.trans (congrArg some (by kernel_rfl))
 f171 := Tryd.func122.trans (congrArg some (by kernel_rfl))
 f243 := Tryd.func170.trans (congrArg some (by kernel_rfl))
 f246 := Tryd.func219.trans (congrArg some (by kernel_rfl))
 f283 := Tryd.func247.trans (congrArg some (by kernel_rfl))
 f284 := Tryd.func248.trans (congrArg some (by kernel_rfl))
 f285 := Tryd.func249.trans (congrArg some (by kernel_rfl))
 f286 := Tryd.func250.trans (congrArg some (by kernel_rfl))
 f317 := Tryd.func263.trans (congrArg some (by kernel_rfl))
 f318 := Tryd.func264.trans (congrArg some (by kernel_rfl))
 f319 := Tryd.func265.trans (congrArg some (by kernel_rfl))
 f320 := Tryd.func266.trans (congrArg some (by kernel_rfl))
 f337 := Tryd.func269.trans (congrArg some (by kernel_rfl))
 f338 := Tryd.func270.trans (congrArg some (by kernel_rfl))
 t0 := Tryd.underlying0
 a0 := Tryd.isAgg0
 z0 := Tryd.sizeOf0
 v0 := Tryd.zeroValue0
 t2 := Tryd.underlying2
 a2 := Tryd.isAgg2
 z2 := Tryd.sizeOf2
 v2 := Tryd.zeroValue2
 t3 := Tryd.underlying3
 a3 := Tryd.isAgg3
 z3 := Tryd.sizeOf3
 v3 := Tryd.zeroValue3
 t4 := Tryd.underlying4
 a4 := Tryd.isAgg4
 z4 := Tryd.sizeOf4
 v4 := Tryd.zeroValue4
 t5 := Tryd.underlying5
 a5 := Tryd.isAgg5
 z5 := Tryd.sizeOf5
 v5 := Tryd.zeroValue5
 t9 := Tryd.underlying9
 a9 := Tryd.isAgg9
 z9 := Tryd.sizeOf9
 v9 := Tryd.zeroValue9
 t20 := Tryd.underlying20
 a20 := Tryd.isAgg20
 z20 := Tryd.sizeOf20
 v20 := Tryd.zeroValue20
 t37 := Tryd.underlying22
 a37 := Tryd.isAgg22
 z37 := Tryd.sizeOf22
 v37 := Tryd.zeroValue22
 t46 := Tryd.underlying140
 a46 := Tryd.isAgg140
 z46 := Tryd.sizeOf140
 v46 := Tryd.zeroValue140
 t51 := Tryd.underlying179
 a51 := Tryd.isAgg179
 z51 := Tryd.sizeOf179
 v51 := Tryd.zeroValue179
 t53 := Tryd.underlying88
 a53 := Tryd.isAgg88
 z53 := Tryd.sizeOf88
 v53 := Tryd.zeroValue88
 t171 := Tryd.underlying232
 a171 := Tryd.isAgg232
 z171 := Tryd.sizeOf232
 v171 := Tryd.zeroValue232
 t173 := Tryd.underlying234
 a173 := Tryd.isAgg234
 z173 := Tryd.sizeOf234
 v173 := Tryd.zeroValue234
 t212 := Tryd.underlying252
 a212 := Tryd.isAgg252
 z212 := Tryd.sizeOf252
 v212 := Tryd.zeroValue252
 t213 := Tryd.underlying253
 a213 := Tryd.isAgg253
 z213 := Tryd.sizeOf253
 t232 := Tryd.underlying258
 a232 := Tryd.isAgg258
 z232 := Tryd.sizeOf258
 v232 := Tryd.zeroValue258
 t233 := Tryd.underlying259
 a233 := Tryd.isAgg259
 z233 := Tryd.sizeOf259
 v233 := Tryd.zeroValue259
 g17 := by kernel_rfl
 g18 := by kernel_rfl
 g19 := by kernel_rfl
 i0 := by kernel_rfl
 i2 := by kernel_rfl
 i3 := by kernel_rfl
 i4 := by kernel_rfl
 i5 := by kernel_rfl
 i9 := by kernel_rfl
 i20 := by kernel_rfl
 i37 := by kernel_rfl
 i46 := by kernel_rfl
 i51 := by kernel_rfl
 i53 := by kernel_rfl
 i171 := by kernel_rfl
 i173 := by kernel_rfl
 i212 := by kernel_rfl
 i232 := by kernel_rfl
 i233 := by kernel_rfl
 m17 := by kernel_rfl
 m18 := by kernel_rfl
 m19 := by kernel_rfl }
open Go.RowKit Go.Sort Go.Lib in
theorem Tryd.strconv_Itoa (n : Int) (h0 : -9223372036854775808 ≤ n) (h1 : n ≤ 9223372036854775807) (w : World) (htab : Lib.TabIs Tryd.prog w "internal/strconv.uint64pow10" .u64 Lib.pow10Tab) :
   Calls Tryd.prog 122 #[.int .i64 n] w fun e w' => e = .returned (.string ⟨(Lib.itoa n).toArray⟩) ∧ ∃ k os, w' = grow (w.drewN k) os := Any.strconv_Itoa Tryd.laysM171 n h0 h1 w htab
end Go.Proofs
end
