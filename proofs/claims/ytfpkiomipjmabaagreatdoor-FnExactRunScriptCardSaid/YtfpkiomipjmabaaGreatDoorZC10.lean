/-
  A part of the proof: texts put together by a program of the prover. Conditions: none.
-/
import Derived.Test.YtfpkiomipjmabaaGreatDoorZC9
import Derived.Shelf.Strings.Builder1
import Derived.Shelf.Strings.Builder2
import Derived.Shelf.Strings.OnBuilder
import Derived.Shelf.Small.Utf8
import Derived.Shelf.Small.Strs
import Derived.Shelf.Utf8.RuneCount
import Derived.Shelf.Strconv.Atoi
import Derived.Shelf.Strconv.Itoa0
import Derived.Shelf.Strconv.Itoa1
import Derived.Shelf.LaysM
import Derived.Shelf.Strconv.Itoa2
import Derived.Shelf.Strconv.Itoa3
import Derived.Shelf.Strconv.AtoiErrFast
import Derived.Shelf.Strconv.ParseIntEmpty
import Derived.Shelf.Strconv.AtoiFail
import Derived.Shelf.Strconv.Clone
import Derived.Shelf.Strconv.SyntaxError
import Derived.Shelf.LaysC
import Derived.Shelf.Strconv.ToError
import Derived.Shelf.Strconv.Lower
import Derived.Shelf.Strconv.ParseUint10
import Derived.Shelf.Strconv.ParseUint10Empty
import Derived.Shelf.Strconv.ParseUint10Any
import Derived.Shelf.Strconv.ParseInt10
import Derived.Shelf.Strconv.AtoiLong
import Derived.Shelf.Strconv.AtoiInnerAll
import Derived.Shelf.Strconv.RangeError
import Derived.Shelf.Strconv.ToErrorRange
import Derived.Shelf.Strconv.AtoiAll
import Derived.Shelf.Strings.Search1
import Derived.Shelf.Strings.Search2
import Derived.Shelf.Strings.Search3
import Derived.Shelf.Strings.Cut
import Derived.Shelf.Strings.Count
import Derived.Shelf.Strings.Shaped
import Derived.Shelf.Strings.Prefix
import Derived.Shelf.Strings.Split
import Derived.Shelf.Strings.Replace
import Derived.Shelf.Strings.SplitShaped
import Derived.Shelf.Unicode.Decode
import Derived.Shelf.Strings.Runes
import Derived.Shelf.Strings.RuneCount
import Derived.Shelf.Strings.IndexAny
import Derived.Shelf.Strings.AsciiSet
import Derived.Shelf.Strings.IndexAnyAll
import Derived.Shelf.Strings.Explode
import Derived.Shelf.Unicode.DecodeSlow
import Derived.Shelf.Unicode.DecodeAny
import Derived.Ground.Names2Prog
import Derived.Shelf.Slices.SearchI
import Derived.Test.YtfpkiomipjmabaaGreatDoorProg
set_option linter.unusedSimpArgs false
set_option linter.unusedVariables false
section
namespace Go.Proofs
open Go.Shelf
def Tryz.aa3 : Go.Shelf.Ren := ⟨fun | 156 => 244 | 165 => 126 | 166 => 128 | 169 => 130 | 240 => 187 | 241 => 188 | 276 => 226 | 277 => 227 | n => n, fun | 31 => 67 | 9 => 9 | 3 => 3 | 4 => 4 | 0 => 0 | 20 => 20 | 72 => 145 | 76 => 149 | 70 => 143 | 37 => 22 | 75 => 148 | 127 => 204 | 164 => 228 | 5 => 5 | 80 => 91 | n => n, fun | n => n⟩
theorem Tryz.al1 : Go.Proofs.Lays.n156 Tryz.prog Tryz.aa3 := {
 mixed := by kernel_rfl
 f156 := Tryz.func244.trans (congrArg some (by kernel_rfl))
 f165 := Tryz.func126.trans (congrArg some (by kernel_rfl))
 f166 := Tryz.func128.trans (congrArg some (by kernel_rfl))
 f169 := Tryz.func130.trans (congrArg some (by kernel_rfl))
 f240 := Tryz.func187.trans (congrArg some (by kernel_rfl))
 f241 := Tryz.func188.trans (congrArg some (by kernel_rfl))
 f276 := Tryz.func226.trans (congrArg some (by kernel_rfl))
 f277 := Tryz.func227.trans (congrArg some (by kernel_rfl))
 t0 := Tryz.underlying0
 a0 := Tryz.isAgg0
 z0 := Tryz.sizeOf0
 v0 := Tryz.zeroValue0
 t3 := Tryz.underlying3
 a3 := Tryz.isAgg3
 z3 := Tryz.sizeOf3
 v3 := Tryz.zeroValue3
 t4 := Tryz.underlying4
 a4 := Tryz.isAgg4
 z4 := Tryz.sizeOf4
 v4 := Tryz.zeroValue4
 t9 := Tryz.underlying9
 a9 := Tryz.isAgg9
 z9 := Tryz.sizeOf9
 v9 := Tryz.zeroValue9
 t20 := Tryz.underlying20
 a20 := Tryz.isAgg20
 z20 := Tryz.sizeOf20
 v20 := Tryz.zeroValue20
 t31 := Tryz.underlying67
 a31 := Tryz.isAgg67
 z31 := Tryz.sizeOf67
 v31 := Tryz.zeroValue67
 t37 := Tryz.underlying22
 a37 := Tryz.isAgg22
 z37 := Tryz.sizeOf22
 v37 := Tryz.zeroValue22
 t70 := Tryz.underlying143
 a70 := Tryz.isAgg143
 z70 := Tryz.sizeOf143
 v70 := Tryz.zeroValue143
 t72 := Tryz.underlying145
 a72 := Tryz.isAgg145
 z72 := Tryz.sizeOf145
 v72 := Tryz.zeroValue145
 t75 := Tryz.underlying148
 a75 := Tryz.isAgg148
 z75 := Tryz.sizeOf148
 v75 := Tryz.zeroValue148
 t76 := Tryz.underlying149
 a76 := Tryz.isAgg149
 z76 := Tryz.sizeOf149
 v76 := Tryz.zeroValue149
 t127 := Tryz.underlying204
 a127 := Tryz.isAgg204
 z127 := Tryz.sizeOf204
 v127 := Tryz.zeroValue204
 t164 := Tryz.underlying228
 a164 := Tryz.isAgg228
 z164 := Tryz.sizeOf228
 v164 := Tryz.zeroValue228 }
theorem Tryz.qd : Builder.Extra Tryz.prog Tryz.aa3 := {
 sizeBuilder := by kernel_rfl
 liesBuilder := by kernel_rfl
 t5 := Tryz.underlying5
 a5 := Tryz.isAgg5
 z5 := Tryz.sizeOf5
 v5 := Tryz.zeroValue5
 infoByte := by kernel_rfl
 cellsByte := by kernel_rfl
 sizeByte := by kernel_rfl
 neB5 := by decide }
open Go.RowKit in
theorem Tryz.strings_Join_none (a : Option Addr) (c : Nat) (sep : ByteArray) (w : World) :
   Calls Tryz.prog 244 #[.slice a 0 c, .string sep] w fun e w' => e = .returned (.string ⟨#[]⟩) ∧ w' = w := Any.strings_Join_none Tryz.al1 Tryz.qd a c sep w
open Go.RowKit in
theorem Tryz.strings_Join (bk o c : Nat) (xs : List ByteArray) (sep : ByteArray) (w : World) (hcells : ∀ (j : Nat) x, xs[j]? = some x → w.cell? ⟨bk, o + j, none⟩ = some (.string x)) (hbk : bk < w.heap.size) (hN : xs.length ≤ 140737488355328) (hcap : xs.length ≤ c) (hlen : (Lib.join (xs.map (·.data.toList)) sep.data.toList).length ≤ 140737488355328) :
   Calls Tryz.prog 244 #[.slice (some ⟨bk, o, none⟩) xs.length c, .string sep] w fun e w' => e = .returned (.string ⟨(Lib.join (xs.map (·.data.toList)) sep.data.toList).toArray⟩) ∧ Below w.heap.size w w' := Any.strings_Join Tryz.al1 Tryz.qd bk o c xs sep w hcells hbk hN hcap hlen
def Tryz.ah8 : Go.Shelf.Ren := ⟨fun | 171 => 134 | 243 => 193 | 246 => 233 | 283 => 260 | 284 => 261 | 285 => 262 | 286 => 263 | 129 => 278 | 317 => 277 | 318 => 279 | 319 => 280 | 320 => 281 | 337 => 287 | 338 => 288 | n => n, fun | 3 => 3 | 9 => 9 | 2 => 2 | 4 => 4 | 171 => 267 | 0 => 0 | 53 => 103 | 37 => 22 | 5 => 5 | 173 => 270 | 212 => 285 | 51 => 259 | 20 => 20 | 213 => 286 | 46 => 206 | 232 => 295 | 233 => 296 | n => n, fun | 17 => 5 | 18 => 6 | 19 => 7 | n => n⟩
theorem Tryz.aqq : Go.Proofs.LaysM.n171 Tryz.prog Tryz.ah8 := {
 mixed := by kernel_rfl
 f129 := Tryz.func278.trans (congrArg some (by kernel_rfl))
 f171 := Tryz.func134.trans (congrArg some (by kernel_rfl))
 f243 := Tryz.func193.trans (congrArg some (by kernel_rfl))
 f246 := Tryz.func233.trans (congrArg some (by kernel_rfl))
 f283 := Tryz.func260.trans (congrArg some (by kernel_rfl))
 f284 := Tryz.func261.trans (congrArg some (by kernel_rfl))
 f285 := Tryz.func262.trans (congrArg some (by kernel_rfl))
 f286 := Tryz.func263.trans (congrArg some (by kernel_rfl))
 f317 := Tryz.func277.trans (congrArg some (by kernel_rfl))
 f318 := Tryz.func279.trans (congrArg some (by kernel_rfl))
 f319 := Tryz.func280.trans (congrArg some (by kernel_rfl))
 f320 := Tryz.func281.trans (congrArg some (by kernel_rfl))
 f337 := Tryz.func287.trans (congrArg some (by kernel_rfl))
 f338 := Tryz.func288.trans (congrArg some (by kernel_rfl))
 t0 := Tryz.underlying0
 a0 := Tryz.isAgg0
 z0 := Tryz.sizeOf0
 v0 := Tryz.zeroValue0
 t2 := Tryz.underlying2
 a2 := Tryz.isAgg2
 z2 := Tryz.sizeOf2
 v2 := Tryz.zeroValue2
 t3 := Tryz.underlying3
 a3 := Tryz.isAgg3
 z3 := Tryz.sizeOf3
 v3 := Tryz.zeroValue3
 t4 := Tryz.underlying4
 a4 := Tryz.isAgg4
 z4 := Tryz.sizeOf4
 v4 := Tryz.zeroValue4
 t5 := Tryz.underlying5
 a5 := Tryz.isAgg5
 z5 := Tryz.sizeOf5
 v5 := Tryz.zeroValue5
 t9 := Tryz.underlying9
 a9 := Tryz.isAgg9
 z9 := Tryz.sizeOf9
 v9 := Tryz.zeroValue9
 t20 := Tryz.underlying20
 a20 := Tryz.isAgg20
 z20 := Tryz.sizeOf20
 v20 := Tryz.zeroValue20
 t37 := Tryz.underlying22
 a37 := Tryz.isAgg22
 z37 := Tryz.sizeOf22
 v37 := Tryz.zeroValue22
 t46 := Tryz.underlying206
 a46 := Tryz.isAgg206
 z46 := Tryz.sizeOf206
 v46 := Tryz.zeroValue206
 t51 := Tryz.underlying259
 a51 := Tryz.isAgg259
 z51 := Tryz.sizeOf259
 v51 := Tryz.zeroValue259
 t53 := Tryz.underlying103
 a53 := Tryz.isAgg103
 z53 := Tryz.sizeOf103
 v53 := Tryz.zeroValue103
 t171 := Tryz.underlying267
 a171 := Tryz.isAgg267
 z171 := Tryz.sizeOf267
 v171 := Tryz.zeroValue267
 t173 := Tryz.underlying270
 a173 := Tryz.isAgg270
 z173 := Tryz.sizeOf270
 v173 := Tryz.zeroValue270
 t212 := Tryz.underlying285
 a212 := Tryz.isAgg285
 z212 := Tryz.sizeOf285
 v212 := Tryz.zeroValue285
 t213 := Tryz.underlying286
 a213 := Tryz.isAgg286
 z213 := Tryz.sizeOf286
 t232 := Tryz.underlying295
 a232 := Tryz.isAgg295
 z232 := Tryz.sizeOf295
 v232 := Tryz.zeroValue295
 t233 := Tryz.underlying296
 a233 := Tryz.isAgg296
 z233 := Tryz.sizeOf296
 v233 := Tryz.zeroValue296
 g17 := by kernel_rfl
 g18 := by kernel_rfl
 g19 := by kernel_rfl
 i0 := by kernel_rfl
 i2 := by kernel_rfl
 i3 := by kernel_rfl
 i4 := by kernel_rfl
 i5 := by kernel_rfl
 i9 := by kernel_rfl
 i20 := by kernel_rfl
 i37 := by kernel_rfl
 i46 := by kernel_rfl
 i51 := by kernel_rfl
 i53 := by kernel_rfl
 i171 := by kernel_rfl
 i173 := by kernel_rfl
 i212 := by kernel_rfl
 i232 := by kernel_rfl
 i233 := by kernel_rfl
 m17 := by kernel_rfl
 m18 := by kernel_rfl
 m19 := by kernel_rfl }
open Go.RowKit Go.Sort Go.Lib in
theorem Tryz.strconv_Itoa (n : Int) (h0 : -9223372036854775808 ≤ n) (h1 : n ≤ 9223372036854775807) (w : World) (htab : Lib.TabIs Tryz.prog w "internal/strconv.uint64pow10" .u64 Lib.pow10Tab) :
   Calls Tryz.prog 134 #[.int .i64 n] w fun e w' => e = .returned (.string ⟨(Lib.itoa n).toArray⟩) ∧ ∃ k os, w' = grow (w.drewN k) os := Any.strconv_Itoa Tryz.aqq n h0 h1 w htab
def Tryz.ahu : Go.Shelf.Ren := ⟨fun | 172 => 132 | 244 => 191 | 245 => 192 | 247 => 228 | 279 => 229 | 280 => 230 | 281 => 231 | 282 => 232 | 287 => 257 | 316 => 258 | 171 => 134 | 205 => 259 | 321 => 275 | 322 => 276 | 243 => 193 | 246 => 233 | 283 => 260 | 284 => 261 | 285 => 262 | 286 => 263 | 129 => 278 | 317 => 277 | 318 => 279 | 319 => 280 | 320 => 281 | 337 => 287 | 338 => 288 | n => n, fun | 9 => 9 | 3 => 3 | 75 => 148 | 76 => 149 | 4 => 4 | 5 => 5 | 167 => 235 | 37 => 22 | 0 => 0 | 85 => 236 | 2 => 2 | 168 => 238 | 53 => 103 | 175 => 262 | 46 => 206 | 210 => 265 | 127 => 204 | 145 => 283 | 143 => 281 | 21 => 21 | 171 => 267 | 173 => 270 | 212 => 285 | 51 => 259 | 20 => 20 | 213 => 286 | 232 => 295 | 233 => 296 | 80 => 91 | n => n, fun | 15 => 3 | 16 => 4 | 17 => 5 | 18 => 6 | 19 => 7 | n => n⟩
theorem Tryz.aim : Go.Proofs.LaysC.n172 Tryz.prog Tryz.ahu := {
 mixed := by kernel_rfl
 f129 := Tryz.func278.trans (congrArg some (by kernel_rfl))
 f171 := Tryz.func134.trans (congrArg some (by kernel_rfl))
 f172 := Tryz.func132.trans (congrArg some (by kernel_rfl))
 f205 := Tryz.func259.trans (congrArg some (by kernel_rfl))
 f243 := Tryz.func193.trans (congrArg some (by kernel_rfl))
 f244 := Tryz.func191.trans (congrArg some (by kernel_rfl))
 f245 := Tryz.func192.trans (congrArg some (by kernel_rfl))
 f246 := Tryz.func233.trans (congrArg some (by kernel_rfl))
 f247 := Tryz.func228.trans (congrArg some (by kernel_rfl))
 f279 := Tryz.func229.trans (congrArg some (by kernel_rfl))
 f280 := Tryz.func230.trans (congrArg some (by kernel_rfl))
 f281 := Tryz.func231.trans (congrArg some (by kernel_rfl))
 f282 := Tryz.func232.trans (congrArg some (by kernel_rfl))
 f283 := Tryz.func260.trans (congrArg some (by kernel_rfl))
 f284 := Tryz.func261.trans (congrArg some (by kernel_rfl))
 f285 := Tryz.func262.trans (congrArg some (by kernel_rfl))
 f286 := Tryz.func263.trans (congrArg some (by kernel_rfl))
 f287 := Tryz.func257.trans (congrArg some (by kernel_rfl))
 f316 := Tryz.func258.trans (congrArg some (by kernel_rfl))
 f317 := Tryz.func277.trans (congrArg some (by kernel_rfl))
 f318 := Tryz.func279.trans (congrArg some (by kernel_rfl))
 f319 := Tryz.func280.trans (congrArg some (by kernel_rfl))
 f320 := Tryz.func281.trans (congrArg some (by kernel_rfl))
 f321 := Tryz.func275.trans (congrArg some (by kernel_rfl))
 f322 := Tryz.func276.trans (congrArg some (by kernel_rfl))
 f337 := Tryz.func287.trans (congrArg some (by kernel_rfl))
 f338 := Tryz.func288.trans (congrArg some (by kernel_rfl))
 t0 := Tryz.underlying0
 a0 := Tryz.isAgg0
 z0 := Tryz.sizeOf0
 v0 := Tryz.zeroValue0
 t2 := Tryz.underlying2
 a2 := Tryz.isAgg2
 z2 := Tryz.sizeOf2
 v2 := Tryz.zeroValue2
 t3 := Tryz.underlying3
 a3 := Tryz.isAgg3
 z3 := Tryz.sizeOf3
 v3 := Tryz.zeroValue3
 t4 := Tryz.underlying4
 a4 := Tryz.isAgg4
 z4 := Tryz.sizeOf4
 v4 := Tryz.zeroValue4
 t5 := Tryz.underlying5
 a5 := Tryz.isAgg5
 z5 := Tryz.sizeOf5
 v5 := Tryz.zeroValue5
 t9 := Tryz.underlying9
 a9 := Tryz.isAgg9
 z9 := Tryz.sizeOf9
 v9 := Tryz.zeroValue9
 t20 := Tryz.underlying20
 a20 := Tryz.isAgg20
 z20 := Tryz.sizeOf20
 v20 := Tryz.zeroValue20
 t21 := Tryz.underlying21
 a21 := Tryz.isAgg21
 z21 := Tryz.sizeOf21
 v21 := Tryz.zeroValue21
 t37 := Tryz.underlying22
 a37 := Tryz.isAgg22
 z37 := Tryz.sizeOf22
 v37 := Tryz.zeroValue22
 t46 := Tryz.underlying206
 a46 := Tryz.isAgg206
 z46 := Tryz.sizeOf206
 v46 := Tryz.zeroValue206
 t51 := Tryz.underlying259
 a51 := Tryz.isAgg259
 z51 := Tryz.sizeOf259
 v51 := Tryz.zeroValue259
 t53 := Tryz.underlying103
 a53 := Tryz.isAgg103
 z53 := Tryz.sizeOf103
 v53 := Tryz.zeroValue103
 t75 := Tryz.underlying148
 a75 := Tryz.isAgg148
 z75 := Tryz.sizeOf148
 v75 := Tryz.zeroValue148
 t76 := Tryz.underlying149
 a76 := Tryz.isAgg149
 z76 := Tryz.sizeOf149
 v76 := Tryz.zeroValue149
 t85 := Tryz.underlying236
 a85 := Tryz.isAgg236
 z85 := Tryz.sizeOf236
 v85 := Tryz.zeroValue236
 t127 := Tryz.underlying204
 a127 := Tryz.isAgg204
 z127 := Tryz.sizeOf204
 v127 := Tryz.zeroValue204
 t143 := Tryz.underlying281
 a143 := Tryz.isAgg281
 z143 := Tryz.sizeOf281
 v143 := Tryz.zeroValue281
 t145 := Tryz.underlying283
 a145 := Tryz.isAgg283
 z145 := Tryz.sizeOf283
 v145 := Tryz.zeroValue283
 t167 := Tryz.underlying235
 a167 := Tryz.isAgg235
 z167 := Tryz.sizeOf235
 v167 := Tryz.zeroValue235
 t168 := Tryz.underlying238
 a168 := Tryz.isAgg238
 z168 := Tryz.sizeOf238
 v168 := Tryz.zeroValue238
 t171 := Tryz.underlying267
 a171 := Tryz.isAgg267
 z171 := Tryz.sizeOf267
 v171 := Tryz.zeroValue267
 t173 := Tryz.underlying270
 a173 := Tryz.isAgg270
 z173 := Tryz.sizeOf270
 v173 := Tryz.zeroValue270
 t175 := Tryz.underlying262
 a175 := Tryz.isAgg262
 z175 := Tryz.sizeOf262
 v175 := Tryz.zeroValue262
 t210 := Tryz.underlying265
 a210 := Tryz.isAgg265
 z210 := Tryz.sizeOf265
 v210 := Tryz.zeroValue265
 t212 := Tryz.underlying285
 a212 := Tryz.isAgg285
 z212 := Tryz.sizeOf285
 v212 := Tryz.zeroValue285
 t213 := Tryz.underlying286
 a213 := Tryz.isAgg286
 z213 := Tryz.sizeOf286
 t232 := Tryz.underlying295
 a232 := Tryz.isAgg295
 z232 := Tryz.sizeOf295
 v232 := Tryz.zeroValue295
 t233 := Tryz.underlying296
 a233 := Tryz.isAgg296
 z233 := Tryz.sizeOf296
 v233 := Tryz.zeroValue296
 g15 := by kernel_rfl
 g16 := by kernel_rfl
 g17 := by kernel_rfl
 g18 := by kernel_rfl
 g19 := by kernel_rfl
 t80 := Tryz.underlying91
 a80 := Tryz.isAgg91
 z80 := Tryz.sizeOf91
 v80 := Tryz.zeroValue91
 i0 := by kernel_rfl
 i2 := by kernel_rfl
 i3 := by kernel_rfl
 i4 := by kernel_rfl
 i5 := by kernel_rfl
 i9 := by kernel_rfl
 i20 := by kernel_rfl
 i21 := by kernel_rfl
 i37 := by kernel_rfl
 i46 := by kernel_rfl
 i51 := by kernel_rfl
 i53 := by kernel_rfl
 i75 := by kernel_rfl
 i76 := by kernel_rfl
 i80 := by kernel_rfl
 i85 := by kernel_rfl
 i127 := by kernel_rfl
 i143 := by kernel_rfl
 i145 := by kernel_rfl
 i167 := by kernel_rfl
 i168 := by kernel_rfl
 i171 := by kernel_rfl
 i173 := by kernel_rfl
 i175 := by kernel_rfl
 i210 := by kernel_rfl
 i212 := by kernel_rfl
 i232 := by kernel_rfl
 i233 := by kernel_rfl
 m15 := by kernel_rfl
 m16 := by kernel_rfl
 m17 := by kernel_rfl
 m18 := by kernel_rfl
 m19 := by kernel_rfl
 c0 := by kernel_rfl
 c2 := by kernel_rfl
 c3 := by kernel_rfl
 c4 := by kernel_rfl
 c5 := by kernel_rfl
 c9 := by kernel_rfl
 c20 := by kernel_rfl
 c21 := by kernel_rfl
 c37 := by kernel_rfl
 c46 := by kernel_rfl
 c51 := by kernel_rfl
 c53 := by kernel_rfl
 c75 := by kernel_rfl
 c76 := by kernel_rfl
 c80 := by kernel_rfl
 c85 := by kernel_rfl
 c127 := by kernel_rfl
 c143 := by kernel_rfl
 c145 := by kernel_rfl
 c167 := by kernel_rfl
 c168 := by kernel_rfl
 c171 := by kernel_rfl
 c173 := by kernel_rfl
 c175 := by kernel_rfl
 c210 := by kernel_rfl
 c212 := by kernel_rfl
 c213 := by kernel_rfl
 c232 := by kernel_rfl
 c233 := by kernel_rfl }
open Go.RowKit in
theorem Tryz.strconv_Atoi_ok (s : ByteArray) (hmax : s.size ≤ 9223372036854775806) (v : Int) (h : Lib.atoiAll s.data.toList = .ok v) (w : World) :
   Calls Tryz.prog 132 #[.string s] w fun e w' => e = .returned (.tuple #[.int .i64 v, .nilIface]) ∧ (w' = w ∨ ∃ t, w' = Lib.bytesWorld w 5 t) := Any.strconv_Atoi_ok Tryz.aim s hmax v h w
open Go.RowKit in
theorem Tryz.strconv_Atoi_syntax (s : ByteArray) (hlim : s.size ≤ 281474976710656) {q} (h : Lib.atoiAll s.data.toList = q) (h1 : q ≠ .range) (h2 : ∀ v, q ≠ .ok v) (ev : Value) (w : World) (hv : w.cell? ⟨3, 0, none⟩ = some ev) (hev : ev = .nilIface ∨ ∃ te pe, ev = .iface te pe) :
   Calls Tryz.prog 132 #[.string s] w fun e w' => ∃ N, e = .returned (.tuple #[.int .i64 (0), .iface 238 (.pointer (some ⟨N, 0, none⟩))]) ∧ w.heap.size ≤ N ∧ w'.heap[N]? = some (.cells #[.string ⟨#[65, 116, 111, 105]⟩, .string s, ev] 265 (0, 0)) ∧ Below w.heap.size w w' := by cases q with | range => exact absurd rfl h1 | ok v => exact absurd rfl (h2 v) | _ => exact Any.strconv_Atoi_syntax Tryz.aim s hlim h ev w hv hev
def Tryz.ai0 : Go.Shelf.Ren := ⟨fun | 219 => 184 | 217 => 222 | 225 => 223 | 224 => 224 | 267 => 225 | 266 => 255 | 314 => 256 | n => n, fun | 9 => 9 | 3 => 3 | 4 => 4 | 5 => 5 | 46 => 206 | 146 => 260 | 51 => 259 | n => n, fun | 1 => 0 | n => n⟩
theorem Tryz.asb : Go.Proofs.Lays.n219 Tryz.prog Tryz.ai0 := {
 mixed := by kernel_rfl
 f217 := Tryz.func222.trans (congrArg some (by kernel_rfl))
 f219 := Tryz.func184.trans (congrArg some (by kernel_rfl))
 f224 := Tryz.func224.trans (congrArg some (by kernel_rfl))
 f225 := Tryz.func223.trans (congrArg some (by kernel_rfl))
 f266 := Tryz.func255.trans (congrArg some (by kernel_rfl))
 f267 := Tryz.func225.trans (congrArg some (by kernel_rfl))
 f314 := Tryz.func256.trans (congrArg some (by kernel_rfl))
 t3 := Tryz.underlying3
 a3 := Tryz.isAgg3
 z3 := Tryz.sizeOf3
 v3 := Tryz.zeroValue3
 t4 := Tryz.underlying4
 a4 := Tryz.isAgg4
 z4 := Tryz.sizeOf4
 v4 := Tryz.zeroValue4
 t5 := Tryz.underlying5
 a5 := Tryz.isAgg5
 z5 := Tryz.sizeOf5
 v5 := Tryz.zeroValue5
 t9 := Tryz.underlying9
 a9 := Tryz.isAgg9
 z9 := Tryz.sizeOf9
 v9 := Tryz.zeroValue9
 t46 := Tryz.underlying206
 a46 := Tryz.isAgg206
 z46 := Tryz.sizeOf206
 v46 := Tryz.zeroValue206
 t51 := Tryz.underlying259
 a51 := Tryz.isAgg259
 z51 := Tryz.sizeOf259
 v51 := Tryz.zeroValue259
 t146 := Tryz.underlying260
 a146 := Tryz.isAgg260
 z146 := Tryz.sizeOf260
 v146 := Tryz.zeroValue260
 g1 := by kernel_rfl }
open Go.RowKit Go.Lib in
theorem Tryz.stringslite_Index_one (s : ByteArray) (c : UInt8) (w : World) :
   Calls Tryz.prog 184 #[.string s, .string ⟨#[c]⟩] w fun e w' => e = .returned (.int .i64 (Lib.indexByte s.data.toList c)) ∧ w' = w := Any.stringslite_Index_one Tryz.asb s c w
def Tryz.ait : Go.Shelf.Ren := ⟨fun | 144 => 145 | 143 => 127 | 219 => 184 | 217 => 222 | 225 => 223 | 224 => 224 | 267 => 225 | 266 => 255 | 314 => 256 | n => n, fun | 9 => 9 | 4 => 4 | 3 => 3 | 5 => 5 | 46 => 206 | 146 => 260 | 51 => 259 | n => n, fun | 1 => 0 | n => n⟩
theorem Tryz.as4 : Go.Proofs.Lays.n144 Tryz.prog Tryz.ait := {
 mixed := by kernel_rfl
 f143 := Tryz.func127.trans (congrArg some (by kernel_rfl))
 f144 := Tryz.func145.trans (congrArg some (by kernel_rfl))
 f217 := Tryz.func222.trans (congrArg some (by kernel_rfl))
 f219 := Tryz.func184.trans (congrArg some (by kernel_rfl))
 f224 := Tryz.func224.trans (congrArg some (by kernel_rfl))
 f225 := Tryz.func223.trans (congrArg some (by kernel_rfl))
 f266 := Tryz.func255.trans (congrArg some (by kernel_rfl))
 f267 := Tryz.func225.trans (congrArg some (by kernel_rfl))
 f314 := Tryz.func256.trans (congrArg some (by kernel_rfl))
 t3 := Tryz.underlying3
 a3 := Tryz.isAgg3
 z3 := Tryz.sizeOf3
 v3 := Tryz.zeroValue3
 t4 := Tryz.underlying4
 a4 := Tryz.isAgg4
 z4 := Tryz.sizeOf4
 v4 := Tryz.zeroValue4
 t5 := Tryz.underlying5
 a5 := Tryz.isAgg5
 z5 := Tryz.sizeOf5
 v5 := Tryz.zeroValue5
 t9 := Tryz.underlying9
 a9 := Tryz.isAgg9
 z9 := Tryz.sizeOf9
 v9 := Tryz.zeroValue9
 t46 := Tryz.underlying206
 a46 := Tryz.isAgg206
 z46 := Tryz.sizeOf206
 v46 := Tryz.zeroValue206
 t51 := Tryz.underlying259
 a51 := Tryz.isAgg259
 z51 := Tryz.sizeOf259
 v51 := Tryz.zeroValue259
 t146 := Tryz.underlying260
 a146 := Tryz.isAgg260
 z146 := Tryz.sizeOf260
 v146 := Tryz.zeroValue260
 g1 := by kernel_rfl }
open Go.RowKit Go.Lib in
theorem Tryz.strings_Contains_one (s : ByteArray) (c : UInt8) (w : World) :
   Calls Tryz.prog 145 #[.string s, .string ⟨#[c]⟩] w fun e w' => e = .returned (.bool (decide (0 ≤ Lib.indexByte s.data.toList c))) ∧ w' = w := Any.strings_Contains_one Tryz.as4 s c w
def Tryz.aja : Go.Shelf.Ren := ⟨fun | 146 => 66 | 221 => 123 | 268 => 183 | 138 => 125 | 143 => 127 | 195 => 185 | 197 => 129 | 218 => 186 | 219 => 184 | 260 => 189 | 217 => 222 | 225 => 223 | 224 => 224 | 267 => 225 | 266 => 255 | 314 => 256 | n => n, fun | 9 => 9 | 31 => 67 | 3 => 3 | 4 => 4 | 0 => 0 | 105 => 151 | 21 => 21 | 5 => 5 | 46 => 206 | 119 => 231 | 139 => 234 | 138 => 233 | 146 => 260 | 51 => 259 | n => n, fun | 1 => 0 | 3 => 1 | 4 => 2 | n => n⟩
theorem Tryz.atz : Go.Proofs.Lays.n146 Tryz.prog Tryz.aja := {
 mixed := by kernel_rfl
 f138 := Tryz.func125.trans (congrArg some (by kernel_rfl))
 f143 := Tryz.func127.trans (congrArg some (by kernel_rfl))
 f146 := Tryz.func66.trans (congrArg some (by kernel_rfl))
 f195 := Tryz.func185.trans (congrArg some (by kernel_rfl))
 f197 := Tryz.func129.trans (congrArg some (by kernel_rfl))
 f217 := Tryz.func222.trans (congrArg some (by kernel_rfl))
 f218 := Tryz.func186.trans (congrArg some (by kernel_rfl))
 f219 := Tryz.func184.trans (congrArg some (by kernel_rfl))
 f221 := Tryz.func123.trans (congrArg some (by kernel_rfl))
 f224 := Tryz.func224.trans (congrArg some (by kernel_rfl))
 f225 := Tryz.func223.trans (congrArg some (by kernel_rfl))
 f260 := Tryz.func189.trans (congrArg some (by kernel_rfl))
 f266 := Tryz.func255.trans (congrArg some (by kernel_rfl))
 f267 := Tryz.func225.trans (congrArg some (by kernel_rfl))
 f268 := Tryz.func183.trans (congrArg some (by kernel_rfl))
 f314 := Tryz.func256.trans (congrArg some (by kernel_rfl))
 t0 := Tryz.underlying0
 a0 := Tryz.isAgg0
 z0 := Tryz.sizeOf0
 v0 := Tryz.zeroValue0
 t3 := Tryz.underlying3
 a3 := Tryz.isAgg3
 z3 := Tryz.sizeOf3
 v3 := Tryz.zeroValue3
 t4 := Tryz.underlying4
 a4 := Tryz.isAgg4
 z4 := Tryz.sizeOf4
 v4 := Tryz.zeroValue4
 t5 := Tryz.underlying5
 a5 := Tryz.isAgg5
 z5 := Tryz.sizeOf5
 v5 := Tryz.zeroValue5
 t9 := Tryz.underlying9
 a9 := Tryz.isAgg9
 z9 := Tryz.sizeOf9
 v9 := Tryz.zeroValue9
 t21 := Tryz.underlying21
 a21 := Tryz.isAgg21
 z21 := Tryz.sizeOf21
 v21 := Tryz.zeroValue21
 t31 := Tryz.underlying67
 a31 := Tryz.isAgg67
 z31 := Tryz.sizeOf67
 v31 := Tryz.zeroValue67
 t46 := Tryz.underlying206
 a46 := Tryz.isAgg206
 z46 := Tryz.sizeOf206
 v46 := Tryz.zeroValue206
 t51 := Tryz.underlying259
 a51 := Tryz.isAgg259
 z51 := Tryz.sizeOf259
 v51 := Tryz.zeroValue259
 t105 := Tryz.underlying151
 a105 := Tryz.isAgg151
 z105 := Tryz.sizeOf151
 v105 := Tryz.zeroValue151
 t119 := Tryz.underlying231
 a119 := Tryz.isAgg231
 z119 := Tryz.sizeOf231
 t138 := Tryz.underlying233
 a138 := Tryz.isAgg233
 z138 := Tryz.sizeOf233
 v138 := Tryz.zeroValue233
 t139 := Tryz.underlying234
 a139 := Tryz.isAgg234
 z139 := Tryz.sizeOf234
 v139 := Tryz.zeroValue234
 t146 := Tryz.underlying260
 a146 := Tryz.isAgg260
 z146 := Tryz.sizeOf260
 v146 := Tryz.zeroValue260
 g1 := by kernel_rfl
 g3 := by kernel_rfl
 g4 := by kernel_rfl }
open Go.RowKit Go.Lib in
theorem Tryz.strings_Split (s sep : ByteArray) (m : Int) (w : World) (hs : s.size < 4294967281) (hm : w.cell? ⟨0, 0, none⟩ = some (.int .i64 m)) (h1 : 1 ≤ sep.size) :
   Calls Tryz.prog 66 #[.string s, .string sep] w fun e w' =>
     e = .returned (.slice (some ⟨w.heap.size, 0, none⟩) (Lib.countB s sep + 1) (Lib.countB s sep + 1)) ∧ w' = w.alloc (.cells ((Lib.splitB sep 0 (Lib.countB s sep) s).map Value.string).toArray 9) := Any.strings_Split Tryz.atz (by kernel_rfl) s sep m w hs hm h1
def Tryz.aj8 : Go.Shelf.Ren := ⟨fun | 150 => 144 | 153 => 198 | 152 => 238 | 226 => 239 | 227 => 240 | 228 => 241 | 137 => 269 | 119 => 270 | 224 => 224 | 225 => 223 | 217 => 222 | 266 => 255 | n => n, fun | 9 => 9 | 4 => 4 | 3 => 3 | 5 => 5 | 21 => 21 | 117 => 248 | 116 => 247 | 0 => 0 | 46 => 206 | 124 => 277 | n => n, fun | n => n⟩
theorem Tryz.asu : Go.Proofs.Lays.n150 Tryz.prog Tryz.aj8 := {
 mixed := by kernel_rfl
 f119 := Tryz.func270.trans (congrArg some (by kernel_rfl))
 f137 := Tryz.func269.trans (congrArg some (by kernel_rfl))
 f150 := Tryz.func144.trans (congrArg some (by kernel_rfl))
 f152 := Tryz.func238.trans (congrArg some (by kernel_rfl))
 f153 := Tryz.func198.trans (congrArg some (by kernel_rfl))
 f217 := Tryz.func222.trans (congrArg some (by kernel_rfl))
 f224 := Tryz.func224.trans (congrArg some (by kernel_rfl))
 f225 := Tryz.func223.trans (congrArg some (by kernel_rfl))
 f226 := Tryz.func239.trans (congrArg some (by kernel_rfl))
 f227 := Tryz.func240.trans (congrArg some (by kernel_rfl))
 f228 := Tryz.func241.trans (congrArg some (by kernel_rfl))
 f266 := Tryz.func255.trans (congrArg some (by kernel_rfl))
 t0 := Tryz.underlying0
 a0 := Tryz.isAgg0
 z0 := Tryz.sizeOf0
 v0 := Tryz.zeroValue0
 t3 := Tryz.underlying3
 a3 := Tryz.isAgg3
 z3 := Tryz.sizeOf3
 v3 := Tryz.zeroValue3
 t4 := Tryz.underlying4
 a4 := Tryz.isAgg4
 z4 := Tryz.sizeOf4
 v4 := Tryz.zeroValue4
 t5 := Tryz.underlying5
 a5 := Tryz.isAgg5
 z5 := Tryz.sizeOf5
 v5 := Tryz.zeroValue5
 t9 := Tryz.underlying9
 a9 := Tryz.isAgg9
 z9 := Tryz.sizeOf9
 v9 := Tryz.zeroValue9
 t21 := Tryz.underlying21
 a21 := Tryz.isAgg21
 z21 := Tryz.sizeOf21
 v21 := Tryz.zeroValue21
 t46 := Tryz.underlying206
 a46 := Tryz.isAgg206
 z46 := Tryz.sizeOf206
 v46 := Tryz.zeroValue206
 t116 := Tryz.underlying247
 a116 := Tryz.isAgg247
 z116 := Tryz.sizeOf247
 t117 := Tryz.underlying248
 a117 := Tryz.isAgg248
 z117 := Tryz.sizeOf248
 v117 := Tryz.zeroValue248
 t124 := Tryz.underlying277
 a124 := Tryz.isAgg277
 z124 := Tryz.sizeOf277
 v124 := Tryz.zeroValue277 }
open Go.RowKit Go.Lib in
theorem Tryz.strings_ContainsAny_laid (s chars : ByteArray) (w : World) (hs : s.size < 4294967281) (hcs : chars.size < 4294967281) (has : ∀ (j : Nat) b, s.data.toList[j]? = some b → b.toNat < 128) (hac : ∀ (j : Nat) b, chars.data.toList[j]? = some b → b.toNat < 128) :
   Calls Tryz.prog 144 #[.string s, .string chars] w fun e w' => e = .returned (.bool (Lib.containsAny s.data.toList chars.data.toList)) ∧ Below w.heap.size w w' := Any.strings_ContainsAny_laid Tryz.asu (by kernel_rfl) s chars w hs hcs has hac
end Go.Proofs
end
section
set_option maxRecDepth 100000
set_option maxHeartbeats 1000000
namespace Go.Proofs
open Go.Lv
def ka (b : UInt8) : Bool := decide (32 ≤ b.toNat) && decide (b.toNat ≤ 126)
def fp (p : UInt8 → Bool) (s : ByteArray) : Bool := s.data.toList.all p
def n9 (p : UInt8 → Bool) (s : ByteArray) (i : Nat) : Bool := (s.data.toList.take i).all p
theorem e8 (s : ByteArray) : s.data.toList.length = s.size := rfl
theorem lj (s : ByteArray) {i : Nat} (h : i < s.size) : s.data.toList[i]'h = s[i]'h := rfl
theorem pw {p : UInt8 → Bool} {s : ByteArray} {i : Nat} (h : i < s.size) : n9 p s (i + 1) = (n9 p s i && p (s[i]'h)) := by
 have hl : i < s.data.toList.length := h
 rw [n9, List.take_succ_eq_append_getElem hl, List.all_append]
 simp [n9, lj s h]
theorem wc {p : UInt8 → Bool} {s : ByteArray} : n9 p s s.size = fp p s := by
 rw [n9, ← e8, List.take_length]; rfl
theorem y9 {p : UInt8 → Bool} {s : ByteArray} {i : Nat} (h : i < s.size) (hp : p (s[i]'h) = false) : fp p s = false := by
 rw [fp, List.all_eq_false]
 exact ⟨s[i]'h, by rw [← lj s h]; exact List.getElem_mem _, by simp [hp]⟩
theorem vd (s : ByteArray) (hs : s.size ≤ 281474976710656) : Ctr Tryz.prog 143 [.str s] [] (.bool (fp ka s)) [] := by
 refine Ctr.intro Tryz.mixed Tryz.func143 rfl Tryz.awx ?_
 simp -implicitDefEqProofs -dsimp only [go_sem, Tryz.ntmps143, Tryz.results143]
 refine cw.intro (fun i : Nat => i ≤ s.size ∧ n9 ka s i = true) (fun i => ⟨[.str s, .undef, .undef, .undef, .undef, .int .i64 s.size, .int .i64 i, .undef, .undef, .undef, .undef, .undef, .undef, .undef, .undef, .undef, .undef, .undef, .undef, .undef], [], 0⟩) (fun i => s.size - i) 0 ⟨Nat.zero_le _, rfl⟩ ?_ (fun i hi => ?_)
 · refine br.cut (0) (by simp) (by simp) ?_ ?_
   · simp [LeC, LeV, ren, bm]
   · rfl
 simp -implicitDefEqProofs -dsimp only [go_sem]
 refine bd.split (fun h1 => ?_) (fun h1 => ?_)
 · simp -implicitDefEqProofs -dsimp only [go_sem, h1]
   have hi' : i < s.size := by simpa using h1
   refine ⟨⟨by omega, hi'⟩, ?_⟩
   have hb : ka (s[i]'hi') = (decide (32 ≤ ((s[i]'hi').toNat : Int)) && decide (((s[i]'hi').toNat : Int) ≤ 126)) := by rw [ka, Bool.eq_iff_iff]; simp; omega
   refine a8.ch (fun h2 => ?_) (fun h2 => ?_) <;> simp -implicitDefEqProofs -dsimp only [go_sem, h2]
   · refine ⟨⟨by omega, hi'⟩, ?_⟩
     refine bd.split (fun h3 => ?_) (fun h3 => ?_) <;> simp -implicitDefEqProofs -dsimp only [go_sem, h3]
     · have hf : ka (s[i]'hi') = false := by rw [hb]; simp at h3 ⊢; omega
       exact al.ax (by rw [y9 hi' hf]) (by rfl)
     · have hf : ka (s[i]'hi') = true := by rw [hb]; simp at h2 h3 ⊢; omega
       refine ⟨i + 1, ⟨hi', by rw [pw hi', hi.2, hf]; rfl⟩, ?_, by omega⟩
       refine br.cut (0) (by simp) (by simp) ?_ ?_
       · rw [wrap_i64 (by omega) (by omega)]; simp [LeC, LeV, ren, bm]
       · rfl
   · have hf : ka (s[i]'hi') = false := by rw [hb]; simp at h2 ⊢; omega
     exact al.ax (by rw [y9 hi' hf]) (by rfl)
 · simp -implicitDefEqProofs -dsimp only [go_sem, h1]
   have hi' : i = s.size := by simp at h1; omega
   subst hi'
   exact al.ax (by rw [← wc, hi.2]) (by rfl)
def da (b : UInt8) : Bool := ka b && !(b == 35)
theorem aay (s : ByteArray) (most : Int) (hs : s.size ≤ 281474976710656) : Ctr Tryz.prog 154 [.str s, .int .i64 most] [] (.bool (fp da s && decide ((s.size : Int) ≤ most))) [] := by
 refine Ctr.intro Tryz.mixed Tryz.func154 rfl Tryz.ax6 ?_
 simp -implicitDefEqProofs -dsimp only [go_sem, Tryz.ntmps154, Tryz.results154]
 refine cw.intro (fun i : Nat => i ≤ s.size ∧ n9 da s i = true) (fun i => ⟨[.str s, .int .i64 most, .undef, .undef, .undef, .int .i64 i, .undef, .undef, .undef, .undef, .undef, .undef, .undef, .undef, .undef, .undef, .undef, .undef, .undef, .undef, .undef, .undef, .undef, .undef, .undef, .undef, .undef, .undef], [], 0⟩) (fun i => s.size - i) 0 ⟨Nat.zero_le _, rfl⟩ ?_ (fun i hi => ?_)
 · refine br.cut (0) (by simp) (by simp) ?_ ?_
   · simp [LeC, LeV, ren, bm]
   · rfl
 simp -implicitDefEqProofs -dsimp only [go_sem]
 refine bd.split (fun h1 => ?_) (fun h1 => ?_)
 · simp -implicitDefEqProofs -dsimp only [go_sem, h1]
   have hi' : i < s.size := by simpa using h1
   have hu := UInt8.toNat_lt (s[i]'hi')
   refine ⟨⟨by omega, hi'⟩, ?_⟩
   have hwr : IntKind.i64.wrap ((s[i]'hi').toNat : Int) = ((s[i]'hi').toNat : Int) := wrap_i64 (by omega) (by omega)
   try (repeat1' (first | simp -implicitDefEqProofs -dsimp only [go_sem, hwr] | simp -dsimp (disch := omega) only [wrap_i64]))
   (first | refine ak.at (ff _ _ _) ⟨leA, leA, leA, trivial⟩ ?_ | refine aj.at (ff _ _ _) ⟨leA, leA, leA, trivial⟩ ?_)
   simp -implicitDefEqProofs -dsimp only [go_sem]
   have hb : ka (s[i]'hi') = eb ((s[i]'hi').toNat : Int) 32 126 := by rw [ka, Bool.eq_iff_iff]; simp [eb]; omega
   have h35 : ((s[i]'hi') == 35) = (((s[i]'hi').toNat : Int) == 35) := by
     rw [Bool.eq_iff_iff]; simp only [beq_iff_eq]
     constructor
     · intro g; rw [g]; rfl
     · intro g; exact UInt8.toNat_inj.1 (by show _ = 35; omega)
   refine a8.ch (fun h2 => ?_) (fun h2 => ?_) <;> simp -implicitDefEqProofs -dsimp only [go_sem, h2]
   · refine ⟨⟨by omega, hi'⟩, ?_⟩
     refine bd.split (fun h3 => ?_) (fun h3 => ?_) <;> simp -implicitDefEqProofs -dsimp only [go_sem, h3]
     · have hf : da (s[i]'hi') = false := by rw [da, h35, h3]; simp
       exact al.ax (by rw [y9 hi' hf]; rfl) (by rfl)
     · have hf : da (s[i]'hi') = true := by rw [da, h35, h3, hb]; simp at h2; simp [h2]
       refine ⟨i + 1, ⟨hi', by rw [pw hi', hi.2, hf]; rfl⟩, ?_, by omega⟩
       refine br.cut (0) (by simp) (by simp) ?_ ?_
       · rw [wrap_i64 (by omega) (by omega)]; simp [LeC, LeV, ren, bm]
       · rfl
   · have hf : da (s[i]'hi') = false := by rw [da, hb]; simp at h2; simp [h2]
     exact al.ax (by rw [y9 hi' hf]; rfl) (by rfl)
 · simp -implicitDefEqProofs -dsimp only [go_sem, h1]
   have hi' : i = s.size := by simp at h1; omega
   subst hi'
   exact al.ax (by rw [← wc, hi.2]; rfl) (by rfl)
theorem ai1 (s : ByteArray) (b : UInt8) (hs : s.size ≤ 281474976710656) : Ctr Tryz.prog 155 [.str s, .int .u8 b.toNat] [] (.bool (!(fp (fun x => !(x == b)) s))) [] := by
 refine Ctr.intro Tryz.mixed Tryz.func155 rfl Tryz.ayy ?_
 simp -implicitDefEqProofs -dsimp only [go_sem, Tryz.ntmps155, Tryz.results155]
 refine cw.intro (fun i : Nat => i ≤ s.size ∧ n9 (fun x => !(x == b)) s i = true) (fun i => ⟨[.str s, .int .u8 b.toNat, .undef, .undef, .undef, .int .i64 i, .undef, .undef, .undef, .undef, .undef, .undef, .undef, .undef, .undef, .undef, .undef], [], 0⟩) (fun i => s.size - i) 0 ⟨Nat.zero_le _, rfl⟩ ?_ (fun i hi => ?_)
 · refine br.cut (0) (by simp) (by simp) ?_ ?_
   · simp [LeC, LeV, ren, bm]
   · rfl
 simp -implicitDefEqProofs -dsimp only [go_sem]
 refine bd.split (fun h1 => ?_) (fun h1 => ?_)
 · simp -implicitDefEqProofs -dsimp only [go_sem, h1]
   have hi' : i < s.size := by simpa using h1
   refine ⟨⟨by omega, hi'⟩, ?_⟩
   have hbb : ((s[i]'hi') == b) = (((s[i]'hi').toNat : Int) == (b.toNat : Int)) := by
     rw [Bool.eq_iff_iff]; simp only [beq_iff_eq]
     constructor
     · intro g; rw [g]
     · intro g; exact UInt8.toNat_inj.1 (by omega)
   refine bd.split (fun h2 => ?_) (fun h2 => ?_) <;> simp -implicitDefEqProofs -dsimp only [go_sem, h2]
   · exact al.ax (by rw [y9 hi' (by simp only [hbb, h2]; rfl)]; rfl) (by rfl)
   · refine ⟨i + 1, ⟨hi', by rw [pw hi', hi.2]; simp only [hbb, h2]; rfl⟩, ?_, by omega⟩
     refine br.cut (0) (by simp) (by simp) ?_ ?_
     · rw [wrap_i64 (by omega) (by omega)]; simp [LeC, LeV, ren, bm]
     · rfl
 · simp -implicitDefEqProofs -dsimp only [go_sem, h1]
   have hi' : i = s.size := by simp at h1; omega
   subst hi'
   exact al.ax (by rw [← wc, hi.2]; rfl) (by rfl)
theorem u7 (s : ByteArray) (c : UInt8) : Ctr Tryz.prog 145 [.str s, .str ⟨#[c]⟩] [] (.bool (decide (0 ≤ Lib.indexByte s.data.toList c))) [] := by
 refine ⟨Tryz.av9, fun w vs m av hH hav hgl hsz ha => ?_⟩
 obtain ⟨v, u, rfl⟩ : ∃ v u, vs = #[v, u] := by
   match vs, hsz with
   | ⟨[v, u]⟩, _ => exact ⟨v, u, rfl⟩
 have h0 := ha 0 (by simp)
 have h1 := ha 1 (by simp)
 simp only [List.getElem_cons_zero, List.getElem_cons_succ] at h0 h1
 obtain rfl : v = .string s := by
   simp at h0; cases h0; rfl
 obtain rfl : u = .string ⟨#[c]⟩ := by
   simp at h1; cases h1; rfl
 refine (Tryz.strings_Contains_one s c w).mono ?_
 rintro e w' ⟨rfl, rfl⟩
 exact ⟨_, m, rfl, Ext.refl _ _, ⟨fun i j ci cj h => by simp at h, fun id cs h => by simp at h, fun id cs h => by simp at h⟩, .bool _, fun id cs h => by simp at h⟩
theorem acy (s chars : ByteArray) (hs : s.size < 4294967281) (hcs : chars.size < 4294967281) (has : ∀ (j : Nat) b, s.data.toList[j]? = some b → b.toNat < 128) (hac : ∀ (j : Nat) b, chars.data.toList[j]? = some b → b.toNat < 128) :
   Ctr Tryz.prog 144 [.str s, .str chars] [] (.bool (Lib.containsAny s.data.toList chars.data.toList)) [] := by
 refine ⟨Tryz.ayi, fun w vs m av hH hav hgl hsz ha => ?_⟩
 obtain ⟨v, u, rfl⟩ : ∃ v u, vs = #[v, u] := by
   match vs, hsz with
   | ⟨[v, u]⟩, _ => exact ⟨v, u, rfl⟩
 have h0 := ha 0 (by simp)
 have h1 := ha 1 (by simp)
 simp only [List.getElem_cons_zero, List.getElem_cons_succ] at h0 h1
 obtain rfl : v = .string s := by
   simp at h0; cases h0; rfl
 obtain rfl : u = .string chars := by
   simp at h1; cases h1; rfl
 refine (Tryz.strings_ContainsAny_laid s chars w hs hcs has hac).mono ?_
 rintro e w' ⟨rfl, hb⟩
 exact ⟨_, m, rfl, ⟨hb.os, hb.tape, hb.output, hb.size, fun g hg _ => hb.block g hg, fun g hg => Nat.le_of_eq (gk (hb.block g hg)).symm⟩, ⟨fun i j ci cj h => by simp at h, fun id cs h => by simp at h, fun id cs h => by simp at h⟩, .bool _, fun id cs h => by simp at h⟩
def iw (e : aw) : Bool := (decide (1 ≤ e.Command.size) && decide (e.Command.size ≤ 160)) && fp (fun b => da b && !(b == 64)) e.Command && (decide (e.Reply.size ≤ 200) && fp da e.Reply)
theorem u3 (p q : UInt8 → Bool) (s : ByteArray) : fp (fun b => p b && q b) s = (fp p s && fp q s) := by
 unfold fp
 induction s.data.toList with
 | nil => rfl
 | cons a l ih => simp only [List.all_cons, ih]; cases p a <;> cases q a <;> simp
theorem rq (c : UInt8) : ∀ l : List UInt8, decide (0 ≤ Lib.indexByte l c) = !(l.all fun x => !(x == c))
 | [] => rfl
 | a :: l => by
   have ih := rq c l
   have hg := Lib.indexByte_ge l c
   unfold Lib.indexByte
   rw [List.all_cons]
   by_cases h : a = c
   · simp [h]
   · have hf : (a == c) = false := by simpa using h
     rw [hf]
     simp only [Bool.false_eq_true, if_false, Bool.not_false, Bool.true_and]
     rw [← ih]
     by_cases h1 : Lib.indexByte l c = -1
     · simp [h1]
     · have : (Lib.indexByte l c == -1) = false := by simpa using h1
       rw [this]
       rw [Bool.eq_iff_iff]; simp; omega
theorem ue (chars : List UInt8) : ∀ l : List UInt8, Lib.containsAny l chars = !(l.all fun x => !(chars.contains x))
 | [] => rfl
 | a :: l => by
   have ih := ue chars l
   have hg := Lib.indexAny_ge chars l
   unfold Lib.containsAny at ih ⊢
   unfold Lib.indexAny
   rw [List.all_cons]
   by_cases h : chars.contains a = true
   · simp only [h, if_true, Bool.not_true, Bool.false_and, Bool.not_false]; rfl
   · have hf : chars.contains a = false := by simpa using h
     rw [hf]
     simp only [Bool.false_eq_true, if_false, Bool.not_false, Bool.true_and]
     rw [← ih]
     by_cases h1 : Lib.indexAny l chars = -1
     · simp [h1]
     · have : (Lib.indexAny l chars == -1) = false := by simpa using h1
       rw [this]
       rw [Bool.eq_iff_iff]; simp; omega
end Go.Proofs
end
section
set_option maxRecDepth 100000
set_option maxHeartbeats 1000000
namespace Go.Proofs
open Go.Lv
theorem ati {s : ByteArray} (h : fp ka s = true) : Lib.containsAny s.data.toList (⟨#[35, 64]⟩ : ByteArray).data.toList = !(fp (fun b => !(b == 35) && !(b == 64)) s) := by
 rw [ue]
 congr 2
 funext x
 show (!(List.contains [35, 64] x)) = _
 simp only [List.contains_cons, List.contains_nil, Bool.or_false, Bool.not_or]
theorem ah5 (s : ByteArray) : fp (fun b => da b && !(b == 64)) s = (fp ka s && fp (fun b => !(b == 35) && !(b == 64)) s) := by
 rw [← u3]
 congr 1
 funext b
 exact Bool.and_assoc _ _ _
theorem af0 (s : ByteArray) : fp da s = (fp ka s && fp (fun b => !(b == 35)) s) := u3 ka _ s
theorem aqe {s : ByteArray} (h : fp ka s = true) : ∀ (j : Nat) b, s.data.toList[j]? = some b → b.toNat < 128 := by
 intro j b hb
 have := List.all_eq_true.1 h b (List.mem_of_getElem? hb)
 simp [ka] at this; omega
theorem an3 : ∀ (j : Nat) b, (⟨#[35, 64]⟩ : ByteArray).data.toList[j]? = some b → b.toNat < 128 := by
 intro j b hb
 have := List.mem_of_getElem? hb
 simp at this
 rcases this with rfl | rfl <;> decide
theorem amk (s : ByteArray) : ∀ (n i : Nat) (r : List UInt8), s.size - i = n → ByteArray.toList.loop s i r = r.reverse ++ s.data.toList.drop i
 | 0, i, r, h => by
   unfold ByteArray.toList.loop
   rw [if_neg (by omega), List.drop_eq_nil_of_le (by rw [e8]; omega), List.append_nil]
 | n + 1, i, r, h => by
   have hi : i < s.data.toList.length := by rw [e8]; omega
   unfold ByteArray.toList.loop
   rw [if_pos (by omega), amk s n (i + 1) _ (by omega), List.drop_eq_getElem_cons hi]
   have : s.get! i = s.data.toList[i] := by
     rw [lj s hi]
     exact getElem!_pos s.data i hi
   rw [this]
   simp
theorem ab2 (s : ByteArray) : s.toList = s.data.toList := by
 rw [ByteArray.toList, amk s s.size 0 [] (by omega)]
 simp
theorem ama (s : ByteArray) : (!(s.toList == (⟨#[]⟩ : ByteArray).toList)) = decide (1 ≤ s.size) := by
 rw [ab2, ab2, ← e8]
 cases s.data.toList with
 | nil => rfl
 | cons a l => simp
theorem lr (e : aw) (hc : e.Command.size ≤ 281474976710656) (hr : e.Reply.size ≤ 281474976710656) : Ctr Tryz.prog 94 [e.v] [] (.bool (iw e)) [] := by
 refine Ctr.intro Tryz.mixed Tryz.func94 rfl Tryz.a4r ?_
 simp -implicitDefEqProofs -dsimp only [go_sem, Tryz.ntmps94, Tryz.results94]
 simp -implicitDefEqProofs -dsimp only [go_sem, aw.v]
 (first | refine ak.at (jy _ _ _) ⟨leA, leA, leA, trivial⟩ ?_ | refine aj.at (jy _ _ _) ⟨leA, leA, leA, trivial⟩ ?_)
 simp -implicitDefEqProofs -dsimp only [go_sem]
 refine a8.bu (fun g1 => ?_) (fun g1 => ?_) <;> simp -implicitDefEqProofs -dsimp only [go_sem, g1]
 rotate_left
 · refine al.ax ?_ (by rfl)
   simp [eb] at g1
   simp [iw]; omega
 have hs := fh.1 g1
 have b1 : decide (1 ≤ e.Command.size) = true := decide_eq_true (by omega)
 have b2 : decide (e.Command.size ≤ 160) = true := decide_eq_true (by omega)
 (have ct := vd e.Command hc; (first | refine ak.at ct ⟨leA, trivial⟩ ?_ | refine aj.at ct ⟨leA, trivial⟩ ?_); clear ct)
 simp -implicitDefEqProofs -dsimp only [go_sem]
 refine a8.bu (fun g2 => ?_) (fun g2 => ?_) <;> simp -implicitDefEqProofs -dsimp only [go_sem, g2]
 rotate_left
 · refine al.ax ?_ (by rfl)
   simp [iw, ah5, g2]
 (have ct := acy e.Command ⟨#[35, 64]⟩ (by omega) (by decide) (aqe g2) an3; (first | refine ak.at ct ⟨leA, leA, trivial⟩ ?_ | refine aj.at ct ⟨leA, leA, trivial⟩ ?_); clear ct)
 simp -implicitDefEqProofs -dsimp only [go_sem, ati g2, Bool.not_not]
 refine a8.bu (fun g3 => ?_) (fun g3 => ?_) <;> simp -implicitDefEqProofs -dsimp only [go_sem, g3]
 rotate_left
 · refine al.ax ?_ (by rfl)
   simp [iw, ah5, g2, g3]
 refine a8.bu (fun g4 => ?_) (fun g4 => ?_) <;> simp -implicitDefEqProofs -dsimp only [go_sem, g4]
 rotate_left
 · refine al.ax ?_ (by rfl)
   have : decide (e.Reply.size ≤ 200) = false := by simp at g4 ⊢; omega
   simp only [iw, this, Bool.false_and, Bool.and_false]
 have b3 : decide (e.Reply.size ≤ 200) = true := by simp at g4 ⊢; omega
 (have ct := vd e.Reply hr; (first | refine ak.at ct ⟨leA, trivial⟩ ?_ | refine aj.at ct ⟨leA, trivial⟩ ?_); clear ct)
 simp -implicitDefEqProofs -dsimp only [go_sem]
 refine a8.bu (fun g5 => ?_) (fun g5 => ?_) <;> simp -implicitDefEqProofs -dsimp only [go_sem, g5]
 rotate_left
 · refine al.ax ?_ (by rfl)
   simp [iw, af0, g5]
 (have ct := u7 e.Reply 35; (first | refine ak.at ct ⟨leA, leA, trivial⟩ ?_ | refine aj.at ct ⟨leA, leA, trivial⟩ ?_); clear ct)
 simp -implicitDefEqProofs -dsimp only [go_sem, rq]
 refine al.ax ?_ (by rfl)
 simp only [iw, ah5, af0, g2, g3, g5, b1, b2, b3, Bool.and_true, Bool.true_and, Bool.not_not]
 rfl
theorem pd (e : aw) (hc : e.Command.size ≤ 281474976710656) (hr : e.Reply.size ≤ 281474976710656) : Ctr Tryz.prog 99 [e.v] [] (.bool (iw e)) [] := by
 refine Ctr.intro Tryz.mixed Tryz.func99 rfl Tryz.a17 ?_
 simp -implicitDefEqProofs -dsimp only [go_sem, Tryz.ntmps99, Tryz.results99]
 simp -implicitDefEqProofs -dsimp only [go_sem, aw.v, ama]
 refine a8.bu (fun g1 => ?_) (fun g1 => ?_) <;> simp -implicitDefEqProofs -dsimp only [go_sem, g1, ama]
 rotate_left
 · refine al.ax ?_ (by rfl)
   simp only [iw, g1, Bool.false_and]
 (have ct := aay e.Command 160 hc; (first | refine ak.at ct ⟨leA, leA, trivial⟩ ?_ | refine aj.at ct ⟨leA, leA, trivial⟩ ?_); clear ct)
 simp -implicitDefEqProofs -dsimp only [go_sem]
 refine a8.bu (fun g2 => ?_) (fun g2 => ?_) <;> simp -implicitDefEqProofs -dsimp only [go_sem, g2, ama]
 rotate_left
 · refine al.ax ?_ (by rfl)
   have : fp (fun b => da b && !(b == 64)) e.Command = (fp da e.Command && fp (fun b => !(b == 64)) e.Command) := u3 _ _ _
   simp only [iw, this]
   by_cases k : e.Command.size ≤ 160
   · have : fp da e.Command = false := by
       cases q : fp da e.Command with
       | false => rfl
       | true => rw [q] at g2; simp at g2; omega
     simp [this]
   · simp [k]
 have g2' : fp da e.Command = true ∧ e.Command.size ≤ 160 := by simp at g2; exact ⟨g2.1, by omega⟩
 (have ct := ai1 e.Command 64 hc; (first | refine ak.at ct ⟨leA, leA, trivial⟩ ?_ | refine aj.at ct ⟨leA, leA, trivial⟩ ?_); clear ct)
 simp -implicitDefEqProofs -dsimp only [go_sem, Bool.not_not]
 refine a8.bu (fun g3 => ?_) (fun g3 => ?_) <;> simp -implicitDefEqProofs -dsimp only [go_sem, g3, ama]
 rotate_left
 · refine al.ax ?_ (by rfl)
   have : fp (fun b => da b && !(b == 64)) e.Command = (fp da e.Command && fp (fun b => !(b == 64)) e.Command) := u3 _ _ _
   simp only [iw, this, g3, Bool.and_false, Bool.false_and]
 (have ct := aay e.Reply 200 hr; (first | refine ak.at ct ⟨leA, leA, trivial⟩ ?_ | refine aj.at ct ⟨leA, leA, trivial⟩ ?_); clear ct)
 simp -implicitDefEqProofs -dsimp only [go_sem]
 refine al.ax ?_ (by rfl)
 have h4 : fp (fun b => da b && !(b == 64)) e.Command = (fp da e.Command && fp (fun b => !(b == 64)) e.Command) := u3 _ _ _
 simp only [iw, h4, g3, g2'.1, g1, decide_eq_true g2'.2, Bool.and_true, Bool.true_and]
 congr 1
 have h6 : decide ((e.Reply.size : Int) ≤ 200) = decide (e.Reply.size ≤ 200) := by rw [Bool.eq_iff_iff]; simp; omega
 rw [h6, Bool.and_comm]
end Go.Proofs
end
