/-
  A part of the proof: texts put together by a program of the prover. Conditions: none.
-/
import Derived.Test.YtgnnoacaghelhaaDoorZWeeksLaw4
import Derived.Shelf.SlSortCmp.WholeK
import Derived.Shelf.SlicesG.Cmp
import Derived.Test.YtgnnoacaghelhaaDoorProg
set_option linter.unusedSimpArgs false
set_option linter.unusedVariables false
section
namespace Go.Proofs
open Go.Shelf
def Tryd.sortWeekRow_ren : Go.Shelf.Ren := ⟨fun | 6 => 74 | 15 => 125 | 14 => 124 | 28 => 179 | 29 => 180 | 20 => 171 | 21 => 172 | 22 => 173 | 23 => 174 | 24 => 175 | 25 => 176 | 26 => 177 | 27 => 178 | 46 => 220 | 47 => 221 | 48 => 222 | 49 => 223 | 50 => 224 | 57 => 251 | n => n, fun | 22 => 24 | 24 => 39 | 25 => 96 | 3 => 3 | 39 => 140 | 0 => 0 | 53 => 179 | 55 => 88 | 4 => 4 | 46 => 173 | 45 => 172 | 50 => 70 | 5 => 5 | 9 => 9 | 66 => 206 | 70 => 210 | 76 => 236 | 77 => 237 | n => n, fun | n => n⟩
theorem Tryd.sortWeekRow : Go.Proofs.SlLaysF0.n6 Tryd.prog Tryd.sortWeekRow_ren := {
 mixed := by kernel_rfl
 f6 := ⟨Tryd.f74.name, by decide, Tryd.func74.trans (congrArg some (by kernel_rfl))⟩
 f14 := ⟨Tryd.f124.name, by decide, Tryd.func124.trans (congrArg some (by kernel_rfl))⟩
 f15 := Tryd.func125.trans (congrArg some (by kernel_rfl))
 f20 := ⟨Tryd.f171.name, by decide, Tryd.func171.trans (congrArg some (by kernel_rfl))⟩
 f21 := ⟨Tryd.f172.name, by decide, Tryd.func172.trans (congrArg some (by kernel_rfl))⟩
 f22 := ⟨Tryd.f173.name, by decide, Tryd.func173.trans (congrArg some (by kernel_rfl))⟩
 f23 := ⟨Tryd.f174.name, by decide, Tryd.func174.trans (congrArg some (by kernel_rfl))⟩
 f24 := ⟨Tryd.f175.name, by decide, Tryd.func175.trans (congrArg some (by kernel_rfl))⟩
 f25 := ⟨Tryd.f176.name, by decide, Tryd.func176.trans (congrArg some (by kernel_rfl))⟩
 f26 := ⟨Tryd.f177.name, by decide, Tryd.func177.trans (congrArg some (by kernel_rfl))⟩
 f27 := ⟨Tryd.f178.name, by decide, Tryd.func178.trans (congrArg some (by kernel_rfl))⟩
 f28 := Tryd.func179.trans (congrArg some (by kernel_rfl))
 f29 := Tryd.func180.trans (congrArg some (by kernel_rfl))
 f46 := ⟨Tryd.f220.name, by decide, Tryd.func220.trans (congrArg some (by kernel_rfl))⟩
 f47 := Tryd.func221.trans (congrArg some (by kernel_rfl))
 f48 := Tryd.func222.trans (congrArg some (by kernel_rfl))
 f49 := ⟨Tryd.f223.name, by decide, Tryd.func223.trans (congrArg some (by kernel_rfl))⟩
 f50 := ⟨Tryd.f224.name, by decide, Tryd.func224.trans (congrArg some (by kernel_rfl))⟩
 f57 := ⟨Tryd.f251.name, by decide, Tryd.func251.trans (congrArg some (by kernel_rfl))⟩
 t0 := Tryd.underlying0
 a0 := Tryd.isAgg0
 z0 := Tryd.sizeOf0
 v0 := Tryd.zeroValue0
 t3 := Tryd.underlying3
 a3 := Tryd.isAgg3
 z3 := Tryd.sizeOf3
 v3 := Tryd.zeroValue3
 t4 := Tryd.underlying4
 a4 := Tryd.isAgg4
 z4 := Tryd.sizeOf4
 v4 := Tryd.zeroValue4
 t5 := Tryd.underlying5
 a5 := Tryd.isAgg5
 z5 := Tryd.sizeOf5
 v5 := Tryd.zeroValue5
 t9 := Tryd.underlying9
 a9 := Tryd.isAgg9
 z9 := Tryd.sizeOf9
 v9 := Tryd.zeroValue9
 t22 := Tryd.underlying24
 a22 := Tryd.isAgg24
 z22 := Tryd.sizeOf24
 v22 := Tryd.zeroValue24
 t25 := Tryd.underlying96
 a25 := Tryd.isAgg96
 z25 := Tryd.sizeOf96
 v25 := Tryd.zeroValue96
 t39 := Tryd.underlying140
 a39 := Tryd.isAgg140
 z39 := Tryd.sizeOf140
 v39 := Tryd.zeroValue140
 t45 := Tryd.underlying172
 a45 := Tryd.isAgg172
 z45 := Tryd.sizeOf172
 v45 := Tryd.zeroValue172
 t46 := Tryd.underlying173
 a46 := Tryd.isAgg173
 z46 := Tryd.sizeOf173
 v46 := Tryd.zeroValue173
 t50 := Tryd.underlying70
 a50 := Tryd.isAgg70
 z50 := Tryd.sizeOf70
 v50 := Tryd.zeroValue70
 t53 := Tryd.underlying179
 a53 := Tryd.isAgg179
 z53 := Tryd.sizeOf179
 v53 := Tryd.zeroValue179
 t55 := Tryd.underlying88
 a55 := Tryd.isAgg88
 z55 := Tryd.sizeOf88
 v55 := Tryd.zeroValue88
 t66 := Tryd.underlying206
 a66 := Tryd.isAgg206
 z66 := Tryd.sizeOf206
 v66 := Tryd.zeroValue206
 t70 := Tryd.underlying210
 a70 := Tryd.isAgg210
 z70 := Tryd.sizeOf210
 v70 := Tryd.zeroValue210
 t76 := Tryd.underlying236
 a76 := Tryd.isAgg236
 z76 := Tryd.sizeOf236
 v76 := Tryd.zeroValue236
 t77 := Tryd.underlying237
 a77 := Tryd.isAgg237
 z77 := Tryd.sizeOf237
 v77 := Tryd.zeroValue237 }
def Tryd.cmpIntW_ren : Go.Shelf.Ren := ⟨fun | 5 => 76 | 7 => 126 | n => n, fun | 22 => 3 | 3 => 3 | 4 => 4 | n => n, fun | n => n⟩
theorem Tryd.cmpIntW : Go.Proofs.SlLaysC2.n5 Tryd.prog Tryd.cmpIntW_ren := {
 mixed := by kernel_rfl
 f5 := ⟨Tryd.f76.name, by decide, Tryd.func76.trans (congrArg some (by kernel_rfl))⟩
 f7 := ⟨Tryd.f126.name, by decide, Tryd.func126.trans (congrArg some (by kernel_rfl))⟩
 t3 := Tryd.underlying3
 a3 := Tryd.isAgg3
 z3 := Tryd.sizeOf3
 v3 := Tryd.zeroValue3
 t4 := Tryd.underlying4
 a4 := Tryd.isAgg4
 z4 := Tryd.sizeOf4
 v4 := Tryd.zeroValue4
 t22 := Tryd.underlying3
 a22 := Tryd.isAgg3
 z22 := Tryd.sizeOf3
 v22 := Tryd.zeroValue3 }
end Go.Proofs
end
