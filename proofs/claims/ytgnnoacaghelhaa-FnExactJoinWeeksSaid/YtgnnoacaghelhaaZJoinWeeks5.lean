/-
  A part of the proof: texts put together by a program of the prover. Conditions: none.
-/
import Derived.Test.YtgnnoacaghelhaaZJoinWeeks4
import Derived.Shelf.SlSortCmp.WholeK
import Derived.Shelf.SlicesG.Cmp
import Derived.Test.YtgnnoacaghelhaaProg
set_option linter.unusedSimpArgs false
set_option linter.unusedVariables false
section
namespace Go.Proofs
open Go.Shelf
def Try.sortWeekRow_ren : Go.Shelf.Ren := ⟨fun | 6 => 52 | 15 => 80 | 14 => 79 | 28 => 94 | 29 => 95 | 20 => 86 | 21 => 87 | 22 => 88 | 23 => 89 | 24 => 90 | 25 => 91 | 26 => 92 | 27 => 93 | 46 => 96 | 47 => 97 | 48 => 98 | 49 => 99 | 50 => 100 | 57 => 101 | n => n, fun | 22 => 45 | 24 => 74 | 25 => 83 | 3 => 3 | 39 => 101 | 0 => 0 | 53 => 111 | 55 => 53 | 4 => 4 | 46 => 105 | 45 => 104 | 50 => 39 | 5 => 5 | 9 => 9 | 66 => 113 | 70 => 117 | 76 => 119 | 77 => 70 | n => n, fun | n => n⟩
theorem Try.sortWeekRow : Go.Proofs.SlLaysF0.n6 Try.prog Try.sortWeekRow_ren := {
 mixed := by kernel_rfl
 f6 := ⟨Try.f52.name, by decide, Try.func52.trans (congrArg some (by kernel_rfl))⟩
 f14 := ⟨Try.f79.name, by decide, Try.func79.trans (congrArg some (by kernel_rfl))⟩
 f15 := Try.func80.trans (congrArg some (by kernel_rfl))
 f20 := ⟨Try.f86.name, by decide, Try.func86.trans (congrArg some (by kernel_rfl))⟩
 f21 := ⟨Try.f87.name, by decide, Try.func87.trans (congrArg some (by kernel_rfl))⟩
 f22 := ⟨Try.f88.name, by decide, Try.func88.trans (congrArg some (by kernel_rfl))⟩
 f23 := ⟨Try.f89.name, by decide, Try.func89.trans (congrArg some (by kernel_rfl))⟩
 f24 := ⟨Try.f90.name, by decide, Try.func90.trans (congrArg some (by kernel_rfl))⟩
 f25 := ⟨Try.f91.name, by decide, Try.func91.trans (congrArg some (by kernel_rfl))⟩
 f26 := ⟨Try.f92.name, by decide, Try.func92.trans (congrArg some (by kernel_rfl))⟩
 f27 := ⟨Try.f93.name, by decide, Try.func93.trans (congrArg some (by kernel_rfl))⟩
 f28 := Try.func94.trans (congrArg some (by kernel_rfl))
 f29 := Try.func95.trans (congrArg some (by kernel_rfl))
 f46 := ⟨Try.f96.name, by decide, Try.func96.trans (congrArg some (by kernel_rfl))⟩
 f47 := Try.func97.trans (congrArg some (by kernel_rfl))
 f48 := Try.func98.trans (congrArg some (by kernel_rfl))
 f49 := ⟨Try.f99.name, by decide, Try.func99.trans (congrArg some (by kernel_rfl))⟩
 f50 := ⟨Try.f100.name, by decide, Try.func100.trans (congrArg some (by kernel_rfl))⟩
 f57 := ⟨Try.f101.name, by decide, Try.func101.trans (congrArg some (by kernel_rfl))⟩
 t0 := Try.underlying0
 a0 := Try.isAgg0
 z0 := Try.sizeOf0
 v0 := Try.zeroValue0
 t3 := Try.underlying3
 a3 := Try.isAgg3
 z3 := Try.sizeOf3
 v3 := Try.zeroValue3
 t4 := Try.underlying4
 a4 := Try.isAgg4
 z4 := Try.sizeOf4
 v4 := Try.zeroValue4
 t5 := Try.underlying5
 a5 := Try.isAgg5
 z5 := Try.sizeOf5
 v5 := Try.zeroValue5
 t9 := Try.underlying9
 a9 := Try.isAgg9
 z9 := Try.sizeOf9
 v9 := Try.zeroValue9
 t22 := Try.underlying45
 a22 := Try.isAgg45
 z22 := Try.sizeOf45
 v22 := Try.zeroValue45
 t25 := Try.underlying83
 a25 := Try.isAgg83
 z25 := Try.sizeOf83
 v25 := Try.zeroValue83
 t39 := Try.underlying101
 a39 := Try.isAgg101
 z39 := Try.sizeOf101
 v39 := Try.zeroValue101
 t45 := Try.underlying104
 a45 := Try.isAgg104
 z45 := Try.sizeOf104
 v45 := Try.zeroValue104
 t46 := Try.underlying105
 a46 := Try.isAgg105
 z46 := Try.sizeOf105
 v46 := Try.zeroValue105
 t50 := Try.underlying39
 a50 := Try.isAgg39
 z50 := Try.sizeOf39
 v50 := Try.zeroValue39
 t53 := Try.underlying111
 a53 := Try.isAgg111
 z53 := Try.sizeOf111
 v53 := Try.zeroValue111
 t55 := Try.underlying53
 a55 := Try.isAgg53
 z55 := Try.sizeOf53
 v55 := Try.zeroValue53
 t66 := Try.underlying113
 a66 := Try.isAgg113
 z66 := Try.sizeOf113
 v66 := Try.zeroValue113
 t70 := Try.underlying117
 a70 := Try.isAgg117
 z70 := Try.sizeOf117
 v70 := Try.zeroValue117
 t76 := Try.underlying119
 a76 := Try.isAgg119
 z76 := Try.sizeOf119
 v76 := Try.zeroValue119
 t77 := Try.underlying70
 a77 := Try.isAgg70
 z77 := Try.sizeOf70
 v77 := Try.zeroValue70 }
def Try.cmpIntW_ren : Go.Shelf.Ren := ⟨fun | 5 => 54 | 7 => 81 | n => n, fun | 22 => 3 | 3 => 3 | 4 => 4 | n => n, fun | n => n⟩
theorem Try.cmpIntW : Go.Proofs.SlLaysC2.n5 Try.prog Try.cmpIntW_ren := {
 mixed := by kernel_rfl
 f5 := ⟨Try.f54.name, by decide, Try.func54.trans (congrArg some (by kernel_rfl))⟩
 f7 := ⟨Try.f81.name, by decide, Try.func81.trans (congrArg some (by kernel_rfl))⟩
 t3 := Try.underlying3
 a3 := Try.isAgg3
 z3 := Try.sizeOf3
 v3 := Try.zeroValue3
 t4 := Try.underlying4
 a4 := Try.isAgg4
 z4 := Try.sizeOf4
 v4 := Try.zeroValue4
 t22 := Try.underlying3
 a22 := Try.isAgg3
 z22 := Try.sizeOf3
 v22 := Try.zeroValue3 }
end Go.Proofs
end
