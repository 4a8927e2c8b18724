/-
  A part of the proof: texts put together by a program of the prover. Conditions: none.
-/
import Derived.Test.YtgnnoacaghelhaaZJoinWeeks3
import Derived.Test.YtgnnoacaghelhaaProg
import Derived.KernelRfl
set_option linter.unusedSimpArgs false
set_option linter.unusedVariables false
section
namespace Go.Proofs
open Go.Lv

theorem Try.mixed : Try.prog.follows .mixedOrders = true := by kernel_rfl
@[go_sem] theorem Try.tsz1 : tszOf Try.prog 1 = some (1, false) := by kernel_rfl
@[go_sem] theorem Try.udef1 : (Try.prog.underlying 1).isSome = true := by kernel_rfl
@[go_sem] theorem Try.zero1 : zeroOf Try.prog 1 = some [.lit ((Go.Value.nilFunc))] := by kernel_rfl
@[go_sem] theorem Try.tsz2 : tszOf Try.prog 2 = some (1, false) := by kernel_rfl
@[go_sem] theorem Try.udef2 : (Try.prog.underlying 2).isSome = true := by kernel_rfl
@[go_sem] theorem Try.zero2 : zeroOf Try.prog 2 = some [.int .i64 0] := by kernel_rfl
@[go_sem] theorem Try.isInt2 : isIntT Try.prog 2 = some .i64 := by kernel_rfl
@[go_sem] theorem Try.tsz3 : tszOf Try.prog 3 = some (1, false) := by kernel_rfl
theorem Try.cz3 : Try.prog.cellsOf 3 = 1 := by kernel_rfl
@[go_sem] theorem Try.udef3 : (Try.prog.underlying 3).isSome = true := by kernel_rfl
@[go_sem] theorem Try.zero3 : zeroOf Try.prog 3 = some [.int .i64 0] := by kernel_rfl
@[go_sem] theorem Try.isInt3 : isIntT Try.prog 3 = some .i64 := by kernel_rfl
@[go_sem] theorem Try.tsz4 : tszOf Try.prog 4 = some (1, false) := by kernel_rfl
@[go_sem] theorem Try.udef4 : (Try.prog.underlying 4).isSome = true := by kernel_rfl
@[go_sem] theorem Try.zero4 : zeroOf Try.prog 4 = some [.bool false] := by kernel_rfl
@[go_sem] theorem Try.isBool4 : isBoolT Try.prog 4 = true := by kernel_rfl
@[go_sem] theorem Try.tsz5 : tszOf Try.prog 5 = some (1, false) := by kernel_rfl
@[go_sem] theorem Try.udef5 : (Try.prog.underlying 5).isSome = true := by kernel_rfl
@[go_sem] theorem Try.zero5 : zeroOf Try.prog 5 = some [.int .u8 0] := by kernel_rfl
@[go_sem] theorem Try.isInt5 : isIntT Try.prog 5 = some .u8 := by kernel_rfl
@[go_sem] theorem Try.tsz6 : tszOf Try.prog 6 = some (1, false) := by kernel_rfl
@[go_sem] theorem Try.udef6 : (Try.prog.underlying 6).isSome = true := by kernel_rfl
@[go_sem] theorem Try.zero6 : zeroOf Try.prog 6 = some [.int .u8 0] := by kernel_rfl
@[go_sem] theorem Try.isInt6 : isIntT Try.prog 6 = some .u8 := by kernel_rfl
@[go_sem] theorem Try.tsz7 : tszOf Try.prog 7 = some (4, true) := by kernel_rfl
@[go_sem] theorem Try.udef7 : (Try.prog.underlying 7).isSome = true := by kernel_rfl
@[go_sem] theorem Try.zero7 : zeroOf Try.prog 7 = some [.int .i64 0, .int .i64 0, .bool false, .int .u8 0] := by kernel_rfl
@[go_sem] theorem Try.pl7 : plOf Try.prog 7 = some [(0, 1), (1, 1), (2, 1), (3, 1)] := by kernel_rfl
@[go_sem] theorem Try.tsz8 : tszOf Try.prog 8 = some (4, true) := by kernel_rfl
@[go_sem] theorem Try.udef8 : (Try.prog.underlying 8).isSome = true := by kernel_rfl
@[go_sem] theorem Try.zero8 : zeroOf Try.prog 8 = some [.int .i64 0, .int .i64 0, .bool false, .int .u8 0] := by kernel_rfl
@[go_sem] theorem Try.pl8 : plOf Try.prog 8 = some [(0, 1), (1, 1), (2, 1), (3, 1)] := by kernel_rfl
@[go_sem] theorem Try.tsz9 : tszOf Try.prog 9 = some (1, false) := by kernel_rfl
@[go_sem] theorem Try.udef9 : (Try.prog.underlying 9).isSome = true := by kernel_rfl
@[go_sem] theorem Try.zero9 : zeroOf Try.prog 9 = some [.str ByteArray.empty] := by kernel_rfl
@[go_sem] theorem Try.isU8S9 : isU8S Try.prog 9 = false := by kernel_rfl
@[go_sem] theorem Try.isIntN9 : isIntT Try.prog 9 = none := by kernel_rfl
@[go_sem] theorem Try.isStr9 : isStr Try.prog 9 = true := by kernel_rfl
@[go_sem] theorem Try.tsz10 : tszOf Try.prog 10 = some (1, false) := by kernel_rfl
@[go_sem] theorem Try.udef10 : (Try.prog.underlying 10).isSome = true := by kernel_rfl
@[go_sem] theorem Try.zero10 : zeroOf Try.prog 10 = some [.str ByteArray.empty] := by kernel_rfl
@[go_sem] theorem Try.isU8S10 : isU8S Try.prog 10 = false := by kernel_rfl
@[go_sem] theorem Try.isIntN10 : isIntT Try.prog 10 = none := by kernel_rfl
@[go_sem] theorem Try.isStr10 : isStr Try.prog 10 = true := by kernel_rfl
@[go_sem] theorem Try.tsz11 : tszOf Try.prog 11 = some (1, false) := by kernel_rfl
@[go_sem] theorem Try.udef11 : (Try.prog.underlying 11).isSome = true := by kernel_rfl
@[go_sem] theorem Try.zero11 : zeroOf Try.prog 11 = some [.str ByteArray.empty] := by kernel_rfl
@[go_sem] theorem Try.isU8S11 : isU8S Try.prog 11 = false := by kernel_rfl
@[go_sem] theorem Try.isIntN11 : isIntT Try.prog 11 = none := by kernel_rfl
@[go_sem] theorem Try.isStr11 : isStr Try.prog 11 = true := by kernel_rfl
@[go_sem] theorem Try.tsz12 : tszOf Try.prog 12 = some (1, false) := by kernel_rfl
@[go_sem] theorem Try.udef12 : (Try.prog.underlying 12).isSome = true := by kernel_rfl
@[go_sem] theorem Try.zero12 : zeroOf Try.prog 12 = some [.int .u64 0] := by kernel_rfl
@[go_sem] theorem Try.isInt12 : isIntT Try.prog 12 = some .u64 := by kernel_rfl
@[go_sem] theorem Try.tsz13 : tszOf Try.prog 13 = some (2, true) := by kernel_rfl
@[go_sem] theorem Try.udef13 : (Try.prog.underlying 13).isSome = true := by kernel_rfl
@[go_sem] theorem Try.zero13 : zeroOf Try.prog 13 = some [.str ByteArray.empty, .int .u64 0] := by kernel_rfl
@[go_sem] theorem Try.pl13 : plOf Try.prog 13 = some [(0, 1), (1, 1)] := by kernel_rfl
@[go_sem] theorem Try.tsz14 : tszOf Try.prog 14 = some (2, true) := by kernel_rfl
@[go_sem] theorem Try.udef14 : (Try.prog.underlying 14).isSome = true := by kernel_rfl
@[go_sem] theorem Try.zero14 : zeroOf Try.prog 14 = some [.str ByteArray.empty, .int .u64 0] := by kernel_rfl
@[go_sem] theorem Try.pl14 : plOf Try.prog 14 = some [(0, 1), (1, 1)] := by kernel_rfl
@[go_sem] theorem Try.tsz15 : tszOf Try.prog 15 = some (1, false) := by kernel_rfl
@[go_sem] theorem Try.udef15 : (Try.prog.underlying 15).isSome = true := by kernel_rfl
@[go_sem] theorem Try.zero15 : zeroOf Try.prog 15 = some [.lit ((Go.Value.pointer none))] := by kernel_rfl
@[go_sem] theorem Try.tsz16 : tszOf Try.prog 16 = some (1, false) := by kernel_rfl
@[go_sem] theorem Try.udef16 : (Try.prog.underlying 16).isSome = true := by kernel_rfl
@[go_sem] theorem Try.zero16 : zeroOf Try.prog 16 = some [.lit ((Go.Value.pointer none))] := by kernel_rfl
@[go_sem] theorem Try.tsz17 : tszOf Try.prog 17 = some (1, false) := by kernel_rfl
@[go_sem] theorem Try.udef17 : (Try.prog.underlying 17).isSome = true := by kernel_rfl
@[go_sem] theorem Try.zero17 : zeroOf Try.prog 17 = some [.lit ((Go.Value.pointer none))] := by kernel_rfl
@[go_sem] theorem Try.tsz18 : tszOf Try.prog 18 = some (1, true) := by kernel_rfl
@[go_sem] theorem Try.udef18 : (Try.prog.underlying 18).isSome = true := by kernel_rfl
@[go_sem] theorem Try.zero18 : zeroOf Try.prog 18 = some [.lit ((Go.Value.pointer none))] := by kernel_rfl
@[go_sem] theorem Try.pl18 : plOf Try.prog 18 = some [(0, 1)] := by kernel_rfl
@[go_sem] theorem Try.tsz19 : tszOf Try.prog 19 = some (1, true) := by kernel_rfl
@[go_sem] theorem Try.udef19 : (Try.prog.underlying 19).isSome = true := by kernel_rfl
@[go_sem] theorem Try.zero19 : zeroOf Try.prog 19 = some [.lit ((Go.Value.pointer none))] := by kernel_rfl
@[go_sem] theorem Try.pl19 : plOf Try.prog 19 = some [(0, 1)] := by kernel_rfl
@[go_sem] theorem Try.tsz20 : tszOf Try.prog 20 = some (1, false) := by kernel_rfl
@[go_sem] theorem Try.udef20 : (Try.prog.underlying 20).isSome = true := by kernel_rfl
@[go_sem] theorem Try.zero20 : zeroOf Try.prog 20 = some [.lit ((Go.Value.nilIface))] := by kernel_rfl
@[go_sem] theorem Try.tsz21 : tszOf Try.prog 21 = some (1, false) := by kernel_rfl
@[go_sem] theorem Try.udef21 : (Try.prog.underlying 21).isSome = true := by kernel_rfl
@[go_sem] theorem Try.zero21 : zeroOf Try.prog 21 = some [.int .i32 0] := by kernel_rfl
@[go_sem] theorem Try.isInt21 : isIntT Try.prog 21 = some .i32 := by kernel_rfl
@[go_sem] theorem Try.tsz22 : tszOf Try.prog 22 = some (1, false) := by kernel_rfl
@[go_sem] theorem Try.udef22 : (Try.prog.underlying 22).isSome = true := by kernel_rfl
@[go_sem] theorem Try.zero22 : zeroOf Try.prog 22 = some [.nilsl] := by kernel_rfl
@[go_sem] theorem Try.el22 : elOf Try.prog 22 = some (5, 1, 1) := by kernel_rfl
@[go_sem] theorem Try.isSl22 : isSl Try.prog 22 = true := by kernel_rfl
@[go_sem] theorem Try.isU8S22 : isU8S Try.prog 22 = true := by kernel_rfl
@[go_sem] theorem Try.tsz23 : tszOf Try.prog 23 = some (1, false) := by kernel_rfl
@[go_sem] theorem Try.udef23 : (Try.prog.underlying 23).isSome = true := by kernel_rfl
@[go_sem] theorem Try.zero23 : zeroOf Try.prog 23 = some [.lit ((Go.Value.nilFunc))] := by kernel_rfl
@[go_sem] theorem Try.tsz24 : tszOf Try.prog 24 = some (1, false) := by kernel_rfl
@[go_sem] theorem Try.udef24 : (Try.prog.underlying 24).isSome = true := by kernel_rfl
@[go_sem] theorem Try.zero24 : zeroOf Try.prog 24 = some [.nilsl] := by kernel_rfl
@[go_sem] theorem Try.el24 : elOf Try.prog 24 = some (86, 5, 40) := by kernel_rfl
@[go_sem] theorem Try.isSl24 : isSl Try.prog 24 = true := by kernel_rfl
@[go_sem] theorem Try.tsz26 : tszOf Try.prog 26 = some (1, false) := by kernel_rfl
@[go_sem] theorem Try.udef26 : (Try.prog.underlying 26).isSome = true := by kernel_rfl
@[go_sem] theorem Try.zero26 : zeroOf Try.prog 26 = some [.lit ((Go.Value.nilFunc))] := by kernel_rfl
@[go_sem] theorem Try.tsz27 : tszOf Try.prog 27 = some (1, false) := by kernel_rfl
@[go_sem] theorem Try.udef27 : (Try.prog.underlying 27).isSome = true := by kernel_rfl
@[go_sem] theorem Try.zero27 : zeroOf Try.prog 27 = some [.nilsl] := by kernel_rfl
@[go_sem] theorem Try.el27 : elOf Try.prog 27 = some (32, 3, 24) := by kernel_rfl
@[go_sem] theorem Try.isSl27 : isSl Try.prog 27 = true := by kernel_rfl
@[go_sem] theorem Try.tsz29 : tszOf Try.prog 29 = some (1, false) := by kernel_rfl
@[go_sem] theorem Try.udef29 : (Try.prog.underlying 29).isSome = true := by kernel_rfl
@[go_sem] theorem Try.zero29 : zeroOf Try.prog 29 = some [.lit ((Go.Value.nilFunc))] := by kernel_rfl
@[go_sem] theorem Try.tsz30 : tszOf Try.prog 30 = some (1, false) := by kernel_rfl
@[go_sem] theorem Try.udef30 : (Try.prog.underlying 30).isSome = true := by kernel_rfl
@[go_sem] theorem Try.zero30 : zeroOf Try.prog 30 = some [.lit ((Go.Value.nilFunc))] := by kernel_rfl
@[go_sem] theorem Try.tsz31 : tszOf Try.prog 31 = some (3, true) := by kernel_rfl
@[go_sem] theorem Try.udef31 : (Try.prog.underlying 31).isSome = true := by kernel_rfl
@[go_sem] theorem Try.zero31 : zeroOf Try.prog 31 = some [.int .i64 0, .int .i64 0, .int .i64 0] := by kernel_rfl
@[go_sem] theorem Try.pl31 : plOf Try.prog 31 = some [(0, 1), (1, 1), (2, 1)] := by kernel_rfl
@[go_sem] theorem Try.tsz32 : tszOf Try.prog 32 = some (3, true) := by kernel_rfl
@[go_sem] theorem Try.udef32 : (Try.prog.underlying 32).isSome = true := by kernel_rfl
@[go_sem] theorem Try.zero32 : zeroOf Try.prog 32 = some [.int .i64 0, .int .i64 0, .int .i64 0] := by kernel_rfl
@[go_sem] theorem Try.flatEq32 : flatEq Try.prog 32 = some [.int .i64, .int .i64, .int .i64] := by kernel_rfl
@[go_sem] theorem Try.pl32 : plOf Try.prog 32 = some [(0, 1), (1, 1), (2, 1)] := by kernel_rfl
@[go_sem] theorem Try.fd32_0 : fdOf Try.prog 32 0 = some (0, 1, false) := by kernel_rfl
@[go_sem] theorem Try.fd32_1 : fdOf Try.prog 32 1 = some (1, 1, false) := by kernel_rfl
@[go_sem] theorem Try.fd32_2 : fdOf Try.prog 32 2 = some (2, 1, false) := by kernel_rfl
@[go_sem] theorem Try.tsz34 : tszOf Try.prog 34 = some (1, false) := by kernel_rfl
@[go_sem] theorem Try.udef34 : (Try.prog.underlying 34).isSome = true := by kernel_rfl
@[go_sem] theorem Try.zero34 : zeroOf Try.prog 34 = some [.lit ((Go.Value.nilFunc))] := by kernel_rfl
@[go_sem] theorem Try.tsz36 : tszOf Try.prog 36 = some (1, false) := by kernel_rfl
@[go_sem] theorem Try.udef36 : (Try.prog.underlying 36).isSome = true := by kernel_rfl
@[go_sem] theorem Try.zero36 : zeroOf Try.prog 36 = some [.lit ((Go.Value.nilFunc))] := by kernel_rfl
@[go_sem] theorem Try.tsz38 : tszOf Try.prog 38 = some (1, false) := by kernel_rfl
@[go_sem] theorem Try.udef38 : (Try.prog.underlying 38).isSome = true := by kernel_rfl
@[go_sem] theorem Try.zero38 : zeroOf Try.prog 38 = some [.lit ((Go.Value.nilFunc))] := by kernel_rfl
@[go_sem] theorem Try.tsz40 : tszOf Try.prog 40 = some (1, false) := by kernel_rfl
@[go_sem] theorem Try.udef40 : (Try.prog.underlying 40).isSome = true := by kernel_rfl
@[go_sem] theorem Try.zero40 : zeroOf Try.prog 40 = some [.lit ((Go.Value.nilFunc))] := by kernel_rfl
@[go_sem] theorem Try.tsz42 : tszOf Try.prog 42 = some (1, false) := by kernel_rfl
@[go_sem] theorem Try.udef42 : (Try.prog.underlying 42).isSome = true := by kernel_rfl
@[go_sem] theorem Try.zero42 : zeroOf Try.prog 42 = some [.lit ((Go.Value.nilFunc))] := by kernel_rfl
@[go_sem] theorem Try.tsz43 : tszOf Try.prog 43 = some (1, false) := by kernel_rfl
@[go_sem] theorem Try.udef43 : (Try.prog.underlying 43).isSome = true := by kernel_rfl
@[go_sem] theorem Try.zero43 : zeroOf Try.prog 43 = some [.nilsl] := by kernel_rfl
@[go_sem] theorem Try.el43 : elOf Try.prog 43 = some (76, 5, 40) := by kernel_rfl
@[go_sem] theorem Try.isSl43 : isSl Try.prog 43 = true := by kernel_rfl
@[go_sem] theorem Try.tsz44 : tszOf Try.prog 44 = some (1, false) := by kernel_rfl
@[go_sem] theorem Try.udef44 : (Try.prog.underlying 44).isSome = true := by kernel_rfl
@[go_sem] theorem Try.zero44 : zeroOf Try.prog 44 = some [.lit ((Go.Value.nilFunc))] := by kernel_rfl
@[go_sem] theorem Try.tsz45 : tszOf Try.prog 45 = some (1, false) := by kernel_rfl
@[go_sem] theorem Try.udef45 : (Try.prog.underlying 45).isSome = true := by kernel_rfl
@[go_sem] theorem Try.zero45 : zeroOf Try.prog 45 = some [.nilsl] := by kernel_rfl
@[go_sem] theorem Try.el45 : elOf Try.prog 45 = some (74, 5, 40) := by kernel_rfl
@[go_sem] theorem Try.isSl45 : isSl Try.prog 45 = true := by kernel_rfl
@[go_sem] theorem Try.tsz47 : tszOf Try.prog 47 = some (1, false) := by kernel_rfl
@[go_sem] theorem Try.udef47 : (Try.prog.underlying 47).isSome = true := by kernel_rfl
@[go_sem] theorem Try.zero47 : zeroOf Try.prog 47 = some [.lit ((Go.Value.nilFunc))] := by kernel_rfl
@[go_sem] theorem Try.tsz48 : tszOf Try.prog 48 = some (1, false) := by kernel_rfl
@[go_sem] theorem Try.udef48 : (Try.prog.underlying 48).isSome = true := by kernel_rfl
@[go_sem] theorem Try.zero48 : zeroOf Try.prog 48 = some [.lit ((Go.Value.nilFunc))] := by kernel_rfl
@[go_sem] theorem Try.tsz49 : tszOf Try.prog 49 = some (1, false) := by kernel_rfl
@[go_sem] theorem Try.udef49 : (Try.prog.underlying 49).isSome = true := by kernel_rfl
@[go_sem] theorem Try.zero49 : zeroOf Try.prog 49 = some [.lit ((Go.Value.nilFunc))] := by kernel_rfl
@[go_sem] theorem Try.tsz50 : tszOf Try.prog 50 = some (1, false) := by kernel_rfl
@[go_sem] theorem Try.udef50 : (Try.prog.underlying 50).isSome = true := by kernel_rfl
@[go_sem] theorem Try.zero50 : zeroOf Try.prog 50 = some [.lit ((Go.Value.nilFunc))] := by kernel_rfl
@[go_sem] theorem Try.tsz51 : tszOf Try.prog 51 = some (1, false) := by kernel_rfl
@[go_sem] theorem Try.udef51 : (Try.prog.underlying 51).isSome = true := by kernel_rfl
@[go_sem] theorem Try.zero51 : zeroOf Try.prog 51 = some [.lit ((Go.Value.nilFunc))] := by kernel_rfl
@[go_sem] theorem Try.tsz52 : tszOf Try.prog 52 = some (1, false) := by kernel_rfl
@[go_sem] theorem Try.udef52 : (Try.prog.underlying 52).isSome = true := by kernel_rfl
@[go_sem] theorem Try.zero52 : zeroOf Try.prog 52 = some [.lit ((Go.Value.pointer none))] := by kernel_rfl
@[go_sem] theorem Try.tsz53 : tszOf Try.prog 53 = some (1, false) := by kernel_rfl
@[go_sem] theorem Try.udef53 : (Try.prog.underlying 53).isSome = true := by kernel_rfl
@[go_sem] theorem Try.zero53 : zeroOf Try.prog 53 = some [.int .u64 0] := by kernel_rfl
@[go_sem] theorem Try.isInt53 : isIntT Try.prog 53 = some .u64 := by kernel_rfl
@[go_sem] theorem Try.tsz54 : tszOf Try.prog 54 = some (3, true) := by kernel_rfl
@[go_sem] theorem Try.udef54 : (Try.prog.underlying 54).isSome = true := by kernel_rfl
@[go_sem] theorem Try.zero54 : zeroOf Try.prog 54 = some [.nilsl, .int .i64 0, .int .u64 0] := by kernel_rfl
@[go_sem] theorem Try.pl54 : plOf Try.prog 54 = some [(0, 1), (1, 1), (2, 1)] := by kernel_rfl
@[go_sem] theorem Try.tsz55 : tszOf Try.prog 55 = some (3, true) := by kernel_rfl
@[go_sem] theorem Try.udef55 : (Try.prog.underlying 55).isSome = true := by kernel_rfl
@[go_sem] theorem Try.zero55 : zeroOf Try.prog 55 = some [.nilsl, .int .i64 0, .int .u64 0] := by kernel_rfl
@[go_sem] theorem Try.pl55 : plOf Try.prog 55 = some [(0, 1), (1, 1), (2, 1)] := by kernel_rfl
@[go_sem] theorem Try.fd55_0 : fdOf Try.prog 55 0 = some (0, 1, false) := by kernel_rfl
@[go_sem] theorem Try.fd55_1 : fdOf Try.prog 55 1 = some (1, 1, false) := by kernel_rfl
@[go_sem] theorem Try.fd55_2 : fdOf Try.prog 55 2 = some (2, 1, false) := by kernel_rfl
@[go_sem] theorem Try.tsz56 : tszOf Try.prog 56 = some (1, false) := by kernel_rfl
@[go_sem] theorem Try.udef56 : (Try.prog.underlying 56).isSome = true := by kernel_rfl
@[go_sem] theorem Try.zero56 : zeroOf Try.prog 56 = some [.lit ((Go.Value.nilFunc))] := by kernel_rfl
@[go_sem] theorem Try.tsz57 : tszOf Try.prog 57 = some (1, false) := by kernel_rfl
@[go_sem] theorem Try.udef57 : (Try.prog.underlying 57).isSome = true := by kernel_rfl
@[go_sem] theorem Try.zero57 : zeroOf Try.prog 57 = some [.lit ((Go.Value.nilFunc))] := by kernel_rfl
@[go_sem] theorem Try.tsz58 : tszOf Try.prog 58 = some (1, false) := by kernel_rfl
@[go_sem] theorem Try.udef58 : (Try.prog.underlying 58).isSome = true := by kernel_rfl
@[go_sem] theorem Try.zero58 : zeroOf Try.prog 58 = some [.lit ((Go.Value.nilFunc))] := by kernel_rfl
@[go_sem] theorem Try.tsz59 : tszOf Try.prog 59 = some (1, false) := by kernel_rfl
@[go_sem] theorem Try.udef59 : (Try.prog.underlying 59).isSome = true := by kernel_rfl
@[go_sem] theorem Try.zero59 : zeroOf Try.prog 59 = some [.nilsl] := by kernel_rfl
@[go_sem] theorem Try.el59 : elOf Try.prog 59 = some (3, 1, 8) := by kernel_rfl
@[go_sem] theorem Try.isSl59 : isSl Try.prog 59 = true := by kernel_rfl
@[go_sem] theorem Try.tsz60 : tszOf Try.prog 60 = some (1, false) := by kernel_rfl
@[go_sem] theorem Try.udef60 : (Try.prog.underlying 60).isSome = true := by kernel_rfl
@[go_sem] theorem Try.zero60 : zeroOf Try.prog 60 = some [.lit ((Go.Value.nilFunc))] := by kernel_rfl
@[go_sem] theorem Try.tsz61 : tszOf Try.prog 61 = some (1, false) := by kernel_rfl
@[go_sem] theorem Try.udef61 : (Try.prog.underlying 61).isSome = true := by kernel_rfl
@[go_sem] theorem Try.zero61 : zeroOf Try.prog 61 = some [.lit ((Go.Value.nilFunc))] := by kernel_rfl
@[go_sem] theorem Try.tsz62 : tszOf Try.prog 62 = some (1, false) := by kernel_rfl
@[go_sem] theorem Try.udef62 : (Try.prog.underlying 62).isSome = true := by kernel_rfl
@[go_sem] theorem Try.zero62 : zeroOf Try.prog 62 = some [.lit ((Go.Value.nilFunc))] := by kernel_rfl
@[go_sem] theorem Try.tsz64 : tszOf Try.prog 64 = some (1, false) := by kernel_rfl
@[go_sem] theorem Try.udef64 : (Try.prog.underlying 64).isSome = true := by kernel_rfl
@[go_sem] theorem Try.zero64 : zeroOf Try.prog 64 = some [.lit ((Go.Value.nilFunc))] := by kernel_rfl
@[go_sem] theorem Try.tsz65 : tszOf Try.prog 65 = some (1, false) := by kernel_rfl
@[go_sem] theorem Try.udef65 : (Try.prog.underlying 65).isSome = true := by kernel_rfl
@[go_sem] theorem Try.zero65 : zeroOf Try.prog 65 = some [.lit ((Go.Value.nilFunc))] := by kernel_rfl
@[go_sem] theorem Try.tsz66 : tszOf Try.prog 66 = some (1, false) := by kernel_rfl
@[go_sem] theorem Try.udef66 : (Try.prog.underlying 66).isSome = true := by kernel_rfl
@[go_sem] theorem Try.zero66 : zeroOf Try.prog 66 = some [.lit ((Go.Value.nilFunc))] := by kernel_rfl
@[go_sem] theorem Try.tsz67 : tszOf Try.prog 67 = some (1, false) := by kernel_rfl
@[go_sem] theorem Try.udef67 : (Try.prog.underlying 67).isSome = true := by kernel_rfl
@[go_sem] theorem Try.zero67 : zeroOf Try.prog 67 = some [.lit ((Go.Value.nilFunc))] := by kernel_rfl
@[go_sem] theorem Try.tsz68 : tszOf Try.prog 68 = some (1, false) := by kernel_rfl
@[go_sem] theorem Try.udef68 : (Try.prog.underlying 68).isSome = true := by kernel_rfl
@[go_sem] theorem Try.zero68 : zeroOf Try.prog 68 = some [.lit ((Go.Value.nilFunc))] := by kernel_rfl
@[go_sem] theorem Try.tsz69 : tszOf Try.prog 69 = some (1, false) := by kernel_rfl
@[go_sem] theorem Try.udef69 : (Try.prog.underlying 69).isSome = true := by kernel_rfl
@[go_sem] theorem Try.zero69 : zeroOf Try.prog 69 = some [.lit ((Go.Value.nilFunc))] := by kernel_rfl
@[go_sem] theorem Try.tsz71 : tszOf Try.prog 71 = some (1, false) := by kernel_rfl
@[go_sem] theorem Try.udef71 : (Try.prog.underlying 71).isSome = true := by kernel_rfl
@[go_sem] theorem Try.zero71 : zeroOf Try.prog 71 = some [.lit ((Go.Value.nilFunc))] := by kernel_rfl
@[go_sem] theorem Try.tsz72 : tszOf Try.prog 72 = some (1, false) := by kernel_rfl
@[go_sem] theorem Try.udef72 : (Try.prog.underlying 72).isSome = true := by kernel_rfl
@[go_sem] theorem Try.zero72 : zeroOf Try.prog 72 = some [.lit ((Go.Value.nilFunc))] := by kernel_rfl
@[go_sem] theorem Try.tsz73 : tszOf Try.prog 73 = some (5, true) := by kernel_rfl
@[go_sem] theorem Try.udef73 : (Try.prog.underlying 73).isSome = true := by kernel_rfl
@[go_sem] theorem Try.zero73 : zeroOf Try.prog 73 = some [.int .i64 0, .int .i64 0, .int .i64 0, .int .i64 0, .int .i64 0] := by kernel_rfl
@[go_sem] theorem Try.pl73 : plOf Try.prog 73 = some [(0, 1), (1, 1), (2, 1), (3, 1), (4, 1)] := by kernel_rfl
@[go_sem] theorem Try.tsz74 : tszOf Try.prog 74 = some (5, true) := by kernel_rfl
@[go_sem] theorem Try.udef74 : (Try.prog.underlying 74).isSome = true := by kernel_rfl
@[go_sem] theorem Try.zero74 : zeroOf Try.prog 74 = some [.int .i64 0, .int .i64 0, .int .i64 0, .int .i64 0, .int .i64 0] := by kernel_rfl
@[go_sem] theorem Try.flatEq74 : flatEq Try.prog 74 = some [.int .i64, .int .i64, .int .i64, .int .i64, .int .i64] := by kernel_rfl
@[go_sem] theorem Try.pl74 : plOf Try.prog 74 = some [(0, 1), (1, 1), (2, 1), (3, 1), (4, 1)] := by kernel_rfl
@[go_sem] theorem Try.fd74_0 : fdOf Try.prog 74 0 = some (0, 1, false) := by kernel_rfl
@[go_sem] theorem Try.fd74_1 : fdOf Try.prog 74 1 = some (1, 1, false) := by kernel_rfl
@[go_sem] theorem Try.fd74_2 : fdOf Try.prog 74 2 = some (2, 1, false) := by kernel_rfl
@[go_sem] theorem Try.fd74_3 : fdOf Try.prog 74 3 = some (3, 1, false) := by kernel_rfl
@[go_sem] theorem Try.fd74_4 : fdOf Try.prog 74 4 = some (4, 1, false) := by kernel_rfl
@[go_sem] theorem Try.tsz75 : tszOf Try.prog 75 = some (1, false) := by kernel_rfl
@[go_sem] theorem Try.udef75 : (Try.prog.underlying 75).isSome = true := by kernel_rfl
@[go_sem] theorem Try.zero75 : zeroOf Try.prog 75 = some [.lit ((Go.Value.nilFunc))] := by kernel_rfl
@[go_sem] theorem Try.tsz76 : tszOf Try.prog 76 = some (5, true) := by kernel_rfl
theorem Try.cz76 : Try.prog.cellsOf 76 = 5 := by kernel_rfl
@[go_sem] theorem Try.udef76 : (Try.prog.underlying 76).isSome = true := by kernel_rfl
@[go_sem] theorem Try.zero76 : zeroOf Try.prog 76 = some [.int .i64 0, .int .i64 0, .int .i64 0, .int .i64 0, .int .i64 0] := by kernel_rfl
@[go_sem] theorem Try.flatEq76 : flatEq Try.prog 76 = some [.int .i64, .int .i64, .int .i64, .int .i64, .int .i64] := by kernel_rfl
@[go_sem] theorem Try.pl76 : plOf Try.prog 76 = some [(0, 1), (1, 1), (2, 1), (3, 1), (4, 1)] := by kernel_rfl
@[go_sem] theorem Try.fd76_0 : fdOf Try.prog 76 0 = some (0, 1, false) := by kernel_rfl
@[go_sem] theorem Try.fd76_1 : fdOf Try.prog 76 1 = some (1, 1, false) := by kernel_rfl
@[go_sem] theorem Try.fd76_2 : fdOf Try.prog 76 2 = some (2, 1, false) := by kernel_rfl
@[go_sem] theorem Try.fd76_3 : fdOf Try.prog 76 3 = some (3, 1, false) := by kernel_rfl
@[go_sem] theorem Try.fd76_4 : fdOf Try.prog 76 4 = some (4, 1, false) := by kernel_rfl
@[go_sem] theorem Try.tsz77 : tszOf Try.prog 77 = some (1, false) := by kernel_rfl
@[go_sem] theorem Try.udef77 : (Try.prog.underlying 77).isSome = true := by kernel_rfl
@[go_sem] theorem Try.zero77 : zeroOf Try.prog 77 = some [.lit ((Go.Value.nilFunc))] := by kernel_rfl
@[go_sem] theorem Try.tsz78 : tszOf Try.prog 78 = some (1, false) := by kernel_rfl
@[go_sem] theorem Try.udef78 : (Try.prog.underlying 78).isSome = true := by kernel_rfl
@[go_sem] theorem Try.zero78 : zeroOf Try.prog 78 = some [.lit ((Go.Value.nilFunc))] := by kernel_rfl
@[go_sem] theorem Try.tsz79 : tszOf Try.prog 79 = some (1, false) := by kernel_rfl
@[go_sem] theorem Try.udef79 : (Try.prog.underlying 79).isSome = true := by kernel_rfl
@[go_sem] theorem Try.zero79 : zeroOf Try.prog 79 = some [.lit ((Go.Value.nilFunc))] := by kernel_rfl
@[go_sem] theorem Try.tsz80 : tszOf Try.prog 80 = some (1, false) := by kernel_rfl
@[go_sem] theorem Try.udef80 : (Try.prog.underlying 80).isSome = true := by kernel_rfl
@[go_sem] theorem Try.zero80 : zeroOf Try.prog 80 = some [.lit ((Go.Value.nilFunc))] := by kernel_rfl
@[go_sem] theorem Try.tsz81 : tszOf Try.prog 81 = some (1, false) := by kernel_rfl
@[go_sem] theorem Try.udef81 : (Try.prog.underlying 81).isSome = true := by kernel_rfl
@[go_sem] theorem Try.zero81 : zeroOf Try.prog 81 = some [.lit ((Go.Value.nilFunc))] := by kernel_rfl
@[go_sem] theorem Try.tsz82 : tszOf Try.prog 82 = some (1, false) := by kernel_rfl
@[go_sem] theorem Try.udef82 : (Try.prog.underlying 82).isSome = true := by kernel_rfl
@[go_sem] theorem Try.zero82 : zeroOf Try.prog 82 = some [.lit ((Go.Value.nilFunc))] := by kernel_rfl
@[go_sem] theorem Try.tsz83 : tszOf Try.prog 83 = some (1, false) := by kernel_rfl
@[go_sem] theorem Try.udef83 : (Try.prog.underlying 83).isSome = true := by kernel_rfl
@[go_sem] theorem Try.zero83 : zeroOf Try.prog 83 = some [.lit ((Go.Value.nilFunc))] := by kernel_rfl
@[go_sem] theorem Try.tsz84 : tszOf Try.prog 84 = some (1, false) := by kernel_rfl
@[go_sem] theorem Try.udef84 : (Try.prog.underlying 84).isSome = true := by kernel_rfl
@[go_sem] theorem Try.zero84 : zeroOf Try.prog 84 = some [.lit ((Go.Value.nilFunc))] := by kernel_rfl
@[go_sem] theorem Try.tsz85 : tszOf Try.prog 85 = some (5, true) := by kernel_rfl
@[go_sem] theorem Try.udef85 : (Try.prog.underlying 85).isSome = true := by kernel_rfl
@[go_sem] theorem Try.zero85 : zeroOf Try.prog 85 = some [.int .i64 0, .int .i64 0, .int .i64 0, .int .i64 0, .int .i64 0] := by kernel_rfl
@[go_sem] theorem Try.pl85 : plOf Try.prog 85 = some [(0, 1), (1, 1), (2, 1), (3, 1), (4, 1)] := by kernel_rfl
@[go_sem] theorem Try.tsz86 : tszOf Try.prog 86 = some (5, true) := by kernel_rfl
@[go_sem] theorem Try.udef86 : (Try.prog.underlying 86).isSome = true := by kernel_rfl
@[go_sem] theorem Try.zero86 : zeroOf Try.prog 86 = some [.int .i64 0, .int .i64 0, .int .i64 0, .int .i64 0, .int .i64 0] := by kernel_rfl
@[go_sem] theorem Try.flatEq86 : flatEq Try.prog 86 = some [.int .i64, .int .i64, .int .i64, .int .i64, .int .i64] := by kernel_rfl
@[go_sem] theorem Try.pl86 : plOf Try.prog 86 = some [(0, 1), (1, 1), (2, 1), (3, 1), (4, 1)] := by kernel_rfl
@[go_sem] theorem Try.fd86_0 : fdOf Try.prog 86 0 = some (0, 1, false) := by kernel_rfl
@[go_sem] theorem Try.fd86_1 : fdOf Try.prog 86 1 = some (1, 1, false) := by kernel_rfl
@[go_sem] theorem Try.fd86_2 : fdOf Try.prog 86 2 = some (2, 1, false) := by kernel_rfl
@[go_sem] theorem Try.fd86_3 : fdOf Try.prog 86 3 = some (3, 1, false) := by kernel_rfl
@[go_sem] theorem Try.fd86_4 : fdOf Try.prog 86 4 = some (4, 1, false) := by kernel_rfl
@[go_sem] theorem Try.tsz87 : tszOf Try.prog 87 = some (1, false) := by kernel_rfl
@[go_sem] theorem Try.udef87 : (Try.prog.underlying 87).isSome = true := by kernel_rfl
@[go_sem] theorem Try.zero87 : zeroOf Try.prog 87 = some [.lit ((Go.Value.nilFunc))] := by kernel_rfl
@[go_sem] theorem Try.tsz88 : tszOf Try.prog 88 = some (1, false) := by kernel_rfl
@[go_sem] theorem Try.udef88 : (Try.prog.underlying 88).isSome = true := by kernel_rfl
@[go_sem] theorem Try.zero88 : zeroOf Try.prog 88 = some [.lit ((Go.Value.nilFunc))] := by kernel_rfl
@[go_sem] theorem Try.tsz89 : tszOf Try.prog 89 = some (1, false) := by kernel_rfl
@[go_sem] theorem Try.udef89 : (Try.prog.underlying 89).isSome = true := by kernel_rfl
@[go_sem] theorem Try.zero89 : zeroOf Try.prog 89 = some [.lit ((Go.Value.nilFunc))] := by kernel_rfl
@[go_sem] theorem Try.tsz90 : tszOf Try.prog 90 = some (1, false) := by kernel_rfl
@[go_sem] theorem Try.udef90 : (Try.prog.underlying 90).isSome = true := by kernel_rfl
@[go_sem] theorem Try.zero90 : zeroOf Try.prog 90 = some [.lit ((Go.Value.nilFunc))] := by kernel_rfl
@[go_sem] theorem Try.tsz91 : tszOf Try.prog 91 = some (1, false) := by kernel_rfl
@[go_sem] theorem Try.udef91 : (Try.prog.underlying 91).isSome = true := by kernel_rfl
@[go_sem] theorem Try.zero91 : zeroOf Try.prog 91 = some [.lit ((Go.Value.nilFunc))] := by kernel_rfl
@[go_sem] theorem Try.tsz92 : tszOf Try.prog 92 = some (1, false) := by kernel_rfl
@[go_sem] theorem Try.udef92 : (Try.prog.underlying 92).isSome = true := by kernel_rfl
@[go_sem] theorem Try.zero92 : zeroOf Try.prog 92 = some [.lit ((Go.Value.nilFunc))] := by kernel_rfl
@[go_sem] theorem Try.tsz93 : tszOf Try.prog 93 = some (1, false) := by kernel_rfl
@[go_sem] theorem Try.udef93 : (Try.prog.underlying 93).isSome = true := by kernel_rfl
@[go_sem] theorem Try.zero93 : zeroOf Try.prog 93 = some [.lit ((Go.Value.nilFunc))] := by kernel_rfl
@[go_sem] theorem Try.tsz94 : tszOf Try.prog 94 = some (1, false) := by kernel_rfl
@[go_sem] theorem Try.udef94 : (Try.prog.underlying 94).isSome = true := by kernel_rfl
@[go_sem] theorem Try.zero94 : zeroOf Try.prog 94 = some [.lit ((Go.Value.nilFunc))] := by kernel_rfl
@[go_sem] theorem Try.tsz95 : tszOf Try.prog 95 = some (1, false) := by kernel_rfl
@[go_sem] theorem Try.udef95 : (Try.prog.underlying 95).isSome = true := by kernel_rfl
@[go_sem] theorem Try.zero95 : zeroOf Try.prog 95 = some [.lit ((Go.Value.nilFunc))] := by kernel_rfl
@[go_sem] theorem Try.tsz96 : tszOf Try.prog 96 = some (1, false) := by kernel_rfl
@[go_sem] theorem Try.udef96 : (Try.prog.underlying 96).isSome = true := by kernel_rfl
@[go_sem] theorem Try.zero96 : zeroOf Try.prog 96 = some [.lit ((Go.Value.nilFunc))] := by kernel_rfl
@[go_sem] theorem Try.tsz97 : tszOf Try.prog 97 = some (1, false) := by kernel_rfl
@[go_sem] theorem Try.udef97 : (Try.prog.underlying 97).isSome = true := by kernel_rfl
@[go_sem] theorem Try.zero97 : zeroOf Try.prog 97 = some [.lit ((Go.Value.nilFunc))] := by kernel_rfl
@[go_sem] theorem Try.tsz98 : tszOf Try.prog 98 = some (1, false) := by kernel_rfl
@[go_sem] theorem Try.udef98 : (Try.prog.underlying 98).isSome = true := by kernel_rfl
@[go_sem] theorem Try.zero98 : zeroOf Try.prog 98 = some [.lit ((Go.Value.nilFunc))] := by kernel_rfl
@[go_sem] theorem Try.tsz99 : tszOf Try.prog 99 = some (1, false) := by kernel_rfl
@[go_sem] theorem Try.udef99 : (Try.prog.underlying 99).isSome = true := by kernel_rfl
@[go_sem] theorem Try.zero99 : zeroOf Try.prog 99 = some [.lit ((Go.Value.nilFunc))] := by kernel_rfl
@[go_sem] theorem Try.tsz100 : tszOf Try.prog 100 = some (1, false) := by kernel_rfl
@[go_sem] theorem Try.udef100 : (Try.prog.underlying 100).isSome = true := by kernel_rfl
@[go_sem] theorem Try.zero100 : zeroOf Try.prog 100 = some [.lit ((Go.Value.nilFunc))] := by kernel_rfl
@[go_sem] theorem Try.tsz101 : tszOf Try.prog 101 = some (1, false) := by kernel_rfl
@[go_sem] theorem Try.udef101 : (Try.prog.underlying 101).isSome = true := by kernel_rfl
@[go_sem] theorem Try.zero101 : zeroOf Try.prog 101 = some [.int .u64 0] := by kernel_rfl
@[go_sem] theorem Try.isInt101 : isIntT Try.prog 101 = some .u64 := by kernel_rfl
@[go_sem] theorem Try.tsz102 : tszOf Try.prog 102 = some (1, false) := by kernel_rfl
@[go_sem] theorem Try.udef102 : (Try.prog.underlying 102).isSome = true := by kernel_rfl
@[go_sem] theorem Try.zero102 : zeroOf Try.prog 102 = some [.lit ((Go.Value.nilFunc))] := by kernel_rfl
@[go_sem] theorem Try.tsz103 : tszOf Try.prog 103 = some (1, false) := by kernel_rfl
@[go_sem] theorem Try.udef103 : (Try.prog.underlying 103).isSome = true := by kernel_rfl
@[go_sem] theorem Try.zero103 : zeroOf Try.prog 103 = some [.lit ((Go.Value.nilFunc))] := by kernel_rfl
@[go_sem] theorem Try.tsz104 : tszOf Try.prog 104 = some (1, false) := by kernel_rfl
@[go_sem] theorem Try.udef104 : (Try.prog.underlying 104).isSome = true := by kernel_rfl
@[go_sem] theorem Try.zero104 : zeroOf Try.prog 104 = some [.int .i64 0] := by kernel_rfl
@[go_sem] theorem Try.isInt104 : isIntT Try.prog 104 = some .i64 := by kernel_rfl
@[go_sem] theorem Try.tsz106 : tszOf Try.prog 106 = some (1, false) := by kernel_rfl
@[go_sem] theorem Try.udef106 : (Try.prog.underlying 106).isSome = true := by kernel_rfl
@[go_sem] theorem Try.zero106 : zeroOf Try.prog 106 = some [.lit ((Go.Value.nilFunc))] := by kernel_rfl
@[go_sem] theorem Try.tsz107 : tszOf Try.prog 107 = some (1, false) := by kernel_rfl
@[go_sem] theorem Try.udef107 : (Try.prog.underlying 107).isSome = true := by kernel_rfl
@[go_sem] theorem Try.zero107 : zeroOf Try.prog 107 = some [.lit ((Go.Value.nilFunc))] := by kernel_rfl
@[go_sem] theorem Try.tsz108 : tszOf Try.prog 108 = some (1, false) := by kernel_rfl
@[go_sem] theorem Try.udef108 : (Try.prog.underlying 108).isSome = true := by kernel_rfl
@[go_sem] theorem Try.zero108 : zeroOf Try.prog 108 = some [.lit ((Go.Value.nilFunc))] := by kernel_rfl
@[go_sem] theorem Try.tsz109 : tszOf Try.prog 109 = some (1, false) := by kernel_rfl
@[go_sem] theorem Try.udef109 : (Try.prog.underlying 109).isSome = true := by kernel_rfl
@[go_sem] theorem Try.zero109 : zeroOf Try.prog 109 = some [.lit ((Go.Value.nilFunc))] := by kernel_rfl
@[go_sem] theorem Try.tsz110 : tszOf Try.prog 110 = some (1, false) := by kernel_rfl
@[go_sem] theorem Try.udef110 : (Try.prog.underlying 110).isSome = true := by kernel_rfl
@[go_sem] theorem Try.zero110 : zeroOf Try.prog 110 = some [.lit ((Go.Value.nilFunc))] := by kernel_rfl
@[go_sem] theorem Try.tsz111 : tszOf Try.prog 111 = some (1, false) := by kernel_rfl
@[go_sem] theorem Try.udef111 : (Try.prog.underlying 111).isSome = true := by kernel_rfl
@[go_sem] theorem Try.zero111 : zeroOf Try.prog 111 = some [.int .u32 0] := by kernel_rfl
@[go_sem] theorem Try.isInt111 : isIntT Try.prog 111 = some .u32 := by kernel_rfl
@[go_sem] theorem Try.tsz112 : tszOf Try.prog 112 = some (1, false) := by kernel_rfl
@[go_sem] theorem Try.udef112 : (Try.prog.underlying 112).isSome = true := by kernel_rfl
@[go_sem] theorem Try.zero112 : zeroOf Try.prog 112 = some [.lit ((Go.Value.nilFunc))] := by kernel_rfl
@[go_sem] theorem Try.tsz113 : tszOf Try.prog 113 = some (1, false) := by kernel_rfl
@[go_sem] theorem Try.udef113 : (Try.prog.underlying 113).isSome = true := by kernel_rfl
@[go_sem] theorem Try.zero113 : zeroOf Try.prog 113 = some [.int .u64 0] := by kernel_rfl
@[go_sem] theorem Try.isInt113 : isIntT Try.prog 113 = some .u64 := by kernel_rfl
@[go_sem] theorem Try.tsz114 : tszOf Try.prog 114 = some (1, false) := by kernel_rfl
@[go_sem] theorem Try.udef114 : (Try.prog.underlying 114).isSome = true := by kernel_rfl
@[go_sem] theorem Try.zero114 : zeroOf Try.prog 114 = some [.lit ((Go.Value.nilFunc))] := by kernel_rfl
@[go_sem] theorem Try.tsz115 : tszOf Try.prog 115 = some (1, false) := by kernel_rfl
@[go_sem] theorem Try.udef115 : (Try.prog.underlying 115).isSome = true := by kernel_rfl
@[go_sem] theorem Try.zero115 : zeroOf Try.prog 115 = some [.lit ((Go.Value.nilFunc))] := by kernel_rfl
@[go_sem] theorem Try.tsz116 : tszOf Try.prog 116 = some (1, false) := by kernel_rfl
@[go_sem] theorem Try.udef116 : (Try.prog.underlying 116).isSome = true := by kernel_rfl
@[go_sem] theorem Try.zero116 : zeroOf Try.prog 116 = some [.lit ((Go.Value.nilFunc))] := by kernel_rfl
@[go_sem] theorem Try.tsz117 : tszOf Try.prog 117 = some (1, false) := by kernel_rfl
@[go_sem] theorem Try.udef117 : (Try.prog.underlying 117).isSome = true := by kernel_rfl
@[go_sem] theorem Try.zero117 : zeroOf Try.prog 117 = some [.lit ((Go.Value.pointer none))] := by kernel_rfl
@[go_sem] theorem Try.tsz118 : tszOf Try.prog 118 = some (1, false) := by kernel_rfl
@[go_sem] theorem Try.udef118 : (Try.prog.underlying 118).isSome = true := by kernel_rfl
@[go_sem] theorem Try.zero118 : zeroOf Try.prog 118 = some [.lit ((Go.Value.nilFunc))] := by kernel_rfl
@[go_sem] theorem Try.tsz119 : tszOf Try.prog 119 = some (1, false) := by kernel_rfl
@[go_sem] theorem Try.udef119 : (Try.prog.underlying 119).isSome = true := by kernel_rfl
@[go_sem] theorem Try.zero119 : zeroOf Try.prog 119 = some [.lit ((Go.Value.pointer none))] := by kernel_rfl
@[go_sem] theorem Try.tsz120 : tszOf Try.prog 120 = some (1, false) := by kernel_rfl
@[go_sem] theorem Try.udef120 : (Try.prog.underlying 120).isSome = true := by kernel_rfl
@[go_sem] theorem Try.zero120 : zeroOf Try.prog 120 = some [.lit ((Go.Value.nilFunc))] := by kernel_rfl
@[go_sem] theorem Try.tsz121 : tszOf Try.prog 121 = some (1, false) := by kernel_rfl
@[go_sem] theorem Try.udef121 : (Try.prog.underlying 121).isSome = true := by kernel_rfl
@[go_sem] theorem Try.zero121 : zeroOf Try.prog 121 = some [.lit ((Go.Value.nilFunc))] := by kernel_rfl
@[go_sem] theorem Try.tsz122 : tszOf Try.prog 122 = some (4, true) := by kernel_rfl
@[go_sem] theorem Try.udef122 : (Try.prog.underlying 122).isSome = true := by kernel_rfl
@[go_sem] theorem Try.zero122 : zeroOf Try.prog 122 = some [.lit ((Go.Value.pointer none)), .lit ((Go.Value.pointer none)), .lit ((Go.Value.pointer none)), .str ByteArray.empty] := by kernel_rfl
@[go_sem] theorem Try.pl122 : plOf Try.prog 122 = some [(0, 1), (1, 1), (2, 1), (3, 1)] := by kernel_rfl
@[go_sem] theorem Try.tsz123 : tszOf Try.prog 123 = some (4, true) := by kernel_rfl
@[go_sem] theorem Try.udef123 : (Try.prog.underlying 123).isSome = true := by kernel_rfl
@[go_sem] theorem Try.zero123 : zeroOf Try.prog 123 = some [.lit ((Go.Value.pointer none)), .lit ((Go.Value.pointer none)), .lit ((Go.Value.pointer none)), .str ByteArray.empty] := by kernel_rfl
@[go_sem] theorem Try.pl123 : plOf Try.prog 123 = some [(0, 1), (1, 1), (2, 1), (3, 1)] := by kernel_rfl
@[go_sem] theorem Try.tsz124 : tszOf Try.prog 124 = some (0, true) := by kernel_rfl
@[go_sem] theorem Try.udef124 : (Try.prog.underlying 124).isSome = true := by kernel_rfl
@[go_sem] theorem Try.zero124 : zeroOf Try.prog 124 = some [] := by kernel_rfl
@[go_sem] theorem Try.ar124 : arOf Try.prog 124 = some (0, 1, false) := by kernel_rfl
@[go_sem] theorem Try.pl124 : plOf Try.prog 124 = some [] := by kernel_rfl
@[go_sem] theorem Try.tsz125 : tszOf Try.prog 125 = some (0, true) := by kernel_rfl
@[go_sem] theorem Try.udef125 : (Try.prog.underlying 125).isSome = true := by kernel_rfl
@[go_sem] theorem Try.zero125 : zeroOf Try.prog 125 = some [] := by kernel_rfl
@[go_sem] theorem Try.pl125 : plOf Try.prog 125 = some [(0, 0)] := by kernel_rfl
@[go_sem] theorem Try.tsz126 : tszOf Try.prog 126 = some (0, true) := by kernel_rfl
@[go_sem] theorem Try.udef126 : (Try.prog.underlying 126).isSome = true := by kernel_rfl
@[go_sem] theorem Try.zero126 : zeroOf Try.prog 126 = some [] := by kernel_rfl
@[go_sem] theorem Try.pl126 : plOf Try.prog 126 = some [(0, 0)] := by kernel_rfl
@[go_sem] theorem Try.tsz127 : tszOf Try.prog 127 = some (1, false) := by kernel_rfl
@[go_sem] theorem Try.udef127 : (Try.prog.underlying 127).isSome = true := by kernel_rfl
@[go_sem] theorem Try.zero127 : zeroOf Try.prog 127 = some [.int .u8 0] := by kernel_rfl
@[go_sem] theorem Try.isInt127 : isIntT Try.prog 127 = some .u8 := by kernel_rfl
@[go_sem] theorem Try.tsz128 : tszOf Try.prog 128 = some (1, false) := by kernel_rfl
@[go_sem] theorem Try.udef128 : (Try.prog.underlying 128).isSome = true := by kernel_rfl
@[go_sem] theorem Try.zero128 : zeroOf Try.prog 128 = some [.int .u8 0] := by kernel_rfl
@[go_sem] theorem Try.isInt128 : isIntT Try.prog 128 = some .u8 := by kernel_rfl
@[go_sem] theorem Try.tsz129 : tszOf Try.prog 129 = some (1, false) := by kernel_rfl
@[go_sem] theorem Try.udef129 : (Try.prog.underlying 129).isSome = true := by kernel_rfl
@[go_sem] theorem Try.zero129 : zeroOf Try.prog 129 = some [.lit ((Go.Value.nilFunc))] := by kernel_rfl
@[go_sem] theorem Try.tsz130 : tszOf Try.prog 130 = some (1, false) := by kernel_rfl
@[go_sem] theorem Try.udef130 : (Try.prog.underlying 130).isSome = true := by kernel_rfl
@[go_sem] theorem Try.zero130 : zeroOf Try.prog 130 = some [.lit ((Go.Value.pointer none))] := by kernel_rfl
@[go_sem] theorem Try.tsz131 : tszOf Try.prog 131 = some (1, false) := by kernel_rfl
@[go_sem] theorem Try.udef131 : (Try.prog.underlying 131).isSome = true := by kernel_rfl
@[go_sem] theorem Try.zero131 : zeroOf Try.prog 131 = some [.int .i32 0] := by kernel_rfl
@[go_sem] theorem Try.isInt131 : isIntT Try.prog 131 = some .i32 := by kernel_rfl
@[go_sem] theorem Try.tsz132 : tszOf Try.prog 132 = some (1, false) := by kernel_rfl
@[go_sem] theorem Try.udef132 : (Try.prog.underlying 132).isSome = true := by kernel_rfl
@[go_sem] theorem Try.zero132 : zeroOf Try.prog 132 = some [.int .i32 0] := by kernel_rfl
@[go_sem] theorem Try.isInt132 : isIntT Try.prog 132 = some .i32 := by kernel_rfl
@[go_sem] theorem Try.tsz133 : tszOf Try.prog 133 = some (11, true) := by kernel_rfl
@[go_sem] theorem Try.udef133 : (Try.prog.underlying 133).isSome = true := by kernel_rfl
@[go_sem] theorem Try.zero133 : zeroOf Try.prog 133 = some [.int .u64 0, .int .u64 0, .int .u32 0, .int .u8 0, .int .u8 0, .int .u8 0, .int .u8 0, .lit ((Go.Value.nilFunc)), .lit ((Go.Value.pointer none)), .int .i32 0, .int .i32 0] := by kernel_rfl
@[go_sem] theorem Try.pl133 : plOf Try.prog 133 = some [(0, 1), (1, 1), (2, 1), (3, 1), (4, 1), (5, 1), (6, 1), (7, 1), (8, 1), (9, 1), (10, 1)] := by kernel_rfl
@[go_sem] theorem Try.tsz134 : tszOf Try.prog 134 = some (11, true) := by kernel_rfl
@[go_sem] theorem Try.udef134 : (Try.prog.underlying 134).isSome = true := by kernel_rfl
@[go_sem] theorem Try.zero134 : zeroOf Try.prog 134 = some [.int .u64 0, .int .u64 0, .int .u32 0, .int .u8 0, .int .u8 0, .int .u8 0, .int .u8 0, .lit ((Go.Value.nilFunc)), .lit ((Go.Value.pointer none)), .int .i32 0, .int .i32 0] := by kernel_rfl
@[go_sem] theorem Try.pl134 : plOf Try.prog 134 = some [(0, 1), (1, 1), (2, 1), (3, 1), (4, 1), (5, 1), (6, 1), (7, 1), (8, 1), (9, 1), (10, 1)] := by kernel_rfl
@[go_sem] theorem Try.tsz135 : tszOf Try.prog 135 = some (1, false) := by kernel_rfl
@[go_sem] theorem Try.udef135 : (Try.prog.underlying 135).isSome = true := by kernel_rfl
@[go_sem] theorem Try.zero135 : zeroOf Try.prog 135 = some [.lit ((Go.Value.pointer none))] := by kernel_rfl
@[go_sem] theorem Try.isPt3 : isPt Try.prog 3 = false := by kernel_rfl
@[go_sem] theorem Try.isPt22 : isPt Try.prog 22 = false := by kernel_rfl
@[go_sem] theorem Try.isPt24 : isPt Try.prog 24 = false := by kernel_rfl
@[go_sem] theorem Try.isPt27 : isPt Try.prog 27 = false := by kernel_rfl
@[go_sem] theorem Try.isPt32 : isPt Try.prog 32 = false := by kernel_rfl
@[go_sem] theorem Try.isPt43 : isPt Try.prog 43 = false := by kernel_rfl
@[go_sem] theorem Try.isPt45 : isPt Try.prog 45 = false := by kernel_rfl
@[go_sem] theorem Try.isPt52 : isPt Try.prog 52 = true := by kernel_rfl
@[go_sem] theorem Try.isPt53 : isPt Try.prog 53 = false := by kernel_rfl
@[go_sem] theorem Try.isPt74 : isPt Try.prog 74 = false := by kernel_rfl
@[go_sem] theorem Try.isPt76 : isPt Try.prog 76 = false := by kernel_rfl
@[go_sem] theorem Try.isPt86 : isPt Try.prog 86 = false := by kernel_rfl
@[go_sem] theorem Try.isPt101 : isPt Try.prog 101 = false := by kernel_rfl
@[go_sem] theorem Try.isPt111 : isPt Try.prog 111 = false := by kernel_rfl
@[go_sem] theorem Try.isPt113 : isPt Try.prog 113 = false := by kernel_rfl
theorem Try.okF4 : okF Try.prog 4 = true := by kernel_rfl
theorem Try.okF18 : okF Try.prog 18 = true := by kernel_rfl
theorem Try.okF19 : okF Try.prog 19 = true := by kernel_rfl
theorem Try.okF20 : okF Try.prog 20 = true := by kernel_rfl
theorem Try.okF21 : okF Try.prog 21 = true := by kernel_rfl
theorem Try.okF22 : okF Try.prog 22 = true := by kernel_rfl
theorem Try.okF23 : okF Try.prog 23 = true := by kernel_rfl
theorem Try.okF24 : okF Try.prog 24 = true := by kernel_rfl
theorem Try.okF30 : okF Try.prog 30 = true := by kernel_rfl
theorem Try.okF34 : okF Try.prog 34 = true := by kernel_rfl
theorem Try.okF45 : okF Try.prog 45 = true := by kernel_rfl
theorem Try.okF46 : okF Try.prog 46 = true := by kernel_rfl
theorem Try.okF47 : okF Try.prog 47 = true := by kernel_rfl
theorem Try.okF48 : okF Try.prog 48 = true := by kernel_rfl
theorem Try.okF49 : okF Try.prog 49 = true := by kernel_rfl
theorem Try.okF50 : okF Try.prog 50 = true := by kernel_rfl
theorem Try.okF51 : okF Try.prog 51 = true := by kernel_rfl
theorem Try.okF55 : okF Try.prog 55 = true := by kernel_rfl
theorem Try.okF75 : okF Try.prog 75 = true := by kernel_rfl
theorem Try.okF76 : okF Try.prog 76 = true := by kernel_rfl
theorem Try.okF77 : okF Try.prog 77 = true := by kernel_rfl
theorem Try.okF78 : okF Try.prog 78 = true := by kernel_rfl
end Go.Proofs
end
section
namespace Go.Lv

def rows {α : Type} (cs : α → List V) (L : List α) : List V := L.flatMap cs

section
variable {α : Type} {cs : α → List V} {w : Nat}

theorem rows_len (h : ∀ a, (cs a).length = w) (L : List α) : (rows cs L).length = L.length * w := by
 induction L with
 | nil => simp [rows]
 | cons a L ih => simp [rows, h] at ih ⊢; rw [ih, Nat.succ_mul, Nat.add_comm]

theorem rowsOf_append (L K : List α) : rows cs (L ++ K) = rows cs L ++ rows cs K := by simp [rows]
theorem rows_nil : rows cs ([] : List α) = [] := rfl
theorem rows_cons (a : α) (L : List α) : rows cs (a :: L) = cs a ++ rows cs L := by simp [rows]
theorem rows_one (a : α) : rows cs [a] = cs a := by simp [rows]

theorem rows_drop (h : ∀ a, (cs a).length = w) (L : List α) (i : Nat) : (rows cs L).drop (i * w) = rows cs (L.drop i) := by
 induction i generalizing L with
 | zero => simp
 | succ i ih =>
   cases L with
   | nil => simp [rows]
   | cons a L =>
     rw [rows_cons, Nat.succ_mul, Nat.add_comm, ← List.drop_drop, List.drop_append, h a, Nat.sub_self, List.drop_zero]
     rw [show (cs a).drop w = [] by simp [h]]
     simpa using ih L

theorem rows_take (h : ∀ a, (cs a).length = w) (L : List α) (i : Nat) : (rows cs L).take (i * w) = rows cs (L.take i) := by
 induction i generalizing L with
 | zero => simp [rows]
 | succ i ih =>
   cases L with
   | nil => simp [rows]
   | cons a L =>
     rw [rows_cons, List.take_succ_cons, rows_cons, Nat.succ_mul, Nat.add_comm, List.take_append, h a, Nat.add_sub_cancel_left, ih]
     rw [List.take_of_length_le (by simp [h])]

theorem rows_at (h : ∀ a, (cs a).length = w) {L : List α} {i : Nat} (hi : i < L.length) : ((rows cs L).drop (i * w)).take w = cs L[i] := by
 rw [rows_drop h, List.drop_eq_getElem_cons hi, rows_cons, List.take_append, h, Nat.sub_self, List.take_zero, List.append_nil, List.take_of_length_le (by simp [h])]

theorem rows_all {p : V → Bool} (h : ∀ a, (cs a).all p = true) (L : List α) : (rows cs L).all p = true := by
 induction L with
 | nil => rfl
 | cons a L ih => rw [rows_cons, List.all_append, h a, ih]; rfl

theorem map_ren (f : Nat → R) {d : Nat} {l : List V} (h : l.all (noOwn d) = true) : l.map (ren f d) = l := by
 rw [List.map_congr_left (g := id) (fun x hx => ren_noOwn f d x (List.all_eq_true.1 h x hx)), List.map_id]

theorem zrow_all {p : V → Bool} {zs : List V} (hz : zs.all p = true) (hn : 0 < zs.length) (n : Nat) : (zrow n zs).all p = true := by
 rw [List.all_eq_true]
 intro x hx
 simp only [zrow, List.mem_map, List.mem_range] at hx
 obtain ⟨i, _, rfl⟩ := hx
 have hlt := Nat.mod_lt i hn
 rw [List.getD_eq_getElem?_getD, List.getElem?_eq_getElem hlt]
 exact List.all_eq_true.1 hz _ (List.getElem_mem hlt)

theorem zrow_len (n : Nat) (zs : List V) : (zrow n zs).length = n := by simp [zrow]

theorem zrow_drop {zs : List V} (hz : zs.length = w) (n : Nat) : (zrow n zs).drop w = zrow (n - w) zs := by
 apply List.ext_getElem
 · simp [zrow]
 · intro i h1 h2
   simp [zrow] at h1 h2 ⊢
   rw [hz, Nat.add_mod_left]

def filled (cs : α → List V) (w : Nat) (zs : List V) (L : List α) (i : Nat) : List V := rows cs (L.take i) ++ zrow ((L.length - i) * w) zs

theorem filled_len (h : ∀ a, (cs a).length = w) {zs : List V} {L : List α} {i : Nat} (hi : i ≤ L.length) : (filled cs w zs L i).length = L.length * w := by
 simp only [filled, List.length_append, rows_len h, zrow_len, List.length_take, Nat.min_eq_left hi]
 rw [← Nat.add_mul, Nat.add_sub_cancel' hi]

theorem filled_zero {zs : List V} {L : List α} : filled cs w zs L 0 = zrow (L.length * w) zs := by simp [filled, rows]

theorem filled_all (h : ∀ a, (cs a).length = w) {zs : List V} {L : List α} {i : Nat} (hi : L.length ≤ i) : filled cs w zs L i = rows cs L := by
 simp [filled, List.take_of_length_le hi, Nat.sub_eq_zero_of_le hi, zrow]

theorem filled_step (h : ∀ a, (cs a).length = w) {zs : List V} (hz : zs.length = w) {L : List α} {i : Nat} (hi : i < L.length) :
   splice (filled cs w zs L i) (i * w) (cs L[i]) = filled cs w zs L (i + 1) := by
 have hl : (rows cs (L.take i)).length = i * w := by rw [rows_len h, List.length_take, Nat.min_eq_left (by omega)]
 unfold filled splice
 rw [List.take_append, hl, Nat.sub_self, List.take_zero, List.append_nil, List.take_of_length_le (by omega), h, ← List.drop_drop, List.drop_append, hl, Nat.sub_self, List.drop_zero,
   show (rows cs (L.take i)).drop (i * w) = [] by simp [hl], List.nil_append, zrow_drop hz, List.take_succ_eq_append_getElem hi, rowsOf_append, rows_one]
 rw [show (L.length - i) * w - w = (L.length - (i + 1)) * w by rw [← Nat.sub_one_mul]; congr 1]

theorem cutB_rows {n : Nat} {l : List V} (h : l.all (noOwn 2) = true) : cutB n (some l) = some l := by
 simp only [cutB, Option.map_some]
 rw [map_ren _ h]
theorem filled_plain {zs : List V} {L : List α} {i : Nat} (hz : 0 < zs.length) (hz2 : zs.all (noOwn 2) = true) (hp : ∀ a, (cs a).all (noOwn 2) = true) : (filled cs w zs L i).all (noOwn 2) = true := by
 rw [filled, List.all_append, zrow_all hz2 hz, Bool.and_true]
 exact rows_all hp _

theorem wrap_i64 {n : Int} (h0 : -9223372036854775808 ≤ n) (h1 : n ≤ 9223372036854775807) : IntKind.i64.wrap n = n := by
 rw [IntKind.wrap_i64]; omega

def i64R (z : Int) : Prop := -9223372036854775808 ≤ z ∧ z ≤ 9223372036854775807
def lstR (ok : α → Prop) (L : List α) : Prop := L.length ≤ 9223372036854775807 ∧ ∀ x ∈ L, ok x

class FlatP (cs : α → List V) (w : outParam Nat) : Prop where
 len : ∀ a, (cs a).length = w
 plain : ∀ a d, (cs a).all (noOwn d) = true
 cell : ∀ a, (cs a).all isCell = true
 noro : ∀ a, (cs a).all (noRoB 0) = true

theorem rows_length [FlatP cs w] (L : List α) : (rows cs L).length = L.length * w := rows_len FlatP.len L
theorem map_ren_rows [FlatP cs w] (f : Nat → R) (d : Nat) (L : List α) : (rows cs L).map (ren f d) = rows cs L := map_ren f (rows_all (fun a => FlatP.plain a d) L)
theorem rows_cell [FlatP cs w] (L : List α) : (rows cs L).all isCell = true := rows_all FlatP.cell L
theorem rows_noRo [FlatP cs w] (L : List α) : (rows cs L).all (noRoB 0) = true := rows_all FlatP.noro L
theorem rows_noOwn [FlatP cs w] (L : List α) (d : Nat) : (rows cs L).all (noOwn d) = true := rows_all (fun a => FlatP.plain a d) L
theorem rows_refV [FlatP cs w] (p : Nat → Bool) (L : List α) (d : Nat) : (rows cs L).all (refV p d) = true := List.all_eq_true.2 fun x hx => refV_noOwn p d x (List.all_eq_true.1 (rows_noOwn (cs := cs) L d) x hx)
theorem noRoH_rows [FlatP cs w] (L : List α) : NoRoH [some (rows cs L)] := NoRoH.of (by simp only [hpNoRo, List.all_cons, List.all_nil, rows_noRo, Bool.and_self])
theorem take_rows [FlatP cs w] (L : List α) : (rows cs L).take (L.length * w) = rows cs L := List.take_of_length_le (by rw [rows_length]; exact Nat.le_refl _)

theorem le_snap [FlatP cs w] {h : Hp} {id : Nat} {L : List α} (hid : h[id]? = some (some (rows cs L))) : LeV (ren (snapR h 3) 3 (.osl id 0 L.length w)) (.sl L.length w (rows cs L)) := by
 refine .inl ?_
 simp only [ren, snapR, hid, map_ren_rows, List.drop_zero, take_rows]
theorem le_snap' [FlatP cs w] {h : Hp} {id n : Nat} {L : List α} (hid : h[id]? = some (some (rows cs L))) (hn : n = L.length) : LeV (ren (snapR h 3) 3 (.osl id 0 n w)) (.sl L.length w (rows cs L)) := by
 subst hn; exact le_snap hid
theorem le_nil {h : Hp} {w : Nat} : LeV (ren (snapR h 3) 3 .nilsl) (.sl 0 w []) := .inr (.inr (.inl ⟨rfl, w, rfl⟩))
theorem LeV.aggR {f : Nat → R} {d : Nat} {cs cs' : List V} (h : LeA (cs.map (ren f d)) cs') : LeV (ren f (d + 1) (.agg cs)) (.agg cs') := LeV.agg h
theorem leE_snap [FlatP cs w] {h : Hp} {id n n' : Nat} {L : List α} (hid : h[id]? = some (some (rows cs L))) (hn : n = L.length) (hn' : n' = L.length) : LeE (ren (snapR h 3) 2 (.osl id 0 n w)) (.sl n' w (rows cs L)) := by
 subst hn hn'
 refine .inl ?_
 simp only [ren, snapR, hid, map_ren_rows, List.drop_zero, take_rows]
theorem lend_one [FlatP cs w] {h : Hp} {id : Nat} {fz : Bool} {L : List α} (hid : h[id]? = some (some (rows cs L))) : pickH [id] h fz = [some (rows cs L)] := by
 simp only [pickH, List.map_cons, List.map_nil, pickB, hid, map_ren_rows]
theorem isMb_cells {l : List V} (h : l.all isCell = true) : isMb l = false := by
 match l, h with
 | [], _ => rfl
 | _ :: _ :: _, _ => rfl
 | [x], h => cases x <;> first | rfl | (simp [isCell] at h)
theorem isMb_rows [FlatP cs w] (L : List α) : isMb (rows cs L) = false := isMb_cells (rows_cell L)
theorem grown_one [FlatP cs w] {L L' : List α} (h : L.length = L'.length) : grown [some (rows cs L)] [some (rows cs L')] := by
 simp [grown, rows_length, h, isMb_rows]

def optO (w : Nat) (R : Option (List α)) : V := match R with
 | some M => .tup [.osl 0 0 M.length w, .bool true]
 | none => .tup [.osl 0 0 0 w, .bool false]
def optOh (cs : α → List V) (R : Option (List α)) : Hp := match R with
 | some M => [some (rows cs M)]
 | none => [some []]
def optN (w : Nat) (R : Option (List α)) : V := match R with
 | some M => .tup [.osl 0 0 M.length w, .bool true]
 | none => .tup [.nilsl, .bool false]
def optNh (cs : α → List V) (R : Option (List α)) : Hp := match R with
 | some M => [some (rows cs M)]
 | none => []
theorem rows_snoc (L : List α) (a : α) : rows cs L ++ cs a = rows cs (L ++ [a]) := by rw [rowsOf_append, rows_one]

theorem LeL_same {f : V → V} : ∀ {l : List V}, l.map f = l → LeL (l.map f) l
 | [], _ => trivial
 | a :: l, h => by
   simp only [List.map_cons, List.cons.injEq] at h
   exact ⟨.inl h.1.symm, LeL_same h.2⟩

theorem splice_mid {A M ns : List V} {n j : Nat} (h : A.length = n) : splice (A ++ M) (n + j) ns = A ++ splice M j ns := by
 subst h
 unfold splice
 rw [List.take_append, List.drop_append, List.take_of_length_le (by omega), List.drop_of_length_le (by omega)]
 simp only [Nat.add_sub_cancel_left, List.nil_append, List.append_assoc]
 congr 3
 congr 1
 omega
theorem splice_mid0 {A M ns : List V} {n : Nat} (h : A.length = n) : splice (A ++ M) n ns = A ++ splice M 0 ns := by
 have := splice_mid (M := M) (ns := ns) (j := 0) h
 rwa [Nat.add_zero] at this

theorem rows_drop_at (h : ∀ a, (cs a).length = w) {L : List α} {i : Nat} (hi : i < L.length) (j : Nat) : (rows cs L).drop (i * w + j) = (cs L[i] ++ rows cs (L.drop (i + 1))).drop j := by
 rw [← List.drop_drop, rows_drop h, List.drop_eq_getElem_cons hi, rows_cons]
theorem apart {L : List α} {i : Nat} (hi : i < L.length) : ∃ A B, L = A ++ L[i] :: B ∧ A.length = i ∧ A = L.take i ∧ B = L.drop (i + 1) := by
 refine ⟨L.take i, L.drop (i + 1), ?_, by simp; omega, rfl, rfl⟩
 rw [← List.drop_eq_getElem_cons hi, List.take_append_drop]

def listedQ (p : α → Bool) (k : α → Int) (L : List α) (i : Nat) : Bool :=
 match L[i]? with
 | none => true
 | some x => p x && match i with
   | 0 => true
   | j + 1 => match L[j]? with
     | none => true
     | some y => decide (k y < k x)

def listedB (p : α → Bool) (k : α → Int) (m : Nat) (L : List α) : Bool := (List.range L.length).all (listedQ p k L) && decide (L.length ≤ m)

theorem range_all_false {q : Nat → Bool} {n i : Nat} (hi : i < n) (h : q i = false) : (List.range n).all q = false := by
 rw [List.all_eq_false]
 exact ⟨i, by simpa using hi, by simp [h]⟩
theorem range_all_succ {q : Nat → Bool} {i : Nat} (h : (List.range i).all q = true) (h1 : q i = true) : (List.range (i + 1)).all q = true := by
 rw [List.range_succ, List.all_append, h]
 simp [h1]
theorem listedB_false {p : α → Bool} {k : α → Int} {m : Nat} {L : List α} {i : Nat} (hi : i < L.length) (h : listedQ p k L i = false) : listedB p k m L = false := by
 rw [listedB, range_all_false hi h]
 rfl
theorem listedQ_zero {p : α → Bool} {k : α → Int} {L : List α} (h0 : 0 < L.length) : listedQ p k L 0 = p L[0] := by simp [listedQ, h0]
theorem listedQ_succ {p : α → Bool} {k : α → Int} {L : List α} {j : Nat} (h : j + 1 < L.length) : listedQ p k L (j + 1) = (p L[j + 1] && decide (k (L[j]'(by omega)) < k L[j + 1])) := by
 have : j < L.length := by omega
 simp [listedQ, h, this]
end

theorem leA {x y : V} (h : LeV x y := by first | exact le_snap rfl | exact .inl rfl | exact le_nil | exact le_snap' rfl (by simp) | exact LeV.aggR (by first | ((repeat' (first | exact True.intro | exact leE_snap rfl (by simp) (by simp) | exact LeE.nil | exact LeE.refl _ | refine And.intro ?_ ?_)); done) | fail)) : LeV x y := h
theorem callT.at {P : Program} {h : Hp} {g : FuncId} {a c args : List V} {K : V → Hp → Prop} {x : Tag K} {as' : List V} {r : V} {hout : Hp} (hs : Ctr P g as' [] r hout) (hle : LeL ((a ++ args ++ c).map (ren (snapR h 3) 3)) as') (hk : K r hout)
   (hro : (a ++ args ++ c).all (noOwn 3) = true ∨ NoRo r ∧ NoRoH hout := by first | exact .inl rfl | exact .inr ⟨noRo_ok 3 rfl, by first | exact NoRoH.nil | exact noRoH_rows _ | exact NoRoH.of (by simp only [hpNoRo, List.all_cons, List.all_nil, rows_noRo, Bool.and_self])⟩)
   (hrf : refOk h 4 (.fn (.func g) a c) = true ∧ args.all (refOk h 3) = true := by first | exact ⟨rfl, rfl⟩ | exact ⟨rfl, by simp [refOk, refV, refB, noOwn, rows_noOwn, rows_refV]⟩ | simp [refOk, refV, refB, noOwn, rows_noOwn, rows_refV]) : callT P h (.fn (.func g) a c) args K x :=
 callT.intro hs hle hro hrf hk
theorem callS.at {P : Program} {t : List V} {h : Hp} {k : Nat} {dst : Option Tmp} {g : FuncId} {a c args : List V} {K : St → Prop} {x : Tag K} {as' : List V} {r : V} {hout : Hp} (hs : Ctr P g as' [] r hout)
   (hle : LeL ((a ++ args ++ c).map (ren (snapR h 3) 3)) as') (hk : K (afterCall ⟨t, h, k⟩ dst r hout))
   (hro : (a ++ args ++ c).all (noOwn 3) = true ∨ NoRo r ∧ NoRoH hout := by first | exact .inl rfl | exact .inr ⟨noRo_ok 3 rfl, by first | exact NoRoH.nil | exact noRoH_rows _ | exact NoRoH.of (by simp only [hpNoRo, List.all_cons, List.all_nil, rows_noRo, Bool.and_self])⟩) : callS P ⟨t, h, k⟩ dst (.fn (.func g) a c) args K x :=
 callS.intro hs hle hro hk
theorem lendA {sel : List Nat} {h hin : Hp} {fz : Bool} (hh : pickH sel h fz = hin := by first | exact lend_one rfl | rfl | (simp only [pickH, List.map_cons, List.map_nil, pickB, List.getElem?_cons_zero, List.getElem?_cons_succ, map_ren_rows]; done)) : pickH sel h fz = hin := hh
theorem leO {x y : V} (h : LeV x y := by first | exact .inl rfl | exact LeV.aggR (by first | ((repeat' (first | exact True.intro | exact LeE.nil | exact LeE.refl _ | refine And.intro ?_ ?_)); done) | fail)) : LeV x y := h
theorem sideA {a b : Prop} (hb : b) (ha : a := by first | omega | with_reducible rfl | (show drawOk _ = true; kernel_rfl) | (simp only [rows_length, rows_cell, List.length_append, List.length_cons, List.length_nil, List.all_append, List.all_cons, List.all_nil, isCell, Nat.mul_one, Nat.one_mul, Bool.and_self]; first | done | omega)) : a ∧ b := ⟨ha, hb⟩
attribute [go_sem] Nat.le_refl Int.toNat_natCast beq_self_eq_true bne_self_eq_false decide_true decide_false eq_self ne_eq Option.some.injEq not_false_eq_true Option.map_some map_ren_rows
attribute [go_sem] Nat.reduceSub Nat.reduceAdd Nat.reduceMul Nat.reduceLT Nat.reduceLeDiff Nat.reduceEqDiff Nat.reduceDiv Nat.reduceMod Int.reduceToNat Int.reduceLE Int.reduceLT Int.reduceBEq Int.reduceBNe Int.reduceNeg Int.reduceAdd Int.reduceSub Int.reduceMul reduceCtorEq
end Go.Lv
end
section
set_option maxRecDepth 100000
namespace Go.Proofs
open Go.Lv
def inB' (n a b : Int) : Bool := decide (a ≤ n) && decide (n ≤ b)
theorem in_ok (n a b : Int) : Ctr Try.prog 30 [.int .i64 n, .int .i64 a, .int .i64 b] [] (.bool (inB' n a b)) [] := by
 refine Ctr.intro Try.mixed Try.func30 rfl Try.okF30 ?_
 simp -implicitDefEqProofs -dsimp only [go_sem, Try.ntmps30, Try.results30]
 refine guardT.splitT (fun h1 => ?_) (fun h1 => ?_) <;> simp -implicitDefEqProofs -dsimp only [go_sem, h1]
 · exact WeakR.of_eq (by simp [inB', h1])
 · exact WeakR.of_eq (by simp [inB', h1])
theorem l1In_ok (n a b : Int) : Ctr Try.prog 34 [.int .i64 n, .int .i64 a, .int .i64 b] [] (.bool (inB' n a b)) [] := by
 refine Ctr.intro Try.mixed Try.func34 rfl Try.okF34 ?_
 simp -implicitDefEqProofs -dsimp only [go_sem, Try.ntmps34, Try.results34]
 refine guardT.splitT (fun h1 => ?_) (fun h1 => ?_) <;> simp -implicitDefEqProofs -dsimp only [go_sem, h1]
 · exact WeakR.of_eq (by simp [inB', h1])
 · exact WeakR.of_eq (by simp [inB', h1])
theorem listedB_all {α : Type} {p : α → Bool} {k : α → Int} {m : Nat} {L : List α} (h : listedB p k m L = true) : (∀ x ∈ L, p x = true) ∧ L.length ≤ m := by
 simp only [listedB, Bool.and_eq_true, decide_eq_true_eq, List.all_eq_true, List.mem_range] at h
 refine ⟨fun x hx => ?_, h.2⟩
 obtain ⟨i, hi, rfl⟩ := List.getElem_of_mem hx
 have := h.1 i hi
 simp only [listedQ, List.getElem?_eq_getElem hi, Bool.and_eq_true] at this
 exact this.1
theorem listedB_lt {α : Type} {p : α → Bool} {k : α → Int} {m : Nat} {L : List α} (h : listedB p k m L = true) : (L.map k).Pairwise (· < ·) := by
 simp only [listedB, Bool.and_eq_true, List.all_eq_true, List.mem_range] at h
 have adj : ∀ j, (hj : j + 1 < L.length) → k (L[j]'(by omega)) < k L[j + 1] := by
   intro j hj
   have := h.1 (j + 1) hj
   rw [listedQ_succ hj] at this
   simp at this
   exact this.2
 rw [List.pairwise_iff_getElem]
 intro i j hi hj hij
 simp only [List.length_map] at hi hj
 simp only [List.getElem_map]
 induction j with
 | zero => omega
 | succ j ih =>
   have h1 := adj j hj
   rcases Nat.lt_succ_iff_lt_or_eq.1 hij with h2 | h2
   · have := ih (by simpa using (by omega : j < L.length)) h2 (by omega)
     omega
   · subst h2; exact h1
def wsum {α : Type} (f : α → Int) (L : List α) : Int := L.foldl (fun a x => IntKind.i64.wrap (a + f x)) 0
theorem wsum_succ {α : Type} (f : α → Int) {L : List α} {i : Nat} (hi : i < L.length) : wsum f (L.take (i + 1)) = IntKind.i64.wrap (wsum f (L.take i) + f L[i]) := by
 rw [List.take_succ_eq_append_getElem hi, wsum, List.foldl_append]
 rfl
end Go.Proofs
end
section
set_option maxRecDepth 100000
namespace Go.Proofs
open Go.Lv
structure WeekRow where
 Week : Int
 Events : Int
 Felt : Int
 Picks : Int
 Lost : Int
def WeekRow.cs (r : WeekRow) : List V := [.int .i64 r.Week, .int .i64 r.Events, .int .i64 r.Felt, .int .i64 r.Picks, .int .i64 r.Lost]
def WeekRow.v (r : WeekRow) : V := .agg [.int .i64 r.Week, .int .i64 r.Events, .int .i64 r.Felt, .int .i64 r.Picks, .int .i64 r.Lost]
theorem WeekRow.csl (a : WeekRow) : a.cs.length = 5 := rfl
theorem WeekRow.csp (a : WeekRow) : a.cs.all (noOwn 2) = true := rfl
instance : FlatP WeekRow.cs 5 := ⟨fun _ => rfl, fun _ d => by cases d <;> rfl, fun _ => rfl, fun _ => rfl⟩
def WeekRow.ok (r : WeekRow) : Prop := i64R r.Week ∧ i64R r.Events ∧ i64R r.Felt ∧ i64R r.Picks ∧ i64R r.Lost
abbrev WeekRow.rows (L : List WeekRow) : List V := Go.Lv.rows WeekRow.cs L
abbrev WeekRow.sl (L : List WeekRow) : V := .sl L.length 5 (Go.Lv.rows WeekRow.cs L)
abbrev WeekRow.zs : List V := [.int .i64 0, .int .i64 0, .int .i64 0, .int .i64 0, .int .i64 0]
def WeekRow.mk1 (k : Int) : WeekRow := ⟨k, k + 1, k + 1 + 1, k + 1 + 1 + 1, k + 1 + 1 + 1 + 1⟩
def WeekRow.marks (k : Int) (n : Nat) : List WeekRow := (List.range n).map fun i : Nat => WeekRow.mk1 (k + 5 * (i : Int))
@[simp] theorem WeekRow.marks_len (k : Int) (n : Nat) : (WeekRow.marks k n).length = n := by simp [WeekRow.marks]
theorem WeekRow.marks_succ (k : Int) (n : Nat) : WeekRow.marks k (n + 1) = WeekRow.marks k n ++ [WeekRow.mk1 (k + 5 * (n : Int))] := by simp [WeekRow.marks, List.range_succ]
theorem WeekRow.marks_get (k : Int) (n : Nat) {i : Nat} (hi : i < (WeekRow.marks k n).length) : (WeekRow.marks k n)[i] = WeekRow.mk1 (k + 5 * (i : Int)) := by simp [WeekRow.marks]
theorem toWeekRow_ok (r : WeekRow) : Ctr Try.prog 46 [r.v] [] r.v [] := by
 refine Ctr.intro Try.mixed Try.func46 rfl Try.okF46 ?_
 simp -implicitDefEqProofs -dsimp only [go_sem, Try.ntmps46, Try.results46]
 simp -implicitDefEqProofs -dsimp only [go_sem, WeekRow.v]
 exact WeakR.drop' rfl rfl
theorem toWeekRowS_ok (L : List WeekRow) (hl : L.length ≤ 1048576) : Ctr Try.prog 20 [WeekRow.sl L] [] (.osl 0 0 L.length 5) [some (rows WeekRow.cs L)] := by
 refine Ctr.intro Try.mixed Try.func20 rfl Try.okF20 ?_
 simp -implicitDefEqProofs -dsimp only [go_sem, Try.ntmps20, Try.results20]
 refine ⟨by omega, by omega, by omega, ?_⟩
 refine LoopT.intro (fun i : Nat => i ≤ L.length) (fun i => ⟨[WeekRow.sl L, .undef, .undef, .osl 0 0 L.length 5, .int .i64 i, .undef, .undef, .undef, .undef, .undef, .undef, .undef, .undef, .undef, .undef, .undef, .undef, .undef, .undef, .undef, .undef, .undef, .undef], [some (filled WeekRow.cs 5 WeekRow.zs L i)], 0⟩) (fun i => L.length - i) 0 (Nat.zero_le _) ?_ (fun i hi => ?_)
 · refine Weak.cut (1) (by simp) (by simp) ?_ ?_
   · simp [LeC, LeV, ren, cutF]
   · rw [filled_zero]
     simp only [cutH, List.take, List.map]
     rw [cutB_rows (zrow_all rfl (by decide) _)]
 simp -implicitDefEqProofs -dsimp only [go_sem]
 refine condT.split (fun h1 => ?_) (fun h1 => ?_)
 · simp -implicitDefEqProofs -dsimp only [go_sem, h1]
   have hi' : i < L.length := by simpa using h1
   rw [rows_at WeekRow.csl hi']
   refine ⟨by omega, by simp [WeekRow.csl], ?_⟩
   (first | refine callT.at (toWeekRow_ok L[i]) ⟨.inl rfl, trivial⟩ ?_ | refine callS.at (toWeekRow_ok L[i]) ⟨.inl rfl, trivial⟩ ?_)
   simp -implicitDefEqProofs -dsimp only [go_sem, WeekRow.v]
   refine ⟨⟨by omega, by omega⟩, by rw [filled_len WeekRow.csl hi]; omega, i + 1, hi', ?_, by omega⟩
   refine Weak.cut (1) (by simp) (by simp) ?_ ?_
   · rw [wrap_i64 (by omega) (by omega)]
     simp [LeC, LeV, ren, cutF]
   · have := filled_step (zs := WeekRow.zs) WeekRow.csl rfl hi'
     simp only [WeekRow.cs] at this ⊢
     rw [this]
     simp only [cutH, List.take, List.map]
     rw [cutB_rows (filled_plain (by decide) rfl (fun a => by exact WeekRow.csp a))]
 · simp -implicitDefEqProofs -dsimp only [go_sem, h1]
   have hi' : i = L.length := by simp at h1; omega
   subst hi'
   rw [filled_all WeekRow.csl (Nat.le_refl _)]
   exact WeakR.refl _ _ _
theorem szWeekRowS_ok (L : List WeekRow) (n : Int) (hl : L.length ≤ 9223372036854775807) (hn : 0 ≤ n) (hn2 : n ≤ 1048576) : Ctr Try.prog 18 [WeekRow.sl L, .int .i64 n] [] (.int .i64 (if n < L.length then -1 else n - L.length)) [] := by
 refine Ctr.intro Try.mixed Try.func18 rfl Try.okF18 ?_
 simp -implicitDefEqProofs -dsimp only [go_sem, Try.ntmps18, Try.results18]
 rw [wrap_i64 (by omega) (by omega)]
 refine condT.split (fun h1 => ?_) (fun h1 => ?_) <;> simp -implicitDefEqProofs -dsimp only [go_sem, h1]
 · exact WeakR.of_eq (by simp at h1; rw [if_pos (by omega)])
 · exact WeakR.of_eq (by simp at h1; rw [if_neg (by omega)])
theorem eqWeekRow_ok (r : WeekRow) : Ctr Try.prog 55 [r.v, r.v] [] (.bool true) [] := by
 refine Ctr.intro Try.mixed Try.func55 rfl Try.okF55 ?_
 simp -implicitDefEqProofs -dsimp only [go_sem, Try.ntmps55, Try.results55]
 simp -implicitDefEqProofs -dsimp only [go_sem, WeekRow.v, bne_self_eq_false, beq_self_eq_true, Bool.not_true]
 exact WeakR.drop' rfl rfl
theorem eqWeekRowS_ok (L : List WeekRow) (hl : L.length ≤ 281474976710656) : Ctr Try.prog 22 [WeekRow.sl L, WeekRow.sl L] [] (.bool true) [] := by
 refine Ctr.intro Try.mixed Try.func22 rfl Try.okF22 ?_
 simp -implicitDefEqProofs -dsimp only [go_sem, Try.ntmps22, Try.results22]
 refine LoopT.intro (fun i : Nat => i ≤ L.length) (fun i => ⟨[WeekRow.sl L, WeekRow.sl L, .undef, .undef, .undef, .int .i64 i, .undef, .undef, .undef, .undef, .undef, .undef, .undef, .undef, .undef, .undef, .undef, .undef, .undef, .undef, .undef, .undef, .undef, .undef, .undef, .undef, .undef], [], 0⟩) (fun i => L.length - i) 0 (Nat.zero_le _) ?_ (fun i hi => ?_)
 · refine Weak.cut (0) (by simp) (by simp) ?_ ?_
   · simp [LeC, LeV, ren, cutF]
   · rfl
 simp -implicitDefEqProofs -dsimp only [go_sem]
 refine condT.split (fun h1 => ?_) (fun h1 => ?_)
 · simp -implicitDefEqProofs -dsimp only [go_sem, h1]
   have hi' : i < L.length := by simpa using h1
   rw [rows_at WeekRow.csl hi']
   have h5 := WeekRow.csl L[i]
   refine ⟨by kernel_rfl, ⟨by omega, by omega⟩, by omega, ⟨by omega, by omega⟩, by omega, ?_⟩
   (first | refine callT.at (eqWeekRow_ok L[i]) ⟨.inl rfl, .inl rfl, trivial⟩ ?_ | refine callS.at (eqWeekRow_ok L[i]) ⟨.inl rfl, .inl rfl, trivial⟩ ?_)
   simp -implicitDefEqProofs -dsimp only [go_sem]
   refine ⟨i + 1, hi', ?_, by omega⟩
   refine Weak.cut (0) (by simp) (by simp) ?_ ?_
   · rw [wrap_i64 (by omega) (by omega)]
     simp [LeC, LeV, ren, cutF]
   · rfl
 · simp -implicitDefEqProofs -dsimp only [go_sem, h1]
   exact WeakR.refl _ _ _
theorem markWeekRowS_ok (L : List WeekRow) (kk : Int) (hl : L.length ≤ 281474976710656) (hk : 0 ≤ kk) (hk2 : kk ≤ 281474976710656) : Ctr Try.prog 23 [.osl 0 0 L.length 5, .int .i64 kk] [some (rows WeekRow.cs L)] (.int .i64 (kk + 5 * L.length)) [some (rows WeekRow.cs (WeekRow.marks kk L.length))] := by
 refine Ctr.intro Try.mixed Try.func23 rfl Try.okF23 ?_
 simp -implicitDefEqProofs -dsimp only [go_sem, Try.ntmps23, Try.results23]
 refine LoopT.intro (fun i : Nat => i ≤ L.length) (fun i => ⟨[.osl 0 0 L.length 5, .int .i64 (kk + 5 * (i : Int)), .undef, .undef, .undef, .int .i64 i, .undef, .undef, .undef, .undef, .undef, .undef, .undef, .undef, .undef, .undef, .undef, .undef, .undef, .undef, .undef, .undef, .undef, .undef, .undef, .undef, .undef, .undef, .undef, .undef, .undef, .undef, .undef, .undef, .undef, .undef, .undef, .undef, .undef, .undef, .undef, .undef, .undef, .undef, .undef, .undef, .undef, .undef], [some (rows WeekRow.cs (WeekRow.marks kk i ++ L.drop i))], 1⟩) (fun i => L.length - i) 0 (Nat.zero_le _) ?_ (fun i hi => ?_)
 · refine Weak.cut (1) (by simp) (by simp) ?_ ?_
   · simp [LeC, LeV, ren, cutF]
   · simp only [cutH, List.take, List.map]
     rw [cutB_rows (rows_all WeekRow.csp _)]
     simp [WeekRow.marks]
 simp -implicitDefEqProofs -dsimp only [go_sem]
 refine condT.split (fun h1 => ?_) (fun h1 => ?_)
 · simp -implicitDefEqProofs -dsimp only [go_sem, h1]
   have hi' : i < L.length := by simpa using h1
   have hA : (rows WeekRow.cs (WeekRow.marks kk i)).length = i * 5 := by rw [rows_len WeekRow.csl, WeekRow.marks_len]
   have hB : rows WeekRow.cs (WeekRow.marks kk i ++ L.drop i) = rows WeekRow.cs (WeekRow.marks kk i) ++ (WeekRow.cs L[i] ++ rows WeekRow.cs (L.drop (i + 1))) := by
     rw [rowsOf_append, List.drop_eq_getElem_cons hi', rows_cons]
   rw [hB]
   have hsp : ∀ (M ns : List V) (j : Nat), splice (rows WeekRow.cs (WeekRow.marks kk i) ++ M) (i * 5 + j) ns = rows WeekRow.cs (WeekRow.marks kk i) ++ splice M j ns := fun M ns j => splice_mid hA
   have hsp0 : ∀ (M ns : List V), splice (rows WeekRow.cs (WeekRow.marks kk i) ++ M) (i * 5) ns = rows WeekRow.cs (WeekRow.marks kk i) ++ splice M 0 ns := fun M ns => splice_mid0 hA
   (repeat1' (first | simp -implicitDefEqProofs -dsimp only [go_sem, hsp, hsp0, List.length_append, hA, WeekRow.cs] | simp -dsimp (disch := omega) only [wrap_i64]))
   repeat (with_reducible refine sideA ?_)
   refine ⟨i + 1, hi', ?_, by omega⟩
   refine Weak.cut (1) (by simp) (by simp) ?_ ?_
   · simp [LeC, LeV, ren, cutF]
     omega
   · have e : rows WeekRow.cs (WeekRow.marks kk (i + 1) ++ L.drop (i + 1)) = rows WeekRow.cs (WeekRow.marks kk i) ++ (WeekRow.cs (WeekRow.mk1 (kk + 5 * (i : Int))) ++ rows WeekRow.cs (L.drop (i + 1))) := by
       rw [WeekRow.marks_succ, List.append_assoc, rowsOf_append, rowsOf_append, rows_one]
     rw [e]
     simp only [cutH, List.take, List.map]
     rw [cutB_rows (by rw [List.all_append, rows_all WeekRow.csp]; simp only [List.all_cons, noOwn, rows_all WeekRow.csp, Bool.and_self])]
     simp [WeekRow.cs, WeekRow.mk1, Int.add_assoc]
 · simp -implicitDefEqProofs -dsimp only [go_sem, h1]
   have hi' : i = L.length := by simp at h1; omega
   subst hi'
   rw [List.drop_length, List.append_nil]
   exact WeakR.of_eq (by simp)
theorem markWeekRowS_nil (kk : Int) : Ctr Try.prog 23 [.sl 0 5 [], .int .i64 kk] [] (.int .i64 kk) [] := by
 refine Ctr.intro Try.mixed Try.func23 rfl Try.okF23 ?_
 simp -implicitDefEqProofs -dsimp only [go_sem, Try.ntmps23, Try.results23]
 refine LoopT.intro (fun i : Nat => i = 0) (fun i => ⟨[.sl 0 5 [], .int .i64 kk, .undef, .undef, .undef, .int .i64 0, .undef, .undef, .undef, .undef, .undef, .undef, .undef, .undef, .undef, .undef, .undef, .undef, .undef, .undef, .undef, .undef, .undef, .undef, .undef, .undef, .undef, .undef, .undef, .undef, .undef, .undef, .undef, .undef, .undef, .undef, .undef, .undef, .undef, .undef, .undef, .undef, .undef, .undef, .undef, .undef, .undef, .undef], [], 0⟩) (fun i => 0) 0 rfl ?_ (fun i hi => ?_)
 · refine Weak.cut (0) (by simp) (by simp) ?_ ?_
   · simp [LeC, LeV, ren, cutF]
   · rfl
 simp -implicitDefEqProofs -dsimp only [go_sem, Int.natCast_zero, Int.lt_irrefl, decide_false]
 exact WeakR.refl _ _ _
theorem heldWeekRowS_ok (n : Nat) (kk : Int) (hl : n ≤ 281474976710656) (hk : 0 ≤ kk) (hk2 : kk ≤ 281474976710656) : Ctr Try.prog 24 [WeekRow.sl (WeekRow.marks kk n), .int .i64 kk] [] (.int .i64 (kk + 5 * n)) [] := by
 refine Ctr.intro Try.mixed Try.func24 rfl Try.okF24 ?_
 simp -implicitDefEqProofs -dsimp only [go_sem, Try.ntmps24, Try.results24]
 refine LoopT.intro (fun i : Nat => i ≤ n) (fun i => ⟨[WeekRow.sl (WeekRow.marks kk n), .int .i64 (kk + 5 * (i : Int)), .undef, .undef, .undef, .int .i64 i, .undef, .undef, .undef, .undef, .undef, .undef, .undef, .undef, .undef, .undef, .undef, .undef, .undef, .undef, .undef, .undef, .undef, .undef, .undef, .undef, .undef, .undef, .undef, .undef, .undef, .undef, .undef, .undef, .undef, .undef, .undef, .undef, .undef, .undef, .undef, .undef, .undef, .undef, .undef, .undef, .undef, .undef, .undef, .undef, .undef, .undef, .undef, .undef, .undef, .undef, .undef, .undef], [], 0⟩) (fun i => n - i) 0 (Nat.zero_le _) ?_ (fun i hi => ?_)
 · refine Weak.cut (0) (by simp) (by simp) ?_ ?_
   · simp [LeC, LeV, ren, cutF]
   · rfl
 simp -implicitDefEqProofs -dsimp only [go_sem]
 refine condT.split (fun h1 => ?_) (fun h1 => ?_)
 · simp -implicitDefEqProofs -dsimp only [go_sem, h1]
   have hi' : i < n := by simpa using h1
   have hr := rows_at WeekRow.csl (L := WeekRow.marks kk n) (i := i) (by rw [WeekRow.marks_len]; exact hi')
   rw [WeekRow.marks_get] at hr
   (repeat1' (first | simp -implicitDefEqProofs -dsimp only [go_sem, hr, WeekRow.marks_len, WeekRow.cs, WeekRow.mk1, bne_self_eq_false, beq_self_eq_true] | simp -dsimp (disch := omega) only [wrap_i64]))
   repeat (with_reducible refine sideA ?_)
   refine ⟨i + 1, hi', ?_, by omega⟩
   refine Weak.cut (0) (by simp) (by simp) ?_ ?_
   · simp [LeC, LeV, ren, cutF]
     omega
   · rfl
 · simp -implicitDefEqProofs -dsimp only [go_sem, h1]
   have hi' : i = n := by simp at h1; omega
   subst hi'
   exact WeakR.of_eq (by simp)
theorem areListedWeekRow_ok (L : List WeekRow) (p : WeekRow → Bool) (key : WeekRow → Int) (most : Int) (fv fk : Nat) (vc kc : List V) (hvc : ∀ d, vc.all (noOwn d) = true) (hkc : ∀ d, kc.all (noOwn d) = true) (hv : ∀ x, Ctr Try.prog fv (WeekRow.v x :: vc) [] (.bool (p x)) []) (hkey : ∀ x, Ctr Try.prog fk (WeekRow.v x :: kc) [] (.int .i64 (key x)) []) (m : Nat) (hm : most = m) (hl : L.length ≤ 281474976710656) :
   Ctr Try.prog 76 [WeekRow.sl L, .int .i64 most, .fn (.func fv) [] vc, .fn (.func fk) [] kc] [] (.bool (listedB p key m L)) [] := by
 subst hm
 refine Ctr.intro Try.mixed Try.func76 rfl Try.okF76 ?_
 simp -implicitDefEqProofs -dsimp only [go_sem, Try.ntmps76, Try.results76]
 have hvc2 : ∀ f d, vc.map (ren f d) = vc := fun f d => map_ren f (hvc d)
 have hkc2 : ∀ f d, kc.map (ren f d) = kc := fun f d => map_ren f (hkc d)
 refine LoopT.intro (fun i : Nat => i ≤ L.length ∧ (List.range i).all (listedQ p key L) = true) (fun i => ⟨[WeekRow.sl L, .int .i64 m, .fn (.func fv) [] vc, .fn (.func fk) [] kc, .undef, .undef, .undef, .undef, .undef, .undef, .undef, WeekRow.sl L, .int .i64 L.length, .int .i64 i, .undef, .undef, .undef, .undef, .undef, .undef, .undef, .undef, .undef, .undef, .undef, .undef, .undef, .undef, .undef, .undef, .undef, .undef, .undef, .undef, .undef, .undef, .undef, .undef, .undef, .undef, .undef, .undef, .undef, .undef], [], 0⟩) (fun i => L.length - i) 0 ⟨Nat.zero_le _, rfl⟩ ?_ (fun i hi => ?_)
 · refine Weak.cut (0) (by simp) (by simp) ?_ ?_
   · simp [LeC, LeV, ren, cutF, hvc2, hkc2]
   · rfl
 simp -implicitDefEqProofs -dsimp only [go_sem]
 refine condT.split (fun h1 => ?_) (fun h1 => ?_)
 · simp -implicitDefEqProofs -dsimp only [go_sem, h1]
   have hi' : i < L.length := by simpa using h1
   have h5 := WeekRow.csl L[i]
   have hr := rows_at WeekRow.csl hi'
   (repeat1' (first | simp -implicitDefEqProofs -dsimp only [go_sem, hr, WeekRow.cs] | simp -dsimp (disch := omega) only [wrap_i64]))
   repeat (with_reducible refine sideA ?_)
   refine callT.intro (hv L[i]) ⟨.inl rfl, LeL_same (hvc2 _ _)⟩ (.inl (by simp only [List.nil_append, List.cons_append, List.all_cons, hvc, Bool.and_true]; rfl)) ⟨refOk_fn (hvc 3), rfl⟩ ?_
   simp -implicitDefEqProofs -dsimp only [go_sem]
   refine guardT.splitF (fun h2 => ?_) (fun h2 => ?_) <;> simp -implicitDefEqProofs -dsimp only [go_sem, h2]
   · have hw : p L[i] = true := by simpa using h2
     refine guardT.splitT (fun h3 => ?_) (fun h3 => ?_) <;> simp -implicitDefEqProofs -dsimp only [go_sem, h3]
     · obtain ⟨j, rfl⟩ : ∃ j, i = j + 1 := ⟨i - 1, by simp at h3; omega⟩
       have hj : j < L.length := by omega
       refine callT.intro (hkey L[j + 1]) ⟨.inl rfl, LeL_same (hkc2 _ _)⟩ (.inl (by simp only [List.nil_append, List.cons_append, List.all_cons, hkc, Bool.and_true]; rfl)) ⟨refOk_fn (hkc 3), rfl⟩ ?_
       have hw1 : IntKind.i64.wrap (((j + 1 : Nat) : Int) - 1) = (j : Int) := by rw [wrap_i64 (by omega) (by omega)]; omega
       have hr2 := rows_at WeekRow.csl hj
       (repeat1' (first | simp -implicitDefEqProofs -dsimp only [go_sem, hw1, hr2, WeekRow.cs] | simp -dsimp (disch := omega) only [wrap_i64]))
       repeat (with_reducible refine sideA ?_)
       refine callT.intro (hkey L[j]) ⟨.inl rfl, LeL_same (hkc2 _ _)⟩ (.inl (by simp only [List.nil_append, List.cons_append, List.all_cons, hkc, Bool.and_true]; rfl)) ⟨refOk_fn (hkc 3), rfl⟩ ?_
       (repeat1' (first | simp -implicitDefEqProofs -dsimp only [go_sem] | simp -dsimp (disch := omega) only [wrap_i64]))
       refine condT.split (fun h4 => ?_) (fun h4 => ?_) <;> simp -implicitDefEqProofs -dsimp only [go_sem, h4]
       · refine WeakR.drop' ?_ rfl
         have hq : listedQ p key L (j + 1) = false := by
           rw [listedQ_succ hi', hw]
           simp at h4 ⊢
           omega
         rw [listedB_false hi' hq]
       · refine ⟨j + 1 + 1, ⟨hi', range_all_succ hi.2 (by rw [listedQ_succ hi', hw]; simp at h4 ⊢; omega)⟩, ?_, by omega⟩
         refine Weak.cut (0) (by simp) (by simp) ?_ ?_
         · rw [wrap_i64 (by omega) (by omega)]
           simp [LeC, LeV, ren, cutF, hvc2, hkc2]
         · rfl
     · have h0 : i = 0 := by simp at h3; omega
       refine ⟨i + 1, ⟨hi', range_all_succ hi.2 (by subst h0; rw [listedQ_zero hi', hw])⟩, ?_, by omega⟩
       refine Weak.cut (0) (by simp) (by simp) ?_ ?_
       · rw [wrap_i64 (by omega) (by omega)]
         simp [LeC, LeV, ren, cutF, hvc2, hkc2]
       · rfl
   · have hw : p L[i] = false := by simpa using h2
     refine WeakR.drop' ?_ rfl
     have hq : listedQ p key L i = false := by simp [listedQ, hi', hw]
     rw [listedB_false hi' hq]
 · simp -implicitDefEqProofs -dsimp only [go_sem, h1]
   refine WeakR.drop' ?_ rfl
   have : i = L.length := by simp at h1; omega
   subst this
   rw [listedB, hi.2]
   simp
   try omega
end Go.Proofs
end
section
set_option maxRecDepth 100000
namespace Go.Proofs
open Go.Lv
def wrB (r : WeekRow) : Bool := inB' r.Week 1 5000 && inB' r.Events 0 9999 && inB' r.Felt 0 r.Events && inB' r.Picks 0 99999 && inB' r.Lost 0 9999
theorem l26One_ok (r : WeekRow) : Ctr Try.prog 75 [r.v] [] (.bool (wrB r)) [] := by
 refine Ctr.intro Try.mixed Try.func75 rfl Try.okF75 ?_
 simp -implicitDefEqProofs -dsimp only [go_sem, Try.ntmps75, Try.results75]
 simp -implicitDefEqProofs -dsimp only [go_sem, WeekRow.v]
 repeat' (first | (refine WeakR.drop' ?_ rfl; (simp [wrB, *]; done)) | ((first | refine callT.at (l1In_ok _ _ _) ⟨.inl rfl, .inl rfl, .inl rfl, trivial⟩ ?_ | refine callS.at (l1In_ok _ _ _) ⟨.inl rfl, .inl rfl, .inl rfl, trivial⟩ ?_); simp -implicitDefEqProofs -dsimp only [go_sem, *]) | (refine guardT.splitT (fun _ => ?_) (fun _ => ?_) <;> simp -implicitDefEqProofs -dsimp only [go_sem, *]))
theorem iIsWeekRow_ok (r : WeekRow) : Ctr Try.prog 77 [r.v] [] (.bool (wrB r)) [] := by
 refine Ctr.intro Try.mixed Try.func77 rfl Try.okF77 ?_
 simp -implicitDefEqProofs -dsimp only [go_sem, Try.ntmps77, Try.results77]
 simp -implicitDefEqProofs -dsimp only [go_sem, WeekRow.v]
 repeat' (first | (refine WeakR.drop' ?_ rfl; (simp [wrB, *]; done)) | ((first | refine callT.at (in_ok _ _ _) ⟨.inl rfl, .inl rfl, .inl rfl, trivial⟩ ?_ | refine callS.at (in_ok _ _ _) ⟨.inl rfl, .inl rfl, .inl rfl, trivial⟩ ?_); simp -implicitDefEqProofs -dsimp only [go_sem, *]) | (refine guardT.splitT (fun _ => ?_) (fun _ => ?_) <;> simp -implicitDefEqProofs -dsimp only [go_sem, *]))
def wrsB (L : List WeekRow) : Bool := listedB wrB WeekRow.Week 12 L
theorem l26Good_ok (L : List WeekRow) (hl : L.length ≤ 281474976710656) : Ctr Try.prog 45 [WeekRow.sl L] [] (.bool (wrsB L)) [] := by
 refine Ctr.intro Try.mixed Try.func45 rfl Try.okF45 ?_
 simp -implicitDefEqProofs -dsimp only [go_sem, Try.ntmps45, Try.results45]
 refine LoopT.intro (fun i : Nat => i ≤ L.length ∧ (List.range i).all (listedQ wrB WeekRow.Week L) = true) (fun i => ⟨[WeekRow.sl L, .undef, .undef, .int .i64 i, .undef, .undef, .undef, .undef, .undef, .undef, .undef, .undef, .undef, .undef, .undef, .undef, .undef, .undef, .undef, .undef, .undef, .undef, .undef, .undef, .undef, .undef, .undef, .undef, .undef, .undef, .undef, .undef, .undef, .undef, .undef, .undef, .undef], [], 0⟩) (fun i => L.length - i) 0 ⟨Nat.zero_le _, rfl⟩ ?_ (fun i hi => ?_)
 · refine Weak.cut (0) (by simp) (by simp) ?_ ?_
   · simp [LeC, LeV, ren, cutF]
   · rfl
 simp -implicitDefEqProofs -dsimp only [go_sem]
 refine condT.split (fun h1 => ?_) (fun h1 => ?_)
 · simp -implicitDefEqProofs -dsimp only [go_sem, h1]
   have hi' : i < L.length := by simpa using h1
   have h5 := WeekRow.csl L[i]
   have hr := rows_at WeekRow.csl hi'
   simp -implicitDefEqProofs -dsimp only [go_sem, hr]
   repeat (with_reducible refine sideA ?_)
   (first | refine callT.at (l26One_ok L[i]) ⟨.inl rfl, trivial⟩ ?_ | refine callS.at (l26One_ok L[i]) ⟨.inl rfl, trivial⟩ ?_)
   simp -implicitDefEqProofs -dsimp only [go_sem]
   refine guardT.splitF (fun h2 => ?_) (fun h2 => ?_) <;> simp -implicitDefEqProofs -dsimp only [go_sem, h2]
   · have hw : wrB L[i] = true := by simpa using h2
     refine guardT.splitT (fun h3 => ?_) (fun h3 => ?_) <;> simp -implicitDefEqProofs -dsimp only [go_sem, h3]
     · obtain ⟨j, rfl⟩ : ∃ j, i = j + 1 := ⟨i - 1, by simp at h3; omega⟩
       have hj : j < L.length := by omega
       have hw1 : IntKind.i64.wrap (((j + 1 : Nat) : Int) - 1) = (j : Int) := by rw [wrap_i64 (by omega) (by omega)]; omega
       have hr2 := rows_at WeekRow.csl hj
       simp -implicitDefEqProofs -dsimp only [go_sem, hw1, hr, hr2, WeekRow.cs]
       repeat (with_reducible refine sideA ?_)
       refine condT.split (fun h4 => ?_) (fun h4 => ?_) <;> simp -implicitDefEqProofs -dsimp only [go_sem, h4]
       · refine WeakR.drop' ?_ rfl
         have hq : listedQ wrB WeekRow.Week L (j + 1) = false := by
           rw [listedQ_succ hi', hw]
           simp at h4 ⊢
           omega
         rw [wrsB, listedB_false hi' hq]
       · refine ⟨j + 1 + 1, ⟨hi', range_all_succ hi.2 (by rw [listedQ_succ hi', hw]; simp at h4 ⊢; omega)⟩, ?_, by omega⟩
         refine Weak.cut (0) (by simp) (by simp) ?_ ?_
         · rw [wrap_i64 (by omega) (by omega)]
           simp [LeC, LeV, ren, cutF]
         · rfl
     · have h0 : i = 0 := by simp at h3; omega
       refine ⟨i + 1, ⟨hi', range_all_succ hi.2 (by subst h0; rw [listedQ_zero hi', hw])⟩, ?_, by omega⟩
       refine Weak.cut (0) (by simp) (by simp) ?_ ?_
       · rw [wrap_i64 (by omega) (by omega)]
         simp [LeC, LeV, ren, cutF]
       · rfl
   · have hw : wrB L[i] = false := by simpa using h2
     refine WeakR.drop' ?_ rfl
     have hq : listedQ wrB WeekRow.Week L i = false := by simp [listedQ, hi', hw]
     rw [wrsB, listedB_false hi' hq]
 · simp -implicitDefEqProofs -dsimp only [go_sem, h1]
   refine WeakR.drop' ?_ rfl
   have : i = L.length := by simp at h1; omega
   subst this
   rw [wrsB, listedB, hi.2]
   simp
   try omega
theorem weekOf_ok (r : WeekRow) : Ctr Try.prog 78 [r.v] [] (.int .i64 r.Week) [] := by
 refine Ctr.intro Try.mixed Try.func78 rfl Try.okF78 ?_
 simp -implicitDefEqProofs -dsimp only [go_sem, Try.ntmps78, Try.results78]
 simp -implicitDefEqProofs -dsimp only [go_sem, WeekRow.v]
 exact WeakR.drop' rfl rfl
theorem iAreWeekRows_ok (L : List WeekRow) (hl : L.length ≤ 281474976710656) : Ctr Try.prog 47 [WeekRow.sl L] [] (.bool (wrsB L)) [] := by
 refine Ctr.intro Try.mixed Try.func47 rfl Try.okF47 ?_
 simp -implicitDefEqProofs -dsimp only [go_sem, Try.ntmps47, Try.results47]
 refine callS.intro (areListedWeekRow_ok L wrB WeekRow.Week 12 _ _ [] [] (fun _ => rfl) (fun _ => rfl) iIsWeekRow_ok weekOf_ok 12 rfl hl) ⟨.inl rfl, .inl rfl, .inl rfl, .inl rfl, trivial⟩ (.inl rfl) ?_
 simp -implicitDefEqProofs -dsimp only [go_sem]
 exact WeakR.drop' rfl rfl
theorem wrB_iff {r : WeekRow} : wrB r = true ↔ (1 ≤ r.Week ∧ r.Week ≤ 5000) ∧ (0 ≤ r.Events ∧ r.Events ≤ 9999) ∧ (0 ≤ r.Felt ∧ r.Felt ≤ r.Events) ∧ (0 ≤ r.Picks ∧ r.Picks ≤ 99999) ∧ 0 ≤ r.Lost ∧ r.Lost ≤ 9999 := by
 simp [wrB, inB', and_assoc]
def tot (L : List WeekRow) : WeekRow := ⟨0, wsum WeekRow.Events L, wsum WeekRow.Felt L, wsum WeekRow.Picks L, wsum WeekRow.Lost L⟩
theorem totals_ok (L : List WeekRow) (hl : L.length ≤ 281474976710656) : Ctr Try.prog 51 [WeekRow.sl L] [] (tot L).v [] := by
 refine Ctr.intro Try.mixed Try.func51 rfl Try.okF51 ?_
 simp -implicitDefEqProofs -dsimp only [go_sem, Try.ntmps51, Try.results51]
 refine LoopT.intro (fun i : Nat => i ≤ L.length) (fun i => ⟨[.undef, .undef, .ptr 0 0, .ptr 1 0, .undef, .undef, .undef, WeekRow.sl L, .int .i64 L.length, .int .i64 i, .undef, .undef, .undef, .undef, .undef, .undef, .undef, .undef, .undef, .undef, .undef, .undef, .undef, .undef, .undef, .undef, .undef, .undef, .undef, .undef, .undef, .undef, .undef, .undef, .undef, .undef, .undef, .undef, .undef], [some WeekRow.zs, some (tot (L.take i)).cs], 0⟩) (fun i => L.length - i) 0 (Nat.zero_le _) ?_ (fun i hi => ?_)
 · refine Weak.cut (2) (by simp) (by simp) ?_ ?_
   · simp [LeC, LeV, ren, cutF]
   · rfl
 simp -implicitDefEqProofs -dsimp only [go_sem]
 refine condT.split (fun h1 => ?_) (fun h1 => ?_)
 · simp -implicitDefEqProofs -dsimp only [go_sem, h1]
   have hi' : i < L.length := by simpa using h1
   have h5 := WeekRow.csl L[i]
   have hr := rows_at WeekRow.csl hi'
   simp -implicitDefEqProofs -dsimp only [go_sem, hr, WeekRow.cs, tot]
   repeat (with_reducible refine sideA ?_)
   refine ⟨i + 1, hi', ?_, by omega⟩
   refine Weak.cut (2) (by simp) (by simp) ?_ ?_
   · rw [wrap_i64 (by omega) (by omega)]
     simp [LeC, LeV, ren, cutF]
   · simp [cutH, cutB, ren, wsum_succ _ hi']
 · simp -implicitDefEqProofs -dsimp only [go_sem, h1, WeekRow.cs, tot]
   have : i = L.length := by simp at h1; omega
   subst this
   exact WeakR.drop' (by simp [WeekRow.v, tot]) rfl
end Go.Proofs
end
section
set_option maxRecDepth 100000
namespace Go.Proofs
open Go.Lv
theorem wrsB_all {L : List WeekRow} (h : wrsB L = true) : (∀ x ∈ L, wrB x = true) ∧ L.length ≤ 12 := listedB_all h
end Go.Proofs
end
section
set_option maxRecDepth 100000
set_option maxHeartbeats 1000000
namespace Go.Proofs
open Go.Lv
def addR (x r : WeekRow) : WeekRow := ⟨r.Week, x.Events + r.Events, x.Felt + r.Felt, x.Picks + r.Picks, x.Lost + r.Lost⟩
def putW : List WeekRow → WeekRow → List WeekRow
 | [], r => [r]
 | x :: S, r => if x.Week < r.Week then x :: putW S r else if x.Week = r.Week then addR x r :: S else r :: x :: S
def Asc (S : List WeekRow) : Prop := S.Pairwise fun x y => x.Week < y.Week
theorem putW_mem {S : List WeekRow} {r y : WeekRow} (h : y ∈ putW S r) : y.Week = r.Week ∨ y ∈ S := by
 induction S with
 | nil => simp [putW] at h; simp [h]
 | cons x S ih =>
   rw [putW] at h
   split at h
   · rcases List.mem_cons.1 h with h | h
     · simp [h]
     · rcases ih h with h | h
       · exact .inl h
       · exact .inr (List.mem_cons_of_mem _ h)
   · split at h
     · rcases List.mem_cons.1 h with h | h
       · exact .inl (by rw [h]; rfl)
       · exact .inr (List.mem_cons_of_mem _ h)
     · rcases List.mem_cons.1 h with h | h
       · exact .inl (by rw [h])
       · exact .inr h
theorem putW_asc {S : List WeekRow} {r : WeekRow} (h : Asc S) : Asc (putW S r) := by
 induction S with
 | nil => exact List.pairwise_singleton _ _
 | cons x S ih =>
   obtain ⟨h1, h2⟩ := List.pairwise_cons.1 h
   rw [putW]
   split
   · rename_i hx
     refine List.pairwise_cons.2 ⟨fun y hy => ?_, ih h2⟩
     rcases putW_mem hy with e | e
     · rw [e]; exact hx
     · exact h1 y e
   · rename_i hx
     split
     · rename_i hq
       refine List.pairwise_cons.2 ⟨fun y hy => ?_, h2⟩
       have := h1 y hy
       show r.Week < y.Week
       omega
     · rename_i hq
       refine List.pairwise_cons.2 ⟨fun y hy => ?_, h⟩
       rcases List.mem_cons.1 hy with e | e
       · rw [e]; omega
       · have := h1 y e; omega
theorem putW_new {S : List WeekRow} {r : WeekRow} (h : ∀ x ∈ S, x.Week ≠ r.Week) : (putW S r).Perm (r :: S) := by
 induction S with
 | nil => exact List.Perm.refl _
 | cons x S ih =>
   rw [putW]
   split
   · exact ((ih fun y hy => h y (List.mem_cons_of_mem _ hy)).cons x).trans (List.Perm.swap _ _ _)
   · rw [if_neg (h x (List.mem_cons_self ..))]
theorem putW_old {S : List WeekRow} {r x : WeekRow} (h : Asc S) (hx : x ∈ S) (hw : x.Week = r.Week) : ∃ T, S.Perm (x :: T) ∧ (putW S r).Perm (addR x r :: T) := by
 induction S with
 | nil => simp at hx
 | cons y S ih =>
   obtain ⟨h1, h2⟩ := List.pairwise_cons.1 h
   rw [putW]
   rcases List.mem_cons.1 hx with e | e
   · subst e
     rw [if_neg (by omega), if_pos hw]
     exact ⟨S, List.Perm.refl _, List.Perm.refl _⟩
   · have := h1 x e
     rw [if_pos (by omega)]
     obtain ⟨T, p1, p2⟩ := ih h2 e
     exact ⟨y :: T, (p1.cons y).trans (List.Perm.swap _ _ _), (p2.cons y).trans (List.Perm.swap _ _ _)⟩
theorem putW_len (S : List WeekRow) (r : WeekRow) : (putW S r).length ≤ S.length + 1 := by
 induction S with
 | nil => simp [putW]
 | cons x S ih =>
   rw [putW]
   split
   · simp only [List.length_cons]; omega
   · split <;> simp only [List.length_cons] <;> omega
theorem putW_at {S : List WeekRow} {r : WeekRow} : ∀ {k : Nat}, k ≤ S.length → (∀ j (hj : j < S.length), j < k → S[j].Week < r.Week) → (∀ hk : k < S.length, r.Week ≤ S[k].Week) → putW S r = S.take k ++ (match S.drop k with
   | [] => [r]
   | x :: R => if x.Week = r.Week then addR x r :: R else r :: x :: R) := by
 induction S with
 | nil => intro k hk _ _; simp at hk; subst hk; rfl
 | cons x S ih =>
   intro k hk h1 h2
   cases k with
   | zero =>
     have := h2 (by simp)
     simp only [List.getElem_cons_zero] at this
     rw [putW, if_neg (by omega)]
     simp
   | succ k =>
     have := h1 0 (by simp) (by omega)
     simp only [List.getElem_cons_zero] at this
     rw [putW, if_pos this, ih (k := k) (by simpa using hk) (fun j hj hjk => h1 (j + 1) (by simpa using hj) (by omega)) (fun hk => h2 (by simpa using hk))]
     simp
def joinS (a b : List WeekRow) : List WeekRow := b.foldl putW a
theorem joinS_take {a b : List WeekRow} {i : Nat} (hi : i < b.length) : joinS a (b.take (i + 1)) = putW (joinS a (b.take i)) b[i] := by
 rw [joinS, List.take_succ_eq_append_getElem hi, List.foldl_append]; rfl
theorem joinS_len (a b : List WeekRow) : (joinS a b).length ≤ a.length + b.length := by
 induction b generalizing a with
 | nil => simp [joinS]
 | cons r b ih =>
   have := ih (putW a r)
   have h2 := putW_len a r
   have e : joinS a (r :: b) = joinS (putW a r) b := rfl
   rw [e, List.length_cons]; omega
theorem joinS_asc {a : List WeekRow} (b : List WeekRow) (h : Asc a) : Asc (joinS a b) := by
 induction b generalizing a with
 | nil => exact h
 | cons r b ih => exact ih (putW_asc h)
def weekP (w : Int) (x : WeekRow) : Bool := x.Week == w
def outW (a O : List WeekRow) (r : WeekRow) : List WeekRow := match a.findIdx? (weekP r.Week) with
 | none => O ++ [r]
 | some k => match a[k]? with
   | none => O
   | some x => O.set k (addR x r)
def joinO (a b : List WeekRow) : List WeekRow := b.foldl (outW a) a
theorem joinO_take {a b : List WeekRow} {i : Nat} (hi : i < b.length) : joinO a (b.take (i + 1)) = outW a (joinO a (b.take i)) b[i] := by
 rw [joinO, List.take_succ_eq_append_getElem hi, List.foldl_append]; rfl
theorem outW_none {a O : List WeekRow} {r : WeekRow} (h : a.findIdx? (weekP r.Week) = none) : outW a O r = O ++ [r] := by rw [outW, h]
theorem outW_some {a O : List WeekRow} {r : WeekRow} {k : Nat} (h : a.findIdx? (weekP r.Week) = some k) (hk : k < a.length) : outW a O r = O.set k (addR a[k] r) := by
 rw [outW, h]; simp only [List.getElem?_eq_getElem hk]
structure JoinI (a S O : List WeekRow) (D : List WeekRow) : Prop where
 asc : Asc S
 perm : S.Perm O
 len : a.length ≤ O.length
 up : O.length ≤ a.length + D.length
 keep : ∀ k (hk : k < a.length), (∀ r ∈ D, r.Week ≠ a[k].Week) → O[k]? = some a[k]
 wk : ∀ k (hk : k < a.length), ∃ x, O[k]? = some x ∧ x.Week = a[k].Week
 new : ∀ k, a.length ≤ k → ∀ x, O[k]? = some x → ∃ r ∈ D, r.Week = x.Week
theorem joinI_step {a S O D : List WeekRow} {r : WeekRow} (I : JoinI a S O D) (hr : ∀ d ∈ D, d.Week ≠ r.Week) : JoinI a (putW S r) (outW a O r) (D ++ [r]) := by
 have hlen := I.len
 have hup := I.up
 cases h : a.findIdx? (weekP r.Week) with
 | none =>
   have hn : ∀ x ∈ a, x.Week ≠ r.Week := fun x hx => by
     have := (List.findIdx?_eq_none_iff.1 h) x hx
     simpa [weekP] using this
   have hO : ∀ x ∈ O, x.Week ≠ r.Week := by
     intro x hx
     obtain ⟨k, hk, rfl⟩ := List.getElem_of_mem hx
     rcases Nat.lt_or_ge k a.length with h1 | h1
     · obtain ⟨y, hy, hyw⟩ := I.wk k h1
       rw [List.getElem?_eq_getElem hk] at hy
       simp only [Option.some.injEq] at hy
       rw [hy, hyw]
       exact hn _ (List.getElem_mem h1)
     · obtain ⟨d, hd, hdw⟩ := I.new k h1 _ (List.getElem?_eq_getElem hk)
       rw [← hdw]
       exact hr d hd
   rw [outW_none h]
   refine ⟨putW_asc I.asc, ?_, by simp; omega, by simp; omega, fun k hk hd => ?_, fun k hk => ?_, fun k hk x hx => ?_⟩
   · refine (putW_new fun x hx => hO x (I.perm.mem_iff.1 hx)).trans ((I.perm.cons r).trans ?_)
     exact (List.perm_append_singleton r O).symm
   · rw [List.getElem?_append_left (by omega)]
     exact I.keep k hk fun d hd' => hd d (List.mem_append_left _ hd')
   · rw [List.getElem?_append_left (by omega)]
     exact I.wk k hk
   · rcases Nat.lt_or_ge k O.length with h1 | h1
     · rw [List.getElem?_append_left h1] at hx
       obtain ⟨d, hd, hdw⟩ := I.new k hk x hx
       exact ⟨d, List.mem_append_left _ hd, hdw⟩
     · rw [List.getElem?_append_right h1] at hx
       have := List.mem_of_getElem? hx
       simp only [List.mem_singleton] at this
       exact ⟨r, by simp, by rw [this]⟩
 | some k =>
   obtain ⟨hk, h1, h2⟩ := List.findIdx?_eq_some_iff_getElem.1 h
   have hkw : a[k].Week = r.Week := by simpa [weekP] using h1
   have hOk := I.keep k hk fun d hd => by rw [hkw]; exact hr d hd
   have hkO : k < O.length := by omega
   have hOk' : O[k] = a[k] := by rw [List.getElem?_eq_getElem hkO] at hOk; exact Option.some.inj hOk
   have hin : a[k] ∈ S := I.perm.mem_iff.2 (by rw [← hOk']; exact List.getElem_mem hkO)
   obtain ⟨T, p1, p2⟩ := putW_old I.asc hin hkw
   rw [outW_some h hk]
   have hcut : O = O.take k ++ a[k] :: O.drop (k + 1) := by rw [← hOk', List.getElem_cons_drop, List.take_append_drop]
   have hset : O.set k (addR a[k] r) = O.take k ++ addR a[k] r :: O.drop (k + 1) := by rw [List.set_eq_take_append_cons_drop, if_pos hkO]
   refine ⟨putW_asc I.asc, ?_, by simpa using hlen, by simp; omega, fun j hj hd => ?_, fun j hj => ?_, fun j hj x hx => ?_⟩
   · have q0 : O.Perm (a[k] :: (O.take k ++ O.drop (k + 1))) := by
       conv => lhs; rw [hcut]
       exact List.perm_middle
     have q := p1.symm.trans (I.perm.trans q0)
     rw [hset]
     exact p2.trans (((List.Perm.cons_inv q).cons _).trans List.perm_middle.symm)
   · have hjk : k ≠ j := by
       rintro rfl
       exact hd r (by simp) hkw.symm
     rw [List.getElem?_set_ne hjk]
     exact I.keep j hj fun d hd' => hd d (List.mem_append_left _ hd')
   · by_cases hjk : k = j
     · subst hjk
       exact ⟨addR a[k] r, by rw [List.getElem?_set_self hkO], by rw [hkw]; rfl⟩
     · rw [List.getElem?_set_ne hjk]
       exact I.wk j hj
   · rw [List.getElem?_set_ne (by omega)] at hx
     obtain ⟨d, hd, hdw⟩ := I.new j hj x hx
     exact ⟨d, List.mem_append_left _ hd, hdw⟩
theorem asc_of {L : List WeekRow} (h : wrsB L = true) : Asc L := List.pairwise_map.1 (listedB_lt h)
theorem joinI_all {a b : List WeekRow} (ha : Asc a) (hb : Asc b) : ∀ i, i ≤ b.length → JoinI a (joinS a (b.take i)) (joinO a (b.take i)) (b.take i)
 | 0, _ => ⟨ha, List.Perm.refl _, Nat.le_refl _, by simp [joinO], fun k hk _ => List.getElem?_eq_getElem hk, fun k hk => ⟨_, List.getElem?_eq_getElem hk, rfl⟩, fun k hk x hx => by
   rw [List.take_zero, joinO, List.foldl_nil, List.getElem?_eq_none hk] at hx
   cases hx⟩
 | i + 1, hi => by
   rw [joinS_take hi, joinO_take hi, List.take_succ_eq_append_getElem hi]
   refine joinI_step (joinI_all ha hb i (by omega)) fun d hd => ?_
   obtain ⟨j, hj, rfl⟩ := List.getElem_of_mem hd
   have hj' : j < i := by simp at hj; omega
   rw [List.getElem_take]
   have := (List.pairwise_iff_getElem.1 hb) j i (by omega) hi hj'
   omega
theorem take_ne {b : List WeekRow} (hb : Asc b) {i : Nat} (hi : i < b.length) : ∀ d ∈ b.take i, d.Week ≠ b[i].Week := by
 intro d hd
 obtain ⟨j, hj, rfl⟩ := List.getElem_of_mem hd
 have hj' : j < i := by simp at hj; omega
 rw [List.getElem_take]
 have := (List.pairwise_iff_getElem.1 hb) j i (by omega) hi hj'
 omega
theorem join_old {a b : List WeekRow} (ha : Asc a) (hb : Asc b) {i : Nat} (hi : i < b.length) {x : WeekRow} (hx : x ∈ joinS a (b.take i)) (hw : x.Week = b[i].Week) : x ∈ a := by
 have I := joinI_all ha hb i (by omega)
 have hne := take_ne hb hi
 obtain ⟨k, hk, rfl⟩ := List.getElem_of_mem (I.perm.mem_iff.1 hx)
 rcases Nat.lt_or_ge k a.length with h1 | h1
 · obtain ⟨y, hy, hyw⟩ := I.wk k h1
   rw [List.getElem?_eq_getElem hk] at hy
   have hy := Option.some.inj hy
   rw [← hy] at hyw
   have hkk := I.keep k h1 fun r hr => by rw [← hyw, hw]; exact hne r hr
   rw [List.getElem?_eq_getElem hk] at hkk
   rw [Option.some.inj hkk]
   exact List.getElem_mem h1
 · obtain ⟨r, hr, hrw⟩ := I.new k h1 _ (List.getElem?_eq_getElem hk)
   exact absurd (hrw.trans hw) (hne r hr)
theorem join_idx {a b : List WeekRow} (ha : Asc a) (hb : Asc b) {i : Nat} (hi : i < b.length) {k : Nat} (h : a.findIdx? (weekP b[i].Week) = some k) : ∃ hk : k < a.length, a[k].Week = b[i].Week ∧ (joinO a (b.take i))[k]? = some a[k] := by
 obtain ⟨hk, h1, _⟩ := List.findIdx?_eq_some_iff_getElem.1 h
 have I := joinI_all ha hb i (by omega)
 have hkw : a[k].Week = b[i].Week := by simpa [weekP] using h1
 exact ⟨hk, hkw, I.keep k hk fun d hd => by rw [hkw]; exact take_ne hb hi d hd⟩
theorem asc_unique : ∀ {S D : List WeekRow}, Asc S → D.Pairwise (fun x y => x.Week ≤ y.Week) → D.Perm S → D = S
 | [], D, _, _, h => List.Perm.eq_nil h
 | s :: S, [], _, _, h => absurd h.length_eq (by simp)
 | s :: S, d :: D, hs, hd, h => by
   obtain ⟨s1, s2⟩ := List.pairwise_cons.1 hs
   obtain ⟨d1, d2⟩ := List.pairwise_cons.1 hd
   have e : d = s := by
     have m1 : d ∈ s :: S := h.mem_iff.1 (List.mem_cons_self ..)
     have m2 : s ∈ d :: D := h.mem_iff.2 (List.mem_cons_self ..)
     rcases List.mem_cons.1 m1 with e | e
     · exact e
     · rcases List.mem_cons.1 m2 with e2 | e2
       · exact e2.symm
       · have h1 := s1 d e
         have h2 := d1 s e2
         omega
   subst e
   rw [asc_unique s2 d2 (List.Perm.cons_inv h)]
end Go.Proofs
end
section
namespace Go.Lv
def idxI {α : Type} (p : α → Bool) (L : List α) : Int := match L.findIdx? p with
 | some i => i
 | none => -1
theorem idxI_found {α : Type} {p : α → Bool} {L : List α} {i : Nat} (h : i < L.length) (h0 : (L.take i).any p = false) (h1 : p L[i] = true) : idxI p L = i := by
 have : L.findIdx? p = some i := by
   rw [List.findIdx?_eq_some_iff_getElem]
   refine ⟨h, h1, fun j hj => ?_⟩
   have := List.any_eq_false.1 h0 L[j] (by rw [List.mem_take_iff_getElem]; exact ⟨j, by omega, rfl⟩)
   simpa using this
 simp [idxI, this]
theorem idxI_none {α : Type} {p : α → Bool} {L : List α} (h : L.any p = false) : idxI p L = -1 := by
 have : L.findIdx? p = none := by
   rw [List.findIdx?_eq_none_iff]
   intro x hx
   have := List.any_eq_false.1 h x hx
   simpa using this
 simp [idxI, this]
end Go.Lv
end
section
set_option maxRecDepth 100000
namespace Go.Proofs
open Go.Lv
theorem indexFuncWeekRow_ok (L : List WeekRow) (p : WeekRow → Bool) (fv : Nat) (vc : List V) (hvc : ∀ d, vc.all (noOwn d) = true) (hv : ∀ x, Ctr Try.prog fv (WeekRow.v x :: vc) [] (.bool (p x)) []) (hl : L.length ≤ 281474976710656) :
   Ctr Try.prog 49 [WeekRow.sl L, .fn (.func fv) [] vc] [] (.int .i64 (idxI p L)) [] := by
 refine Ctr.intro Try.mixed Try.func49 rfl Try.okF49 ?_
 simp -implicitDefEqProofs -dsimp only [go_sem, Try.ntmps49, Try.results49]
 have hvc2 : ∀ f d, vc.map (ren f d) = vc := fun f d => map_ren f (hvc d)
 refine LoopT.intro (fun i : Nat => i ≤ L.length ∧ (L.take i).any p = false) (fun i => ⟨[WeekRow.sl L, .fn (.func fv) [] vc, .undef, .undef, .undef, .undef, .undef, .int .i64 L.length, .int .i64 i, .undef, .undef, .undef, .undef, .undef, .undef, .undef, .undef, .undef, .undef], [], 0⟩) (fun i => L.length - i) 0 ⟨Nat.zero_le _, rfl⟩ ?_ (fun i hi => ?_)
 · refine Weak.cut (0) (by simp) (by simp) ?_ ?_
   · simp [LeC, LeV, ren, cutF, hvc2]
   · rfl
 simp -implicitDefEqProofs -dsimp only [go_sem]
 refine condT.split (fun h1 => ?_) (fun h1 => ?_)
 · simp -implicitDefEqProofs -dsimp only [go_sem, h1]
   have hi' : i < L.length := by simpa using h1
   have h5 := WeekRow.csl L[i]
   have hr := rows_at WeekRow.csl hi'
   (repeat1' (first | simp -implicitDefEqProofs -dsimp only [go_sem, hr, WeekRow.cs] | simp -dsimp (disch := omega) only [wrap_i64]))
   repeat (with_reducible refine sideA ?_)
   refine callS.intro (hv L[i]) ⟨.inl rfl, LeL_same (hvc2 _ _)⟩ (.inl (by simp only [List.nil_append, List.cons_append, List.all_cons, hvc, Bool.and_true]; rfl)) ?_
   simp -implicitDefEqProofs -dsimp only [go_sem]
   refine condT.split (fun h2 => ?_) (fun h2 => ?_) <;> simp -implicitDefEqProofs -dsimp only [go_sem, h2]
   · exact WeakR.drop' (by rw [idxI_found hi' hi.2 h2]) (by rfl)
   · refine ⟨i + 1, ⟨hi', by rw [List.take_succ_eq_append_getElem hi']; simp only [List.any_append, hi.2, List.any_cons, h2, List.any_nil, Bool.or_self]⟩, ?_, by omega⟩
     refine Weak.cut (0) (by simp) (by simp) ?_ ?_
     · rw [wrap_i64 (by omega) (by omega)]
       simp [LeC, LeV, ren, cutF, hvc2]
     · rfl
 · simp -implicitDefEqProofs -dsimp only [go_sem, h1]
   have hi' : i = L.length := by simp at h1; omega
   subst hi'
   have h2 := hi.2
   rw [List.take_length] at h2
   exact WeakR.drop' (by rw [idxI_none h2]) (by rfl)
end Go.Proofs
end
section
set_option maxRecDepth 100000
namespace Go.Proofs
open Go.Lv
theorem Ctr.raw {P : Program} {f : FuncId} {args : List V} {hin : Hp} {r : V} {hout : Hp} (hok : okF P f = true)
   (h : ∀ (w : World) (vs : Array Value) (m : Nat → Nat) (av : Nat → Prop), Inv w m hin av ⟨args, hin, hin.length⟩ { tmps := vs, defers := [] } w m → vs.size = args.length →
     Calls P f vs w fun e w' => ∃ v m' s a, e = .returned v ∧ s.h = hout ∧ Inv w m hin av s a w' m' ∧ RV w' m' hout (avm av m' hout) true v r) : Ctr P f args hin r hout := by
 refine ⟨hok, fun w vs m av hH hav hgl hs ha => ?_⟩
 have hav' : ∀ b, avm av m hin b → av b := fun b hb => by
   rcases hb with hb | ⟨id, cs, h1, rfl⟩
   · exact hb
   · exact hH.avd id cs h1
 have hstep : ∀ {o : Bool} {v : Value} {x : V}, RV w m hin av o v x → RV w m hin (avm av m hin) o v x :=
   fun {o v x} hx => RV.step (w := w) (w' := w) (m := m) (m' := m) (h := hin) (h' := hin) (av := av) (av' := avm av m hin) (fun b off v hb hc => ⟨fun h => hb (hav' b h), hc⟩) (fun id c hid => ⟨c, hid, Nat.le_refl _, rfl, Nat.le_refl _, rfl⟩) hx
 have I : Inv w m hin av ⟨args, hin, hin.length⟩ { tmps := vs, defers := [] } w m := by
   refine ⟨⟨hH.inj, fun id cs h => .inr ⟨id, cs, h, rfl⟩, fun id cs h => ?_⟩, hs, fun i hi => hstep (ha i hi), rfl, Ext.refl _ _, fun id cs h => .inl ⟨id_lt h, cs, h, Nat.le_refl _, .inl rfl⟩, hav, fun b ⟨id, cs, h1, h2⟩ => h2 ▸ hH.avd id cs h1, hgl, rfl, Nat.le_refl _⟩
   exact (hH.blk id cs h).step rfl (fun v x => hstep)
 refine (h w vs m av I hs).mono ?_
 rintro e w' ⟨v, m', s, a, rfl, rfl, I', hv⟩
 exact ⟨v, m', rfl, I'.ext, I'.rh, hv, I'.ids⟩
end Go.Proofs
end
