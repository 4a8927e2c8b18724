/-
  A part of the proof: texts put together by a program of the prover. Conditions: none.
-/
import Derived.Test.YtekhnmibkkinaaaZRunWatch3
import Derived.Test.YtekhnmibkkinaaaProg
import Derived.KernelRfl
set_option linter.unusedSimpArgs false
set_option linter.unusedVariables false
section
namespace Go.Proofs
open Go.Lv

theorem Try.mixed : Try.prog.follows .mixedOrders = true := by kernel_rfl
@[go_sem] theorem Try.tsz1 : tszOf Try.prog 1 = some (1, false) := by kernel_rfl
@[go_sem] theorem Try.udef1 : (Try.prog.underlying 1).isSome = true := by kernel_rfl
@[go_sem] theorem Try.zero1 : zeroOf Try.prog 1 = some [.lit ((Go.Value.nilFunc))] := by kernel_rfl
@[go_sem] theorem Try.tsz2 : tszOf Try.prog 2 = some (1, false) := by kernel_rfl
@[go_sem] theorem Try.udef2 : (Try.prog.underlying 2).isSome = true := by kernel_rfl
@[go_sem] theorem Try.zero2 : zeroOf Try.prog 2 = some [.int .i64 0] := by kernel_rfl
@[go_sem] theorem Try.isInt2 : isIntT Try.prog 2 = some .i64 := by kernel_rfl
@[go_sem] theorem Try.tsz3 : tszOf Try.prog 3 = some (1, false) := by kernel_rfl
theorem Try.cz3 : Try.prog.cellsOf 3 = 1 := by kernel_rfl
@[go_sem] theorem Try.udef3 : (Try.prog.underlying 3).isSome = true := by kernel_rfl
@[go_sem] theorem Try.zero3 : zeroOf Try.prog 3 = some [.int .i64 0] := by kernel_rfl
@[go_sem] theorem Try.isInt3 : isIntT Try.prog 3 = some .i64 := by kernel_rfl
@[go_sem] theorem Try.tsz4 : tszOf Try.prog 4 = some (1, false) := by kernel_rfl
theorem Try.cz4 : Try.prog.cellsOf 4 = 1 := by kernel_rfl
@[go_sem] theorem Try.udef4 : (Try.prog.underlying 4).isSome = true := by kernel_rfl
@[go_sem] theorem Try.zero4 : zeroOf Try.prog 4 = some [.bool false] := by kernel_rfl
@[go_sem] theorem Try.isBool4 : isBoolT Try.prog 4 = true := by kernel_rfl
@[go_sem] theorem Try.tsz5 : tszOf Try.prog 5 = some (1, false) := by kernel_rfl
@[go_sem] theorem Try.udef5 : (Try.prog.underlying 5).isSome = true := by kernel_rfl
@[go_sem] theorem Try.zero5 : zeroOf Try.prog 5 = some [.int .u8 0] := by kernel_rfl
@[go_sem] theorem Try.isInt5 : isIntT Try.prog 5 = some .u8 := by kernel_rfl
@[go_sem] theorem Try.tsz6 : tszOf Try.prog 6 = some (1, false) := by kernel_rfl
@[go_sem] theorem Try.udef6 : (Try.prog.underlying 6).isSome = true := by kernel_rfl
@[go_sem] theorem Try.zero6 : zeroOf Try.prog 6 = some [.int .u8 0] := by kernel_rfl
@[go_sem] theorem Try.isInt6 : isIntT Try.prog 6 = some .u8 := by kernel_rfl
@[go_sem] theorem Try.tsz7 : tszOf Try.prog 7 = some (4, true) := by kernel_rfl
@[go_sem] theorem Try.udef7 : (Try.prog.underlying 7).isSome = true := by kernel_rfl
@[go_sem] theorem Try.zero7 : zeroOf Try.prog 7 = some [.int .i64 0, .int .i64 0, .bool false, .int .u8 0] := by kernel_rfl
@[go_sem] theorem Try.pl7 : plOf Try.prog 7 = some [(0, 1), (1, 1), (2, 1), (3, 1)] := by kernel_rfl
@[go_sem] theorem Try.tsz8 : tszOf Try.prog 8 = some (4, true) := by kernel_rfl
@[go_sem] theorem Try.udef8 : (Try.prog.underlying 8).isSome = true := by kernel_rfl
@[go_sem] theorem Try.zero8 : zeroOf Try.prog 8 = some [.int .i64 0, .int .i64 0, .bool false, .int .u8 0] := by kernel_rfl
@[go_sem] theorem Try.pl8 : plOf Try.prog 8 = some [(0, 1), (1, 1), (2, 1), (3, 1)] := by kernel_rfl
@[go_sem] theorem Try.tsz9 : tszOf Try.prog 9 = some (1, false) := by kernel_rfl
@[go_sem] theorem Try.udef9 : (Try.prog.underlying 9).isSome = true := by kernel_rfl
@[go_sem] theorem Try.zero9 : zeroOf Try.prog 9 = some [.str ByteArray.empty] := by kernel_rfl
@[go_sem] theorem Try.isIntN9 : isIntT Try.prog 9 = none := by kernel_rfl
@[go_sem] theorem Try.isStr9 : isStr Try.prog 9 = true := by kernel_rfl
@[go_sem] theorem Try.tsz10 : tszOf Try.prog 10 = some (1, false) := by kernel_rfl
@[go_sem] theorem Try.udef10 : (Try.prog.underlying 10).isSome = true := by kernel_rfl
@[go_sem] theorem Try.zero10 : zeroOf Try.prog 10 = some [.str ByteArray.empty] := by kernel_rfl
@[go_sem] theorem Try.isIntN10 : isIntT Try.prog 10 = none := by kernel_rfl
@[go_sem] theorem Try.isStr10 : isStr Try.prog 10 = true := by kernel_rfl
@[go_sem] theorem Try.tsz11 : tszOf Try.prog 11 = some (1, false) := by kernel_rfl
@[go_sem] theorem Try.udef11 : (Try.prog.underlying 11).isSome = true := by kernel_rfl
@[go_sem] theorem Try.zero11 : zeroOf Try.prog 11 = some [.str ByteArray.empty] := by kernel_rfl
@[go_sem] theorem Try.isIntN11 : isIntT Try.prog 11 = none := by kernel_rfl
@[go_sem] theorem Try.isStr11 : isStr Try.prog 11 = true := by kernel_rfl
@[go_sem] theorem Try.tsz12 : tszOf Try.prog 12 = some (1, false) := by kernel_rfl
@[go_sem] theorem Try.udef12 : (Try.prog.underlying 12).isSome = true := by kernel_rfl
@[go_sem] theorem Try.zero12 : zeroOf Try.prog 12 = some [.int .u64 0] := by kernel_rfl
@[go_sem] theorem Try.isInt12 : isIntT Try.prog 12 = some .u64 := by kernel_rfl
@[go_sem] theorem Try.tsz13 : tszOf Try.prog 13 = some (2, true) := by kernel_rfl
@[go_sem] theorem Try.udef13 : (Try.prog.underlying 13).isSome = true := by kernel_rfl
@[go_sem] theorem Try.zero13 : zeroOf Try.prog 13 = some [.str ByteArray.empty, .int .u64 0] := by kernel_rfl
@[go_sem] theorem Try.pl13 : plOf Try.prog 13 = some [(0, 1), (1, 1)] := by kernel_rfl
@[go_sem] theorem Try.tsz14 : tszOf Try.prog 14 = some (2, true) := by kernel_rfl
@[go_sem] theorem Try.udef14 : (Try.prog.underlying 14).isSome = true := by kernel_rfl
@[go_sem] theorem Try.zero14 : zeroOf Try.prog 14 = some [.str ByteArray.empty, .int .u64 0] := by kernel_rfl
@[go_sem] theorem Try.pl14 : plOf Try.prog 14 = some [(0, 1), (1, 1)] := by kernel_rfl
@[go_sem] theorem Try.tsz15 : tszOf Try.prog 15 = some (1, false) := by kernel_rfl
@[go_sem] theorem Try.udef15 : (Try.prog.underlying 15).isSome = true := by kernel_rfl
@[go_sem] theorem Try.zero15 : zeroOf Try.prog 15 = some [.lit ((Go.Value.pointer none))] := by kernel_rfl
@[go_sem] theorem Try.tsz16 : tszOf Try.prog 16 = some (1, false) := by kernel_rfl
@[go_sem] theorem Try.udef16 : (Try.prog.underlying 16).isSome = true := by kernel_rfl
@[go_sem] theorem Try.zero16 : zeroOf Try.prog 16 = some [.lit ((Go.Value.pointer none))] := by kernel_rfl
@[go_sem] theorem Try.tsz17 : tszOf Try.prog 17 = some (1, false) := by kernel_rfl
@[go_sem] theorem Try.udef17 : (Try.prog.underlying 17).isSome = true := by kernel_rfl
@[go_sem] theorem Try.zero17 : zeroOf Try.prog 17 = some [.lit ((Go.Value.pointer none))] := by kernel_rfl
@[go_sem] theorem Try.tsz18 : tszOf Try.prog 18 = some (1, true) := by kernel_rfl
@[go_sem] theorem Try.udef18 : (Try.prog.underlying 18).isSome = true := by kernel_rfl
@[go_sem] theorem Try.zero18 : zeroOf Try.prog 18 = some [.lit ((Go.Value.pointer none))] := by kernel_rfl
@[go_sem] theorem Try.pl18 : plOf Try.prog 18 = some [(0, 1)] := by kernel_rfl
@[go_sem] theorem Try.tsz19 : tszOf Try.prog 19 = some (1, true) := by kernel_rfl
@[go_sem] theorem Try.udef19 : (Try.prog.underlying 19).isSome = true := by kernel_rfl
@[go_sem] theorem Try.zero19 : zeroOf Try.prog 19 = some [.lit ((Go.Value.pointer none))] := by kernel_rfl
@[go_sem] theorem Try.pl19 : plOf Try.prog 19 = some [(0, 1)] := by kernel_rfl
@[go_sem] theorem Try.tsz20 : tszOf Try.prog 20 = some (1, false) := by kernel_rfl
@[go_sem] theorem Try.udef20 : (Try.prog.underlying 20).isSome = true := by kernel_rfl
@[go_sem] theorem Try.zero20 : zeroOf Try.prog 20 = some [.lit ((Go.Value.nilIface))] := by kernel_rfl
@[go_sem] theorem Try.tsz21 : tszOf Try.prog 21 = some (1, false) := by kernel_rfl
@[go_sem] theorem Try.udef21 : (Try.prog.underlying 21).isSome = true := by kernel_rfl
@[go_sem] theorem Try.zero21 : zeroOf Try.prog 21 = some [.int .i32 0] := by kernel_rfl
@[go_sem] theorem Try.isInt21 : isIntT Try.prog 21 = some .i32 := by kernel_rfl
@[go_sem] theorem Try.tsz22 : tszOf Try.prog 22 = some (1, false) := by kernel_rfl
@[go_sem] theorem Try.udef22 : (Try.prog.underlying 22).isSome = true := by kernel_rfl
@[go_sem] theorem Try.zero22 : zeroOf Try.prog 22 = some [.nilsl] := by kernel_rfl
@[go_sem] theorem Try.el22 : elOf Try.prog 22 = some (129, 5, 40) := by kernel_rfl
@[go_sem] theorem Try.isSl22 : isSl Try.prog 22 = true := by kernel_rfl
@[go_sem] theorem Try.tsz23 : tszOf Try.prog 23 = some (1, false) := by kernel_rfl
@[go_sem] theorem Try.udef23 : (Try.prog.underlying 23).isSome = true := by kernel_rfl
@[go_sem] theorem Try.zero23 : zeroOf Try.prog 23 = some [.lit ((Go.Value.nilFunc))] := by kernel_rfl
@[go_sem] theorem Try.tsz24 : tszOf Try.prog 24 = some (1, false) := by kernel_rfl
@[go_sem] theorem Try.udef24 : (Try.prog.underlying 24).isSome = true := by kernel_rfl
@[go_sem] theorem Try.zero24 : zeroOf Try.prog 24 = some [.nilsl] := by kernel_rfl
@[go_sem] theorem Try.el24 : elOf Try.prog 24 = some (99, 1, 24) := by kernel_rfl
@[go_sem] theorem Try.isSl24 : isSl Try.prog 24 = true := by kernel_rfl
@[go_sem] theorem Try.tsz26 : tszOf Try.prog 26 = some (1, false) := by kernel_rfl
@[go_sem] theorem Try.udef26 : (Try.prog.underlying 26).isSome = true := by kernel_rfl
@[go_sem] theorem Try.zero26 : zeroOf Try.prog 26 = some [.lit ((Go.Value.nilFunc))] := by kernel_rfl
@[go_sem] theorem Try.tsz27 : tszOf Try.prog 27 = some (1, false) := by kernel_rfl
@[go_sem] theorem Try.udef27 : (Try.prog.underlying 27).isSome = true := by kernel_rfl
@[go_sem] theorem Try.zero27 : zeroOf Try.prog 27 = some [.nilsl] := by kernel_rfl
@[go_sem] theorem Try.el27 : elOf Try.prog 27 = some (127, 5, 40) := by kernel_rfl
@[go_sem] theorem Try.isSl27 : isSl Try.prog 27 = true := by kernel_rfl
@[go_sem] theorem Try.tsz28 : tszOf Try.prog 28 = some (1, false) := by kernel_rfl
@[go_sem] theorem Try.udef28 : (Try.prog.underlying 28).isSome = true := by kernel_rfl
@[go_sem] theorem Try.zero28 : zeroOf Try.prog 28 = some [.lit ((Go.Value.nilFunc))] := by kernel_rfl
@[go_sem] theorem Try.tsz29 : tszOf Try.prog 29 = some (1, false) := by kernel_rfl
@[go_sem] theorem Try.udef29 : (Try.prog.underlying 29).isSome = true := by kernel_rfl
@[go_sem] theorem Try.zero29 : zeroOf Try.prog 29 = some [.lit ((Go.Value.nilFunc))] := by kernel_rfl
@[go_sem] theorem Try.tsz30 : tszOf Try.prog 30 = some (1, false) := by kernel_rfl
@[go_sem] theorem Try.udef30 : (Try.prog.underlying 30).isSome = true := by kernel_rfl
@[go_sem] theorem Try.zero30 : zeroOf Try.prog 30 = some [.lit ((Go.Value.nilFunc))] := by kernel_rfl
@[go_sem] theorem Try.tsz31 : tszOf Try.prog 31 = some (1, false) := by kernel_rfl
@[go_sem] theorem Try.udef31 : (Try.prog.underlying 31).isSome = true := by kernel_rfl
@[go_sem] theorem Try.zero31 : zeroOf Try.prog 31 = some [.lit ((Go.Value.nilFunc))] := by kernel_rfl
@[go_sem] theorem Try.tsz32 : tszOf Try.prog 32 = some (1, false) := by kernel_rfl
@[go_sem] theorem Try.udef32 : (Try.prog.underlying 32).isSome = true := by kernel_rfl
@[go_sem] theorem Try.zero32 : zeroOf Try.prog 32 = some [.lit ((Go.Value.nilFunc))] := by kernel_rfl
@[go_sem] theorem Try.tsz33 : tszOf Try.prog 33 = some (1, false) := by kernel_rfl
@[go_sem] theorem Try.udef33 : (Try.prog.underlying 33).isSome = true := by kernel_rfl
@[go_sem] theorem Try.zero33 : zeroOf Try.prog 33 = some [.lit ((Go.Value.nilFunc))] := by kernel_rfl
@[go_sem] theorem Try.tsz34 : tszOf Try.prog 34 = some (1, false) := by kernel_rfl
@[go_sem] theorem Try.udef34 : (Try.prog.underlying 34).isSome = true := by kernel_rfl
@[go_sem] theorem Try.zero34 : zeroOf Try.prog 34 = some [.nilsl] := by kernel_rfl
@[go_sem] theorem Try.el34 : elOf Try.prog 34 = some (136, 4, 56) := by kernel_rfl
@[go_sem] theorem Try.isSl34 : isSl Try.prog 34 = true := by kernel_rfl
@[go_sem] theorem Try.tsz35 : tszOf Try.prog 35 = some (1, false) := by kernel_rfl
@[go_sem] theorem Try.udef35 : (Try.prog.underlying 35).isSome = true := by kernel_rfl
@[go_sem] theorem Try.zero35 : zeroOf Try.prog 35 = some [.lit ((Go.Value.nilFunc))] := by kernel_rfl
@[go_sem] theorem Try.tsz36 : tszOf Try.prog 36 = some (1, false) := by kernel_rfl
@[go_sem] theorem Try.udef36 : (Try.prog.underlying 36).isSome = true := by kernel_rfl
@[go_sem] theorem Try.zero36 : zeroOf Try.prog 36 = some [.nilsl] := by kernel_rfl
@[go_sem] theorem Try.el36 : elOf Try.prog 36 = some (142, 4, 56) := by kernel_rfl
@[go_sem] theorem Try.isSl36 : isSl Try.prog 36 = true := by kernel_rfl
@[go_sem] theorem Try.tsz38 : tszOf Try.prog 38 = some (1, false) := by kernel_rfl
@[go_sem] theorem Try.udef38 : (Try.prog.underlying 38).isSome = true := by kernel_rfl
@[go_sem] theorem Try.zero38 : zeroOf Try.prog 38 = some [.lit ((Go.Value.nilFunc))] := by kernel_rfl
@[go_sem] theorem Try.tsz39 : tszOf Try.prog 39 = some (1, false) := by kernel_rfl
@[go_sem] theorem Try.udef39 : (Try.prog.underlying 39).isSome = true := by kernel_rfl
@[go_sem] theorem Try.zero39 : zeroOf Try.prog 39 = some [.lit ((Go.Value.nilFunc))] := by kernel_rfl
@[go_sem] theorem Try.tsz40 : tszOf Try.prog 40 = some (1, false) := by kernel_rfl
@[go_sem] theorem Try.udef40 : (Try.prog.underlying 40).isSome = true := by kernel_rfl
@[go_sem] theorem Try.zero40 : zeroOf Try.prog 40 = some [.lit ((Go.Value.nilFunc))] := by kernel_rfl
@[go_sem] theorem Try.tsz41 : tszOf Try.prog 41 = some (1, false) := by kernel_rfl
@[go_sem] theorem Try.udef41 : (Try.prog.underlying 41).isSome = true := by kernel_rfl
@[go_sem] theorem Try.zero41 : zeroOf Try.prog 41 = some [.lit ((Go.Value.nilFunc))] := by kernel_rfl
@[go_sem] theorem Try.tsz42 : tszOf Try.prog 42 = some (1, false) := by kernel_rfl
@[go_sem] theorem Try.udef42 : (Try.prog.underlying 42).isSome = true := by kernel_rfl
@[go_sem] theorem Try.zero42 : zeroOf Try.prog 42 = some [.lit ((Go.Value.nilFunc))] := by kernel_rfl
@[go_sem] theorem Try.tsz43 : tszOf Try.prog 43 = some (1, false) := by kernel_rfl
@[go_sem] theorem Try.udef43 : (Try.prog.underlying 43).isSome = true := by kernel_rfl
@[go_sem] theorem Try.zero43 : zeroOf Try.prog 43 = some [.nilsl] := by kernel_rfl
@[go_sem] theorem Try.el43 : elOf Try.prog 43 = some (229, 2, 16) := by kernel_rfl
@[go_sem] theorem Try.isSl43 : isSl Try.prog 43 = true := by kernel_rfl
@[go_sem] theorem Try.tsz44 : tszOf Try.prog 44 = some (5, true) := by kernel_rfl
@[go_sem] theorem Try.udef44 : (Try.prog.underlying 44).isSome = true := by kernel_rfl
@[go_sem] theorem Try.zero44 : zeroOf Try.prog 44 = some [.int .i64 0, .int .i64 0, .nilsl, .int .i64 0, .int .i64 0] := by kernel_rfl
@[go_sem] theorem Try.pl44 : plOf Try.prog 44 = some [(0, 1), (1, 1), (2, 1), (3, 1), (4, 1)] := by kernel_rfl
@[go_sem] theorem Try.tsz45 : tszOf Try.prog 45 = some (5, true) := by kernel_rfl
@[go_sem] theorem Try.udef45 : (Try.prog.underlying 45).isSome = true := by kernel_rfl
@[go_sem] theorem Try.zero45 : zeroOf Try.prog 45 = some [.int .i64 0, .int .i64 0, .nilsl, .int .i64 0, .int .i64 0] := by kernel_rfl
@[go_sem] theorem Try.pl45 : plOf Try.prog 45 = some [(0, 1), (1, 1), (2, 1), (3, 1), (4, 1)] := by kernel_rfl
@[go_sem] theorem Try.fd45_0 : fdOf Try.prog 45 0 = some (0, 1, false) := by kernel_rfl
@[go_sem] theorem Try.fd45_1 : fdOf Try.prog 45 1 = some (1, 1, false) := by kernel_rfl
@[go_sem] theorem Try.fd45_2 : fdOf Try.prog 45 2 = some (2, 1, false) := by kernel_rfl
@[go_sem] theorem Try.fd45_3 : fdOf Try.prog 45 3 = some (3, 1, false) := by kernel_rfl
@[go_sem] theorem Try.fd45_4 : fdOf Try.prog 45 4 = some (4, 1, false) := by kernel_rfl
@[go_sem] theorem Try.tsz46 : tszOf Try.prog 46 = some (2, true) := by kernel_rfl
@[go_sem] theorem Try.udef46 : (Try.prog.underlying 46).isSome = true := by kernel_rfl
@[go_sem] theorem Try.zero46 : zeroOf Try.prog 46 = some [.int .i64 0, .int .i64 0] := by kernel_rfl
@[go_sem] theorem Try.pl46 : plOf Try.prog 46 = some [(0, 1), (1, 1)] := by kernel_rfl
@[go_sem] theorem Try.tsz47 : tszOf Try.prog 47 = some (2, true) := by kernel_rfl
@[go_sem] theorem Try.udef47 : (Try.prog.underlying 47).isSome = true := by kernel_rfl
@[go_sem] theorem Try.zero47 : zeroOf Try.prog 47 = some [.int .i64 0, .int .i64 0] := by kernel_rfl
@[go_sem] theorem Try.flatEq47 : flatEq Try.prog 47 = some [.int .i64, .int .i64] := by kernel_rfl
@[go_sem] theorem Try.pl47 : plOf Try.prog 47 = some [(0, 1), (1, 1)] := by kernel_rfl
@[go_sem] theorem Try.fd47_0 : fdOf Try.prog 47 0 = some (0, 1, false) := by kernel_rfl
@[go_sem] theorem Try.fd47_1 : fdOf Try.prog 47 1 = some (1, 1, false) := by kernel_rfl
@[go_sem] theorem Try.tsz48 : tszOf Try.prog 48 = some (1, false) := by kernel_rfl
@[go_sem] theorem Try.udef48 : (Try.prog.underlying 48).isSome = true := by kernel_rfl
@[go_sem] theorem Try.zero48 : zeroOf Try.prog 48 = some [.lit ((Go.Value.nilFunc))] := by kernel_rfl
@[go_sem] theorem Try.tsz49 : tszOf Try.prog 49 = some (1, false) := by kernel_rfl
@[go_sem] theorem Try.udef49 : (Try.prog.underlying 49).isSome = true := by kernel_rfl
@[go_sem] theorem Try.zero49 : zeroOf Try.prog 49 = some [.nilsl] := by kernel_rfl
@[go_sem] theorem Try.el49 : elOf Try.prog 49 = some (224, 2, 16) := by kernel_rfl
@[go_sem] theorem Try.isSl49 : isSl Try.prog 49 = true := by kernel_rfl
@[go_sem] theorem Try.tsz50 : tszOf Try.prog 50 = some (5, true) := by kernel_rfl
@[go_sem] theorem Try.udef50 : (Try.prog.underlying 50).isSome = true := by kernel_rfl
@[go_sem] theorem Try.zero50 : zeroOf Try.prog 50 = some [.int .i64 0, .int .i64 0, .nilsl, .int .i64 0, .int .i64 0] := by kernel_rfl
@[go_sem] theorem Try.pl50 : plOf Try.prog 50 = some [(0, 1), (1, 1), (2, 1), (3, 1), (4, 1)] := by kernel_rfl
@[go_sem] theorem Try.tsz51 : tszOf Try.prog 51 = some (5, true) := by kernel_rfl
@[go_sem] theorem Try.udef51 : (Try.prog.underlying 51).isSome = true := by kernel_rfl
@[go_sem] theorem Try.zero51 : zeroOf Try.prog 51 = some [.int .i64 0, .int .i64 0, .nilsl, .int .i64 0, .int .i64 0] := by kernel_rfl
@[go_sem] theorem Try.pl51 : plOf Try.prog 51 = some [(0, 1), (1, 1), (2, 1), (3, 1), (4, 1)] := by kernel_rfl
@[go_sem] theorem Try.fd51_0 : fdOf Try.prog 51 0 = some (0, 1, false) := by kernel_rfl
@[go_sem] theorem Try.fd51_1 : fdOf Try.prog 51 1 = some (1, 1, false) := by kernel_rfl
@[go_sem] theorem Try.fd51_2 : fdOf Try.prog 51 2 = some (2, 1, false) := by kernel_rfl
@[go_sem] theorem Try.fd51_3 : fdOf Try.prog 51 3 = some (3, 1, false) := by kernel_rfl
@[go_sem] theorem Try.fd51_4 : fdOf Try.prog 51 4 = some (4, 1, false) := by kernel_rfl
@[go_sem] theorem Try.tsz53 : tszOf Try.prog 53 = some (1, false) := by kernel_rfl
@[go_sem] theorem Try.udef53 : (Try.prog.underlying 53).isSome = true := by kernel_rfl
@[go_sem] theorem Try.zero53 : zeroOf Try.prog 53 = some [.lit ((Go.Value.nilFunc))] := by kernel_rfl
@[go_sem] theorem Try.tsz54 : tszOf Try.prog 54 = some (1, false) := by kernel_rfl
@[go_sem] theorem Try.udef54 : (Try.prog.underlying 54).isSome = true := by kernel_rfl
@[go_sem] theorem Try.zero54 : zeroOf Try.prog 54 = some [.lit ((Go.Value.nilFunc))] := by kernel_rfl
@[go_sem] theorem Try.tsz55 : tszOf Try.prog 55 = some (2, true) := by kernel_rfl
@[go_sem] theorem Try.udef55 : (Try.prog.underlying 55).isSome = true := by kernel_rfl
@[go_sem] theorem Try.zero55 : zeroOf Try.prog 55 = some [.int .i64 0, .int .i64 0] := by kernel_rfl
@[go_sem] theorem Try.flatEq55 : flatEq Try.prog 55 = some [.int .i64, .int .i64] := by kernel_rfl
@[go_sem] theorem Try.pl55 : plOf Try.prog 55 = some [(0, 1), (1, 1)] := by kernel_rfl
@[go_sem] theorem Try.fd55_0 : fdOf Try.prog 55 0 = some (0, 1, false) := by kernel_rfl
@[go_sem] theorem Try.fd55_1 : fdOf Try.prog 55 1 = some (1, 1, false) := by kernel_rfl
@[go_sem] theorem Try.tsz56 : tszOf Try.prog 56 = some (1, false) := by kernel_rfl
@[go_sem] theorem Try.udef56 : (Try.prog.underlying 56).isSome = true := by kernel_rfl
@[go_sem] theorem Try.zero56 : zeroOf Try.prog 56 = some [.lit ((Go.Value.nilFunc))] := by kernel_rfl
@[go_sem] theorem Try.tsz57 : tszOf Try.prog 57 = some (1, false) := by kernel_rfl
@[go_sem] theorem Try.udef57 : (Try.prog.underlying 57).isSome = true := by kernel_rfl
@[go_sem] theorem Try.zero57 : zeroOf Try.prog 57 = some [.lit ((Go.Value.nilFunc))] := by kernel_rfl
@[go_sem] theorem Try.tsz58 : tszOf Try.prog 58 = some (1, false) := by kernel_rfl
@[go_sem] theorem Try.udef58 : (Try.prog.underlying 58).isSome = true := by kernel_rfl
@[go_sem] theorem Try.zero58 : zeroOf Try.prog 58 = some [.lit ((Go.Value.nilFunc))] := by kernel_rfl
@[go_sem] theorem Try.tsz59 : tszOf Try.prog 59 = some (1, false) := by kernel_rfl
@[go_sem] theorem Try.udef59 : (Try.prog.underlying 59).isSome = true := by kernel_rfl
@[go_sem] theorem Try.zero59 : zeroOf Try.prog 59 = some [.lit ((Go.Value.nilFunc))] := by kernel_rfl
@[go_sem] theorem Try.tsz60 : tszOf Try.prog 60 = some (1, false) := by kernel_rfl
@[go_sem] theorem Try.udef60 : (Try.prog.underlying 60).isSome = true := by kernel_rfl
@[go_sem] theorem Try.zero60 : zeroOf Try.prog 60 = some [.nilsl] := by kernel_rfl
@[go_sem] theorem Try.el60 : elOf Try.prog 60 = some (162, 7, 56) := by kernel_rfl
@[go_sem] theorem Try.isSl60 : isSl Try.prog 60 = true := by kernel_rfl
@[go_sem] theorem Try.tsz61 : tszOf Try.prog 61 = some (1, false) := by kernel_rfl
@[go_sem] theorem Try.udef61 : (Try.prog.underlying 61).isSome = true := by kernel_rfl
@[go_sem] theorem Try.zero61 : zeroOf Try.prog 61 = some [.lit ((Go.Value.nilFunc))] := by kernel_rfl
@[go_sem] theorem Try.tsz62 : tszOf Try.prog 62 = some (1, false) := by kernel_rfl
@[go_sem] theorem Try.udef62 : (Try.prog.underlying 62).isSome = true := by kernel_rfl
@[go_sem] theorem Try.zero62 : zeroOf Try.prog 62 = some [.nilsl] := by kernel_rfl
@[go_sem] theorem Try.el62 : elOf Try.prog 62 = some (159, 7, 56) := by kernel_rfl
@[go_sem] theorem Try.isSl62 : isSl Try.prog 62 = true := by kernel_rfl
@[go_sem] theorem Try.tsz64 : tszOf Try.prog 64 = some (1, false) := by kernel_rfl
@[go_sem] theorem Try.udef64 : (Try.prog.underlying 64).isSome = true := by kernel_rfl
@[go_sem] theorem Try.zero64 : zeroOf Try.prog 64 = some [.lit ((Go.Value.nilFunc))] := by kernel_rfl
@[go_sem] theorem Try.tsz65 : tszOf Try.prog 65 = some (1, false) := by kernel_rfl
@[go_sem] theorem Try.udef65 : (Try.prog.underlying 65).isSome = true := by kernel_rfl
@[go_sem] theorem Try.zero65 : zeroOf Try.prog 65 = some [.lit ((Go.Value.nilFunc))] := by kernel_rfl
@[go_sem] theorem Try.tsz66 : tszOf Try.prog 66 = some (1, false) := by kernel_rfl
@[go_sem] theorem Try.udef66 : (Try.prog.underlying 66).isSome = true := by kernel_rfl
@[go_sem] theorem Try.zero66 : zeroOf Try.prog 66 = some [.lit ((Go.Value.nilFunc))] := by kernel_rfl
@[go_sem] theorem Try.tsz67 : tszOf Try.prog 67 = some (1, false) := by kernel_rfl
@[go_sem] theorem Try.udef67 : (Try.prog.underlying 67).isSome = true := by kernel_rfl
@[go_sem] theorem Try.zero67 : zeroOf Try.prog 67 = some [.lit ((Go.Value.nilFunc))] := by kernel_rfl
@[go_sem] theorem Try.tsz68 : tszOf Try.prog 68 = some (1, false) := by kernel_rfl
@[go_sem] theorem Try.udef68 : (Try.prog.underlying 68).isSome = true := by kernel_rfl
@[go_sem] theorem Try.zero68 : zeroOf Try.prog 68 = some [.lit ((Go.Value.nilFunc))] := by kernel_rfl
@[go_sem] theorem Try.tsz69 : tszOf Try.prog 69 = some (1, false) := by kernel_rfl
@[go_sem] theorem Try.udef69 : (Try.prog.underlying 69).isSome = true := by kernel_rfl
@[go_sem] theorem Try.zero69 : zeroOf Try.prog 69 = some [.nilsl] := by kernel_rfl
@[go_sem] theorem Try.el69 : elOf Try.prog 69 = some (47, 2, 16) := by kernel_rfl
@[go_sem] theorem Try.isSl69 : isSl Try.prog 69 = true := by kernel_rfl
@[go_sem] theorem Try.tsz70 : tszOf Try.prog 70 = some (1, false) := by kernel_rfl
@[go_sem] theorem Try.udef70 : (Try.prog.underlying 70).isSome = true := by kernel_rfl
@[go_sem] theorem Try.zero70 : zeroOf Try.prog 70 = some [.lit ((Go.Value.nilFunc))] := by kernel_rfl
@[go_sem] theorem Try.tsz72 : tszOf Try.prog 72 = some (1, false) := by kernel_rfl
@[go_sem] theorem Try.udef72 : (Try.prog.underlying 72).isSome = true := by kernel_rfl
@[go_sem] theorem Try.zero72 : zeroOf Try.prog 72 = some [.lit ((Go.Value.nilFunc))] := by kernel_rfl
@[go_sem] theorem Try.tsz73 : tszOf Try.prog 73 = some (1, false) := by kernel_rfl
@[go_sem] theorem Try.udef73 : (Try.prog.underlying 73).isSome = true := by kernel_rfl
@[go_sem] theorem Try.zero73 : zeroOf Try.prog 73 = some [.nilsl] := by kernel_rfl
@[go_sem] theorem Try.el73 : elOf Try.prog 73 = some (55, 2, 16) := by kernel_rfl
@[go_sem] theorem Try.isSl73 : isSl Try.prog 73 = true := by kernel_rfl
@[go_sem] theorem Try.tsz74 : tszOf Try.prog 74 = some (1, false) := by kernel_rfl
@[go_sem] theorem Try.udef74 : (Try.prog.underlying 74).isSome = true := by kernel_rfl
@[go_sem] theorem Try.zero74 : zeroOf Try.prog 74 = some [.lit ((Go.Value.nilFunc))] := by kernel_rfl
@[go_sem] theorem Try.tsz75 : tszOf Try.prog 75 = some (1, false) := by kernel_rfl
@[go_sem] theorem Try.udef75 : (Try.prog.underlying 75).isSome = true := by kernel_rfl
@[go_sem] theorem Try.zero75 : zeroOf Try.prog 75 = some [.lit ((Go.Value.nilFunc))] := by kernel_rfl
@[go_sem] theorem Try.tsz76 : tszOf Try.prog 76 = some (1, false) := by kernel_rfl
@[go_sem] theorem Try.udef76 : (Try.prog.underlying 76).isSome = true := by kernel_rfl
@[go_sem] theorem Try.zero76 : zeroOf Try.prog 76 = some [.lit ((Go.Value.nilFunc))] := by kernel_rfl
@[go_sem] theorem Try.tsz77 : tszOf Try.prog 77 = some (1, false) := by kernel_rfl
@[go_sem] theorem Try.udef77 : (Try.prog.underlying 77).isSome = true := by kernel_rfl
@[go_sem] theorem Try.zero77 : zeroOf Try.prog 77 = some [.lit ((Go.Value.nilFunc))] := by kernel_rfl
@[go_sem] theorem Try.tsz78 : tszOf Try.prog 78 = some (1, false) := by kernel_rfl
@[go_sem] theorem Try.udef78 : (Try.prog.underlying 78).isSome = true := by kernel_rfl
@[go_sem] theorem Try.zero78 : zeroOf Try.prog 78 = some [.nilsl] := by kernel_rfl
@[go_sem] theorem Try.el78 : elOf Try.prog 78 = some (5, 1, 1) := by kernel_rfl
@[go_sem] theorem Try.isSl78 : isSl Try.prog 78 = true := by kernel_rfl
@[go_sem] theorem Try.isU8S78 : isU8S Try.prog 78 = true := by kernel_rfl
@[go_sem] theorem Try.tsz79 : tszOf Try.prog 79 = some (1, false) := by kernel_rfl
@[go_sem] theorem Try.udef79 : (Try.prog.underlying 79).isSome = true := by kernel_rfl
@[go_sem] theorem Try.zero79 : zeroOf Try.prog 79 = some [.lit ((Go.Value.nilFunc))] := by kernel_rfl
@[go_sem] theorem Try.tsz80 : tszOf Try.prog 80 = some (1, false) := by kernel_rfl
@[go_sem] theorem Try.udef80 : (Try.prog.underlying 80).isSome = true := by kernel_rfl
@[go_sem] theorem Try.zero80 : zeroOf Try.prog 80 = some [.nilsl] := by kernel_rfl
@[go_sem] theorem Try.el80 : elOf Try.prog 80 = some (183, 3, 24) := by kernel_rfl
@[go_sem] theorem Try.isSl80 : isSl Try.prog 80 = true := by kernel_rfl
@[go_sem] theorem Try.tsz81 : tszOf Try.prog 81 = some (1, false) := by kernel_rfl
@[go_sem] theorem Try.udef81 : (Try.prog.underlying 81).isSome = true := by kernel_rfl
@[go_sem] theorem Try.zero81 : zeroOf Try.prog 81 = some [.nilsl] := by kernel_rfl
@[go_sem] theorem Try.el81 : elOf Try.prog 81 = some (93, 5, 40) := by kernel_rfl
@[go_sem] theorem Try.isSl81 : isSl Try.prog 81 = true := by kernel_rfl
@[go_sem] theorem Try.tsz82 : tszOf Try.prog 82 = some (5, true) := by kernel_rfl
@[go_sem] theorem Try.udef82 : (Try.prog.underlying 82).isSome = true := by kernel_rfl
@[go_sem] theorem Try.zero82 : zeroOf Try.prog 82 = some [.int .i64 0, .nilsl, .nilsl, .int .i64 0, .int .i64 0] := by kernel_rfl
@[go_sem] theorem Try.pl82 : plOf Try.prog 82 = some [(0, 1), (1, 1), (2, 1), (3, 1), (4, 1)] := by kernel_rfl
@[go_sem] theorem Try.tsz83 : tszOf Try.prog 83 = some (5, true) := by kernel_rfl
@[go_sem] theorem Try.udef83 : (Try.prog.underlying 83).isSome = true := by kernel_rfl
@[go_sem] theorem Try.zero83 : zeroOf Try.prog 83 = some [.int .i64 0, .nilsl, .nilsl, .int .i64 0, .int .i64 0] := by kernel_rfl
@[go_sem] theorem Try.pl83 : plOf Try.prog 83 = some [(0, 1), (1, 1), (2, 1), (3, 1), (4, 1)] := by kernel_rfl
@[go_sem] theorem Try.fd83_0 : fdOf Try.prog 83 0 = some (0, 1, false) := by kernel_rfl
@[go_sem] theorem Try.fd83_1 : fdOf Try.prog 83 1 = some (1, 1, false) := by kernel_rfl
@[go_sem] theorem Try.fd83_2 : fdOf Try.prog 83 2 = some (2, 1, false) := by kernel_rfl
@[go_sem] theorem Try.fd83_3 : fdOf Try.prog 83 3 = some (3, 1, false) := by kernel_rfl
@[go_sem] theorem Try.fd83_4 : fdOf Try.prog 83 4 = some (4, 1, false) := by kernel_rfl
@[go_sem] theorem Try.tsz84 : tszOf Try.prog 84 = some (3, true) := by kernel_rfl
@[go_sem] theorem Try.udef84 : (Try.prog.underlying 84).isSome = true := by kernel_rfl
@[go_sem] theorem Try.zero84 : zeroOf Try.prog 84 = some [.int .i64 0, .int .i64 0, .int .i64 0] := by kernel_rfl
@[go_sem] theorem Try.pl84 : plOf Try.prog 84 = some [(0, 1), (1, 1), (2, 1)] := by kernel_rfl
@[go_sem] theorem Try.tsz85 : tszOf Try.prog 85 = some (3, true) := by kernel_rfl
@[go_sem] theorem Try.udef85 : (Try.prog.underlying 85).isSome = true := by kernel_rfl
@[go_sem] theorem Try.zero85 : zeroOf Try.prog 85 = some [.int .i64 0, .int .i64 0, .int .i64 0] := by kernel_rfl
@[go_sem] theorem Try.flatEq85 : flatEq Try.prog 85 = some [.int .i64, .int .i64, .int .i64] := by kernel_rfl
@[go_sem] theorem Try.pl85 : plOf Try.prog 85 = some [(0, 1), (1, 1), (2, 1)] := by kernel_rfl
@[go_sem] theorem Try.fd85_0 : fdOf Try.prog 85 0 = some (0, 1, false) := by kernel_rfl
@[go_sem] theorem Try.fd85_1 : fdOf Try.prog 85 1 = some (1, 1, false) := by kernel_rfl
@[go_sem] theorem Try.fd85_2 : fdOf Try.prog 85 2 = some (2, 1, false) := by kernel_rfl
@[go_sem] theorem Try.tsz87 : tszOf Try.prog 87 = some (1, false) := by kernel_rfl
@[go_sem] theorem Try.udef87 : (Try.prog.underlying 87).isSome = true := by kernel_rfl
@[go_sem] theorem Try.zero87 : zeroOf Try.prog 87 = some [.lit ((Go.Value.nilFunc))] := by kernel_rfl
@[go_sem] theorem Try.tsz89 : tszOf Try.prog 89 = some (1, false) := by kernel_rfl
@[go_sem] theorem Try.udef89 : (Try.prog.underlying 89).isSome = true := by kernel_rfl
@[go_sem] theorem Try.zero89 : zeroOf Try.prog 89 = some [.lit ((Go.Value.nilFunc))] := by kernel_rfl
@[go_sem] theorem Try.tsz90 : tszOf Try.prog 90 = some (1, false) := by kernel_rfl
@[go_sem] theorem Try.udef90 : (Try.prog.underlying 90).isSome = true := by kernel_rfl
@[go_sem] theorem Try.zero90 : zeroOf Try.prog 90 = some [.lit ((Go.Value.nilFunc))] := by kernel_rfl
@[go_sem] theorem Try.tsz91 : tszOf Try.prog 91 = some (1, false) := by kernel_rfl
@[go_sem] theorem Try.udef91 : (Try.prog.underlying 91).isSome = true := by kernel_rfl
@[go_sem] theorem Try.zero91 : zeroOf Try.prog 91 = some [.lit ((Go.Value.nilFunc))] := by kernel_rfl
@[go_sem] theorem Try.tsz92 : tszOf Try.prog 92 = some (5, true) := by kernel_rfl
@[go_sem] theorem Try.udef92 : (Try.prog.underlying 92).isSome = true := by kernel_rfl
@[go_sem] theorem Try.zero92 : zeroOf Try.prog 92 = some [.int .i64 0, .int .i64 0, .int .i64 0, .int .i64 0, .int .i64 0] := by kernel_rfl
@[go_sem] theorem Try.pl92 : plOf Try.prog 92 = some [(0, 1), (1, 1), (2, 1), (3, 1), (4, 1)] := by kernel_rfl
@[go_sem] theorem Try.tsz93 : tszOf Try.prog 93 = some (5, true) := by kernel_rfl
@[go_sem] theorem Try.udef93 : (Try.prog.underlying 93).isSome = true := by kernel_rfl
@[go_sem] theorem Try.zero93 : zeroOf Try.prog 93 = some [.int .i64 0, .int .i64 0, .int .i64 0, .int .i64 0, .int .i64 0] := by kernel_rfl
@[go_sem] theorem Try.flatEq93 : flatEq Try.prog 93 = some [.int .i64, .int .i64, .int .i64, .int .i64, .int .i64] := by kernel_rfl
@[go_sem] theorem Try.pl93 : plOf Try.prog 93 = some [(0, 1), (1, 1), (2, 1), (3, 1), (4, 1)] := by kernel_rfl
@[go_sem] theorem Try.fd93_0 : fdOf Try.prog 93 0 = some (0, 1, false) := by kernel_rfl
@[go_sem] theorem Try.fd93_1 : fdOf Try.prog 93 1 = some (1, 1, false) := by kernel_rfl
@[go_sem] theorem Try.fd93_2 : fdOf Try.prog 93 2 = some (2, 1, false) := by kernel_rfl
@[go_sem] theorem Try.fd93_3 : fdOf Try.prog 93 3 = some (3, 1, false) := by kernel_rfl
@[go_sem] theorem Try.fd93_4 : fdOf Try.prog 93 4 = some (4, 1, false) := by kernel_rfl
@[go_sem] theorem Try.tsz94 : tszOf Try.prog 94 = some (1, false) := by kernel_rfl
@[go_sem] theorem Try.udef94 : (Try.prog.underlying 94).isSome = true := by kernel_rfl
@[go_sem] theorem Try.zero94 : zeroOf Try.prog 94 = some [.nilsl] := by kernel_rfl
@[go_sem] theorem Try.el94 : elOf Try.prog 94 = some (85, 3, 24) := by kernel_rfl
@[go_sem] theorem Try.isSl94 : isSl Try.prog 94 = true := by kernel_rfl
@[go_sem] theorem Try.tsz96 : tszOf Try.prog 96 = some (1, false) := by kernel_rfl
@[go_sem] theorem Try.udef96 : (Try.prog.underlying 96).isSome = true := by kernel_rfl
@[go_sem] theorem Try.zero96 : zeroOf Try.prog 96 = some [.lit ((Go.Value.nilFunc))] := by kernel_rfl
@[go_sem] theorem Try.tsz98 : tszOf Try.prog 98 = some (1, false) := by kernel_rfl
@[go_sem] theorem Try.udef98 : (Try.prog.underlying 98).isSome = true := by kernel_rfl
@[go_sem] theorem Try.zero98 : zeroOf Try.prog 98 = some [.lit ((Go.Value.nilFunc))] := by kernel_rfl
@[go_sem] theorem Try.tsz99 : tszOf Try.prog 99 = some (1, false) := by kernel_rfl
@[go_sem] theorem Try.udef99 : (Try.prog.underlying 99).isSome = true := by kernel_rfl
@[go_sem] theorem Try.zero99 : zeroOf Try.prog 99 = some [.nilsl] := by kernel_rfl
@[go_sem] theorem Try.el99 : elOf Try.prog 99 = some (3, 1, 8) := by kernel_rfl
@[go_sem] theorem Try.isSl99 : isSl Try.prog 99 = true := by kernel_rfl
@[go_sem] theorem Try.tsz100 : tszOf Try.prog 100 = some (1, false) := by kernel_rfl
@[go_sem] theorem Try.udef100 : (Try.prog.underlying 100).isSome = true := by kernel_rfl
@[go_sem] theorem Try.zero100 : zeroOf Try.prog 100 = some [.lit ((Go.Value.nilFunc))] := by kernel_rfl
@[go_sem] theorem Try.tsz101 : tszOf Try.prog 101 = some (1, false) := by kernel_rfl
@[go_sem] theorem Try.udef101 : (Try.prog.underlying 101).isSome = true := by kernel_rfl
@[go_sem] theorem Try.zero101 : zeroOf Try.prog 101 = some [.lit ((Go.Value.nilFunc))] := by kernel_rfl
@[go_sem] theorem Try.tsz103 : tszOf Try.prog 103 = some (1, false) := by kernel_rfl
@[go_sem] theorem Try.udef103 : (Try.prog.underlying 103).isSome = true := by kernel_rfl
@[go_sem] theorem Try.zero103 : zeroOf Try.prog 103 = some [.lit ((Go.Value.nilFunc))] := by kernel_rfl
@[go_sem] theorem Try.tsz104 : tszOf Try.prog 104 = some (1, false) := by kernel_rfl
@[go_sem] theorem Try.udef104 : (Try.prog.underlying 104).isSome = true := by kernel_rfl
@[go_sem] theorem Try.zero104 : zeroOf Try.prog 104 = some [.lit ((Go.Value.nilFunc))] := by kernel_rfl
@[go_sem] theorem Try.tsz105 : tszOf Try.prog 105 = some (1, false) := by kernel_rfl
theorem Try.cz105 : Try.prog.cellsOf 105 = 1 := by kernel_rfl
@[go_sem] theorem Try.udef105 : (Try.prog.underlying 105).isSome = true := by kernel_rfl
@[go_sem] theorem Try.zero105 : zeroOf Try.prog 105 = some [.nilsl] := by kernel_rfl
@[go_sem] theorem Try.el105 : elOf Try.prog 105 = some (255, 3, 24) := by kernel_rfl
@[go_sem] theorem Try.isSl105 : isSl Try.prog 105 = true := by kernel_rfl
@[go_sem] theorem Try.tsz106 : tszOf Try.prog 106 = some (1, false) := by kernel_rfl
theorem Try.cz106 : Try.prog.cellsOf 106 = 1 := by kernel_rfl
@[go_sem] theorem Try.udef106 : (Try.prog.underlying 106).isSome = true := by kernel_rfl
@[go_sem] theorem Try.zero106 : zeroOf Try.prog 106 = some [.nilsl] := by kernel_rfl
@[go_sem] theorem Try.el106 : elOf Try.prog 106 = some (257, 5, 40) := by kernel_rfl
@[go_sem] theorem Try.isSl106 : isSl Try.prog 106 = true := by kernel_rfl
@[go_sem] theorem Try.tsz107 : tszOf Try.prog 107 = some (5, true) := by kernel_rfl
@[go_sem] theorem Try.udef107 : (Try.prog.underlying 107).isSome = true := by kernel_rfl
@[go_sem] theorem Try.zero107 : zeroOf Try.prog 107 = some [.int .i64 0, .nilsl, .nilsl, .int .i64 0, .int .i64 0] := by kernel_rfl
@[go_sem] theorem Try.pl107 : plOf Try.prog 107 = some [(0, 1), (1, 1), (2, 1), (3, 1), (4, 1)] := by kernel_rfl
@[go_sem] theorem Try.tsz108 : tszOf Try.prog 108 = some (5, true) := by kernel_rfl
theorem Try.cz108 : Try.prog.cellsOf 108 = 5 := by kernel_rfl
@[go_sem] theorem Try.udef108 : (Try.prog.underlying 108).isSome = true := by kernel_rfl
@[go_sem] theorem Try.zero108 : zeroOf Try.prog 108 = some [.int .i64 0, .nilsl, .nilsl, .int .i64 0, .int .i64 0] := by kernel_rfl
@[go_sem] theorem Try.pl108 : plOf Try.prog 108 = some [(0, 1), (1, 1), (2, 1), (3, 1), (4, 1)] := by kernel_rfl
@[go_sem] theorem Try.fd108_0 : fdOf Try.prog 108 0 = some (0, 1, false) := by kernel_rfl
@[go_sem] theorem Try.fd108_1 : fdOf Try.prog 108 1 = some (1, 1, false) := by kernel_rfl
@[go_sem] theorem Try.fd108_2 : fdOf Try.prog 108 2 = some (2, 1, false) := by kernel_rfl
@[go_sem] theorem Try.fd108_3 : fdOf Try.prog 108 3 = some (3, 1, false) := by kernel_rfl
@[go_sem] theorem Try.fd108_4 : fdOf Try.prog 108 4 = some (4, 1, false) := by kernel_rfl
@[go_sem] theorem Try.tsz109 : tszOf Try.prog 109 = some (3, true) := by kernel_rfl
theorem Try.cz109 : Try.prog.cellsOf 109 = 3 := by kernel_rfl
@[go_sem] theorem Try.udef109 : (Try.prog.underlying 109).isSome = true := by kernel_rfl
@[go_sem] theorem Try.zero109 : zeroOf Try.prog 109 = some [.int .i64 0, .int .i64 0, .int .i64 0] := by kernel_rfl
@[go_sem] theorem Try.flatEq109 : flatEq Try.prog 109 = some [.int .i64, .int .i64, .int .i64] := by kernel_rfl
@[go_sem] theorem Try.pl109 : plOf Try.prog 109 = some [(0, 1), (1, 1), (2, 1)] := by kernel_rfl
@[go_sem] theorem Try.fd109_0 : fdOf Try.prog 109 0 = some (0, 1, false) := by kernel_rfl
@[go_sem] theorem Try.fd109_1 : fdOf Try.prog 109 1 = some (1, 1, false) := by kernel_rfl
@[go_sem] theorem Try.fd109_2 : fdOf Try.prog 109 2 = some (2, 1, false) := by kernel_rfl
@[go_sem] theorem Try.tsz110 : tszOf Try.prog 110 = some (1, false) := by kernel_rfl
@[go_sem] theorem Try.udef110 : (Try.prog.underlying 110).isSome = true := by kernel_rfl
@[go_sem] theorem Try.zero110 : zeroOf Try.prog 110 = some [.lit ((Go.Value.nilFunc))] := by kernel_rfl
@[go_sem] theorem Try.tsz111 : tszOf Try.prog 111 = some (1, false) := by kernel_rfl
@[go_sem] theorem Try.udef111 : (Try.prog.underlying 111).isSome = true := by kernel_rfl
@[go_sem] theorem Try.zero111 : zeroOf Try.prog 111 = some [.lit ((Go.Value.nilFunc))] := by kernel_rfl
@[go_sem] theorem Try.tsz112 : tszOf Try.prog 112 = some (1, false) := by kernel_rfl
@[go_sem] theorem Try.udef112 : (Try.prog.underlying 112).isSome = true := by kernel_rfl
@[go_sem] theorem Try.zero112 : zeroOf Try.prog 112 = some [.lit ((Go.Value.nilFunc))] := by kernel_rfl
@[go_sem] theorem Try.tsz113 : tszOf Try.prog 113 = some (1, false) := by kernel_rfl
@[go_sem] theorem Try.udef113 : (Try.prog.underlying 113).isSome = true := by kernel_rfl
@[go_sem] theorem Try.zero113 : zeroOf Try.prog 113 = some [.lit ((Go.Value.nilFunc))] := by kernel_rfl
@[go_sem] theorem Try.tsz114 : tszOf Try.prog 114 = some (1, false) := by kernel_rfl
@[go_sem] theorem Try.udef114 : (Try.prog.underlying 114).isSome = true := by kernel_rfl
@[go_sem] theorem Try.zero114 : zeroOf Try.prog 114 = some [.lit ((Go.Value.nilFunc))] := by kernel_rfl
@[go_sem] theorem Try.tsz116 : tszOf Try.prog 116 = some (1, false) := by kernel_rfl
@[go_sem] theorem Try.udef116 : (Try.prog.underlying 116).isSome = true := by kernel_rfl
@[go_sem] theorem Try.zero116 : zeroOf Try.prog 116 = some [.lit ((Go.Value.nilFunc))] := by kernel_rfl
@[go_sem] theorem Try.tsz117 : tszOf Try.prog 117 = some (1, false) := by kernel_rfl
@[go_sem] theorem Try.udef117 : (Try.prog.underlying 117).isSome = true := by kernel_rfl
@[go_sem] theorem Try.zero117 : zeroOf Try.prog 117 = some [.lit ((Go.Value.nilFunc))] := by kernel_rfl
@[go_sem] theorem Try.tsz118 : tszOf Try.prog 118 = some (1, false) := by kernel_rfl
@[go_sem] theorem Try.udef118 : (Try.prog.underlying 118).isSome = true := by kernel_rfl
@[go_sem] theorem Try.zero118 : zeroOf Try.prog 118 = some [.nilsl] := by kernel_rfl
@[go_sem] theorem Try.el118 : elOf Try.prog 118 = some (109, 3, 24) := by kernel_rfl
@[go_sem] theorem Try.isSl118 : isSl Try.prog 118 = true := by kernel_rfl
@[go_sem] theorem Try.tsz119 : tszOf Try.prog 119 = some (1, false) := by kernel_rfl
@[go_sem] theorem Try.udef119 : (Try.prog.underlying 119).isSome = true := by kernel_rfl
@[go_sem] theorem Try.zero119 : zeroOf Try.prog 119 = some [.lit ((Go.Value.nilFunc))] := by kernel_rfl
@[go_sem] theorem Try.tsz120 : tszOf Try.prog 120 = some (1, false) := by kernel_rfl
@[go_sem] theorem Try.udef120 : (Try.prog.underlying 120).isSome = true := by kernel_rfl
@[go_sem] theorem Try.zero120 : zeroOf Try.prog 120 = some [.lit ((Go.Value.nilFunc))] := by kernel_rfl
@[go_sem] theorem Try.tsz121 : tszOf Try.prog 121 = some (1, false) := by kernel_rfl
@[go_sem] theorem Try.udef121 : (Try.prog.underlying 121).isSome = true := by kernel_rfl
@[go_sem] theorem Try.zero121 : zeroOf Try.prog 121 = some [.lit ((Go.Value.nilFunc))] := by kernel_rfl
@[go_sem] theorem Try.tsz122 : tszOf Try.prog 122 = some (1, false) := by kernel_rfl
@[go_sem] theorem Try.udef122 : (Try.prog.underlying 122).isSome = true := by kernel_rfl
@[go_sem] theorem Try.zero122 : zeroOf Try.prog 122 = some [.lit ((Go.Value.nilFunc))] := by kernel_rfl
@[go_sem] theorem Try.tsz123 : tszOf Try.prog 123 = some (1, false) := by kernel_rfl
@[go_sem] theorem Try.udef123 : (Try.prog.underlying 123).isSome = true := by kernel_rfl
@[go_sem] theorem Try.zero123 : zeroOf Try.prog 123 = some [.lit ((Go.Value.nilFunc))] := by kernel_rfl
@[go_sem] theorem Try.tsz124 : tszOf Try.prog 124 = some (1, false) := by kernel_rfl
@[go_sem] theorem Try.udef124 : (Try.prog.underlying 124).isSome = true := by kernel_rfl
@[go_sem] theorem Try.zero124 : zeroOf Try.prog 124 = some [.lit ((Go.Value.nilFunc))] := by kernel_rfl
@[go_sem] theorem Try.tsz125 : tszOf Try.prog 125 = some (1, false) := by kernel_rfl
@[go_sem] theorem Try.udef125 : (Try.prog.underlying 125).isSome = true := by kernel_rfl
@[go_sem] theorem Try.zero125 : zeroOf Try.prog 125 = some [.lit ((Go.Value.nilFunc))] := by kernel_rfl
@[go_sem] theorem Try.tsz126 : tszOf Try.prog 126 = some (5, true) := by kernel_rfl
@[go_sem] theorem Try.udef126 : (Try.prog.underlying 126).isSome = true := by kernel_rfl
@[go_sem] theorem Try.zero126 : zeroOf Try.prog 126 = some [.int .i64 0, .int .i64 0, .int .i64 0, .int .i64 0, .int .i64 0] := by kernel_rfl
@[go_sem] theorem Try.pl126 : plOf Try.prog 126 = some [(0, 1), (1, 1), (2, 1), (3, 1), (4, 1)] := by kernel_rfl
@[go_sem] theorem Try.tsz127 : tszOf Try.prog 127 = some (5, true) := by kernel_rfl
@[go_sem] theorem Try.udef127 : (Try.prog.underlying 127).isSome = true := by kernel_rfl
@[go_sem] theorem Try.zero127 : zeroOf Try.prog 127 = some [.int .i64 0, .int .i64 0, .int .i64 0, .int .i64 0, .int .i64 0] := by kernel_rfl
@[go_sem] theorem Try.flatEq127 : flatEq Try.prog 127 = some [.int .i64, .int .i64, .int .i64, .int .i64, .int .i64] := by kernel_rfl
@[go_sem] theorem Try.pl127 : plOf Try.prog 127 = some [(0, 1), (1, 1), (2, 1), (3, 1), (4, 1)] := by kernel_rfl
@[go_sem] theorem Try.fd127_0 : fdOf Try.prog 127 0 = some (0, 1, false) := by kernel_rfl
@[go_sem] theorem Try.fd127_1 : fdOf Try.prog 127 1 = some (1, 1, false) := by kernel_rfl
@[go_sem] theorem Try.fd127_2 : fdOf Try.prog 127 2 = some (2, 1, false) := by kernel_rfl
@[go_sem] theorem Try.fd127_3 : fdOf Try.prog 127 3 = some (3, 1, false) := by kernel_rfl
@[go_sem] theorem Try.fd127_4 : fdOf Try.prog 127 4 = some (4, 1, false) := by kernel_rfl
@[go_sem] theorem Try.tsz128 : tszOf Try.prog 128 = some (1, false) := by kernel_rfl
@[go_sem] theorem Try.udef128 : (Try.prog.underlying 128).isSome = true := by kernel_rfl
@[go_sem] theorem Try.zero128 : zeroOf Try.prog 128 = some [.lit ((Go.Value.nilFunc))] := by kernel_rfl
@[go_sem] theorem Try.tsz129 : tszOf Try.prog 129 = some (5, true) := by kernel_rfl
@[go_sem] theorem Try.udef129 : (Try.prog.underlying 129).isSome = true := by kernel_rfl
@[go_sem] theorem Try.zero129 : zeroOf Try.prog 129 = some [.int .i64 0, .int .i64 0, .int .i64 0, .int .i64 0, .int .i64 0] := by kernel_rfl
@[go_sem] theorem Try.flatEq129 : flatEq Try.prog 129 = some [.int .i64, .int .i64, .int .i64, .int .i64, .int .i64] := by kernel_rfl
@[go_sem] theorem Try.pl129 : plOf Try.prog 129 = some [(0, 1), (1, 1), (2, 1), (3, 1), (4, 1)] := by kernel_rfl
@[go_sem] theorem Try.fd129_0 : fdOf Try.prog 129 0 = some (0, 1, false) := by kernel_rfl
@[go_sem] theorem Try.fd129_1 : fdOf Try.prog 129 1 = some (1, 1, false) := by kernel_rfl
@[go_sem] theorem Try.fd129_2 : fdOf Try.prog 129 2 = some (2, 1, false) := by kernel_rfl
@[go_sem] theorem Try.fd129_3 : fdOf Try.prog 129 3 = some (3, 1, false) := by kernel_rfl
@[go_sem] theorem Try.fd129_4 : fdOf Try.prog 129 4 = some (4, 1, false) := by kernel_rfl
@[go_sem] theorem Try.tsz130 : tszOf Try.prog 130 = some (1, false) := by kernel_rfl
@[go_sem] theorem Try.udef130 : (Try.prog.underlying 130).isSome = true := by kernel_rfl
@[go_sem] theorem Try.zero130 : zeroOf Try.prog 130 = some [.lit ((Go.Value.nilFunc))] := by kernel_rfl
@[go_sem] theorem Try.tsz131 : tszOf Try.prog 131 = some (1, false) := by kernel_rfl
@[go_sem] theorem Try.udef131 : (Try.prog.underlying 131).isSome = true := by kernel_rfl
@[go_sem] theorem Try.zero131 : zeroOf Try.prog 131 = some [.lit ((Go.Value.nilFunc))] := by kernel_rfl
@[go_sem] theorem Try.tsz132 : tszOf Try.prog 132 = some (1, false) := by kernel_rfl
@[go_sem] theorem Try.udef132 : (Try.prog.underlying 132).isSome = true := by kernel_rfl
@[go_sem] theorem Try.zero132 : zeroOf Try.prog 132 = some [.lit ((Go.Value.nilFunc))] := by kernel_rfl
@[go_sem] theorem Try.tsz133 : tszOf Try.prog 133 = some (1, false) := by kernel_rfl
@[go_sem] theorem Try.udef133 : (Try.prog.underlying 133).isSome = true := by kernel_rfl
@[go_sem] theorem Try.zero133 : zeroOf Try.prog 133 = some [.lit ((Go.Value.nilFunc))] := by kernel_rfl
@[go_sem] theorem Try.tsz134 : tszOf Try.prog 134 = some (1, false) := by kernel_rfl
@[go_sem] theorem Try.udef134 : (Try.prog.underlying 134).isSome = true := by kernel_rfl
@[go_sem] theorem Try.zero134 : zeroOf Try.prog 134 = some [.nilsl] := by kernel_rfl
@[go_sem] theorem Try.el134 : elOf Try.prog 134 = some (264, 2, 16) := by kernel_rfl
@[go_sem] theorem Try.isSl134 : isSl Try.prog 134 = true := by kernel_rfl
@[go_sem] theorem Try.tsz135 : tszOf Try.prog 135 = some (4, true) := by kernel_rfl
@[go_sem] theorem Try.udef135 : (Try.prog.underlying 135).isSome = true := by kernel_rfl
@[go_sem] theorem Try.zero135 : zeroOf Try.prog 135 = some [.int .i64 0, .str ByteArray.empty, .nilsl, .int .i64 0] := by kernel_rfl
@[go_sem] theorem Try.pl135 : plOf Try.prog 135 = some [(0, 1), (1, 1), (2, 1), (3, 1)] := by kernel_rfl
@[go_sem] theorem Try.tsz136 : tszOf Try.prog 136 = some (4, true) := by kernel_rfl
@[go_sem] theorem Try.udef136 : (Try.prog.underlying 136).isSome = true := by kernel_rfl
@[go_sem] theorem Try.zero136 : zeroOf Try.prog 136 = some [.int .i64 0, .str ByteArray.empty, .nilsl, .int .i64 0] := by kernel_rfl
@[go_sem] theorem Try.pl136 : plOf Try.prog 136 = some [(0, 1), (1, 1), (2, 1), (3, 1)] := by kernel_rfl
@[go_sem] theorem Try.fd136_0 : fdOf Try.prog 136 0 = some (0, 1, false) := by kernel_rfl
@[go_sem] theorem Try.fd136_1 : fdOf Try.prog 136 1 = some (1, 1, false) := by kernel_rfl
@[go_sem] theorem Try.fd136_2 : fdOf Try.prog 136 2 = some (2, 1, false) := by kernel_rfl
@[go_sem] theorem Try.fd136_3 : fdOf Try.prog 136 3 = some (3, 1, false) := by kernel_rfl
@[go_sem] theorem Try.tsz137 : tszOf Try.prog 137 = some (1, false) := by kernel_rfl
@[go_sem] theorem Try.udef137 : (Try.prog.underlying 137).isSome = true := by kernel_rfl
@[go_sem] theorem Try.zero137 : zeroOf Try.prog 137 = some [.lit ((Go.Value.nilFunc))] := by kernel_rfl
@[go_sem] theorem Try.tsz138 : tszOf Try.prog 138 = some (2, true) := by kernel_rfl
@[go_sem] theorem Try.udef138 : (Try.prog.underlying 138).isSome = true := by kernel_rfl
@[go_sem] theorem Try.zero138 : zeroOf Try.prog 138 = some [.int .i64 0, .int .i64 0] := by kernel_rfl
@[go_sem] theorem Try.pl138 : plOf Try.prog 138 = some [(0, 1), (1, 1)] := by kernel_rfl
@[go_sem] theorem Try.tsz139 : tszOf Try.prog 139 = some (2, true) := by kernel_rfl
@[go_sem] theorem Try.udef139 : (Try.prog.underlying 139).isSome = true := by kernel_rfl
@[go_sem] theorem Try.zero139 : zeroOf Try.prog 139 = some [.int .i64 0, .int .i64 0] := by kernel_rfl
@[go_sem] theorem Try.flatEq139 : flatEq Try.prog 139 = some [.int .i64, .int .i64] := by kernel_rfl
@[go_sem] theorem Try.pl139 : plOf Try.prog 139 = some [(0, 1), (1, 1)] := by kernel_rfl
@[go_sem] theorem Try.fd139_0 : fdOf Try.prog 139 0 = some (0, 1, false) := by kernel_rfl
@[go_sem] theorem Try.fd139_1 : fdOf Try.prog 139 1 = some (1, 1, false) := by kernel_rfl
@[go_sem] theorem Try.tsz140 : tszOf Try.prog 140 = some (1, false) := by kernel_rfl
@[go_sem] theorem Try.udef140 : (Try.prog.underlying 140).isSome = true := by kernel_rfl
@[go_sem] theorem Try.zero140 : zeroOf Try.prog 140 = some [.nilsl] := by kernel_rfl
@[go_sem] theorem Try.el140 : elOf Try.prog 140 = some (139, 2, 16) := by kernel_rfl
@[go_sem] theorem Try.isSl140 : isSl Try.prog 140 = true := by kernel_rfl
@[go_sem] theorem Try.tsz141 : tszOf Try.prog 141 = some (4, true) := by kernel_rfl
@[go_sem] theorem Try.udef141 : (Try.prog.underlying 141).isSome = true := by kernel_rfl
@[go_sem] theorem Try.zero141 : zeroOf Try.prog 141 = some [.int .i64 0, .str ByteArray.empty, .nilsl, .int .i64 0] := by kernel_rfl
@[go_sem] theorem Try.pl141 : plOf Try.prog 141 = some [(0, 1), (1, 1), (2, 1), (3, 1)] := by kernel_rfl
@[go_sem] theorem Try.tsz142 : tszOf Try.prog 142 = some (4, true) := by kernel_rfl
@[go_sem] theorem Try.udef142 : (Try.prog.underlying 142).isSome = true := by kernel_rfl
@[go_sem] theorem Try.zero142 : zeroOf Try.prog 142 = some [.int .i64 0, .str ByteArray.empty, .nilsl, .int .i64 0] := by kernel_rfl
@[go_sem] theorem Try.pl142 : plOf Try.prog 142 = some [(0, 1), (1, 1), (2, 1), (3, 1)] := by kernel_rfl
@[go_sem] theorem Try.fd142_0 : fdOf Try.prog 142 0 = some (0, 1, false) := by kernel_rfl
@[go_sem] theorem Try.fd142_1 : fdOf Try.prog 142 1 = some (1, 1, false) := by kernel_rfl
@[go_sem] theorem Try.fd142_2 : fdOf Try.prog 142 2 = some (2, 1, false) := by kernel_rfl
@[go_sem] theorem Try.fd142_3 : fdOf Try.prog 142 3 = some (3, 1, false) := by kernel_rfl
@[go_sem] theorem Try.tsz143 : tszOf Try.prog 143 = some (1, false) := by kernel_rfl
@[go_sem] theorem Try.udef143 : (Try.prog.underlying 143).isSome = true := by kernel_rfl
@[go_sem] theorem Try.zero143 : zeroOf Try.prog 143 = some [.lit ((Go.Value.nilFunc))] := by kernel_rfl
@[go_sem] theorem Try.tsz146 : tszOf Try.prog 146 = some (1, false) := by kernel_rfl
@[go_sem] theorem Try.udef146 : (Try.prog.underlying 146).isSome = true := by kernel_rfl
@[go_sem] theorem Try.zero146 : zeroOf Try.prog 146 = some [.lit ((Go.Value.nilFunc))] := by kernel_rfl
@[go_sem] theorem Try.tsz147 : tszOf Try.prog 147 = some (1, false) := by kernel_rfl
@[go_sem] theorem Try.udef147 : (Try.prog.underlying 147).isSome = true := by kernel_rfl
@[go_sem] theorem Try.zero147 : zeroOf Try.prog 147 = some [.lit ((Go.Value.nilFunc))] := by kernel_rfl
@[go_sem] theorem Try.tsz150 : tszOf Try.prog 150 = some (1, false) := by kernel_rfl
@[go_sem] theorem Try.udef150 : (Try.prog.underlying 150).isSome = true := by kernel_rfl
@[go_sem] theorem Try.zero150 : zeroOf Try.prog 150 = some [.lit ((Go.Value.nilFunc))] := by kernel_rfl
@[go_sem] theorem Try.tsz151 : tszOf Try.prog 151 = some (1, false) := by kernel_rfl
@[go_sem] theorem Try.udef151 : (Try.prog.underlying 151).isSome = true := by kernel_rfl
@[go_sem] theorem Try.zero151 : zeroOf Try.prog 151 = some [.lit ((Go.Value.nilFunc))] := by kernel_rfl
@[go_sem] theorem Try.tsz152 : tszOf Try.prog 152 = some (1, false) := by kernel_rfl
@[go_sem] theorem Try.udef152 : (Try.prog.underlying 152).isSome = true := by kernel_rfl
@[go_sem] theorem Try.zero152 : zeroOf Try.prog 152 = some [.lit ((Go.Value.nilFunc))] := by kernel_rfl
@[go_sem] theorem Try.tsz153 : tszOf Try.prog 153 = some (1, false) := by kernel_rfl
@[go_sem] theorem Try.udef153 : (Try.prog.underlying 153).isSome = true := by kernel_rfl
@[go_sem] theorem Try.zero153 : zeroOf Try.prog 153 = some [.lit ((Go.Value.nilFunc))] := by kernel_rfl
@[go_sem] theorem Try.tsz154 : tszOf Try.prog 154 = some (1, false) := by kernel_rfl
@[go_sem] theorem Try.udef154 : (Try.prog.underlying 154).isSome = true := by kernel_rfl
@[go_sem] theorem Try.zero154 : zeroOf Try.prog 154 = some [.lit ((Go.Value.nilFunc))] := by kernel_rfl
@[go_sem] theorem Try.tsz155 : tszOf Try.prog 155 = some (1, false) := by kernel_rfl
@[go_sem] theorem Try.udef155 : (Try.prog.underlying 155).isSome = true := by kernel_rfl
@[go_sem] theorem Try.zero155 : zeroOf Try.prog 155 = some [.lit ((Go.Value.nilFunc))] := by kernel_rfl
@[go_sem] theorem Try.tsz156 : tszOf Try.prog 156 = some (1, false) := by kernel_rfl
@[go_sem] theorem Try.udef156 : (Try.prog.underlying 156).isSome = true := by kernel_rfl
@[go_sem] theorem Try.zero156 : zeroOf Try.prog 156 = some [.lit ((Go.Value.nilFunc))] := by kernel_rfl
@[go_sem] theorem Try.tsz157 : tszOf Try.prog 157 = some (1, false) := by kernel_rfl
@[go_sem] theorem Try.udef157 : (Try.prog.underlying 157).isSome = true := by kernel_rfl
@[go_sem] theorem Try.zero157 : zeroOf Try.prog 157 = some [.lit ((Go.Value.nilFunc))] := by kernel_rfl
@[go_sem] theorem Try.tsz158 : tszOf Try.prog 158 = some (7, true) := by kernel_rfl
@[go_sem] theorem Try.udef158 : (Try.prog.underlying 158).isSome = true := by kernel_rfl
@[go_sem] theorem Try.zero158 : zeroOf Try.prog 158 = some [.int .i64 0, .int .i64 0, .int .i64 0, .int .i64 0, .int .i64 0, .int .i64 0, .int .i64 0] := by kernel_rfl
@[go_sem] theorem Try.pl158 : plOf Try.prog 158 = some [(0, 1), (1, 1), (2, 1), (3, 1), (4, 1), (5, 1), (6, 1)] := by kernel_rfl
@[go_sem] theorem Try.tsz159 : tszOf Try.prog 159 = some (7, true) := by kernel_rfl
@[go_sem] theorem Try.udef159 : (Try.prog.underlying 159).isSome = true := by kernel_rfl
@[go_sem] theorem Try.zero159 : zeroOf Try.prog 159 = some [.int .i64 0, .int .i64 0, .int .i64 0, .int .i64 0, .int .i64 0, .int .i64 0, .int .i64 0] := by kernel_rfl
@[go_sem] theorem Try.flatEq159 : flatEq Try.prog 159 = some [.int .i64, .int .i64, .int .i64, .int .i64, .int .i64, .int .i64, .int .i64] := by kernel_rfl
@[go_sem] theorem Try.pl159 : plOf Try.prog 159 = some [(0, 1), (1, 1), (2, 1), (3, 1), (4, 1), (5, 1), (6, 1)] := by kernel_rfl
@[go_sem] theorem Try.fd159_0 : fdOf Try.prog 159 0 = some (0, 1, false) := by kernel_rfl
@[go_sem] theorem Try.fd159_1 : fdOf Try.prog 159 1 = some (1, 1, false) := by kernel_rfl
@[go_sem] theorem Try.fd159_2 : fdOf Try.prog 159 2 = some (2, 1, false) := by kernel_rfl
@[go_sem] theorem Try.fd159_3 : fdOf Try.prog 159 3 = some (3, 1, false) := by kernel_rfl
@[go_sem] theorem Try.fd159_4 : fdOf Try.prog 159 4 = some (4, 1, false) := by kernel_rfl
@[go_sem] theorem Try.fd159_5 : fdOf Try.prog 159 5 = some (5, 1, false) := by kernel_rfl
@[go_sem] theorem Try.fd159_6 : fdOf Try.prog 159 6 = some (6, 1, false) := by kernel_rfl
@[go_sem] theorem Try.tsz162 : tszOf Try.prog 162 = some (7, true) := by kernel_rfl
@[go_sem] theorem Try.udef162 : (Try.prog.underlying 162).isSome = true := by kernel_rfl
@[go_sem] theorem Try.zero162 : zeroOf Try.prog 162 = some [.int .i64 0, .int .i64 0, .int .i64 0, .int .i64 0, .int .i64 0, .int .i64 0, .int .i64 0] := by kernel_rfl
@[go_sem] theorem Try.flatEq162 : flatEq Try.prog 162 = some [.int .i64, .int .i64, .int .i64, .int .i64, .int .i64, .int .i64, .int .i64] := by kernel_rfl
@[go_sem] theorem Try.pl162 : plOf Try.prog 162 = some [(0, 1), (1, 1), (2, 1), (3, 1), (4, 1), (5, 1), (6, 1)] := by kernel_rfl
@[go_sem] theorem Try.fd162_0 : fdOf Try.prog 162 0 = some (0, 1, false) := by kernel_rfl
@[go_sem] theorem Try.fd162_1 : fdOf Try.prog 162 1 = some (1, 1, false) := by kernel_rfl
@[go_sem] theorem Try.fd162_2 : fdOf Try.prog 162 2 = some (2, 1, false) := by kernel_rfl
@[go_sem] theorem Try.fd162_3 : fdOf Try.prog 162 3 = some (3, 1, false) := by kernel_rfl
@[go_sem] theorem Try.fd162_4 : fdOf Try.prog 162 4 = some (4, 1, false) := by kernel_rfl
@[go_sem] theorem Try.fd162_5 : fdOf Try.prog 162 5 = some (5, 1, false) := by kernel_rfl
@[go_sem] theorem Try.fd162_6 : fdOf Try.prog 162 6 = some (6, 1, false) := by kernel_rfl
@[go_sem] theorem Try.tsz165 : tszOf Try.prog 165 = some (1, false) := by kernel_rfl
@[go_sem] theorem Try.udef165 : (Try.prog.underlying 165).isSome = true := by kernel_rfl
@[go_sem] theorem Try.zero165 : zeroOf Try.prog 165 = some [.lit ((Go.Value.nilFunc))] := by kernel_rfl
@[go_sem] theorem Try.tsz166 : tszOf Try.prog 166 = some (1, false) := by kernel_rfl
@[go_sem] theorem Try.udef166 : (Try.prog.underlying 166).isSome = true := by kernel_rfl
@[go_sem] theorem Try.zero166 : zeroOf Try.prog 166 = some [.lit ((Go.Value.nilFunc))] := by kernel_rfl
@[go_sem] theorem Try.tsz167 : tszOf Try.prog 167 = some (1, false) := by kernel_rfl
@[go_sem] theorem Try.udef167 : (Try.prog.underlying 167).isSome = true := by kernel_rfl
@[go_sem] theorem Try.zero167 : zeroOf Try.prog 167 = some [.lit ((Go.Value.nilFunc))] := by kernel_rfl
@[go_sem] theorem Try.tsz182 : tszOf Try.prog 182 = some (3, true) := by kernel_rfl
@[go_sem] theorem Try.udef182 : (Try.prog.underlying 182).isSome = true := by kernel_rfl
@[go_sem] theorem Try.zero182 : zeroOf Try.prog 182 = some [.int .i64 0, .bool false, .int .i64 0] := by kernel_rfl
@[go_sem] theorem Try.pl182 : plOf Try.prog 182 = some [(0, 1), (1, 1), (2, 1)] := by kernel_rfl
@[go_sem] theorem Try.tsz183 : tszOf Try.prog 183 = some (3, true) := by kernel_rfl
@[go_sem] theorem Try.udef183 : (Try.prog.underlying 183).isSome = true := by kernel_rfl
@[go_sem] theorem Try.zero183 : zeroOf Try.prog 183 = some [.int .i64 0, .bool false, .int .i64 0] := by kernel_rfl
@[go_sem] theorem Try.flatEq183 : flatEq Try.prog 183 = some [.int .i64, .bool, .int .i64] := by kernel_rfl
@[go_sem] theorem Try.pl183 : plOf Try.prog 183 = some [(0, 1), (1, 1), (2, 1)] := by kernel_rfl
@[go_sem] theorem Try.fd183_0 : fdOf Try.prog 183 0 = some (0, 1, false) := by kernel_rfl
@[go_sem] theorem Try.fd183_1 : fdOf Try.prog 183 1 = some (1, 1, false) := by kernel_rfl
@[go_sem] theorem Try.fd183_2 : fdOf Try.prog 183 2 = some (2, 1, false) := by kernel_rfl
@[go_sem] theorem Try.tsz184 : tszOf Try.prog 184 = some (1, false) := by kernel_rfl
@[go_sem] theorem Try.udef184 : (Try.prog.underlying 184).isSome = true := by kernel_rfl
@[go_sem] theorem Try.zero184 : zeroOf Try.prog 184 = some [.lit ((Go.Value.nilFunc))] := by kernel_rfl
@[go_sem] theorem Try.tsz185 : tszOf Try.prog 185 = some (1, false) := by kernel_rfl
@[go_sem] theorem Try.udef185 : (Try.prog.underlying 185).isSome = true := by kernel_rfl
@[go_sem] theorem Try.zero185 : zeroOf Try.prog 185 = some [.lit ((Go.Value.nilFunc))] := by kernel_rfl
@[go_sem] theorem Try.tsz186 : tszOf Try.prog 186 = some (1, false) := by kernel_rfl
@[go_sem] theorem Try.udef186 : (Try.prog.underlying 186).isSome = true := by kernel_rfl
@[go_sem] theorem Try.zero186 : zeroOf Try.prog 186 = some [.lit ((Go.Value.nilFunc))] := by kernel_rfl
@[go_sem] theorem Try.tsz188 : tszOf Try.prog 188 = some (1, false) := by kernel_rfl
@[go_sem] theorem Try.udef188 : (Try.prog.underlying 188).isSome = true := by kernel_rfl
@[go_sem] theorem Try.zero188 : zeroOf Try.prog 188 = some [.lit ((Go.Value.nilFunc))] := by kernel_rfl
@[go_sem] theorem Try.tsz190 : tszOf Try.prog 190 = some (1, false) := by kernel_rfl
@[go_sem] theorem Try.udef190 : (Try.prog.underlying 190).isSome = true := by kernel_rfl
@[go_sem] theorem Try.zero190 : zeroOf Try.prog 190 = some [.lit ((Go.Value.nilFunc))] := by kernel_rfl
@[go_sem] theorem Try.tsz199 : tszOf Try.prog 199 = some (1, false) := by kernel_rfl
@[go_sem] theorem Try.udef199 : (Try.prog.underlying 199).isSome = true := by kernel_rfl
@[go_sem] theorem Try.zero199 : zeroOf Try.prog 199 = some [.lit ((Go.Value.nilFunc))] := by kernel_rfl
@[go_sem] theorem Try.tsz201 : tszOf Try.prog 201 = some (1, false) := by kernel_rfl
@[go_sem] theorem Try.udef201 : (Try.prog.underlying 201).isSome = true := by kernel_rfl
@[go_sem] theorem Try.zero201 : zeroOf Try.prog 201 = some [.lit ((Go.Value.nilFunc))] := by kernel_rfl
@[go_sem] theorem Try.tsz202 : tszOf Try.prog 202 = some (1, false) := by kernel_rfl
@[go_sem] theorem Try.udef202 : (Try.prog.underlying 202).isSome = true := by kernel_rfl
@[go_sem] theorem Try.zero202 : zeroOf Try.prog 202 = some [.lit ((Go.Value.nilFunc))] := by kernel_rfl
@[go_sem] theorem Try.tsz203 : tszOf Try.prog 203 = some (1, false) := by kernel_rfl
@[go_sem] theorem Try.udef203 : (Try.prog.underlying 203).isSome = true := by kernel_rfl
@[go_sem] theorem Try.zero203 : zeroOf Try.prog 203 = some [.lit ((Go.Value.nilFunc))] := by kernel_rfl
@[go_sem] theorem Try.tsz204 : tszOf Try.prog 204 = some (1, false) := by kernel_rfl
@[go_sem] theorem Try.udef204 : (Try.prog.underlying 204).isSome = true := by kernel_rfl
@[go_sem] theorem Try.zero204 : zeroOf Try.prog 204 = some [.lit ((Go.Value.nilFunc))] := by kernel_rfl
@[go_sem] theorem Try.tsz205 : tszOf Try.prog 205 = some (1, false) := by kernel_rfl
@[go_sem] theorem Try.udef205 : (Try.prog.underlying 205).isSome = true := by kernel_rfl
@[go_sem] theorem Try.zero205 : zeroOf Try.prog 205 = some [.lit ((Go.Value.nilFunc))] := by kernel_rfl
@[go_sem] theorem Try.tsz206 : tszOf Try.prog 206 = some (1, false) := by kernel_rfl
@[go_sem] theorem Try.udef206 : (Try.prog.underlying 206).isSome = true := by kernel_rfl
@[go_sem] theorem Try.zero206 : zeroOf Try.prog 206 = some [.lit ((Go.Value.nilFunc))] := by kernel_rfl
@[go_sem] theorem Try.tsz211 : tszOf Try.prog 211 = some (1, false) := by kernel_rfl
@[go_sem] theorem Try.udef211 : (Try.prog.underlying 211).isSome = true := by kernel_rfl
@[go_sem] theorem Try.zero211 : zeroOf Try.prog 211 = some [.lit ((Go.Value.nilFunc))] := by kernel_rfl
@[go_sem] theorem Try.tsz212 : tszOf Try.prog 212 = some (1, false) := by kernel_rfl
@[go_sem] theorem Try.udef212 : (Try.prog.underlying 212).isSome = true := by kernel_rfl
@[go_sem] theorem Try.zero212 : zeroOf Try.prog 212 = some [.lit ((Go.Value.nilFunc))] := by kernel_rfl
@[go_sem] theorem Try.tsz213 : tszOf Try.prog 213 = some (1, false) := by kernel_rfl
@[go_sem] theorem Try.udef213 : (Try.prog.underlying 213).isSome = true := by kernel_rfl
@[go_sem] theorem Try.zero213 : zeroOf Try.prog 213 = some [.lit ((Go.Value.nilFunc))] := by kernel_rfl
@[go_sem] theorem Try.tsz214 : tszOf Try.prog 214 = some (1, false) := by kernel_rfl
@[go_sem] theorem Try.udef214 : (Try.prog.underlying 214).isSome = true := by kernel_rfl
@[go_sem] theorem Try.zero214 : zeroOf Try.prog 214 = some [.lit ((Go.Value.nilFunc))] := by kernel_rfl
@[go_sem] theorem Try.tsz215 : tszOf Try.prog 215 = some (1, false) := by kernel_rfl
@[go_sem] theorem Try.udef215 : (Try.prog.underlying 215).isSome = true := by kernel_rfl
@[go_sem] theorem Try.zero215 : zeroOf Try.prog 215 = some [.lit ((Go.Value.nilFunc))] := by kernel_rfl
@[go_sem] theorem Try.tsz216 : tszOf Try.prog 216 = some (1, false) := by kernel_rfl
@[go_sem] theorem Try.udef216 : (Try.prog.underlying 216).isSome = true := by kernel_rfl
@[go_sem] theorem Try.zero216 : zeroOf Try.prog 216 = some [.lit ((Go.Value.nilFunc))] := by kernel_rfl
@[go_sem] theorem Try.tsz217 : tszOf Try.prog 217 = some (1, false) := by kernel_rfl
@[go_sem] theorem Try.udef217 : (Try.prog.underlying 217).isSome = true := by kernel_rfl
@[go_sem] theorem Try.zero217 : zeroOf Try.prog 217 = some [.lit ((Go.Value.nilFunc))] := by kernel_rfl
@[go_sem] theorem Try.tsz218 : tszOf Try.prog 218 = some (1, false) := by kernel_rfl
@[go_sem] theorem Try.udef218 : (Try.prog.underlying 218).isSome = true := by kernel_rfl
@[go_sem] theorem Try.zero218 : zeroOf Try.prog 218 = some [.nilsl] := by kernel_rfl
@[go_sem] theorem Try.el218 : elOf Try.prog 218 = some (140, 1, 24) := by kernel_rfl
@[go_sem] theorem Try.isSl218 : isSl Try.prog 218 = true := by kernel_rfl
@[go_sem] theorem Try.tsz219 : tszOf Try.prog 219 = some (1, false) := by kernel_rfl
@[go_sem] theorem Try.udef219 : (Try.prog.underlying 219).isSome = true := by kernel_rfl
@[go_sem] theorem Try.zero219 : zeroOf Try.prog 219 = some [.lit ((Go.Value.nilFunc))] := by kernel_rfl
@[go_sem] theorem Try.tsz220 : tszOf Try.prog 220 = some (1, false) := by kernel_rfl
@[go_sem] theorem Try.udef220 : (Try.prog.underlying 220).isSome = true := by kernel_rfl
@[go_sem] theorem Try.zero220 : zeroOf Try.prog 220 = some [.lit ((Go.Value.nilFunc))] := by kernel_rfl
@[go_sem] theorem Try.tsz221 : tszOf Try.prog 221 = some (1, false) := by kernel_rfl
@[go_sem] theorem Try.udef221 : (Try.prog.underlying 221).isSome = true := by kernel_rfl
@[go_sem] theorem Try.zero221 : zeroOf Try.prog 221 = some [.lit ((Go.Value.nilFunc))] := by kernel_rfl
@[go_sem] theorem Try.tsz223 : tszOf Try.prog 223 = some (2, true) := by kernel_rfl
@[go_sem] theorem Try.udef223 : (Try.prog.underlying 223).isSome = true := by kernel_rfl
@[go_sem] theorem Try.zero223 : zeroOf Try.prog 223 = some [.int .i64 0, .int .i64 0] := by kernel_rfl
@[go_sem] theorem Try.pl223 : plOf Try.prog 223 = some [(0, 1), (1, 1)] := by kernel_rfl
@[go_sem] theorem Try.tsz224 : tszOf Try.prog 224 = some (2, true) := by kernel_rfl
@[go_sem] theorem Try.udef224 : (Try.prog.underlying 224).isSome = true := by kernel_rfl
@[go_sem] theorem Try.zero224 : zeroOf Try.prog 224 = some [.int .i64 0, .int .i64 0] := by kernel_rfl
@[go_sem] theorem Try.flatEq224 : flatEq Try.prog 224 = some [.int .i64, .int .i64] := by kernel_rfl
@[go_sem] theorem Try.pl224 : plOf Try.prog 224 = some [(0, 1), (1, 1)] := by kernel_rfl
@[go_sem] theorem Try.fd224_0 : fdOf Try.prog 224 0 = some (0, 1, false) := by kernel_rfl
@[go_sem] theorem Try.fd224_1 : fdOf Try.prog 224 1 = some (1, 1, false) := by kernel_rfl
@[go_sem] theorem Try.tsz227 : tszOf Try.prog 227 = some (1, false) := by kernel_rfl
@[go_sem] theorem Try.udef227 : (Try.prog.underlying 227).isSome = true := by kernel_rfl
@[go_sem] theorem Try.zero227 : zeroOf Try.prog 227 = some [.lit ((Go.Value.nilFunc))] := by kernel_rfl
@[go_sem] theorem Try.tsz228 : tszOf Try.prog 228 = some (1, false) := by kernel_rfl
@[go_sem] theorem Try.udef228 : (Try.prog.underlying 228).isSome = true := by kernel_rfl
@[go_sem] theorem Try.zero228 : zeroOf Try.prog 228 = some [.lit ((Go.Value.nilFunc))] := by kernel_rfl
@[go_sem] theorem Try.tsz229 : tszOf Try.prog 229 = some (2, true) := by kernel_rfl
@[go_sem] theorem Try.udef229 : (Try.prog.underlying 229).isSome = true := by kernel_rfl
@[go_sem] theorem Try.zero229 : zeroOf Try.prog 229 = some [.int .i64 0, .int .i64 0] := by kernel_rfl
@[go_sem] theorem Try.flatEq229 : flatEq Try.prog 229 = some [.int .i64, .int .i64] := by kernel_rfl
@[go_sem] theorem Try.pl229 : plOf Try.prog 229 = some [(0, 1), (1, 1)] := by kernel_rfl
@[go_sem] theorem Try.fd229_0 : fdOf Try.prog 229 0 = some (0, 1, false) := by kernel_rfl
@[go_sem] theorem Try.fd229_1 : fdOf Try.prog 229 1 = some (1, 1, false) := by kernel_rfl
@[go_sem] theorem Try.tsz230 : tszOf Try.prog 230 = some (1, false) := by kernel_rfl
@[go_sem] theorem Try.udef230 : (Try.prog.underlying 230).isSome = true := by kernel_rfl
@[go_sem] theorem Try.zero230 : zeroOf Try.prog 230 = some [.lit ((Go.Value.nilFunc))] := by kernel_rfl
@[go_sem] theorem Try.tsz231 : tszOf Try.prog 231 = some (1, false) := by kernel_rfl
@[go_sem] theorem Try.udef231 : (Try.prog.underlying 231).isSome = true := by kernel_rfl
@[go_sem] theorem Try.zero231 : zeroOf Try.prog 231 = some [.lit ((Go.Value.nilFunc))] := by kernel_rfl
@[go_sem] theorem Try.tsz237 : tszOf Try.prog 237 = some (1, false) := by kernel_rfl
@[go_sem] theorem Try.udef237 : (Try.prog.underlying 237).isSome = true := by kernel_rfl
@[go_sem] theorem Try.zero237 : zeroOf Try.prog 237 = some [.lit ((Go.Value.nilFunc))] := by kernel_rfl
@[go_sem] theorem Try.tsz243 : tszOf Try.prog 243 = some (1, false) := by kernel_rfl
@[go_sem] theorem Try.udef243 : (Try.prog.underlying 243).isSome = true := by kernel_rfl
@[go_sem] theorem Try.zero243 : zeroOf Try.prog 243 = some [.lit ((Go.Value.nilFunc))] := by kernel_rfl
@[go_sem] theorem Try.tsz244 : tszOf Try.prog 244 = some (1, false) := by kernel_rfl
@[go_sem] theorem Try.udef244 : (Try.prog.underlying 244).isSome = true := by kernel_rfl
@[go_sem] theorem Try.zero244 : zeroOf Try.prog 244 = some [.lit ((Go.Value.nilFunc))] := by kernel_rfl
@[go_sem] theorem Try.tsz245 : tszOf Try.prog 245 = some (1, false) := by kernel_rfl
@[go_sem] theorem Try.udef245 : (Try.prog.underlying 245).isSome = true := by kernel_rfl
@[go_sem] theorem Try.zero245 : zeroOf Try.prog 245 = some [.lit ((Go.Value.nilFunc))] := by kernel_rfl
@[go_sem] theorem Try.tsz249 : tszOf Try.prog 249 = some (1, false) := by kernel_rfl
@[go_sem] theorem Try.udef249 : (Try.prog.underlying 249).isSome = true := by kernel_rfl
@[go_sem] theorem Try.zero249 : zeroOf Try.prog 249 = some [.lit ((Go.Value.nilFunc))] := by kernel_rfl
@[go_sem] theorem Try.tsz250 : tszOf Try.prog 250 = some (1, false) := by kernel_rfl
@[go_sem] theorem Try.udef250 : (Try.prog.underlying 250).isSome = true := by kernel_rfl
@[go_sem] theorem Try.zero250 : zeroOf Try.prog 250 = some [.lit ((Go.Value.nilFunc))] := by kernel_rfl
@[go_sem] theorem Try.tsz251 : tszOf Try.prog 251 = some (1, false) := by kernel_rfl
@[go_sem] theorem Try.udef251 : (Try.prog.underlying 251).isSome = true := by kernel_rfl
@[go_sem] theorem Try.zero251 : zeroOf Try.prog 251 = some [.lit ((Go.Value.nilFunc))] := by kernel_rfl
@[go_sem] theorem Try.tsz252 : tszOf Try.prog 252 = some (1, false) := by kernel_rfl
@[go_sem] theorem Try.udef252 : (Try.prog.underlying 252).isSome = true := by kernel_rfl
@[go_sem] theorem Try.zero252 : zeroOf Try.prog 252 = some [.lit ((Go.Value.nilFunc))] := by kernel_rfl
@[go_sem] theorem Try.tsz253 : tszOf Try.prog 253 = some (1, false) := by kernel_rfl
@[go_sem] theorem Try.udef253 : (Try.prog.underlying 253).isSome = true := by kernel_rfl
@[go_sem] theorem Try.zero253 : zeroOf Try.prog 253 = some [.int .u64 0] := by kernel_rfl
@[go_sem] theorem Try.isInt253 : isIntT Try.prog 253 = some .u64 := by kernel_rfl
@[go_sem] theorem Try.tsz255 : tszOf Try.prog 255 = some (3, true) := by kernel_rfl
theorem Try.cz255 : Try.prog.cellsOf 255 = 3 := by kernel_rfl
@[go_sem] theorem Try.udef255 : (Try.prog.underlying 255).isSome = true := by kernel_rfl
@[go_sem] theorem Try.zero255 : zeroOf Try.prog 255 = some [.int .i64 0, .bool false, .int .i64 0] := by kernel_rfl
@[go_sem] theorem Try.flatEq255 : flatEq Try.prog 255 = some [.int .i64, .bool, .int .i64] := by kernel_rfl
@[go_sem] theorem Try.pl255 : plOf Try.prog 255 = some [(0, 1), (1, 1), (2, 1)] := by kernel_rfl
@[go_sem] theorem Try.fd255_0 : fdOf Try.prog 255 0 = some (0, 1, false) := by kernel_rfl
@[go_sem] theorem Try.fd255_1 : fdOf Try.prog 255 1 = some (1, 1, false) := by kernel_rfl
@[go_sem] theorem Try.fd255_2 : fdOf Try.prog 255 2 = some (2, 1, false) := by kernel_rfl
@[go_sem] theorem Try.tsz257 : tszOf Try.prog 257 = some (5, true) := by kernel_rfl
theorem Try.cz257 : Try.prog.cellsOf 257 = 5 := by kernel_rfl
@[go_sem] theorem Try.udef257 : (Try.prog.underlying 257).isSome = true := by kernel_rfl
@[go_sem] theorem Try.zero257 : zeroOf Try.prog 257 = some [.int .i64 0, .int .i64 0, .int .i64 0, .int .i64 0, .int .i64 0] := by kernel_rfl
@[go_sem] theorem Try.flatEq257 : flatEq Try.prog 257 = some [.int .i64, .int .i64, .int .i64, .int .i64, .int .i64] := by kernel_rfl
@[go_sem] theorem Try.pl257 : plOf Try.prog 257 = some [(0, 1), (1, 1), (2, 1), (3, 1), (4, 1)] := by kernel_rfl
@[go_sem] theorem Try.fd257_0 : fdOf Try.prog 257 0 = some (0, 1, false) := by kernel_rfl
@[go_sem] theorem Try.fd257_1 : fdOf Try.prog 257 1 = some (1, 1, false) := by kernel_rfl
@[go_sem] theorem Try.fd257_2 : fdOf Try.prog 257 2 = some (2, 1, false) := by kernel_rfl
@[go_sem] theorem Try.fd257_3 : fdOf Try.prog 257 3 = some (3, 1, false) := by kernel_rfl
@[go_sem] theorem Try.fd257_4 : fdOf Try.prog 257 4 = some (4, 1, false) := by kernel_rfl
@[go_sem] theorem Try.tsz264 : tszOf Try.prog 264 = some (2, true) := by kernel_rfl
@[go_sem] theorem Try.udef264 : (Try.prog.underlying 264).isSome = true := by kernel_rfl
@[go_sem] theorem Try.zero264 : zeroOf Try.prog 264 = some [.int .i64 0, .int .i64 0] := by kernel_rfl
@[go_sem] theorem Try.flatEq264 : flatEq Try.prog 264 = some [.int .i64, .int .i64] := by kernel_rfl
@[go_sem] theorem Try.pl264 : plOf Try.prog 264 = some [(0, 1), (1, 1)] := by kernel_rfl
@[go_sem] theorem Try.fd264_0 : fdOf Try.prog 264 0 = some (0, 1, false) := by kernel_rfl
@[go_sem] theorem Try.fd264_1 : fdOf Try.prog 264 1 = some (1, 1, false) := by kernel_rfl
@[go_sem] theorem Try.tsz268 : tszOf Try.prog 268 = some (1, false) := by kernel_rfl
@[go_sem] theorem Try.udef268 : (Try.prog.underlying 268).isSome = true := by kernel_rfl
@[go_sem] theorem Try.zero268 : zeroOf Try.prog 268 = some [.lit ((Go.Value.map none))] := by kernel_rfl
@[go_sem] theorem Try.mapOf268 : mapOf Try.prog 268 = some (.int .i64, .bool false) := by kernel_rfl
@[go_sem] theorem Try.tsz276 : tszOf Try.prog 276 = some (1, false) := by kernel_rfl
@[go_sem] theorem Try.udef276 : (Try.prog.underlying 276).isSome = true := by kernel_rfl
@[go_sem] theorem Try.zero276 : zeroOf Try.prog 276 = some [.lit ((Go.Value.pointer none))] := by kernel_rfl
@[go_sem] theorem Try.tsz277 : tszOf Try.prog 277 = some (1, false) := by kernel_rfl
@[go_sem] theorem Try.udef277 : (Try.prog.underlying 277).isSome = true := by kernel_rfl
@[go_sem] theorem Try.zero277 : zeroOf Try.prog 277 = some [.lit ((Go.Value.pointer none))] := by kernel_rfl
@[go_sem] theorem Try.tsz287 : tszOf Try.prog 287 = some (1, false) := by kernel_rfl
@[go_sem] theorem Try.udef287 : (Try.prog.underlying 287).isSome = true := by kernel_rfl
@[go_sem] theorem Try.zero287 : zeroOf Try.prog 287 = some [.int .u32 0] := by kernel_rfl
@[go_sem] theorem Try.isInt287 : isIntT Try.prog 287 = some .u32 := by kernel_rfl
@[go_sem] theorem Try.tsz308 : tszOf Try.prog 308 = some (4, true) := by kernel_rfl
@[go_sem] theorem Try.udef308 : (Try.prog.underlying 308).isSome = true := by kernel_rfl
@[go_sem] theorem Try.zero308 : zeroOf Try.prog 308 = some [.lit ((Go.Value.pointer none)), .lit ((Go.Value.pointer none)), .lit ((Go.Value.pointer none)), .str ByteArray.empty] := by kernel_rfl
@[go_sem] theorem Try.pl308 : plOf Try.prog 308 = some [(0, 1), (1, 1), (2, 1), (3, 1)] := by kernel_rfl
@[go_sem] theorem Try.tsz309 : tszOf Try.prog 309 = some (4, true) := by kernel_rfl
@[go_sem] theorem Try.udef309 : (Try.prog.underlying 309).isSome = true := by kernel_rfl
@[go_sem] theorem Try.zero309 : zeroOf Try.prog 309 = some [.lit ((Go.Value.pointer none)), .lit ((Go.Value.pointer none)), .lit ((Go.Value.pointer none)), .str ByteArray.empty] := by kernel_rfl
@[go_sem] theorem Try.pl309 : plOf Try.prog 309 = some [(0, 1), (1, 1), (2, 1), (3, 1)] := by kernel_rfl
@[go_sem] theorem Try.tsz310 : tszOf Try.prog 310 = some (0, true) := by kernel_rfl
@[go_sem] theorem Try.udef310 : (Try.prog.underlying 310).isSome = true := by kernel_rfl
@[go_sem] theorem Try.zero310 : zeroOf Try.prog 310 = some [] := by kernel_rfl
@[go_sem] theorem Try.ar310 : arOf Try.prog 310 = some (0, 1, false) := by kernel_rfl
@[go_sem] theorem Try.pl310 : plOf Try.prog 310 = some [] := by kernel_rfl
@[go_sem] theorem Try.tsz311 : tszOf Try.prog 311 = some (0, true) := by kernel_rfl
@[go_sem] theorem Try.udef311 : (Try.prog.underlying 311).isSome = true := by kernel_rfl
@[go_sem] theorem Try.zero311 : zeroOf Try.prog 311 = some [] := by kernel_rfl
@[go_sem] theorem Try.pl311 : plOf Try.prog 311 = some [(0, 0)] := by kernel_rfl
@[go_sem] theorem Try.tsz312 : tszOf Try.prog 312 = some (0, true) := by kernel_rfl
@[go_sem] theorem Try.udef312 : (Try.prog.underlying 312).isSome = true := by kernel_rfl
@[go_sem] theorem Try.zero312 : zeroOf Try.prog 312 = some [] := by kernel_rfl
@[go_sem] theorem Try.pl312 : plOf Try.prog 312 = some [(0, 0)] := by kernel_rfl
@[go_sem] theorem Try.tsz313 : tszOf Try.prog 313 = some (1, false) := by kernel_rfl
@[go_sem] theorem Try.udef313 : (Try.prog.underlying 313).isSome = true := by kernel_rfl
@[go_sem] theorem Try.zero313 : zeroOf Try.prog 313 = some [.int .u8 0] := by kernel_rfl
@[go_sem] theorem Try.isInt313 : isIntT Try.prog 313 = some .u8 := by kernel_rfl
@[go_sem] theorem Try.tsz314 : tszOf Try.prog 314 = some (1, false) := by kernel_rfl
@[go_sem] theorem Try.udef314 : (Try.prog.underlying 314).isSome = true := by kernel_rfl
@[go_sem] theorem Try.zero314 : zeroOf Try.prog 314 = some [.int .u8 0] := by kernel_rfl
@[go_sem] theorem Try.isInt314 : isIntT Try.prog 314 = some .u8 := by kernel_rfl
@[go_sem] theorem Try.tsz315 : tszOf Try.prog 315 = some (1, false) := by kernel_rfl
@[go_sem] theorem Try.udef315 : (Try.prog.underlying 315).isSome = true := by kernel_rfl
@[go_sem] theorem Try.zero315 : zeroOf Try.prog 315 = some [.lit ((Go.Value.nilFunc))] := by kernel_rfl
@[go_sem] theorem Try.tsz316 : tszOf Try.prog 316 = some (1, false) := by kernel_rfl
@[go_sem] theorem Try.udef316 : (Try.prog.underlying 316).isSome = true := by kernel_rfl
@[go_sem] theorem Try.zero316 : zeroOf Try.prog 316 = some [.lit ((Go.Value.pointer none))] := by kernel_rfl
@[go_sem] theorem Try.tsz317 : tszOf Try.prog 317 = some (1, false) := by kernel_rfl
@[go_sem] theorem Try.udef317 : (Try.prog.underlying 317).isSome = true := by kernel_rfl
@[go_sem] theorem Try.zero317 : zeroOf Try.prog 317 = some [.int .i32 0] := by kernel_rfl
@[go_sem] theorem Try.isInt317 : isIntT Try.prog 317 = some .i32 := by kernel_rfl
@[go_sem] theorem Try.tsz318 : tszOf Try.prog 318 = some (1, false) := by kernel_rfl
@[go_sem] theorem Try.udef318 : (Try.prog.underlying 318).isSome = true := by kernel_rfl
@[go_sem] theorem Try.zero318 : zeroOf Try.prog 318 = some [.int .i32 0] := by kernel_rfl
@[go_sem] theorem Try.isInt318 : isIntT Try.prog 318 = some .i32 := by kernel_rfl
@[go_sem] theorem Try.tsz319 : tszOf Try.prog 319 = some (11, true) := by kernel_rfl
@[go_sem] theorem Try.udef319 : (Try.prog.underlying 319).isSome = true := by kernel_rfl
@[go_sem] theorem Try.zero319 : zeroOf Try.prog 319 = some [.int .u64 0, .int .u64 0, .int .u32 0, .int .u8 0, .int .u8 0, .int .u8 0, .int .u8 0, .lit ((Go.Value.nilFunc)), .lit ((Go.Value.pointer none)), .int .i32 0, .int .i32 0] := by kernel_rfl
@[go_sem] theorem Try.pl319 : plOf Try.prog 319 = some [(0, 1), (1, 1), (2, 1), (3, 1), (4, 1), (5, 1), (6, 1), (7, 1), (8, 1), (9, 1), (10, 1)] := by kernel_rfl
@[go_sem] theorem Try.tsz320 : tszOf Try.prog 320 = some (11, true) := by kernel_rfl
@[go_sem] theorem Try.udef320 : (Try.prog.underlying 320).isSome = true := by kernel_rfl
@[go_sem] theorem Try.zero320 : zeroOf Try.prog 320 = some [.int .u64 0, .int .u64 0, .int .u32 0, .int .u8 0, .int .u8 0, .int .u8 0, .int .u8 0, .lit ((Go.Value.nilFunc)), .lit ((Go.Value.pointer none)), .int .i32 0, .int .i32 0] := by kernel_rfl
@[go_sem] theorem Try.pl320 : plOf Try.prog 320 = some [(0, 1), (1, 1), (2, 1), (3, 1), (4, 1), (5, 1), (6, 1), (7, 1), (8, 1), (9, 1), (10, 1)] := by kernel_rfl
@[go_sem] theorem Try.tsz321 : tszOf Try.prog 321 = some (1, false) := by kernel_rfl
@[go_sem] theorem Try.udef321 : (Try.prog.underlying 321).isSome = true := by kernel_rfl
@[go_sem] theorem Try.zero321 : zeroOf Try.prog 321 = some [.lit ((Go.Value.pointer none))] := by kernel_rfl
theorem Try.okF12 : okF Try.prog 12 = true := by kernel_rfl
theorem Try.okF52 : okF Try.prog 52 = true := by kernel_rfl
theorem Try.okF55 : okF Try.prog 55 = true := by kernel_rfl
theorem Try.okF58 : okF Try.prog 58 = true := by kernel_rfl
theorem Try.okF59 : okF Try.prog 59 = true := by kernel_rfl
theorem Try.okF65 : okF Try.prog 65 = true := by kernel_rfl
theorem Try.okF66 : okF Try.prog 66 = true := by kernel_rfl
theorem Try.okF67 : okF Try.prog 67 = true := by kernel_rfl
theorem Try.okF68 : okF Try.prog 68 = true := by kernel_rfl
theorem Try.okF69 : okF Try.prog 69 = true := by kernel_rfl
theorem Try.okF70 : okF Try.prog 70 = true := by kernel_rfl
theorem Try.okF74 : okF Try.prog 74 = true := by kernel_rfl
theorem Try.okF75 : okF Try.prog 75 = true := by kernel_rfl
theorem Try.okF76 : okF Try.prog 76 = true := by kernel_rfl
theorem Try.okF77 : okF Try.prog 77 = true := by kernel_rfl
theorem Try.okF79 : okF Try.prog 79 = true := by kernel_rfl
theorem Try.okF82 : okF Try.prog 82 = true := by kernel_rfl
theorem Try.okF128 : okF Try.prog 128 = true := by kernel_rfl
theorem Try.okF129 : okF Try.prog 129 = true := by kernel_rfl
theorem Try.okF130 : okF Try.prog 130 = true := by kernel_rfl
theorem Try.okF131 : okF Try.prog 131 = true := by kernel_rfl
theorem Try.okF132 : okF Try.prog 132 = true := by kernel_rfl
theorem Try.okF135 : okF Try.prog 135 = true := by kernel_rfl
theorem Try.okF136 : okF Try.prog 136 = true := by kernel_rfl
theorem Try.okF137 : okF Try.prog 137 = true := by kernel_rfl
theorem Try.okF138 : okF Try.prog 138 = true := by kernel_rfl
theorem Try.okF139 : okF Try.prog 139 = true := by kernel_rfl
theorem Try.okF140 : okF Try.prog 140 = true := by kernel_rfl
theorem Try.okF141 : okF Try.prog 141 = true := by kernel_rfl
theorem Try.okF142 : okF Try.prog 142 = true := by kernel_rfl
theorem Try.okF143 : okF Try.prog 143 = true := by kernel_rfl
theorem Try.okF146 : okF Try.prog 146 = true := by kernel_rfl
theorem Try.okF147 : okF Try.prog 147 = true := by kernel_rfl
theorem Try.okF150 : okF Try.prog 150 = true := by kernel_rfl
theorem Try.okF151 : okF Try.prog 151 = true := by kernel_rfl
theorem Try.okF152 : okF Try.prog 152 = true := by kernel_rfl
theorem Try.okF153 : okF Try.prog 153 = true := by kernel_rfl
theorem Try.okF154 : okF Try.prog 154 = true := by kernel_rfl
theorem Try.okF155 : okF Try.prog 155 = true := by kernel_rfl
theorem Try.okF156 : okF Try.prog 156 = true := by kernel_rfl
theorem Try.okF157 : okF Try.prog 157 = true := by kernel_rfl
theorem Try.okF158 : okF Try.prog 158 = true := by kernel_rfl
theorem Try.okF159 : okF Try.prog 159 = true := by kernel_rfl
theorem Try.okF166 : okF Try.prog 166 = true := by kernel_rfl
theorem Try.okF184 : okF Try.prog 184 = true := by kernel_rfl
theorem Try.okF212 : okF Try.prog 212 = true := by kernel_rfl
theorem Try.okF213 : okF Try.prog 213 = true := by kernel_rfl
theorem Try.okF214 : okF Try.prog 214 = true := by kernel_rfl
theorem Try.okF215 : okF Try.prog 215 = true := by kernel_rfl
theorem Try.okF216 : okF Try.prog 216 = true := by kernel_rfl
theorem Try.okF217 : okF Try.prog 217 = true := by kernel_rfl
theorem Try.okF218 : okF Try.prog 218 = true := by kernel_rfl
theorem Try.okF219 : okF Try.prog 219 = true := by kernel_rfl
theorem Try.okF220 : okF Try.prog 220 = true := by kernel_rfl
theorem Try.okF221 : okF Try.prog 221 = true := by kernel_rfl
theorem Try.okF223 : okF Try.prog 223 = true := by kernel_rfl
theorem Try.okF224 : okF Try.prog 224 = true := by kernel_rfl
theorem Try.okF227 : okF Try.prog 227 = true := by kernel_rfl
theorem Try.okF228 : okF Try.prog 228 = true := by kernel_rfl
theorem Try.okF229 : okF Try.prog 229 = true := by kernel_rfl
theorem Try.okF230 : okF Try.prog 230 = true := by kernel_rfl
theorem Try.okF249 : okF Try.prog 249 = true := by kernel_rfl
theorem Try.okF250 : okF Try.prog 250 = true := by kernel_rfl
theorem Try.okF251 : okF Try.prog 251 = true := by kernel_rfl
theorem Try.okF252 : okF Try.prog 252 = true := by kernel_rfl
end Go.Proofs
end
section
set_option linter.unusedSimpArgs false
set_option linter.unusedVariables false
namespace Go.Lv

/-- The cells of a list, one element behind the other. -/
def rows {α : Type} (cs : α → List V) (L : List α) : List V := L.flatMap cs

section
variable {α : Type} {cs : α → List V} {w : Nat}

theorem rows_len (h : ∀ a, (cs a).length = w) (L : List α) : (rows cs L).length = L.length * w := by
  induction L with
  | nil => simp [rows]
  | cons a L ih => simp [rows, h] at ih ⊢; rw [ih, Nat.succ_mul, Nat.add_comm]

theorem rowsOf_append (L K : List α) : rows cs (L ++ K) = rows cs L ++ rows cs K := by simp [rows]
theorem rows_cons (a : α) (L : List α) : rows cs (a :: L) = cs a ++ rows cs L := by simp [rows]
theorem rows_one (a : α) : rows cs [a] = cs a := by simp [rows]

theorem rows_drop (h : ∀ a, (cs a).length = w) (L : List α) (i : Nat) : (rows cs L).drop (i * w) = rows cs (L.drop i) := by
  induction i generalizing L with
  | zero => simp
  | succ i ih =>
    cases L with
    | nil => simp [rows]
    | cons a L =>
      rw [rows_cons, Nat.succ_mul, Nat.add_comm, ← List.drop_drop, List.drop_append, h a, Nat.sub_self, List.drop_zero]
      rw [show (cs a).drop w = [] by simp [h]]
      simpa using ih L

theorem rows_take (h : ∀ a, (cs a).length = w) (L : List α) (i : Nat) : (rows cs L).take (i * w) = rows cs (L.take i) := by
  induction i generalizing L with
  | zero => simp [rows]
  | succ i ih =>
    cases L with
    | nil => simp [rows]
    | cons a L =>
      rw [rows_cons, List.take_succ_cons, rows_cons, Nat.succ_mul, Nat.add_comm, List.take_append, h a, Nat.add_sub_cancel_left, ih]
      rw [List.take_of_length_le (by simp [h])]

theorem rows_at (h : ∀ a, (cs a).length = w) {L : List α} {i : Nat} (hi : i < L.length) : ((rows cs L).drop (i * w)).take w = cs L[i] := by
  rw [rows_drop h, List.drop_eq_getElem_cons hi, rows_cons, List.take_append, h, Nat.sub_self, List.take_zero, List.append_nil, List.take_of_length_le (by simp [h])]

theorem rows_all {p : V → Bool} (h : ∀ a, (cs a).all p = true) (L : List α) : (rows cs L).all p = true := by
  induction L with
  | nil => rfl
  | cons a L ih => rw [rows_cons, List.all_append, h a, ih]; rfl

theorem map_ren (f : Nat → R) {d : Nat} {l : List V} (h : l.all (noOwn d) = true) : l.map (ren f d) = l := by
  rw [List.map_congr_left (g := id) (fun x hx => ren_noOwn f d x (List.all_eq_true.1 h x hx)), List.map_id]

theorem zrow_all {p : V → Bool} {zs : List V} (hz : zs.all p = true) (hn : 0 < zs.length) (n : Nat) : (zrow n zs).all p = true := by
  rw [List.all_eq_true]
  intro x hx
  simp only [zrow, List.mem_map, List.mem_range] at hx
  obtain ⟨i, _, rfl⟩ := hx
  have hlt := Nat.mod_lt i hn
  rw [List.getD_eq_getElem?_getD, List.getElem?_eq_getElem hlt]
  exact List.all_eq_true.1 hz _ (List.getElem_mem hlt)

theorem zrow_len (n : Nat) (zs : List V) : (zrow n zs).length = n := by simp [zrow]

theorem zrow_drop {zs : List V} (hz : zs.length = w) (n : Nat) : (zrow n zs).drop w = zrow (n - w) zs := by
  apply List.ext_getElem
  · simp [zrow]
  · intro i h1 h2
    simp [zrow] at h1 h2 ⊢
    rw [hz, Nat.add_mod_left]

/-- A row that is filled up to an index; the rest is zero. -/
def filled (cs : α → List V) (w : Nat) (zs : List V) (L : List α) (i : Nat) : List V := rows cs (L.take i) ++ zrow ((L.length - i) * w) zs

theorem filled_len (h : ∀ a, (cs a).length = w) {zs : List V} {L : List α} {i : Nat} (hi : i ≤ L.length) : (filled cs w zs L i).length = L.length * w := by
  simp only [filled, List.length_append, rows_len h, zrow_len, List.length_take, Nat.min_eq_left hi]
  rw [← Nat.add_mul, Nat.add_sub_cancel' hi]

theorem filled_zero {zs : List V} {L : List α} : filled cs w zs L 0 = zrow (L.length * w) zs := by simp [filled, rows]

theorem filled_all (h : ∀ a, (cs a).length = w) {zs : List V} {L : List α} {i : Nat} (hi : L.length ≤ i) : filled cs w zs L i = rows cs L := by
  simp [filled, List.take_of_length_le hi, Nat.sub_eq_zero_of_le hi, zrow]

theorem filled_step (h : ∀ a, (cs a).length = w) {zs : List V} (hz : zs.length = w) {L : List α} {i : Nat} (hi : i < L.length) :
    splice (filled cs w zs L i) (i * w) (cs L[i]) = filled cs w zs L (i + 1) := by
  have hl : (rows cs (L.take i)).length = i * w := by rw [rows_len h, List.length_take, Nat.min_eq_left (by omega)]
  unfold filled splice
  rw [List.take_append, hl, Nat.sub_self, List.take_zero, List.append_nil, List.take_of_length_le (by omega), h, ← List.drop_drop, List.drop_append, hl, Nat.sub_self, List.drop_zero,
    show (rows cs (L.take i)).drop (i * w) = [] by simp [hl], List.nil_append, zrow_drop hz, List.take_succ_eq_append_getElem hi, rowsOf_append, rows_one]
  rw [show (L.length - i) * w - w = (L.length - (i + 1)) * w by rw [← Nat.sub_one_mul]; congr 1]

/-- Rows of plain cells stay as they are when blocks are forgotten. -/
theorem cutB_rows {n : Nat} {l : List V} (h : l.all (noOwn 2) = true) : cutB n (some l) = some l := by
  simp only [cutB, Option.map_some]
  rw [map_ren _ h]
theorem filled_plain {zs : List V} {L : List α} {i : Nat} (hz : 0 < zs.length) (hz2 : zs.all (noOwn 2) = true) (hp : ∀ a, (cs a).all (noOwn 2) = true) : (filled cs w zs L i).all (noOwn 2) = true := by
  rw [filled, List.all_append, zrow_all hz2 hz, Bool.and_true]
  exact rows_all hp _

theorem wrap_i64 {n : Int} (h0 : -9223372036854775808 ≤ n) (h1 : n ≤ 9223372036854775807) : IntKind.i64.wrap n = n := by
  rw [IntKind.wrap_i64]; omega

/-- What an argument's values keep to. -/
def i64R (z : Int) : Prop := -9223372036854775808 ≤ z ∧ z ≤ 9223372036854775807
def lstR (ok : α → Prop) (L : List α) : Prop := L.length ≤ 9223372036854775807 ∧ ∀ x ∈ L, ok x

/-- An encoder whose elements are rows of plain cells. -/
class FlatP (cs : α → List V) (w : outParam Nat) : Prop where
  len : ∀ a, (cs a).length = w
  plain : ∀ a d, (cs a).all (noOwn d) = true
  cell : ∀ a, (cs a).all isCell = true
  noro : ∀ a, (cs a).all (noRoB 0) = true

theorem rows_length [FlatP cs w] (L : List α) : (rows cs L).length = L.length * w := rows_len FlatP.len L
theorem map_ren_rows [FlatP cs w] (f : Nat → R) (d : Nat) (L : List α) : (rows cs L).map (ren f d) = rows cs L := map_ren f (rows_all (fun a => FlatP.plain a d) L)
theorem rows_cell [FlatP cs w] (L : List α) : (rows cs L).all isCell = true := rows_all FlatP.cell L
theorem rows_noRo [FlatP cs w] (L : List α) : (rows cs L).all (noRoB 0) = true := rows_all FlatP.noro L
theorem rows_noOwn [FlatP cs w] (L : List α) (d : Nat) : (rows cs L).all (noOwn d) = true := rows_all (fun a => FlatP.plain a d) L
theorem rows_refV [FlatP cs w] (p : Nat → Bool) (L : List α) (d : Nat) : (rows cs L).all (refV p d) = true := List.all_eq_true.2 fun x hx => refV_noOwn p d x (List.all_eq_true.1 (rows_noOwn (cs := cs) L d) x hx)
theorem noRoH_rows [FlatP cs w] (L : List α) : NoRoH [some (rows cs L)] := NoRoH.of (by simp only [hpNoRo, List.all_cons, List.all_nil, rows_noRo, Bool.and_self])
theorem take_rows [FlatP cs w] (L : List α) : (rows cs L).take (L.length * w) = rows cs L := List.take_of_length_le (by rw [rows_length]; exact Nat.le_refl _)

/-- A block of our own handed to a callee that only reads. -/
theorem le_snap [FlatP cs w] {h : Hp} {id : Nat} {L : List α} (hid : h[id]? = some (some (rows cs L))) : LeV (ren (snapR h 3) 3 (.osl id 0 L.length w)) (.sl L.length w (rows cs L)) := by
  refine .inl ?_
  simp only [ren, snapR, hid, map_ren_rows, List.drop_zero, take_rows]
theorem le_snap' [FlatP cs w] {h : Hp} {id n : Nat} {L : List α} (hid : h[id]? = some (some (rows cs L))) (hn : n = L.length) : LeV (ren (snapR h 3) 3 (.osl id 0 n w)) (.sl L.length w (rows cs L)) := by
  subst hn; exact le_snap hid
theorem le_nil {h : Hp} {w : Nat} : LeV (ren (snapR h 3) 3 .nilsl) (.sl 0 w []) := .inr (.inr (.inl ⟨rfl, w, rfl⟩))
theorem LeV.aggR {f : Nat → R} {d : Nat} {cs cs' : List V} (h : LeA (cs.map (ren f d)) cs') : LeV (ren f (d + 1) (.agg cs)) (.agg cs') := LeV.agg h
theorem leE_snap [FlatP cs w] {h : Hp} {id n n' : Nat} {L : List α} (hid : h[id]? = some (some (rows cs L))) (hn : n = L.length) (hn' : n' = L.length) : LeE (ren (snapR h 3) 2 (.osl id 0 n w)) (.sl n' w (rows cs L)) := by
  subst hn hn'
  refine .inl ?_
  simp only [ren, snapR, hid, map_ren_rows, List.drop_zero, take_rows]
theorem lend_one [FlatP cs w] {h : Hp} {id : Nat} {fz : Bool} {L : List α} (hid : h[id]? = some (some (rows cs L))) : pickH [id] h fz = [some (rows cs L)] := by
  simp only [pickH, List.map_cons, List.map_nil, pickB, hid, map_ren_rows]
theorem isMb_cells {l : List V} (h : l.all isCell = true) : isMb l = false := by
  match l, h with
  | [], _ => rfl
  | _ :: _ :: _, _ => rfl
  | [x], h => cases x <;> first | rfl | (simp [isCell] at h)
theorem isMb_rows [FlatP cs w] (L : List α) : isMb (rows cs L) = false := isMb_cells (rows_cell L)
theorem grown_one [FlatP cs w] {L L' : List α} (h : L.length = L'.length) : grown [some (rows cs L)] [some (rows cs L')] := by
  simp [grown, rows_length, h, isMb_rows]

theorem rows_snoc (L : List α) (a : α) : rows cs L ++ cs a = rows cs (L ++ [a]) := by rw [rowsOf_append, rows_one]

theorem LeL_same {f : V → V} : ∀ {l : List V}, l.map f = l → LeL (l.map f) l
  | [], _ => trivial
  | a :: l, h => by
    simp only [List.map_cons, List.cons.injEq] at h
    exact ⟨.inl h.1.symm, LeL_same h.2⟩

theorem splice_mid {A M ns : List V} {n j : Nat} (h : A.length = n) : splice (A ++ M) (n + j) ns = A ++ splice M j ns := by
  subst h
  unfold splice
  rw [List.take_append, List.drop_append, List.take_of_length_le (by omega), List.drop_of_length_le (by omega)]
  simp only [Nat.add_sub_cancel_left, List.nil_append, List.append_assoc]
  congr 3
  congr 1
  omega
theorem splice_mid0 {A M ns : List V} {n : Nat} (h : A.length = n) : splice (A ++ M) n ns = A ++ splice M 0 ns := by
  have := splice_mid (M := M) (ns := ns) (j := 0) h
  rwa [Nat.add_zero] at this

/-- A list taken apart at an index. -/
theorem apart {L : List α} {i : Nat} (hi : i < L.length) : ∃ A B, L = A ++ L[i] :: B ∧ A.length = i ∧ A = L.take i ∧ B = L.drop (i + 1) := by
  refine ⟨L.take i, L.drop (i + 1), ?_, by simp; omega, rfl, rfl⟩
  rw [← List.drop_eq_getElem_cons hi, List.take_append_drop]

/-- What a list's element at an index must fulfil: it is valid, and its key is above the key ahead of it. -/
def listedQ (p : α → Bool) (k : α → Int) (L : List α) (i : Nat) : Bool :=
  match L[i]? with
  | none => true
  | some x => p x && match i with
    | 0 => true
    | j + 1 => match L[j]? with
      | none => true
      | some y => decide (k y < k x)

def listedB (p : α → Bool) (k : α → Int) (m : Nat) (L : List α) : Bool := (List.range L.length).all (listedQ p k L) && decide (L.length ≤ m)

theorem range_all_false {q : Nat → Bool} {n i : Nat} (hi : i < n) (h : q i = false) : (List.range n).all q = false := by
  rw [List.all_eq_false]
  exact ⟨i, by simpa using hi, by simp [h]⟩
theorem range_all_succ {q : Nat → Bool} {i : Nat} (h : (List.range i).all q = true) (h1 : q i = true) : (List.range (i + 1)).all q = true := by
  rw [List.range_succ, List.all_append, h]
  simp [h1]
theorem listedB_false {p : α → Bool} {k : α → Int} {m : Nat} {L : List α} {i : Nat} (hi : i < L.length) (h : listedQ p k L i = false) : listedB p k m L = false := by
  rw [listedB, range_all_false hi h]
  rfl
theorem listedQ_zero {p : α → Bool} {k : α → Int} {L : List α} (h0 : 0 < L.length) : listedQ p k L 0 = p L[0] := by simp [listedQ, h0]
theorem listedQ_succ {p : α → Bool} {k : α → Int} {L : List α} {j : Nat} (h : j + 1 < L.length) : listedQ p k L (j + 1) = (p L[j + 1] && decide (k (L[j]'(by omega)) < k L[j + 1])) := by
  have : j < L.length := by omega
  simp [listedQ, h, this]
end

/-- What a call's arguments may be, proved by what they look like. -/
theorem leA {x y : V} (h : LeV x y := by first | exact le_snap rfl | exact .inl rfl | exact le_nil | exact le_snap' rfl (by simp) | exact LeV.aggR (by first | ((repeat' (first | exact True.intro | exact leE_snap rfl (by simp) (by simp) | exact LeE.nil | exact LeE.refl _ | refine And.intro ?_ ?_)); done) | fail)) : LeV x y := h
theorem callT.at {P : Program} {h : Hp} {g : FuncId} {a c args : List V} {K : V → Hp → Prop} {x : Tag K} {as' : List V} {r : V} {hout : Hp} (hs : Ctr P g as' [] r hout) (hle : LeL ((a ++ args ++ c).map (ren (snapR h 3) 3)) as') (hk : K r hout)
    (hro : (a ++ args ++ c).all (noOwn 3) = true ∨ NoRo r ∧ NoRoH hout := by first | exact .inl rfl | exact .inr ⟨noRo_ok 3 rfl, by first | exact NoRoH.nil | exact noRoH_rows _ | exact NoRoH.of (by simp only [hpNoRo, List.all_cons, List.all_nil, rows_noRo, Bool.and_self])⟩)
    (hrf : refOk h 4 (.fn (.func g) a c) = true ∧ args.all (refOk h 3) = true := by first | exact ⟨rfl, rfl⟩ | exact ⟨rfl, by simp [refOk, refV, refB, noOwn, rows_noOwn, rows_refV]⟩ | simp [refOk, refV, refB, noOwn, rows_noOwn, rows_refV]) : callT P h (.fn (.func g) a c) args K x :=
  callT.intro hs hle hro hrf hk
theorem callS.at {P : Program} {t : List V} {h : Hp} {k : Nat} {dst : Option Tmp} {g : FuncId} {a c args : List V} {K : St → Prop} {x : Tag K} {as' : List V} {r : V} {hout : Hp} (hs : Ctr P g as' [] r hout)
    (hle : LeL ((a ++ args ++ c).map (ren (snapR h 3) 3)) as') (hk : K (afterCall ⟨t, h, k⟩ dst r hout))
    (hro : (a ++ args ++ c).all (noOwn 3) = true ∨ NoRo r ∧ NoRoH hout := by first | exact .inl rfl | exact .inr ⟨noRo_ok 3 rfl, by first | exact NoRoH.nil | exact noRoH_rows _ | exact NoRoH.of (by simp only [hpNoRo, List.all_cons, List.all_nil, rows_noRo, Bool.and_self])⟩) : callS P ⟨t, h, k⟩ dst (.fn (.func g) a c) args K x :=
  callS.intro hs hle hro hk
theorem lendA {sel : List Nat} {h hin : Hp} {fz : Bool} (hh : pickH sel h fz = hin := by first | exact lend_one rfl | rfl | (simp only [pickH, List.map_cons, List.map_nil, pickB, List.getElem?_cons_zero, List.getElem?_cons_succ, map_ren_rows]; done)) : pickH sel h fz = hin := hh
theorem leO {x y : V} (h : LeV x y := by first | exact .inl rfl | exact LeV.aggR (by first | ((repeat' (first | exact True.intro | exact LeE.nil | exact LeE.refl _ | refine And.intro ?_ ?_)); done) | fail)) : LeV x y := h
/-- A side condition. -/
theorem sideA {a b : Prop} (hb : b) (ha : a := by first | omega | with_reducible rfl | (show drawOk _ = true; kernel_rfl) | (simp only [rows_length, rows_cell, List.length_append, List.length_cons, List.length_nil, List.all_append, List.all_cons, List.all_nil, isCell, Nat.mul_one, Nat.one_mul, Bool.and_self]; first | done | omega)) : a ∧ b := ⟨ha, hb⟩
attribute [go_sem] Nat.le_refl Int.toNat_natCast beq_self_eq_true bne_self_eq_false decide_true decide_false eq_self ne_eq Option.some.injEq not_false_eq_true Option.map_some map_ren_rows
end Go.Lv
end
section
set_option linter.unusedSimpArgs false
set_option linter.unusedVariables false
set_option maxRecDepth 100000
namespace Go.Proofs
open Go.Lv
def inB' (n a b : Int) : Bool := decide (a ≤ n) && decide (n ≤ b)
theorem in_ok (n a b : Int) : Ctr Try.prog 82 [.int .i64 n, .int .i64 a, .int .i64 b] [] (.bool (inB' n a b)) [] := by
  refine Ctr.intro Try.mixed Try.func82 rfl Try.okF82 ?_
  simp -implicitDefEqProofs -dsimp only [go_sem, Nat.reduceSub, Nat.reduceAdd, Nat.reduceMul, Nat.reduceLT, Nat.reduceLeDiff, Nat.reduceEqDiff, Nat.reduceDiv, Nat.reduceMod, Int.reduceToNat, Int.reduceLE, Int.reduceLT, Int.reduceBEq, Int.reduceBNe, Int.reduceNeg, Int.reduceAdd, Int.reduceSub, Int.reduceMul, reduceCtorEq, Try.ntmps82, Try.results82]
  refine guardT.splitT (fun h1 => ?_) (fun h1 => ?_) <;> simp -implicitDefEqProofs -dsimp only [go_sem, Nat.reduceSub, Nat.reduceAdd, Nat.reduceMul, Nat.reduceLT, Nat.reduceLeDiff, Nat.reduceEqDiff, Nat.reduceDiv, Nat.reduceMod, Int.reduceToNat, Int.reduceLE, Int.reduceLT, Int.reduceBEq, Int.reduceBNe, Int.reduceNeg, Int.reduceAdd, Int.reduceSub, Int.reduceMul, reduceCtorEq, h1]
  · exact WeakR.of_eq (by simp [inB', h1])
  · exact WeakR.of_eq (by simp [inB', h1])
theorem l1In_ok (n a b : Int) : Ctr Try.prog 79 [.int .i64 n, .int .i64 a, .int .i64 b] [] (.bool (inB' n a b)) [] := by
  refine Ctr.intro Try.mixed Try.func79 rfl Try.okF79 ?_
  simp -implicitDefEqProofs -dsimp only [go_sem, Nat.reduceSub, Nat.reduceAdd, Nat.reduceMul, Nat.reduceLT, Nat.reduceLeDiff, Nat.reduceEqDiff, Nat.reduceDiv, Nat.reduceMod, Int.reduceToNat, Int.reduceLE, Int.reduceLT, Int.reduceBEq, Int.reduceBNe, Int.reduceNeg, Int.reduceAdd, Int.reduceSub, Int.reduceMul, reduceCtorEq, Try.ntmps79, Try.results79]
  refine guardT.splitT (fun h1 => ?_) (fun h1 => ?_) <;> simp -implicitDefEqProofs -dsimp only [go_sem, Nat.reduceSub, Nat.reduceAdd, Nat.reduceMul, Nat.reduceLT, Nat.reduceLeDiff, Nat.reduceEqDiff, Nat.reduceDiv, Nat.reduceMod, Int.reduceToNat, Int.reduceLE, Int.reduceLT, Int.reduceBEq, Int.reduceBNe, Int.reduceNeg, Int.reduceAdd, Int.reduceSub, Int.reduceMul, reduceCtorEq, h1]
  · exact WeakR.of_eq (by simp [inB', h1])
  · exact WeakR.of_eq (by simp [inB', h1])
theorem listedB_all {α : Type} {p : α → Bool} {k : α → Int} {m : Nat} {L : List α} (h : listedB p k m L = true) : (∀ x ∈ L, p x = true) ∧ L.length ≤ m := by
  simp only [listedB, Bool.and_eq_true, decide_eq_true_eq, List.all_eq_true, List.mem_range] at h
  refine ⟨fun x hx => ?_, h.2⟩
  obtain ⟨i, hi, rfl⟩ := List.getElem_of_mem hx
  have := h.1 i hi
  simp only [listedQ, List.getElem?_eq_getElem hi, Bool.and_eq_true] at this
  exact this.1
theorem listedB_lt {α : Type} {p : α → Bool} {k : α → Int} {m : Nat} {L : List α} (h : listedB p k m L = true) : (L.map k).Pairwise (· < ·) := by
  simp only [listedB, Bool.and_eq_true, List.all_eq_true, List.mem_range] at h
  have adj : ∀ j, (hj : j + 1 < L.length) → k (L[j]'(by omega)) < k L[j + 1] := by
    intro j hj
    have := h.1 (j + 1) hj
    rw [listedQ_succ hj] at this
    simp at this
    exact this.2
  rw [List.pairwise_iff_getElem]
  intro i j hi hj hij
  simp only [List.length_map] at hi hj
  simp only [List.getElem_map]
  induction j with
  | zero => omega
  | succ j ih =>
    have h1 := adj j hj
    rcases Nat.lt_succ_iff_lt_or_eq.1 hij with h2 | h2
    · have := ih (by simpa using (by omega : j < L.length)) h2 (by omega)
      omega
    · subst h2; exact h1
end Go.Proofs
end
section
set_option linter.unusedSimpArgs false
set_option linter.unusedVariables false
set_option maxRecDepth 100000
namespace Go.Proofs
open Go.Lv
def placeB (x y : Int) : Bool := inB' x 0 999 && inB' y 0 999
theorem isTick_ok (n : Int) : Ctr Try.prog 139 [.int .i64 n] [] (.bool (inB' n 0 1000000)) [] := by
  refine Ctr.intro Try.mixed Try.func139 rfl Try.okF139 ?_
  simp -implicitDefEqProofs -dsimp only [go_sem, Nat.reduceSub, Nat.reduceAdd, Nat.reduceMul, Nat.reduceLT, Nat.reduceLeDiff, Nat.reduceEqDiff, Nat.reduceDiv, Nat.reduceMod, Int.reduceToNat, Int.reduceLE, Int.reduceLT, Int.reduceBEq, Int.reduceBNe, Int.reduceNeg, Int.reduceAdd, Int.reduceSub, Int.reduceMul, reduceCtorEq, Try.ntmps139, Try.results139]
  repeat' (first | (refine WeakR.drop' ?_ (by rfl); first | rfl | (simp [placeB, *]; done)) | ((first | refine callT.at (in_ok _ _ _) ⟨leA, leA, leA, trivial⟩ ?_ | refine callS.at (in_ok _ _ _) ⟨leA, leA, leA, trivial⟩ ?_); simp -implicitDefEqProofs -dsimp only [go_sem, Nat.reduceSub, Nat.reduceAdd, Nat.reduceMul, Nat.reduceLT, Nat.reduceLeDiff, Nat.reduceEqDiff, Nat.reduceDiv, Nat.reduceMod, Int.reduceToNat, Int.reduceLE, Int.reduceLT, Int.reduceBEq, Int.reduceBNe, Int.reduceNeg, Int.reduceAdd, Int.reduceSub, Int.reduceMul, reduceCtorEq, *]) | (refine guardT.splitT (fun _ => ?_) (fun _ => ?_) <;> simp -implicitDefEqProofs -dsimp only [go_sem, Nat.reduceSub, Nat.reduceAdd, Nat.reduceMul, Nat.reduceLT, Nat.reduceLeDiff, Nat.reduceEqDiff, Nat.reduceDiv, Nat.reduceMod, Int.reduceToNat, Int.reduceLE, Int.reduceLT, Int.reduceBEq, Int.reduceBNe, Int.reduceNeg, Int.reduceAdd, Int.reduceSub, Int.reduceMul, reduceCtorEq, *]) | (refine guardT.splitF (fun _ => ?_) (fun _ => ?_) <;> simp -implicitDefEqProofs -dsimp only [go_sem, Nat.reduceSub, Nat.reduceAdd, Nat.reduceMul, Nat.reduceLT, Nat.reduceLeDiff, Nat.reduceEqDiff, Nat.reduceDiv, Nat.reduceMod, Int.reduceToNat, Int.reduceLE, Int.reduceLT, Int.reduceBEq, Int.reduceBNe, Int.reduceNeg, Int.reduceAdd, Int.reduceSub, Int.reduceMul, reduceCtorEq, *]) | (refine condT.split (fun _ => ?_) (fun _ => ?_) <;> simp -implicitDefEqProofs -dsimp only [go_sem, Nat.reduceSub, Nat.reduceAdd, Nat.reduceMul, Nat.reduceLT, Nat.reduceLeDiff, Nat.reduceEqDiff, Nat.reduceDiv, Nat.reduceMod, Int.reduceToNat, Int.reduceLE, Int.reduceLT, Int.reduceBEq, Int.reduceBNe, Int.reduceNeg, Int.reduceAdd, Int.reduceSub, Int.reduceMul, reduceCtorEq, *]))
theorem l2Tick_ok (n : Int) : Ctr Try.prog 184 [.int .i64 n] [] (.bool (inB' n 0 1000000)) [] := by
  refine Ctr.intro Try.mixed Try.func184 rfl Try.okF184 ?_
  simp -implicitDefEqProofs -dsimp only [go_sem, Nat.reduceSub, Nat.reduceAdd, Nat.reduceMul, Nat.reduceLT, Nat.reduceLeDiff, Nat.reduceEqDiff, Nat.reduceDiv, Nat.reduceMod, Int.reduceToNat, Int.reduceLE, Int.reduceLT, Int.reduceBEq, Int.reduceBNe, Int.reduceNeg, Int.reduceAdd, Int.reduceSub, Int.reduceMul, reduceCtorEq, Try.ntmps184, Try.results184]
  repeat' (first | (refine WeakR.drop' ?_ (by rfl); first | rfl | (simp [placeB, *]; done)) | ((first | refine callT.at (l1In_ok _ _ _) ⟨leA, leA, leA, trivial⟩ ?_ | refine callS.at (l1In_ok _ _ _) ⟨leA, leA, leA, trivial⟩ ?_); simp -implicitDefEqProofs -dsimp only [go_sem, Nat.reduceSub, Nat.reduceAdd, Nat.reduceMul, Nat.reduceLT, Nat.reduceLeDiff, Nat.reduceEqDiff, Nat.reduceDiv, Nat.reduceMod, Int.reduceToNat, Int.reduceLE, Int.reduceLT, Int.reduceBEq, Int.reduceBNe, Int.reduceNeg, Int.reduceAdd, Int.reduceSub, Int.reduceMul, reduceCtorEq, *]) | (refine guardT.splitT (fun _ => ?_) (fun _ => ?_) <;> simp -implicitDefEqProofs -dsimp only [go_sem, Nat.reduceSub, Nat.reduceAdd, Nat.reduceMul, Nat.reduceLT, Nat.reduceLeDiff, Nat.reduceEqDiff, Nat.reduceDiv, Nat.reduceMod, Int.reduceToNat, Int.reduceLE, Int.reduceLT, Int.reduceBEq, Int.reduceBNe, Int.reduceNeg, Int.reduceAdd, Int.reduceSub, Int.reduceMul, reduceCtorEq, *]) | (refine guardT.splitF (fun _ => ?_) (fun _ => ?_) <;> simp -implicitDefEqProofs -dsimp only [go_sem, Nat.reduceSub, Nat.reduceAdd, Nat.reduceMul, Nat.reduceLT, Nat.reduceLeDiff, Nat.reduceEqDiff, Nat.reduceDiv, Nat.reduceMod, Int.reduceToNat, Int.reduceLE, Int.reduceLT, Int.reduceBEq, Int.reduceBNe, Int.reduceNeg, Int.reduceAdd, Int.reduceSub, Int.reduceMul, reduceCtorEq, *]) | (refine condT.split (fun _ => ?_) (fun _ => ?_) <;> simp -implicitDefEqProofs -dsimp only [go_sem, Nat.reduceSub, Nat.reduceAdd, Nat.reduceMul, Nat.reduceLT, Nat.reduceLeDiff, Nat.reduceEqDiff, Nat.reduceDiv, Nat.reduceMod, Int.reduceToNat, Int.reduceLE, Int.reduceLT, Int.reduceBEq, Int.reduceBNe, Int.reduceNeg, Int.reduceAdd, Int.reduceSub, Int.reduceMul, reduceCtorEq, *]))
theorem isStationId_ok (n : Int) : Ctr Try.prog 136 [.int .i64 n] [] (.bool (inB' n 1 99)) [] := by
  refine Ctr.intro Try.mixed Try.func136 rfl Try.okF136 ?_
  simp -implicitDefEqProofs -dsimp only [go_sem, Nat.reduceSub, Nat.reduceAdd, Nat.reduceMul, Nat.reduceLT, Nat.reduceLeDiff, Nat.reduceEqDiff, Nat.reduceDiv, Nat.reduceMod, Int.reduceToNat, Int.reduceLE, Int.reduceLT, Int.reduceBEq, Int.reduceBNe, Int.reduceNeg, Int.reduceAdd, Int.reduceSub, Int.reduceMul, reduceCtorEq, Try.ntmps136, Try.results136]
  repeat' (first | (refine WeakR.drop' ?_ (by rfl); first | rfl | (simp [placeB, *]; done)) | ((first | refine callT.at (in_ok _ _ _) ⟨leA, leA, leA, trivial⟩ ?_ | refine callS.at (in_ok _ _ _) ⟨leA, leA, leA, trivial⟩ ?_); simp -implicitDefEqProofs -dsimp only [go_sem, Nat.reduceSub, Nat.reduceAdd, Nat.reduceMul, Nat.reduceLT, Nat.reduceLeDiff, Nat.reduceEqDiff, Nat.reduceDiv, Nat.reduceMod, Int.reduceToNat, Int.reduceLE, Int.reduceLT, Int.reduceBEq, Int.reduceBNe, Int.reduceNeg, Int.reduceAdd, Int.reduceSub, Int.reduceMul, reduceCtorEq, *]) | (refine guardT.splitT (fun _ => ?_) (fun _ => ?_) <;> simp -implicitDefEqProofs -dsimp only [go_sem, Nat.reduceSub, Nat.reduceAdd, Nat.reduceMul, Nat.reduceLT, Nat.reduceLeDiff, Nat.reduceEqDiff, Nat.reduceDiv, Nat.reduceMod, Int.reduceToNat, Int.reduceLE, Int.reduceLT, Int.reduceBEq, Int.reduceBNe, Int.reduceNeg, Int.reduceAdd, Int.reduceSub, Int.reduceMul, reduceCtorEq, *]) | (refine guardT.splitF (fun _ => ?_) (fun _ => ?_) <;> simp -implicitDefEqProofs -dsimp only [go_sem, Nat.reduceSub, Nat.reduceAdd, Nat.reduceMul, Nat.reduceLT, Nat.reduceLeDiff, Nat.reduceEqDiff, Nat.reduceDiv, Nat.reduceMod, Int.reduceToNat, Int.reduceLE, Int.reduceLT, Int.reduceBEq, Int.reduceBNe, Int.reduceNeg, Int.reduceAdd, Int.reduceSub, Int.reduceMul, reduceCtorEq, *]) | (refine condT.split (fun _ => ?_) (fun _ => ?_) <;> simp -implicitDefEqProofs -dsimp only [go_sem, Nat.reduceSub, Nat.reduceAdd, Nat.reduceMul, Nat.reduceLT, Nat.reduceLeDiff, Nat.reduceEqDiff, Nat.reduceDiv, Nat.reduceMod, Int.reduceToNat, Int.reduceLE, Int.reduceLT, Int.reduceBEq, Int.reduceBNe, Int.reduceNeg, Int.reduceAdd, Int.reduceSub, Int.reduceMul, reduceCtorEq, *]))
theorem isQuakeSize_ok (n : Int) : Ctr Try.prog 138 [.int .i64 n] [] (.bool (inB' n (-20) 95)) [] := by
  refine Ctr.intro Try.mixed Try.func138 rfl Try.okF138 ?_
  simp -implicitDefEqProofs -dsimp only [go_sem, Nat.reduceSub, Nat.reduceAdd, Nat.reduceMul, Nat.reduceLT, Nat.reduceLeDiff, Nat.reduceEqDiff, Nat.reduceDiv, Nat.reduceMod, Int.reduceToNat, Int.reduceLE, Int.reduceLT, Int.reduceBEq, Int.reduceBNe, Int.reduceNeg, Int.reduceAdd, Int.reduceSub, Int.reduceMul, reduceCtorEq, Try.ntmps138, Try.results138]
  repeat' (first | (refine WeakR.drop' ?_ (by rfl); first | rfl | (simp [placeB, *]; done)) | ((first | refine callT.at (in_ok _ _ _) ⟨leA, leA, leA, trivial⟩ ?_ | refine callS.at (in_ok _ _ _) ⟨leA, leA, leA, trivial⟩ ?_); simp -implicitDefEqProofs -dsimp only [go_sem, Nat.reduceSub, Nat.reduceAdd, Nat.reduceMul, Nat.reduceLT, Nat.reduceLeDiff, Nat.reduceEqDiff, Nat.reduceDiv, Nat.reduceMod, Int.reduceToNat, Int.reduceLE, Int.reduceLT, Int.reduceBEq, Int.reduceBNe, Int.reduceNeg, Int.reduceAdd, Int.reduceSub, Int.reduceMul, reduceCtorEq, *]) | (refine guardT.splitT (fun _ => ?_) (fun _ => ?_) <;> simp -implicitDefEqProofs -dsimp only [go_sem, Nat.reduceSub, Nat.reduceAdd, Nat.reduceMul, Nat.reduceLT, Nat.reduceLeDiff, Nat.reduceEqDiff, Nat.reduceDiv, Nat.reduceMod, Int.reduceToNat, Int.reduceLE, Int.reduceLT, Int.reduceBEq, Int.reduceBNe, Int.reduceNeg, Int.reduceAdd, Int.reduceSub, Int.reduceMul, reduceCtorEq, *]) | (refine guardT.splitF (fun _ => ?_) (fun _ => ?_) <;> simp -implicitDefEqProofs -dsimp only [go_sem, Nat.reduceSub, Nat.reduceAdd, Nat.reduceMul, Nat.reduceLT, Nat.reduceLeDiff, Nat.reduceEqDiff, Nat.reduceDiv, Nat.reduceMod, Int.reduceToNat, Int.reduceLE, Int.reduceLT, Int.reduceBEq, Int.reduceBNe, Int.reduceNeg, Int.reduceAdd, Int.reduceSub, Int.reduceMul, reduceCtorEq, *]) | (refine condT.split (fun _ => ?_) (fun _ => ?_) <;> simp -implicitDefEqProofs -dsimp only [go_sem, Nat.reduceSub, Nat.reduceAdd, Nat.reduceMul, Nat.reduceLT, Nat.reduceLeDiff, Nat.reduceEqDiff, Nat.reduceDiv, Nat.reduceMod, Int.reduceToNat, Int.reduceLE, Int.reduceLT, Int.reduceBEq, Int.reduceBNe, Int.reduceNeg, Int.reduceAdd, Int.reduceSub, Int.reduceMul, reduceCtorEq, *]))
end Go.Proofs
end
section
set_option linter.unusedSimpArgs false
set_option linter.unusedVariables false
set_option maxRecDepth 100000
namespace Go.Proofs
open Go.Lv
structure Post where
  Station : Int
  Up : Bool
  Since : Int
def Post.cs (r : Post) : List V := [.int .i64 r.Station, .bool r.Up, .int .i64 r.Since]
def Post.v (r : Post) : V := .agg [.int .i64 r.Station, .bool r.Up, .int .i64 r.Since]
theorem Post.csl (a : Post) : a.cs.length = 3 := rfl
theorem Post.csp (a : Post) : a.cs.all (noOwn 2) = true := rfl
instance : FlatP Post.cs 3 := ⟨fun _ => rfl, fun _ d => by cases d <;> rfl, fun _ => rfl, fun _ => rfl⟩
def Post.ok (r : Post) : Prop := i64R r.Station ∧ i64R r.Since
abbrev Post.rows (L : List Post) : List V := Go.Lv.rows Post.cs L
abbrev Post.sl (L : List Post) : V := .sl L.length 3 (Go.Lv.rows Post.cs L)
abbrev Post.zs : List V := [.int .i64 0, .bool false, .int .i64 0]
/-- What a mark writes. -/
def Post.mk1 (k : Int) : Post := ⟨k, ((k + 1).tmod 3 == 0), k + 1 + 1⟩
def Post.marks (k : Int) (n : Nat) : List Post := (List.range n).map fun i : Nat => Post.mk1 (k + 3 * (i : Int))
@[simp] theorem Post.marks_len (k : Int) (n : Nat) : (Post.marks k n).length = n := by simp [Post.marks]
theorem Post.marks_succ (k : Int) (n : Nat) : Post.marks k (n + 1) = Post.marks k n ++ [Post.mk1 (k + 3 * (n : Int))] := by simp [Post.marks, List.range_succ]
theorem Post.marks_get (k : Int) (n : Nat) {i : Nat} (hi : i < (Post.marks k n).length) : (Post.marks k n)[i] = Post.mk1 (k + 3 * (i : Int)) := by simp [Post.marks]
theorem toPost_ok (r : Post) : Ctr Try.prog 227 [r.v] [] r.v [] := by
  refine Ctr.intro Try.mixed Try.func227 rfl Try.okF227 ?_
  simp -implicitDefEqProofs -dsimp only [go_sem, Nat.reduceSub, Nat.reduceAdd, Nat.reduceMul, Nat.reduceLT, Nat.reduceLeDiff, Nat.reduceEqDiff, Nat.reduceDiv, Nat.reduceMod, Int.reduceToNat, Int.reduceLE, Int.reduceLT, Int.reduceBEq, Int.reduceBNe, Int.reduceNeg, Int.reduceAdd, Int.reduceSub, Int.reduceMul, reduceCtorEq, Try.ntmps227, Try.results227]
  simp -implicitDefEqProofs -dsimp only [go_sem, Nat.reduceSub, Nat.reduceAdd, Nat.reduceMul, Nat.reduceLT, Nat.reduceLeDiff, Nat.reduceEqDiff, Nat.reduceDiv, Nat.reduceMod, Int.reduceToNat, Int.reduceLE, Int.reduceLT, Int.reduceBEq, Int.reduceBNe, Int.reduceNeg, Int.reduceAdd, Int.reduceSub, Int.reduceMul, reduceCtorEq, Post.v]
  exact WeakR.drop' rfl rfl
theorem toPostS_ok (L : List Post) (hl : L.length ≤ 1048576) : Ctr Try.prog 152 [Post.sl L] [] (.osl 0 0 L.length 3) [some (rows Post.cs L)] := by
  refine Ctr.intro Try.mixed Try.func152 rfl Try.okF152 ?_
  simp -implicitDefEqProofs -dsimp only [go_sem, Nat.reduceSub, Nat.reduceAdd, Nat.reduceMul, Nat.reduceLT, Nat.reduceLeDiff, Nat.reduceEqDiff, Nat.reduceDiv, Nat.reduceMod, Int.reduceToNat, Int.reduceLE, Int.reduceLT, Int.reduceBEq, Int.reduceBNe, Int.reduceNeg, Int.reduceAdd, Int.reduceSub, Int.reduceMul, reduceCtorEq, Try.ntmps152, Try.results152]
  refine ⟨by omega, by omega, by omega, ?_⟩
  refine LoopT.intro (fun i : Nat => i ≤ L.length) (fun i => ⟨[Post.sl L, .undef, .undef, .osl 0 0 L.length 3, .int .i64 i, .undef, .undef, .undef, .undef, .undef, .undef, .undef, .undef, .undef, .undef, .undef, .undef, .undef, .undef, .undef, .undef, .undef, .undef], [some (filled Post.cs 3 Post.zs L i)], 0⟩) (fun i => L.length - i) 0 (Nat.zero_le _) ?_ (fun i hi => ?_)
  · refine Weak.cut (1) (by simp) (by simp) ?_ ?_
    · simp [LeC, LeV, ren, cutF]
    · rw [filled_zero]
      simp only [cutH, List.take, List.map]
      rw [cutB_rows (zrow_all rfl (by decide) _)]
  simp -implicitDefEqProofs -dsimp only [go_sem, Nat.reduceSub, Nat.reduceAdd, Nat.reduceMul, Nat.reduceLT, Nat.reduceLeDiff, Nat.reduceEqDiff, Nat.reduceDiv, Nat.reduceMod, Int.reduceToNat, Int.reduceLE, Int.reduceLT, Int.reduceBEq, Int.reduceBNe, Int.reduceNeg, Int.reduceAdd, Int.reduceSub, Int.reduceMul, reduceCtorEq]
  refine condT.split (fun h1 => ?_) (fun h1 => ?_)
  · simp -implicitDefEqProofs -dsimp only [go_sem, Nat.reduceSub, Nat.reduceAdd, Nat.reduceMul, Nat.reduceLT, Nat.reduceLeDiff, Nat.reduceEqDiff, Nat.reduceDiv, Nat.reduceMod, Int.reduceToNat, Int.reduceLE, Int.reduceLT, Int.reduceBEq, Int.reduceBNe, Int.reduceNeg, Int.reduceAdd, Int.reduceSub, Int.reduceMul, reduceCtorEq, h1]
    have hi' : i < L.length := by simpa using h1
    rw [rows_at Post.csl hi']
    refine ⟨by omega, by simp [Post.csl], ?_⟩
    (first | refine callT.at (toPost_ok L[i]) ⟨.inl rfl, trivial⟩ ?_ | refine callS.at (toPost_ok L[i]) ⟨.inl rfl, trivial⟩ ?_)
    simp -implicitDefEqProofs -dsimp only [go_sem, Nat.reduceSub, Nat.reduceAdd, Nat.reduceMul, Nat.reduceLT, Nat.reduceLeDiff, Nat.reduceEqDiff, Nat.reduceDiv, Nat.reduceMod, Int.reduceToNat, Int.reduceLE, Int.reduceLT, Int.reduceBEq, Int.reduceBNe, Int.reduceNeg, Int.reduceAdd, Int.reduceSub, Int.reduceMul, reduceCtorEq, Post.v]
    refine ⟨⟨by omega, by omega⟩, by rw [filled_len Post.csl hi]; omega, i + 1, hi', ?_, by omega⟩
    refine Weak.cut (1) (by simp) (by simp) ?_ ?_
    · rw [wrap_i64 (by omega) (by omega)]
      simp [LeC, LeV, ren, cutF]
    · have := filled_step (zs := Post.zs) Post.csl rfl hi'
      simp only [Post.cs] at this ⊢
      rw [this]
      simp only [cutH, List.take, List.map]
      rw [cutB_rows (filled_plain (by decide) rfl (fun a => by exact Post.csp a))]
  · simp -implicitDefEqProofs -dsimp only [go_sem, Nat.reduceSub, Nat.reduceAdd, Nat.reduceMul, Nat.reduceLT, Nat.reduceLeDiff, Nat.reduceEqDiff, Nat.reduceDiv, Nat.reduceMod, Int.reduceToNat, Int.reduceLE, Int.reduceLT, Int.reduceBEq, Int.reduceBNe, Int.reduceNeg, Int.reduceAdd, Int.reduceSub, Int.reduceMul, reduceCtorEq, h1]
    have hi' : i = L.length := by simp at h1; omega
    subst hi'
    rw [filled_all Post.csl (Nat.le_refl _)]
    exact WeakR.refl _ _ _
theorem szPostS_ok (L : List Post) (n : Int) (hl : L.length ≤ 9223372036854775807) (hn : 0 ≤ n) (hn2 : n ≤ 1048576) : Ctr Try.prog 150 [Post.sl L, .int .i64 n] [] (.int .i64 (if n < L.length then -1 else n - L.length)) [] := by
  refine Ctr.intro Try.mixed Try.func150 rfl Try.okF150 ?_
  simp -implicitDefEqProofs -dsimp only [go_sem, Nat.reduceSub, Nat.reduceAdd, Nat.reduceMul, Nat.reduceLT, Nat.reduceLeDiff, Nat.reduceEqDiff, Nat.reduceDiv, Nat.reduceMod, Int.reduceToNat, Int.reduceLE, Int.reduceLT, Int.reduceBEq, Int.reduceBNe, Int.reduceNeg, Int.reduceAdd, Int.reduceSub, Int.reduceMul, reduceCtorEq, Try.ntmps150, Try.results150]
  rw [wrap_i64 (by omega) (by omega)]
  refine condT.split (fun h1 => ?_) (fun h1 => ?_) <;> simp -implicitDefEqProofs -dsimp only [go_sem, Nat.reduceSub, Nat.reduceAdd, Nat.reduceMul, Nat.reduceLT, Nat.reduceLeDiff, Nat.reduceEqDiff, Nat.reduceDiv, Nat.reduceMod, Int.reduceToNat, Int.reduceLE, Int.reduceLT, Int.reduceBEq, Int.reduceBNe, Int.reduceNeg, Int.reduceAdd, Int.reduceSub, Int.reduceMul, reduceCtorEq, h1]
  · exact WeakR.of_eq (by simp at h1; rw [if_pos (by omega)])
  · exact WeakR.of_eq (by simp at h1; rw [if_neg (by omega)])
theorem eqPost_ok (r : Post) : Ctr Try.prog 229 [r.v, r.v] [] (.bool true) [] := by
  refine Ctr.intro Try.mixed Try.func229 rfl Try.okF229 ?_
  simp -implicitDefEqProofs -dsimp only [go_sem, Nat.reduceSub, Nat.reduceAdd, Nat.reduceMul, Nat.reduceLT, Nat.reduceLeDiff, Nat.reduceEqDiff, Nat.reduceDiv, Nat.reduceMod, Int.reduceToNat, Int.reduceLE, Int.reduceLT, Int.reduceBEq, Int.reduceBNe, Int.reduceNeg, Int.reduceAdd, Int.reduceSub, Int.reduceMul, reduceCtorEq, Try.ntmps229, Try.results229]
  simp -implicitDefEqProofs -dsimp only [go_sem, Nat.reduceSub, Nat.reduceAdd, Nat.reduceMul, Nat.reduceLT, Nat.reduceLeDiff, Nat.reduceEqDiff, Nat.reduceDiv, Nat.reduceMod, Int.reduceToNat, Int.reduceLE, Int.reduceLT, Int.reduceBEq, Int.reduceBNe, Int.reduceNeg, Int.reduceAdd, Int.reduceSub, Int.reduceMul, reduceCtorEq, Post.v, bne_self_eq_false, beq_self_eq_true, Bool.not_true]
  exact WeakR.drop' rfl rfl
theorem eqPostS_ok (L : List Post) (hl : L.length ≤ 281474976710656) : Ctr Try.prog 154 [Post.sl L, Post.sl L] [] (.bool true) [] := by
  refine Ctr.intro Try.mixed Try.func154 rfl Try.okF154 ?_
  simp -implicitDefEqProofs -dsimp only [go_sem, Nat.reduceSub, Nat.reduceAdd, Nat.reduceMul, Nat.reduceLT, Nat.reduceLeDiff, Nat.reduceEqDiff, Nat.reduceDiv, Nat.reduceMod, Int.reduceToNat, Int.reduceLE, Int.reduceLT, Int.reduceBEq, Int.reduceBNe, Int.reduceNeg, Int.reduceAdd, Int.reduceSub, Int.reduceMul, reduceCtorEq, Try.ntmps154, Try.results154]
  refine LoopT.intro (fun i : Nat => i ≤ L.length) (fun i => ⟨[Post.sl L, Post.sl L, .undef, .undef, .undef, .int .i64 i, .undef, .undef, .undef, .undef, .undef, .undef, .undef, .undef, .undef, .undef, .undef, .undef, .undef, .undef, .undef, .undef, .undef, .undef, .undef, .undef, .undef], [], 0⟩) (fun i => L.length - i) 0 (Nat.zero_le _) ?_ (fun i hi => ?_)
  · refine Weak.cut (0) (by simp) (by simp) ?_ ?_
    · simp [LeC, LeV, ren, cutF]
    · rfl
  simp -implicitDefEqProofs -dsimp only [go_sem, Nat.reduceSub, Nat.reduceAdd, Nat.reduceMul, Nat.reduceLT, Nat.reduceLeDiff, Nat.reduceEqDiff, Nat.reduceDiv, Nat.reduceMod, Int.reduceToNat, Int.reduceLE, Int.reduceLT, Int.reduceBEq, Int.reduceBNe, Int.reduceNeg, Int.reduceAdd, Int.reduceSub, Int.reduceMul, reduceCtorEq]
  refine condT.split (fun h1 => ?_) (fun h1 => ?_)
  · simp -implicitDefEqProofs -dsimp only [go_sem, Nat.reduceSub, Nat.reduceAdd, Nat.reduceMul, Nat.reduceLT, Nat.reduceLeDiff, Nat.reduceEqDiff, Nat.reduceDiv, Nat.reduceMod, Int.reduceToNat, Int.reduceLE, Int.reduceLT, Int.reduceBEq, Int.reduceBNe, Int.reduceNeg, Int.reduceAdd, Int.reduceSub, Int.reduceMul, reduceCtorEq, h1]
    have hi' : i < L.length := by simpa using h1
    rw [rows_at Post.csl hi']
    have h5 := Post.csl L[i]
    refine ⟨by kernel_rfl, ⟨by omega, by omega⟩, by omega, ⟨by omega, by omega⟩, by omega, ?_⟩
    (first | refine callT.at (eqPost_ok L[i]) ⟨.inl rfl, .inl rfl, trivial⟩ ?_ | refine callS.at (eqPost_ok L[i]) ⟨.inl rfl, .inl rfl, trivial⟩ ?_)
    simp -implicitDefEqProofs -dsimp only [go_sem, Nat.reduceSub, Nat.reduceAdd, Nat.reduceMul, Nat.reduceLT, Nat.reduceLeDiff, Nat.reduceEqDiff, Nat.reduceDiv, Nat.reduceMod, Int.reduceToNat, Int.reduceLE, Int.reduceLT, Int.reduceBEq, Int.reduceBNe, Int.reduceNeg, Int.reduceAdd, Int.reduceSub, Int.reduceMul, reduceCtorEq]
    refine ⟨i + 1, hi', ?_, by omega⟩
    refine Weak.cut (0) (by simp) (by simp) ?_ ?_
    · rw [wrap_i64 (by omega) (by omega)]
      simp [LeC, LeV, ren, cutF]
    · rfl
  · simp -implicitDefEqProofs -dsimp only [go_sem, Nat.reduceSub, Nat.reduceAdd, Nat.reduceMul, Nat.reduceLT, Nat.reduceLeDiff, Nat.reduceEqDiff, Nat.reduceDiv, Nat.reduceMod, Int.reduceToNat, Int.reduceLE, Int.reduceLT, Int.reduceBEq, Int.reduceBNe, Int.reduceNeg, Int.reduceAdd, Int.reduceSub, Int.reduceMul, reduceCtorEq, h1]
    exact WeakR.refl _ _ _
theorem markPostS_ok (L : List Post) (kk : Int) (hl : L.length ≤ 281474976710656) (hk : 0 ≤ kk) (hk2 : kk ≤ 281474976710656) : Ctr Try.prog 156 [.osl 0 0 L.length 3, .int .i64 kk] [some (rows Post.cs L)] (.int .i64 (kk + 3 * L.length)) [some (rows Post.cs (Post.marks kk L.length))] := by
  refine Ctr.intro Try.mixed Try.func156 rfl Try.okF156 ?_
  simp -implicitDefEqProofs -dsimp only [go_sem, Nat.reduceSub, Nat.reduceAdd, Nat.reduceMul, Nat.reduceLT, Nat.reduceLeDiff, Nat.reduceEqDiff, Nat.reduceDiv, Nat.reduceMod, Int.reduceToNat, Int.reduceLE, Int.reduceLT, Int.reduceBEq, Int.reduceBNe, Int.reduceNeg, Int.reduceAdd, Int.reduceSub, Int.reduceMul, reduceCtorEq, Try.ntmps156, Try.results156]
  refine LoopT.intro (fun i : Nat => i ≤ L.length) (fun i => ⟨[.osl 0 0 L.length 3, .int .i64 (kk + 3 * (i : Int)), .undef, .undef, .undef, .int .i64 i, .undef, .undef, .undef, .undef, .undef, .undef, .undef, .undef, .undef, .undef, .undef, .undef, .undef, .undef, .undef, .undef, .undef, .undef, .undef, .undef, .undef, .undef, .undef, .undef, .undef, .undef, .undef, .undef, .undef, .undef], [some (rows Post.cs (Post.marks kk i ++ L.drop i))], 1⟩) (fun i => L.length - i) 0 (Nat.zero_le _) ?_ (fun i hi => ?_)
  · refine Weak.cut (1) (by simp) (by simp) ?_ ?_
    · simp [LeC, LeV, ren, cutF]
    · simp only [cutH, List.take, List.map]
      rw [cutB_rows (rows_all Post.csp _)]
      simp [Post.marks]
  simp -implicitDefEqProofs -dsimp only [go_sem, Nat.reduceSub, Nat.reduceAdd, Nat.reduceMul, Nat.reduceLT, Nat.reduceLeDiff, Nat.reduceEqDiff, Nat.reduceDiv, Nat.reduceMod, Int.reduceToNat, Int.reduceLE, Int.reduceLT, Int.reduceBEq, Int.reduceBNe, Int.reduceNeg, Int.reduceAdd, Int.reduceSub, Int.reduceMul, reduceCtorEq]
  refine condT.split (fun h1 => ?_) (fun h1 => ?_)
  · simp -implicitDefEqProofs -dsimp only [go_sem, Nat.reduceSub, Nat.reduceAdd, Nat.reduceMul, Nat.reduceLT, Nat.reduceLeDiff, Nat.reduceEqDiff, Nat.reduceDiv, Nat.reduceMod, Int.reduceToNat, Int.reduceLE, Int.reduceLT, Int.reduceBEq, Int.reduceBNe, Int.reduceNeg, Int.reduceAdd, Int.reduceSub, Int.reduceMul, reduceCtorEq, h1]
    have hi' : i < L.length := by simpa using h1
    have hA : (rows Post.cs (Post.marks kk i)).length = i * 3 := by rw [rows_len Post.csl, Post.marks_len]
    have hB : rows Post.cs (Post.marks kk i ++ L.drop i) = rows Post.cs (Post.marks kk i) ++ (Post.cs L[i] ++ rows Post.cs (L.drop (i + 1))) := by
      rw [rowsOf_append, List.drop_eq_getElem_cons hi', rows_cons]
    rw [hB]
    have hsp : ∀ (M ns : List V) (j : Nat), splice (rows Post.cs (Post.marks kk i) ++ M) (i * 3 + j) ns = rows Post.cs (Post.marks kk i) ++ splice M j ns := fun M ns j => splice_mid hA
    have hsp0 : ∀ (M ns : List V), splice (rows Post.cs (Post.marks kk i) ++ M) (i * 3) ns = rows Post.cs (Post.marks kk i) ++ splice M 0 ns := fun M ns => splice_mid0 hA
    (repeat1' (first | simp -implicitDefEqProofs -dsimp only [go_sem, Nat.reduceSub, Nat.reduceAdd, Nat.reduceMul, Nat.reduceLT, Nat.reduceLeDiff, Nat.reduceEqDiff, Nat.reduceDiv, Nat.reduceMod, Int.reduceToNat, Int.reduceLE, Int.reduceLT, Int.reduceBEq, Int.reduceBNe, Int.reduceNeg, Int.reduceAdd, Int.reduceSub, Int.reduceMul, reduceCtorEq, hsp, hsp0, List.length_append, hA, Post.cs] | simp -implicitDefEqProofs -dsimp (disch := omega) only [wrap_i64]))
    repeat (with_reducible refine sideA ?_)
    refine ⟨i + 1, hi', ?_, by omega⟩
    refine Weak.cut (1) (by simp) (by simp) ?_ ?_
    · simp [LeC, LeV, ren, cutF]
      omega
    · have e : rows Post.cs (Post.marks kk (i + 1) ++ L.drop (i + 1)) = rows Post.cs (Post.marks kk i) ++ (Post.cs (Post.mk1 (kk + 3 * (i : Int))) ++ rows Post.cs (L.drop (i + 1))) := by
        rw [Post.marks_succ, List.append_assoc, rowsOf_append, rowsOf_append, rows_one]
      rw [e]
      simp only [cutH, List.take, List.map]
      rw [cutB_rows (by rw [List.all_append, rows_all Post.csp]; simp only [List.all_cons, noOwn, rows_all Post.csp, Bool.and_self])]
      simp [Post.cs, Post.mk1, Int.add_assoc]
  · simp -implicitDefEqProofs -dsimp only [go_sem, Nat.reduceSub, Nat.reduceAdd, Nat.reduceMul, Nat.reduceLT, Nat.reduceLeDiff, Nat.reduceEqDiff, Nat.reduceDiv, Nat.reduceMod, Int.reduceToNat, Int.reduceLE, Int.reduceLT, Int.reduceBEq, Int.reduceBNe, Int.reduceNeg, Int.reduceAdd, Int.reduceSub, Int.reduceMul, reduceCtorEq, h1]
    have hi' : i = L.length := by simp at h1; omega
    subst hi'
    rw [List.drop_length, List.append_nil]
    exact WeakR.of_eq (by simp)
theorem markPostS_nil (kk : Int) : Ctr Try.prog 156 [.sl 0 3 [], .int .i64 kk] [] (.int .i64 kk) [] := by
  refine Ctr.intro Try.mixed Try.func156 rfl Try.okF156 ?_
  simp -implicitDefEqProofs -dsimp only [go_sem, Nat.reduceSub, Nat.reduceAdd, Nat.reduceMul, Nat.reduceLT, Nat.reduceLeDiff, Nat.reduceEqDiff, Nat.reduceDiv, Nat.reduceMod, Int.reduceToNat, Int.reduceLE, Int.reduceLT, Int.reduceBEq, Int.reduceBNe, Int.reduceNeg, Int.reduceAdd, Int.reduceSub, Int.reduceMul, reduceCtorEq, Try.ntmps156, Try.results156]
  refine LoopT.intro (fun i : Nat => i = 0) (fun i => ⟨[.sl 0 3 [], .int .i64 kk, .undef, .undef, .undef, .int .i64 0, .undef, .undef, .undef, .undef, .undef, .undef, .undef, .undef, .undef, .undef, .undef, .undef, .undef, .undef, .undef, .undef, .undef, .undef, .undef, .undef, .undef, .undef, .undef, .undef, .undef, .undef, .undef, .undef, .undef, .undef], [], 0⟩) (fun i => 0) 0 rfl ?_ (fun i hi => ?_)
  · refine Weak.cut (0) (by simp) (by simp) ?_ ?_
    · simp [LeC, LeV, ren, cutF]
    · rfl
  simp -implicitDefEqProofs -dsimp only [go_sem, Nat.reduceSub, Nat.reduceAdd, Nat.reduceMul, Nat.reduceLT, Nat.reduceLeDiff, Nat.reduceEqDiff, Nat.reduceDiv, Nat.reduceMod, Int.reduceToNat, Int.reduceLE, Int.reduceLT, Int.reduceBEq, Int.reduceBNe, Int.reduceNeg, Int.reduceAdd, Int.reduceSub, Int.reduceMul, reduceCtorEq, Int.natCast_zero, Int.lt_irrefl, decide_false]
  exact WeakR.refl _ _ _
theorem heldPostS_ok (n : Nat) (kk : Int) (hl : n ≤ 281474976710656) (hk : 0 ≤ kk) (hk2 : kk ≤ 281474976710656) : Ctr Try.prog 158 [Post.sl (Post.marks kk n), .int .i64 kk] [] (.int .i64 (kk + 3 * n)) [] := by
  refine Ctr.intro Try.mixed Try.func158 rfl Try.okF158 ?_
  simp -implicitDefEqProofs -dsimp only [go_sem, Nat.reduceSub, Nat.reduceAdd, Nat.reduceMul, Nat.reduceLT, Nat.reduceLeDiff, Nat.reduceEqDiff, Nat.reduceDiv, Nat.reduceMod, Int.reduceToNat, Int.reduceLE, Int.reduceLT, Int.reduceBEq, Int.reduceBNe, Int.reduceNeg, Int.reduceAdd, Int.reduceSub, Int.reduceMul, reduceCtorEq, Try.ntmps158, Try.results158]
  refine LoopT.intro (fun i : Nat => i ≤ n) (fun i => ⟨[Post.sl (Post.marks kk n), .int .i64 (kk + 3 * (i : Int)), .undef, .undef, .undef, .int .i64 i, .undef, .undef, .undef, .undef, .undef, .undef, .undef, .undef, .undef, .undef, .undef, .undef, .undef, .undef, .undef, .undef, .undef, .undef, .undef, .undef, .undef, .undef, .undef, .undef, .undef, .undef, .undef, .undef, .undef, .undef, .undef, .undef, .undef, .undef, .undef, .undef], [], 0⟩) (fun i => n - i) 0 (Nat.zero_le _) ?_ (fun i hi => ?_)
  · refine Weak.cut (0) (by simp) (by simp) ?_ ?_
    · simp [LeC, LeV, ren, cutF]
    · rfl
  simp -implicitDefEqProofs -dsimp only [go_sem, Nat.reduceSub, Nat.reduceAdd, Nat.reduceMul, Nat.reduceLT, Nat.reduceLeDiff, Nat.reduceEqDiff, Nat.reduceDiv, Nat.reduceMod, Int.reduceToNat, Int.reduceLE, Int.reduceLT, Int.reduceBEq, Int.reduceBNe, Int.reduceNeg, Int.reduceAdd, Int.reduceSub, Int.reduceMul, reduceCtorEq]
  refine condT.split (fun h1 => ?_) (fun h1 => ?_)
  · simp -implicitDefEqProofs -dsimp only [go_sem, Nat.reduceSub, Nat.reduceAdd, Nat.reduceMul, Nat.reduceLT, Nat.reduceLeDiff, Nat.reduceEqDiff, Nat.reduceDiv, Nat.reduceMod, Int.reduceToNat, Int.reduceLE, Int.reduceLT, Int.reduceBEq, Int.reduceBNe, Int.reduceNeg, Int.reduceAdd, Int.reduceSub, Int.reduceMul, reduceCtorEq, h1]
    have hi' : i < n := by simpa using h1
    have hr := rows_at Post.csl (L := Post.marks kk n) (i := i) (by rw [Post.marks_len]; exact hi')
    rw [Post.marks_get] at hr
    (repeat1' (first | simp -implicitDefEqProofs -dsimp only [go_sem, Nat.reduceSub, Nat.reduceAdd, Nat.reduceMul, Nat.reduceLT, Nat.reduceLeDiff, Nat.reduceEqDiff, Nat.reduceDiv, Nat.reduceMod, Int.reduceToNat, Int.reduceLE, Int.reduceLT, Int.reduceBEq, Int.reduceBNe, Int.reduceNeg, Int.reduceAdd, Int.reduceSub, Int.reduceMul, reduceCtorEq, hr, Post.marks_len, Post.cs, Post.mk1, bne_self_eq_false, beq_self_eq_true] | simp -implicitDefEqProofs -dsimp (disch := omega) only [wrap_i64]))
    repeat (with_reducible refine sideA ?_)
    refine ⟨i + 1, hi', ?_, by omega⟩
    refine Weak.cut (0) (by simp) (by simp) ?_ ?_
    · simp [LeC, LeV, ren, cutF]
      omega
    · rfl
  · simp -implicitDefEqProofs -dsimp only [go_sem, Nat.reduceSub, Nat.reduceAdd, Nat.reduceMul, Nat.reduceLT, Nat.reduceLeDiff, Nat.reduceEqDiff, Nat.reduceDiv, Nat.reduceMod, Int.reduceToNat, Int.reduceLE, Int.reduceLT, Int.reduceBEq, Int.reduceBNe, Int.reduceNeg, Int.reduceAdd, Int.reduceSub, Int.reduceMul, reduceCtorEq, h1]
    have hi' : i = n := by simp at h1; omega
    subst hi'
    exact WeakR.of_eq (by simp)
theorem areListedPost_ok (L : List Post) (p : Post → Bool) (key : Post → Int) (most : Int) (fv fk : Nat) (vc kc : List V) (hvc : ∀ d, vc.all (noOwn d) = true) (hkc : ∀ d, kc.all (noOwn d) = true) (hv : ∀ x, Ctr Try.prog fv (Post.v x :: vc) [] (.bool (p x)) []) (hkey : ∀ x, Ctr Try.prog fk (Post.v x :: kc) [] (.int .i64 (key x)) []) (m : Nat) (hm : most = m) (hl : L.length ≤ 281474976710656) :
    Ctr Try.prog 140 [Post.sl L, .int .i64 most, .fn (.func fv) [] vc, .fn (.func fk) [] kc] [] (.bool (listedB p key m L)) [] := by
  subst hm
  refine Ctr.intro Try.mixed Try.func140 rfl Try.okF140 ?_
  simp -implicitDefEqProofs -dsimp only [go_sem, Nat.reduceSub, Nat.reduceAdd, Nat.reduceMul, Nat.reduceLT, Nat.reduceLeDiff, Nat.reduceEqDiff, Nat.reduceDiv, Nat.reduceMod, Int.reduceToNat, Int.reduceLE, Int.reduceLT, Int.reduceBEq, Int.reduceBNe, Int.reduceNeg, Int.reduceAdd, Int.reduceSub, Int.reduceMul, reduceCtorEq, Try.ntmps140, Try.results140]
  have hvc2 : ∀ f d, vc.map (ren f d) = vc := fun f d => map_ren f (hvc d)
  have hkc2 : ∀ f d, kc.map (ren f d) = kc := fun f d => map_ren f (hkc d)
  refine LoopT.intro (fun i : Nat => i ≤ L.length ∧ (List.range i).all (listedQ p key L) = true) (fun i => ⟨[Post.sl L, .int .i64 m, .fn (.func fv) [] vc, .fn (.func fk) [] kc, .undef, .undef, .undef, .undef, .undef, .undef, .undef, Post.sl L, .int .i64 L.length, .int .i64 i, .undef, .undef, .undef, .undef, .undef, .undef, .undef, .undef, .undef, .undef, .undef, .undef, .undef, .undef, .undef, .undef, .undef, .undef, .undef, .undef, .undef, .undef, .undef, .undef, .undef, .undef, .undef, .undef, .undef, .undef], [], 0⟩) (fun i => L.length - i) 0 ⟨Nat.zero_le _, rfl⟩ ?_ (fun i hi => ?_)
  · refine Weak.cut (0) (by simp) (by simp) ?_ ?_
    · simp [LeC, LeV, ren, cutF, hvc2, hkc2]
    · rfl
  simp -implicitDefEqProofs -dsimp only [go_sem, Nat.reduceSub, Nat.reduceAdd, Nat.reduceMul, Nat.reduceLT, Nat.reduceLeDiff, Nat.reduceEqDiff, Nat.reduceDiv, Nat.reduceMod, Int.reduceToNat, Int.reduceLE, Int.reduceLT, Int.reduceBEq, Int.reduceBNe, Int.reduceNeg, Int.reduceAdd, Int.reduceSub, Int.reduceMul, reduceCtorEq]
  refine condT.split (fun h1 => ?_) (fun h1 => ?_)
  · simp -implicitDefEqProofs -dsimp only [go_sem, Nat.reduceSub, Nat.reduceAdd, Nat.reduceMul, Nat.reduceLT, Nat.reduceLeDiff, Nat.reduceEqDiff, Nat.reduceDiv, Nat.reduceMod, Int.reduceToNat, Int.reduceLE, Int.reduceLT, Int.reduceBEq, Int.reduceBNe, Int.reduceNeg, Int.reduceAdd, Int.reduceSub, Int.reduceMul, reduceCtorEq, h1]
    have hi' : i < L.length := by simpa using h1
    have h5 := Post.csl L[i]
    have hr := rows_at Post.csl hi'
    (repeat1' (first | simp -implicitDefEqProofs -dsimp only [go_sem, Nat.reduceSub, Nat.reduceAdd, Nat.reduceMul, Nat.reduceLT, Nat.reduceLeDiff, Nat.reduceEqDiff, Nat.reduceDiv, Nat.reduceMod, Int.reduceToNat, Int.reduceLE, Int.reduceLT, Int.reduceBEq, Int.reduceBNe, Int.reduceNeg, Int.reduceAdd, Int.reduceSub, Int.reduceMul, reduceCtorEq, hr, Post.cs] | simp -implicitDefEqProofs -dsimp (disch := omega) only [wrap_i64]))
    repeat (with_reducible refine sideA ?_)
    refine callT.intro (hv L[i]) ⟨.inl rfl, LeL_same (hvc2 _ _)⟩ (.inl (by simp only [List.nil_append, List.cons_append, List.all_cons, hvc, Bool.and_true]; rfl)) ⟨refOk_fn (hvc 3), rfl⟩ ?_
    simp -implicitDefEqProofs -dsimp only [go_sem, Nat.reduceSub, Nat.reduceAdd, Nat.reduceMul, Nat.reduceLT, Nat.reduceLeDiff, Nat.reduceEqDiff, Nat.reduceDiv, Nat.reduceMod, Int.reduceToNat, Int.reduceLE, Int.reduceLT, Int.reduceBEq, Int.reduceBNe, Int.reduceNeg, Int.reduceAdd, Int.reduceSub, Int.reduceMul, reduceCtorEq]
    refine guardT.splitF (fun h2 => ?_) (fun h2 => ?_) <;> simp -implicitDefEqProofs -dsimp only [go_sem, Nat.reduceSub, Nat.reduceAdd, Nat.reduceMul, Nat.reduceLT, Nat.reduceLeDiff, Nat.reduceEqDiff, Nat.reduceDiv, Nat.reduceMod, Int.reduceToNat, Int.reduceLE, Int.reduceLT, Int.reduceBEq, Int.reduceBNe, Int.reduceNeg, Int.reduceAdd, Int.reduceSub, Int.reduceMul, reduceCtorEq, h2]
    · have hw : p L[i] = true := by simpa using h2
      refine guardT.splitT (fun h3 => ?_) (fun h3 => ?_) <;> simp -implicitDefEqProofs -dsimp only [go_sem, Nat.reduceSub, Nat.reduceAdd, Nat.reduceMul, Nat.reduceLT, Nat.reduceLeDiff, Nat.reduceEqDiff, Nat.reduceDiv, Nat.reduceMod, Int.reduceToNat, Int.reduceLE, Int.reduceLT, Int.reduceBEq, Int.reduceBNe, Int.reduceNeg, Int.reduceAdd, Int.reduceSub, Int.reduceMul, reduceCtorEq, h3]
      · obtain ⟨j, rfl⟩ : ∃ j, i = j + 1 := ⟨i - 1, by simp at h3; omega⟩
        have hj : j < L.length := by omega
        refine callT.intro (hkey L[j + 1]) ⟨.inl rfl, LeL_same (hkc2 _ _)⟩ (.inl (by simp only [List.nil_append, List.cons_append, List.all_cons, hkc, Bool.and_true]; rfl)) ⟨refOk_fn (hkc 3), rfl⟩ ?_
        have hw1 : IntKind.i64.wrap (((j + 1 : Nat) : Int) - 1) = (j : Int) := by rw [wrap_i64 (by omega) (by omega)]; omega
        have hr2 := rows_at Post.csl hj
        (repeat1' (first | simp -implicitDefEqProofs -dsimp only [go_sem, Nat.reduceSub, Nat.reduceAdd, Nat.reduceMul, Nat.reduceLT, Nat.reduceLeDiff, Nat.reduceEqDiff, Nat.reduceDiv, Nat.reduceMod, Int.reduceToNat, Int.reduceLE, Int.reduceLT, Int.reduceBEq, Int.reduceBNe, Int.reduceNeg, Int.reduceAdd, Int.reduceSub, Int.reduceMul, reduceCtorEq, hw1, hr2, Post.cs] | simp -implicitDefEqProofs -dsimp (disch := omega) only [wrap_i64]))
        repeat (with_reducible refine sideA ?_)
        refine callT.intro (hkey L[j]) ⟨.inl rfl, LeL_same (hkc2 _ _)⟩ (.inl (by simp only [List.nil_append, List.cons_append, List.all_cons, hkc, Bool.and_true]; rfl)) ⟨refOk_fn (hkc 3), rfl⟩ ?_
        (repeat1' (first | simp -implicitDefEqProofs -dsimp only [go_sem, Nat.reduceSub, Nat.reduceAdd, Nat.reduceMul, Nat.reduceLT, Nat.reduceLeDiff, Nat.reduceEqDiff, Nat.reduceDiv, Nat.reduceMod, Int.reduceToNat, Int.reduceLE, Int.reduceLT, Int.reduceBEq, Int.reduceBNe, Int.reduceNeg, Int.reduceAdd, Int.reduceSub, Int.reduceMul, reduceCtorEq] | simp -implicitDefEqProofs -dsimp (disch := omega) only [wrap_i64]))
        refine condT.split (fun h4 => ?_) (fun h4 => ?_) <;> simp -implicitDefEqProofs -dsimp only [go_sem, Nat.reduceSub, Nat.reduceAdd, Nat.reduceMul, Nat.reduceLT, Nat.reduceLeDiff, Nat.reduceEqDiff, Nat.reduceDiv, Nat.reduceMod, Int.reduceToNat, Int.reduceLE, Int.reduceLT, Int.reduceBEq, Int.reduceBNe, Int.reduceNeg, Int.reduceAdd, Int.reduceSub, Int.reduceMul, reduceCtorEq, h4]
        · refine WeakR.drop' ?_ rfl
          have hq : listedQ p key L (j + 1) = false := by
            rw [listedQ_succ hi', hw]
            simp at h4 ⊢
            omega
          rw [listedB_false hi' hq]
        · refine ⟨j + 1 + 1, ⟨hi', range_all_succ hi.2 (by rw [listedQ_succ hi', hw]; simp at h4 ⊢; omega)⟩, ?_, by omega⟩
          refine Weak.cut (0) (by simp) (by simp) ?_ ?_
          · rw [wrap_i64 (by omega) (by omega)]
            simp [LeC, LeV, ren, cutF, hvc2, hkc2]
          · rfl
      · have h0 : i = 0 := by simp at h3; omega
        refine ⟨i + 1, ⟨hi', range_all_succ hi.2 (by subst h0; rw [listedQ_zero hi', hw])⟩, ?_, by omega⟩
        refine Weak.cut (0) (by simp) (by simp) ?_ ?_
        · rw [wrap_i64 (by omega) (by omega)]
          simp [LeC, LeV, ren, cutF, hvc2, hkc2]
        · rfl
    · have hw : p L[i] = false := by simpa using h2
      refine WeakR.drop' ?_ rfl
      have hq : listedQ p key L i = false := by simp [listedQ, hi', hw]
      rw [listedB_false hi' hq]
  · simp -implicitDefEqProofs -dsimp only [go_sem, Nat.reduceSub, Nat.reduceAdd, Nat.reduceMul, Nat.reduceLT, Nat.reduceLeDiff, Nat.reduceEqDiff, Nat.reduceDiv, Nat.reduceMod, Int.reduceToNat, Int.reduceLE, Int.reduceLT, Int.reduceBEq, Int.reduceBNe, Int.reduceNeg, Int.reduceAdd, Int.reduceSub, Int.reduceMul, reduceCtorEq, h1]
    refine WeakR.drop' ?_ rfl
    have : i = L.length := by simp at h1; omega
    subst this
    rw [listedB, hi.2]
    simp
    try omega
end Go.Proofs
end
section
set_option linter.unusedSimpArgs false
set_option linter.unusedVariables false
set_option maxRecDepth 100000
namespace Go.Proofs
open Go.Lv
structure Shock where
  Number : Int
  State : Int
  Seen : Int
  Size : Int
  Tick : Int
def Shock.cs (r : Shock) : List V := [.int .i64 r.Number, .int .i64 r.State, .int .i64 r.Seen, .int .i64 r.Size, .int .i64 r.Tick]
def Shock.v (r : Shock) : V := .agg [.int .i64 r.Number, .int .i64 r.State, .int .i64 r.Seen, .int .i64 r.Size, .int .i64 r.Tick]
theorem Shock.csl (a : Shock) : a.cs.length = 5 := rfl
theorem Shock.csp (a : Shock) : a.cs.all (noOwn 2) = true := rfl
instance : FlatP Shock.cs 5 := ⟨fun _ => rfl, fun _ d => by cases d <;> rfl, fun _ => rfl, fun _ => rfl⟩
def Shock.ok (r : Shock) : Prop := i64R r.Number ∧ i64R r.State ∧ i64R r.Seen ∧ i64R r.Size ∧ i64R r.Tick
abbrev Shock.rows (L : List Shock) : List V := Go.Lv.rows Shock.cs L
abbrev Shock.sl (L : List Shock) : V := .sl L.length 5 (Go.Lv.rows Shock.cs L)
abbrev Shock.zs : List V := [.int .i64 0, .int .i64 0, .int .i64 0, .int .i64 0, .int .i64 0]
/-- What a mark writes. -/
def Shock.mk1 (k : Int) : Shock := ⟨k, k + 1, k + 1 + 1, k + 1 + 1 + 1, k + 1 + 1 + 1 + 1⟩
def Shock.marks (k : Int) (n : Nat) : List Shock := (List.range n).map fun i : Nat => Shock.mk1 (k + 5 * (i : Int))
@[simp] theorem Shock.marks_len (k : Int) (n : Nat) : (Shock.marks k n).length = n := by simp [Shock.marks]
theorem Shock.marks_succ (k : Int) (n : Nat) : Shock.marks k (n + 1) = Shock.marks k n ++ [Shock.mk1 (k + 5 * (n : Int))] := by simp [Shock.marks, List.range_succ]
theorem Shock.marks_get (k : Int) (n : Nat) {i : Nat} (hi : i < (Shock.marks k n).length) : (Shock.marks k n)[i] = Shock.mk1 (k + 5 * (i : Int)) := by simp [Shock.marks]
theorem toShock_ok (r : Shock) : Ctr Try.prog 228 [r.v] [] r.v [] := by
  refine Ctr.intro Try.mixed Try.func228 rfl Try.okF228 ?_
  simp -implicitDefEqProofs -dsimp only [go_sem, Nat.reduceSub, Nat.reduceAdd, Nat.reduceMul, Nat.reduceLT, Nat.reduceLeDiff, Nat.reduceEqDiff, Nat.reduceDiv, Nat.reduceMod, Int.reduceToNat, Int.reduceLE, Int.reduceLT, Int.reduceBEq, Int.reduceBNe, Int.reduceNeg, Int.reduceAdd, Int.reduceSub, Int.reduceMul, reduceCtorEq, Try.ntmps228, Try.results228]
  simp -implicitDefEqProofs -dsimp only [go_sem, Nat.reduceSub, Nat.reduceAdd, Nat.reduceMul, Nat.reduceLT, Nat.reduceLeDiff, Nat.reduceEqDiff, Nat.reduceDiv, Nat.reduceMod, Int.reduceToNat, Int.reduceLE, Int.reduceLT, Int.reduceBEq, Int.reduceBNe, Int.reduceNeg, Int.reduceAdd, Int.reduceSub, Int.reduceMul, reduceCtorEq, Shock.v]
  exact WeakR.drop' rfl rfl
theorem toShockS_ok (L : List Shock) (hl : L.length ≤ 1048576) : Ctr Try.prog 153 [Shock.sl L] [] (.osl 0 0 L.length 5) [some (rows Shock.cs L)] := by
  refine Ctr.intro Try.mixed Try.func153 rfl Try.okF153 ?_
  simp -implicitDefEqProofs -dsimp only [go_sem, Nat.reduceSub, Nat.reduceAdd, Nat.reduceMul, Nat.reduceLT, Nat.reduceLeDiff, Nat.reduceEqDiff, Nat.reduceDiv, Nat.reduceMod, Int.reduceToNat, Int.reduceLE, Int.reduceLT, Int.reduceBEq, Int.reduceBNe, Int.reduceNeg, Int.reduceAdd, Int.reduceSub, Int.reduceMul, reduceCtorEq, Try.ntmps153, Try.results153]
  refine ⟨by omega, by omega, by omega, ?_⟩
  refine LoopT.intro (fun i : Nat => i ≤ L.length) (fun i => ⟨[Shock.sl L, .undef, .undef, .osl 0 0 L.length 5, .int .i64 i, .undef, .undef, .undef, .undef, .undef, .undef, .undef, .undef, .undef, .undef, .undef, .undef, .undef, .undef, .undef, .undef, .undef, .undef], [some (filled Shock.cs 5 Shock.zs L i)], 0⟩) (fun i => L.length - i) 0 (Nat.zero_le _) ?_ (fun i hi => ?_)
  · refine Weak.cut (1) (by simp) (by simp) ?_ ?_
    · simp [LeC, LeV, ren, cutF]
    · rw [filled_zero]
      simp only [cutH, List.take, List.map]
      rw [cutB_rows (zrow_all rfl (by decide) _)]
  simp -implicitDefEqProofs -dsimp only [go_sem, Nat.reduceSub, Nat.reduceAdd, Nat.reduceMul, Nat.reduceLT, Nat.reduceLeDiff, Nat.reduceEqDiff, Nat.reduceDiv, Nat.reduceMod, Int.reduceToNat, Int.reduceLE, Int.reduceLT, Int.reduceBEq, Int.reduceBNe, Int.reduceNeg, Int.reduceAdd, Int.reduceSub, Int.reduceMul, reduceCtorEq]
  refine condT.split (fun h1 => ?_) (fun h1 => ?_)
  · simp -implicitDefEqProofs -dsimp only [go_sem, Nat.reduceSub, Nat.reduceAdd, Nat.reduceMul, Nat.reduceLT, Nat.reduceLeDiff, Nat.reduceEqDiff, Nat.reduceDiv, Nat.reduceMod, Int.reduceToNat, Int.reduceLE, Int.reduceLT, Int.reduceBEq, Int.reduceBNe, Int.reduceNeg, Int.reduceAdd, Int.reduceSub, Int.reduceMul, reduceCtorEq, h1]
    have hi' : i < L.length := by simpa using h1
    rw [rows_at Shock.csl hi']
    refine ⟨by omega, by simp [Shock.csl], ?_⟩
    (first | refine callT.at (toShock_ok L[i]) ⟨.inl rfl, trivial⟩ ?_ | refine callS.at (toShock_ok L[i]) ⟨.inl rfl, trivial⟩ ?_)
    simp -implicitDefEqProofs -dsimp only [go_sem, Nat.reduceSub, Nat.reduceAdd, Nat.reduceMul, Nat.reduceLT, Nat.reduceLeDiff, Nat.reduceEqDiff, Nat.reduceDiv, Nat.reduceMod, Int.reduceToNat, Int.reduceLE, Int.reduceLT, Int.reduceBEq, Int.reduceBNe, Int.reduceNeg, Int.reduceAdd, Int.reduceSub, Int.reduceMul, reduceCtorEq, Shock.v]
    refine ⟨⟨by omega, by omega⟩, by rw [filled_len Shock.csl hi]; omega, i + 1, hi', ?_, by omega⟩
    refine Weak.cut (1) (by simp) (by simp) ?_ ?_
    · rw [wrap_i64 (by omega) (by omega)]
      simp [LeC, LeV, ren, cutF]
    · have := filled_step (zs := Shock.zs) Shock.csl rfl hi'
      simp only [Shock.cs] at this ⊢
      rw [this]
      simp only [cutH, List.take, List.map]
      rw [cutB_rows (filled_plain (by decide) rfl (fun a => by exact Shock.csp a))]
  · simp -implicitDefEqProofs -dsimp only [go_sem, Nat.reduceSub, Nat.reduceAdd, Nat.reduceMul, Nat.reduceLT, Nat.reduceLeDiff, Nat.reduceEqDiff, Nat.reduceDiv, Nat.reduceMod, Int.reduceToNat, Int.reduceLE, Int.reduceLT, Int.reduceBEq, Int.reduceBNe, Int.reduceNeg, Int.reduceAdd, Int.reduceSub, Int.reduceMul, reduceCtorEq, h1]
    have hi' : i = L.length := by simp at h1; omega
    subst hi'
    rw [filled_all Shock.csl (Nat.le_refl _)]
    exact WeakR.refl _ _ _
theorem szShockS_ok (L : List Shock) (n : Int) (hl : L.length ≤ 9223372036854775807) (hn : 0 ≤ n) (hn2 : n ≤ 1048576) : Ctr Try.prog 151 [Shock.sl L, .int .i64 n] [] (.int .i64 (if n < L.length then -1 else n - L.length)) [] := by
  refine Ctr.intro Try.mixed Try.func151 rfl Try.okF151 ?_
  simp -implicitDefEqProofs -dsimp only [go_sem, Nat.reduceSub, Nat.reduceAdd, Nat.reduceMul, Nat.reduceLT, Nat.reduceLeDiff, Nat.reduceEqDiff, Nat.reduceDiv, Nat.reduceMod, Int.reduceToNat, Int.reduceLE, Int.reduceLT, Int.reduceBEq, Int.reduceBNe, Int.reduceNeg, Int.reduceAdd, Int.reduceSub, Int.reduceMul, reduceCtorEq, Try.ntmps151, Try.results151]
  rw [wrap_i64 (by omega) (by omega)]
  refine condT.split (fun h1 => ?_) (fun h1 => ?_) <;> simp -implicitDefEqProofs -dsimp only [go_sem, Nat.reduceSub, Nat.reduceAdd, Nat.reduceMul, Nat.reduceLT, Nat.reduceLeDiff, Nat.reduceEqDiff, Nat.reduceDiv, Nat.reduceMod, Int.reduceToNat, Int.reduceLE, Int.reduceLT, Int.reduceBEq, Int.reduceBNe, Int.reduceNeg, Int.reduceAdd, Int.reduceSub, Int.reduceMul, reduceCtorEq, h1]
  · exact WeakR.of_eq (by simp at h1; rw [if_pos (by omega)])
  · exact WeakR.of_eq (by simp at h1; rw [if_neg (by omega)])
theorem eqShock_ok (r : Shock) : Ctr Try.prog 230 [r.v, r.v] [] (.bool true) [] := by
  refine Ctr.intro Try.mixed Try.func230 rfl Try.okF230 ?_
  simp -implicitDefEqProofs -dsimp only [go_sem, Nat.reduceSub, Nat.reduceAdd, Nat.reduceMul, Nat.reduceLT, Nat.reduceLeDiff, Nat.reduceEqDiff, Nat.reduceDiv, Nat.reduceMod, Int.reduceToNat, Int.reduceLE, Int.reduceLT, Int.reduceBEq, Int.reduceBNe, Int.reduceNeg, Int.reduceAdd, Int.reduceSub, Int.reduceMul, reduceCtorEq, Try.ntmps230, Try.results230]
  simp -implicitDefEqProofs -dsimp only [go_sem, Nat.reduceSub, Nat.reduceAdd, Nat.reduceMul, Nat.reduceLT, Nat.reduceLeDiff, Nat.reduceEqDiff, Nat.reduceDiv, Nat.reduceMod, Int.reduceToNat, Int.reduceLE, Int.reduceLT, Int.reduceBEq, Int.reduceBNe, Int.reduceNeg, Int.reduceAdd, Int.reduceSub, Int.reduceMul, reduceCtorEq, Shock.v, bne_self_eq_false, beq_self_eq_true, Bool.not_true]
  exact WeakR.drop' rfl rfl
theorem eqShockS_ok (L : List Shock) (hl : L.length ≤ 281474976710656) : Ctr Try.prog 155 [Shock.sl L, Shock.sl L] [] (.bool true) [] := by
  refine Ctr.intro Try.mixed Try.func155 rfl Try.okF155 ?_
  simp -implicitDefEqProofs -dsimp only [go_sem, Nat.reduceSub, Nat.reduceAdd, Nat.reduceMul, Nat.reduceLT, Nat.reduceLeDiff, Nat.reduceEqDiff, Nat.reduceDiv, Nat.reduceMod, Int.reduceToNat, Int.reduceLE, Int.reduceLT, Int.reduceBEq, Int.reduceBNe, Int.reduceNeg, Int.reduceAdd, Int.reduceSub, Int.reduceMul, reduceCtorEq, Try.ntmps155, Try.results155]
  refine LoopT.intro (fun i : Nat => i ≤ L.length) (fun i => ⟨[Shock.sl L, Shock.sl L, .undef, .undef, .undef, .int .i64 i, .undef, .undef, .undef, .undef, .undef, .undef, .undef, .undef, .undef, .undef, .undef, .undef, .undef, .undef, .undef, .undef, .undef, .undef, .undef, .undef, .undef], [], 0⟩) (fun i => L.length - i) 0 (Nat.zero_le _) ?_ (fun i hi => ?_)
  · refine Weak.cut (0) (by simp) (by simp) ?_ ?_
    · simp [LeC, LeV, ren, cutF]
    · rfl
  simp -implicitDefEqProofs -dsimp only [go_sem, Nat.reduceSub, Nat.reduceAdd, Nat.reduceMul, Nat.reduceLT, Nat.reduceLeDiff, Nat.reduceEqDiff, Nat.reduceDiv, Nat.reduceMod, Int.reduceToNat, Int.reduceLE, Int.reduceLT, Int.reduceBEq, Int.reduceBNe, Int.reduceNeg, Int.reduceAdd, Int.reduceSub, Int.reduceMul, reduceCtorEq]
  refine condT.split (fun h1 => ?_) (fun h1 => ?_)
  · simp -implicitDefEqProofs -dsimp only [go_sem, Nat.reduceSub, Nat.reduceAdd, Nat.reduceMul, Nat.reduceLT, Nat.reduceLeDiff, Nat.reduceEqDiff, Nat.reduceDiv, Nat.reduceMod, Int.reduceToNat, Int.reduceLE, Int.reduceLT, Int.reduceBEq, Int.reduceBNe, Int.reduceNeg, Int.reduceAdd, Int.reduceSub, Int.reduceMul, reduceCtorEq, h1]
    have hi' : i < L.length := by simpa using h1
    rw [rows_at Shock.csl hi']
    have h5 := Shock.csl L[i]
    refine ⟨by kernel_rfl, ⟨by omega, by omega⟩, by omega, ⟨by omega, by omega⟩, by omega, ?_⟩
    (first | refine callT.at (eqShock_ok L[i]) ⟨.inl rfl, .inl rfl, trivial⟩ ?_ | refine callS.at (eqShock_ok L[i]) ⟨.inl rfl, .inl rfl, trivial⟩ ?_)
    simp -implicitDefEqProofs -dsimp only [go_sem, Nat.reduceSub, Nat.reduceAdd, Nat.reduceMul, Nat.reduceLT, Nat.reduceLeDiff, Nat.reduceEqDiff, Nat.reduceDiv, Nat.reduceMod, Int.reduceToNat, Int.reduceLE, Int.reduceLT, Int.reduceBEq, Int.reduceBNe, Int.reduceNeg, Int.reduceAdd, Int.reduceSub, Int.reduceMul, reduceCtorEq]
    refine ⟨i + 1, hi', ?_, by omega⟩
    refine Weak.cut (0) (by simp) (by simp) ?_ ?_
    · rw [wrap_i64 (by omega) (by omega)]
      simp [LeC, LeV, ren, cutF]
    · rfl
  · simp -implicitDefEqProofs -dsimp only [go_sem, Nat.reduceSub, Nat.reduceAdd, Nat.reduceMul, Nat.reduceLT, Nat.reduceLeDiff, Nat.reduceEqDiff, Nat.reduceDiv, Nat.reduceMod, Int.reduceToNat, Int.reduceLE, Int.reduceLT, Int.reduceBEq, Int.reduceBNe, Int.reduceNeg, Int.reduceAdd, Int.reduceSub, Int.reduceMul, reduceCtorEq, h1]
    exact WeakR.refl _ _ _
theorem markShockS_ok (L : List Shock) (kk : Int) (hl : L.length ≤ 281474976710656) (hk : 0 ≤ kk) (hk2 : kk ≤ 281474976710656) : Ctr Try.prog 157 [.osl 0 0 L.length 5, .int .i64 kk] [some (rows Shock.cs L)] (.int .i64 (kk + 5 * L.length)) [some (rows Shock.cs (Shock.marks kk L.length))] := by
  refine Ctr.intro Try.mixed Try.func157 rfl Try.okF157 ?_
  simp -implicitDefEqProofs -dsimp only [go_sem, Nat.reduceSub, Nat.reduceAdd, Nat.reduceMul, Nat.reduceLT, Nat.reduceLeDiff, Nat.reduceEqDiff, Nat.reduceDiv, Nat.reduceMod, Int.reduceToNat, Int.reduceLE, Int.reduceLT, Int.reduceBEq, Int.reduceBNe, Int.reduceNeg, Int.reduceAdd, Int.reduceSub, Int.reduceMul, reduceCtorEq, Try.ntmps157, Try.results157]
  refine LoopT.intro (fun i : Nat => i ≤ L.length) (fun i => ⟨[.osl 0 0 L.length 5, .int .i64 (kk + 5 * (i : Int)), .undef, .undef, .undef, .int .i64 i, .undef, .undef, .undef, .undef, .undef, .undef, .undef, .undef, .undef, .undef, .undef, .undef, .undef, .undef, .undef, .undef, .undef, .undef, .undef, .undef, .undef, .undef, .undef, .undef, .undef, .undef, .undef, .undef, .undef, .undef, .undef, .undef, .undef, .undef, .undef, .undef, .undef, .undef, .undef, .undef, .undef, .undef], [some (rows Shock.cs (Shock.marks kk i ++ L.drop i))], 1⟩) (fun i => L.length - i) 0 (Nat.zero_le _) ?_ (fun i hi => ?_)
  · refine Weak.cut (1) (by simp) (by simp) ?_ ?_
    · simp [LeC, LeV, ren, cutF]
    · simp only [cutH, List.take, List.map]
      rw [cutB_rows (rows_all Shock.csp _)]
      simp [Shock.marks]
  simp -implicitDefEqProofs -dsimp only [go_sem, Nat.reduceSub, Nat.reduceAdd, Nat.reduceMul, Nat.reduceLT, Nat.reduceLeDiff, Nat.reduceEqDiff, Nat.reduceDiv, Nat.reduceMod, Int.reduceToNat, Int.reduceLE, Int.reduceLT, Int.reduceBEq, Int.reduceBNe, Int.reduceNeg, Int.reduceAdd, Int.reduceSub, Int.reduceMul, reduceCtorEq]
  refine condT.split (fun h1 => ?_) (fun h1 => ?_)
  · simp -implicitDefEqProofs -dsimp only [go_sem, Nat.reduceSub, Nat.reduceAdd, Nat.reduceMul, Nat.reduceLT, Nat.reduceLeDiff, Nat.reduceEqDiff, Nat.reduceDiv, Nat.reduceMod, Int.reduceToNat, Int.reduceLE, Int.reduceLT, Int.reduceBEq, Int.reduceBNe, Int.reduceNeg, Int.reduceAdd, Int.reduceSub, Int.reduceMul, reduceCtorEq, h1]
    have hi' : i < L.length := by simpa using h1
    have hA : (rows Shock.cs (Shock.marks kk i)).length = i * 5 := by rw [rows_len Shock.csl, Shock.marks_len]
    have hB : rows Shock.cs (Shock.marks kk i ++ L.drop i) = rows Shock.cs (Shock.marks kk i) ++ (Shock.cs L[i] ++ rows Shock.cs (L.drop (i + 1))) := by
      rw [rowsOf_append, List.drop_eq_getElem_cons hi', rows_cons]
    rw [hB]
    have hsp : ∀ (M ns : List V) (j : Nat), splice (rows Shock.cs (Shock.marks kk i) ++ M) (i * 5 + j) ns = rows Shock.cs (Shock.marks kk i) ++ splice M j ns := fun M ns j => splice_mid hA
    have hsp0 : ∀ (M ns : List V), splice (rows Shock.cs (Shock.marks kk i) ++ M) (i * 5) ns = rows Shock.cs (Shock.marks kk i) ++ splice M 0 ns := fun M ns => splice_mid0 hA
    (repeat1' (first | simp -implicitDefEqProofs -dsimp only [go_sem, Nat.reduceSub, Nat.reduceAdd, Nat.reduceMul, Nat.reduceLT, Nat.reduceLeDiff, Nat.reduceEqDiff, Nat.reduceDiv, Nat.reduceMod, Int.reduceToNat, Int.reduceLE, Int.reduceLT, Int.reduceBEq, Int.reduceBNe, Int.reduceNeg, Int.reduceAdd, Int.reduceSub, Int.reduceMul, reduceCtorEq, hsp, hsp0, List.length_append, hA, Shock.cs] | simp -implicitDefEqProofs -dsimp (disch := omega) only [wrap_i64]))
    repeat (with_reducible refine sideA ?_)
    refine ⟨i + 1, hi', ?_, by omega⟩
    refine Weak.cut (1) (by simp) (by simp) ?_ ?_
    · simp [LeC, LeV, ren, cutF]
      omega
    · have e : rows Shock.cs (Shock.marks kk (i + 1) ++ L.drop (i + 1)) = rows Shock.cs (Shock.marks kk i) ++ (Shock.cs (Shock.mk1 (kk + 5 * (i : Int))) ++ rows Shock.cs (L.drop (i + 1))) := by
        rw [Shock.marks_succ, List.append_assoc, rowsOf_append, rowsOf_append, rows_one]
      rw [e]
      simp only [cutH, List.take, List.map]
      rw [cutB_rows (by rw [List.all_append, rows_all Shock.csp]; simp only [List.all_cons, noOwn, rows_all Shock.csp, Bool.and_self])]
      simp [Shock.cs, Shock.mk1, Int.add_assoc]
  · simp -implicitDefEqProofs -dsimp only [go_sem, Nat.reduceSub, Nat.reduceAdd, Nat.reduceMul, Nat.reduceLT, Nat.reduceLeDiff, Nat.reduceEqDiff, Nat.reduceDiv, Nat.reduceMod, Int.reduceToNat, Int.reduceLE, Int.reduceLT, Int.reduceBEq, Int.reduceBNe, Int.reduceNeg, Int.reduceAdd, Int.reduceSub, Int.reduceMul, reduceCtorEq, h1]
    have hi' : i = L.length := by simp at h1; omega
    subst hi'
    rw [List.drop_length, List.append_nil]
    exact WeakR.of_eq (by simp)
theorem markShockS_nil (kk : Int) : Ctr Try.prog 157 [.sl 0 5 [], .int .i64 kk] [] (.int .i64 kk) [] := by
  refine Ctr.intro Try.mixed Try.func157 rfl Try.okF157 ?_
  simp -implicitDefEqProofs -dsimp only [go_sem, Nat.reduceSub, Nat.reduceAdd, Nat.reduceMul, Nat.reduceLT, Nat.reduceLeDiff, Nat.reduceEqDiff, Nat.reduceDiv, Nat.reduceMod, Int.reduceToNat, Int.reduceLE, Int.reduceLT, Int.reduceBEq, Int.reduceBNe, Int.reduceNeg, Int.reduceAdd, Int.reduceSub, Int.reduceMul, reduceCtorEq, Try.ntmps157, Try.results157]
  refine LoopT.intro (fun i : Nat => i = 0) (fun i => ⟨[.sl 0 5 [], .int .i64 kk, .undef, .undef, .undef, .int .i64 0, .undef, .undef, .undef, .undef, .undef, .undef, .undef, .undef, .undef, .undef, .undef, .undef, .undef, .undef, .undef, .undef, .undef, .undef, .undef, .undef, .undef, .undef, .undef, .undef, .undef, .undef, .undef, .undef, .undef, .undef, .undef, .undef, .undef, .undef, .undef, .undef, .undef, .undef, .undef, .undef, .undef, .undef], [], 0⟩) (fun i => 0) 0 rfl ?_ (fun i hi => ?_)
  · refine Weak.cut (0) (by simp) (by simp) ?_ ?_
    · simp [LeC, LeV, ren, cutF]
    · rfl
  simp -implicitDefEqProofs -dsimp only [go_sem, Nat.reduceSub, Nat.reduceAdd, Nat.reduceMul, Nat.reduceLT, Nat.reduceLeDiff, Nat.reduceEqDiff, Nat.reduceDiv, Nat.reduceMod, Int.reduceToNat, Int.reduceLE, Int.reduceLT, Int.reduceBEq, Int.reduceBNe, Int.reduceNeg, Int.reduceAdd, Int.reduceSub, Int.reduceMul, reduceCtorEq, Int.natCast_zero, Int.lt_irrefl, decide_false]
  exact WeakR.refl _ _ _
theorem heldShockS_ok (n : Nat) (kk : Int) (hl : n ≤ 281474976710656) (hk : 0 ≤ kk) (hk2 : kk ≤ 281474976710656) : Ctr Try.prog 159 [Shock.sl (Shock.marks kk n), .int .i64 kk] [] (.int .i64 (kk + 5 * n)) [] := by
  refine Ctr.intro Try.mixed Try.func159 rfl Try.okF159 ?_
  simp -implicitDefEqProofs -dsimp only [go_sem, Nat.reduceSub, Nat.reduceAdd, Nat.reduceMul, Nat.reduceLT, Nat.reduceLeDiff, Nat.reduceEqDiff, Nat.reduceDiv, Nat.reduceMod, Int.reduceToNat, Int.reduceLE, Int.reduceLT, Int.reduceBEq, Int.reduceBNe, Int.reduceNeg, Int.reduceAdd, Int.reduceSub, Int.reduceMul, reduceCtorEq, Try.ntmps159, Try.results159]
  refine LoopT.intro (fun i : Nat => i ≤ n) (fun i => ⟨[Shock.sl (Shock.marks kk n), .int .i64 (kk + 5 * (i : Int)), .undef, .undef, .undef, .int .i64 i, .undef, .undef, .undef, .undef, .undef, .undef, .undef, .undef, .undef, .undef, .undef, .undef, .undef, .undef, .undef, .undef, .undef, .undef, .undef, .undef, .undef, .undef, .undef, .undef, .undef, .undef, .undef, .undef, .undef, .undef, .undef, .undef, .undef, .undef, .undef, .undef, .undef, .undef, .undef, .undef, .undef, .undef, .undef, .undef, .undef, .undef, .undef, .undef, .undef, .undef, .undef, .undef], [], 0⟩) (fun i => n - i) 0 (Nat.zero_le _) ?_ (fun i hi => ?_)
  · refine Weak.cut (0) (by simp) (by simp) ?_ ?_
    · simp [LeC, LeV, ren, cutF]
    · rfl
  simp -implicitDefEqProofs -dsimp only [go_sem, Nat.reduceSub, Nat.reduceAdd, Nat.reduceMul, Nat.reduceLT, Nat.reduceLeDiff, Nat.reduceEqDiff, Nat.reduceDiv, Nat.reduceMod, Int.reduceToNat, Int.reduceLE, Int.reduceLT, Int.reduceBEq, Int.reduceBNe, Int.reduceNeg, Int.reduceAdd, Int.reduceSub, Int.reduceMul, reduceCtorEq]
  refine condT.split (fun h1 => ?_) (fun h1 => ?_)
  · simp -implicitDefEqProofs -dsimp only [go_sem, Nat.reduceSub, Nat.reduceAdd, Nat.reduceMul, Nat.reduceLT, Nat.reduceLeDiff, Nat.reduceEqDiff, Nat.reduceDiv, Nat.reduceMod, Int.reduceToNat, Int.reduceLE, Int.reduceLT, Int.reduceBEq, Int.reduceBNe, Int.reduceNeg, Int.reduceAdd, Int.reduceSub, Int.reduceMul, reduceCtorEq, h1]
    have hi' : i < n := by simpa using h1
    have hr := rows_at Shock.csl (L := Shock.marks kk n) (i := i) (by rw [Shock.marks_len]; exact hi')
    rw [Shock.marks_get] at hr
    (repeat1' (first | simp -implicitDefEqProofs -dsimp only [go_sem, Nat.reduceSub, Nat.reduceAdd, Nat.reduceMul, Nat.reduceLT, Nat.reduceLeDiff, Nat.reduceEqDiff, Nat.reduceDiv, Nat.reduceMod, Int.reduceToNat, Int.reduceLE, Int.reduceLT, Int.reduceBEq, Int.reduceBNe, Int.reduceNeg, Int.reduceAdd, Int.reduceSub, Int.reduceMul, reduceCtorEq, hr, Shock.marks_len, Shock.cs, Shock.mk1, bne_self_eq_false, beq_self_eq_true] | simp -implicitDefEqProofs -dsimp (disch := omega) only [wrap_i64]))
    repeat (with_reducible refine sideA ?_)
    refine ⟨i + 1, hi', ?_, by omega⟩
    refine Weak.cut (0) (by simp) (by simp) ?_ ?_
    · simp [LeC, LeV, ren, cutF]
      omega
    · rfl
  · simp -implicitDefEqProofs -dsimp only [go_sem, Nat.reduceSub, Nat.reduceAdd, Nat.reduceMul, Nat.reduceLT, Nat.reduceLeDiff, Nat.reduceEqDiff, Nat.reduceDiv, Nat.reduceMod, Int.reduceToNat, Int.reduceLE, Int.reduceLT, Int.reduceBEq, Int.reduceBNe, Int.reduceNeg, Int.reduceAdd, Int.reduceSub, Int.reduceMul, reduceCtorEq, h1]
    have hi' : i = n := by simp at h1; omega
    subst hi'
    exact WeakR.of_eq (by simp)
theorem areListedShock_ok (L : List Shock) (p : Shock → Bool) (key : Shock → Int) (most : Int) (fv fk : Nat) (vc kc : List V) (hvc : ∀ d, vc.all (noOwn d) = true) (hkc : ∀ d, kc.all (noOwn d) = true) (hv : ∀ x, Ctr Try.prog fv (Shock.v x :: vc) [] (.bool (p x)) []) (hkey : ∀ x, Ctr Try.prog fk (Shock.v x :: kc) [] (.int .i64 (key x)) []) (m : Nat) (hm : most = m) (hl : L.length ≤ 281474976710656) :
    Ctr Try.prog 142 [Shock.sl L, .int .i64 most, .fn (.func fv) [] vc, .fn (.func fk) [] kc] [] (.bool (listedB p key m L)) [] := by
  subst hm
  refine Ctr.intro Try.mixed Try.func142 rfl Try.okF142 ?_
  simp -implicitDefEqProofs -dsimp only [go_sem, Nat.reduceSub, Nat.reduceAdd, Nat.reduceMul, Nat.reduceLT, Nat.reduceLeDiff, Nat.reduceEqDiff, Nat.reduceDiv, Nat.reduceMod, Int.reduceToNat, Int.reduceLE, Int.reduceLT, Int.reduceBEq, Int.reduceBNe, Int.reduceNeg, Int.reduceAdd, Int.reduceSub, Int.reduceMul, reduceCtorEq, Try.ntmps142, Try.results142]
  have hvc2 : ∀ f d, vc.map (ren f d) = vc := fun f d => map_ren f (hvc d)
  have hkc2 : ∀ f d, kc.map (ren f d) = kc := fun f d => map_ren f (hkc d)
  refine LoopT.intro (fun i : Nat => i ≤ L.length ∧ (List.range i).all (listedQ p key L) = true) (fun i => ⟨[Shock.sl L, .int .i64 m, .fn (.func fv) [] vc, .fn (.func fk) [] kc, .undef, .undef, .undef, .undef, .undef, .undef, .undef, Shock.sl L, .int .i64 L.length, .int .i64 i, .undef, .undef, .undef, .undef, .undef, .undef, .undef, .undef, .undef, .undef, .undef, .undef, .undef, .undef, .undef, .undef, .undef, .undef, .undef, .undef, .undef, .undef, .undef, .undef, .undef, .undef, .undef, .undef, .undef, .undef], [], 0⟩) (fun i => L.length - i) 0 ⟨Nat.zero_le _, rfl⟩ ?_ (fun i hi => ?_)
  · refine Weak.cut (0) (by simp) (by simp) ?_ ?_
    · simp [LeC, LeV, ren, cutF, hvc2, hkc2]
    · rfl
  simp -implicitDefEqProofs -dsimp only [go_sem, Nat.reduceSub, Nat.reduceAdd, Nat.reduceMul, Nat.reduceLT, Nat.reduceLeDiff, Nat.reduceEqDiff, Nat.reduceDiv, Nat.reduceMod, Int.reduceToNat, Int.reduceLE, Int.reduceLT, Int.reduceBEq, Int.reduceBNe, Int.reduceNeg, Int.reduceAdd, Int.reduceSub, Int.reduceMul, reduceCtorEq]
  refine condT.split (fun h1 => ?_) (fun h1 => ?_)
  · simp -implicitDefEqProofs -dsimp only [go_sem, Nat.reduceSub, Nat.reduceAdd, Nat.reduceMul, Nat.reduceLT, Nat.reduceLeDiff, Nat.reduceEqDiff, Nat.reduceDiv, Nat.reduceMod, Int.reduceToNat, Int.reduceLE, Int.reduceLT, Int.reduceBEq, Int.reduceBNe, Int.reduceNeg, Int.reduceAdd, Int.reduceSub, Int.reduceMul, reduceCtorEq, h1]
    have hi' : i < L.length := by simpa using h1
    have h5 := Shock.csl L[i]
    have hr := rows_at Shock.csl hi'
    (repeat1' (first | simp -implicitDefEqProofs -dsimp only [go_sem, Nat.reduceSub, Nat.reduceAdd, Nat.reduceMul, Nat.reduceLT, Nat.reduceLeDiff, Nat.reduceEqDiff, Nat.reduceDiv, Nat.reduceMod, Int.reduceToNat, Int.reduceLE, Int.reduceLT, Int.reduceBEq, Int.reduceBNe, Int.reduceNeg, Int.reduceAdd, Int.reduceSub, Int.reduceMul, reduceCtorEq, hr, Shock.cs] | simp -implicitDefEqProofs -dsimp (disch := omega) only [wrap_i64]))
    repeat (with_reducible refine sideA ?_)
    refine callT.intro (hv L[i]) ⟨.inl rfl, LeL_same (hvc2 _ _)⟩ (.inl (by simp only [List.nil_append, List.cons_append, List.all_cons, hvc, Bool.and_true]; rfl)) ⟨refOk_fn (hvc 3), rfl⟩ ?_
    simp -implicitDefEqProofs -dsimp only [go_sem, Nat.reduceSub, Nat.reduceAdd, Nat.reduceMul, Nat.reduceLT, Nat.reduceLeDiff, Nat.reduceEqDiff, Nat.reduceDiv, Nat.reduceMod, Int.reduceToNat, Int.reduceLE, Int.reduceLT, Int.reduceBEq, Int.reduceBNe, Int.reduceNeg, Int.reduceAdd, Int.reduceSub, Int.reduceMul, reduceCtorEq]
    refine guardT.splitF (fun h2 => ?_) (fun h2 => ?_) <;> simp -implicitDefEqProofs -dsimp only [go_sem, Nat.reduceSub, Nat.reduceAdd, Nat.reduceMul, Nat.reduceLT, Nat.reduceLeDiff, Nat.reduceEqDiff, Nat.reduceDiv, Nat.reduceMod, Int.reduceToNat, Int.reduceLE, Int.reduceLT, Int.reduceBEq, Int.reduceBNe, Int.reduceNeg, Int.reduceAdd, Int.reduceSub, Int.reduceMul, reduceCtorEq, h2]
    · have hw : p L[i] = true := by simpa using h2
      refine guardT.splitT (fun h3 => ?_) (fun h3 => ?_) <;> simp -implicitDefEqProofs -dsimp only [go_sem, Nat.reduceSub, Nat.reduceAdd, Nat.reduceMul, Nat.reduceLT, Nat.reduceLeDiff, Nat.reduceEqDiff, Nat.reduceDiv, Nat.reduceMod, Int.reduceToNat, Int.reduceLE, Int.reduceLT, Int.reduceBEq, Int.reduceBNe, Int.reduceNeg, Int.reduceAdd, Int.reduceSub, Int.reduceMul, reduceCtorEq, h3]
      · obtain ⟨j, rfl⟩ : ∃ j, i = j + 1 := ⟨i - 1, by simp at h3; omega⟩
        have hj : j < L.length := by omega
        refine callT.intro (hkey L[j + 1]) ⟨.inl rfl, LeL_same (hkc2 _ _)⟩ (.inl (by simp only [List.nil_append, List.cons_append, List.all_cons, hkc, Bool.and_true]; rfl)) ⟨refOk_fn (hkc 3), rfl⟩ ?_
        have hw1 : IntKind.i64.wrap (((j + 1 : Nat) : Int) - 1) = (j : Int) := by rw [wrap_i64 (by omega) (by omega)]; omega
        have hr2 := rows_at Shock.csl hj
        (repeat1' (first | simp -implicitDefEqProofs -dsimp only [go_sem, Nat.reduceSub, Nat.reduceAdd, Nat.reduceMul, Nat.reduceLT, Nat.reduceLeDiff, Nat.reduceEqDiff, Nat.reduceDiv, Nat.reduceMod, Int.reduceToNat, Int.reduceLE, Int.reduceLT, Int.reduceBEq, Int.reduceBNe, Int.reduceNeg, Int.reduceAdd, Int.reduceSub, Int.reduceMul, reduceCtorEq, hw1, hr2, Shock.cs] | simp -implicitDefEqProofs -dsimp (disch := omega) only [wrap_i64]))
        repeat (with_reducible refine sideA ?_)
        refine callT.intro (hkey L[j]) ⟨.inl rfl, LeL_same (hkc2 _ _)⟩ (.inl (by simp only [List.nil_append, List.cons_append, List.all_cons, hkc, Bool.and_true]; rfl)) ⟨refOk_fn (hkc 3), rfl⟩ ?_
        (repeat1' (first | simp -implicitDefEqProofs -dsimp only [go_sem, Nat.reduceSub, Nat.reduceAdd, Nat.reduceMul, Nat.reduceLT, Nat.reduceLeDiff, Nat.reduceEqDiff, Nat.reduceDiv, Nat.reduceMod, Int.reduceToNat, Int.reduceLE, Int.reduceLT, Int.reduceBEq, Int.reduceBNe, Int.reduceNeg, Int.reduceAdd, Int.reduceSub, Int.reduceMul, reduceCtorEq] | simp -implicitDefEqProofs -dsimp (disch := omega) only [wrap_i64]))
        refine condT.split (fun h4 => ?_) (fun h4 => ?_) <;> simp -implicitDefEqProofs -dsimp only [go_sem, Nat.reduceSub, Nat.reduceAdd, Nat.reduceMul, Nat.reduceLT, Nat.reduceLeDiff, Nat.reduceEqDiff, Nat.reduceDiv, Nat.reduceMod, Int.reduceToNat, Int.reduceLE, Int.reduceLT, Int.reduceBEq, Int.reduceBNe, Int.reduceNeg, Int.reduceAdd, Int.reduceSub, Int.reduceMul, reduceCtorEq, h4]
        · refine WeakR.drop' ?_ rfl
          have hq : listedQ p key L (j + 1) = false := by
            rw [listedQ_succ hi', hw]
            simp at h4 ⊢
            omega
          rw [listedB_false hi' hq]
        · refine ⟨j + 1 + 1, ⟨hi', range_all_succ hi.2 (by rw [listedQ_succ hi', hw]; simp at h4 ⊢; omega)⟩, ?_, by omega⟩
          refine Weak.cut (0) (by simp) (by simp) ?_ ?_
          · rw [wrap_i64 (by omega) (by omega)]
            simp [LeC, LeV, ren, cutF, hvc2, hkc2]
          · rfl
      · have h0 : i = 0 := by simp at h3; omega
        refine ⟨i + 1, ⟨hi', range_all_succ hi.2 (by subst h0; rw [listedQ_zero hi', hw])⟩, ?_, by omega⟩
        refine Weak.cut (0) (by simp) (by simp) ?_ ?_
        · rw [wrap_i64 (by omega) (by omega)]
          simp [LeC, LeV, ren, cutF, hvc2, hkc2]
        · rfl
    · have hw : p L[i] = false := by simpa using h2
      refine WeakR.drop' ?_ rfl
      have hq : listedQ p key L i = false := by simp [listedQ, hi', hw]
      rw [listedB_false hi' hq]
  · simp -implicitDefEqProofs -dsimp only [go_sem, Nat.reduceSub, Nat.reduceAdd, Nat.reduceMul, Nat.reduceLT, Nat.reduceLeDiff, Nat.reduceEqDiff, Nat.reduceDiv, Nat.reduceMod, Int.reduceToNat, Int.reduceLE, Int.reduceLT, Int.reduceBEq, Int.reduceBNe, Int.reduceNeg, Int.reduceAdd, Int.reduceSub, Int.reduceMul, reduceCtorEq, h1]
    refine WeakR.drop' ?_ rfl
    have : i = L.length := by simp at h1; omega
    subst this
    rw [listedB, hi.2]
    simp
    try omega
end Go.Proofs
end
section
set_option linter.unusedSimpArgs false
set_option linter.unusedVariables false
set_option maxRecDepth 100000
namespace Go.Proofs
open Go.Lv
structure Watch where
  Now : Int
  Posts : List Post
  Shocks : List Shock
  Next : Int
  Archived : Int
def Watch.cs (r : Watch) : List V := [.int .i64 r.Now, .sl r.Posts.length 3 (Go.Lv.rows Post.cs r.Posts), .sl r.Shocks.length 5 (Go.Lv.rows Shock.cs r.Shocks), .int .i64 r.Next, .int .i64 r.Archived]
def Watch.v (r : Watch) : V := .agg [.int .i64 r.Now, .sl r.Posts.length 3 (Go.Lv.rows Post.cs r.Posts), .sl r.Shocks.length 5 (Go.Lv.rows Shock.cs r.Shocks), .int .i64 r.Next, .int .i64 r.Archived]
/-- The same, its lists in blocks of our own. -/
def Watch.o (r : Watch) (i0 i1 : Nat) : V := .agg [.int .i64 r.Now, .osl i0 0 r.Posts.length 3, .osl i1 0 r.Shocks.length 5, .int .i64 r.Next, .int .i64 r.Archived]
theorem Watch.csl (a : Watch) : a.cs.length = 5 := rfl
def Watch.ok (r : Watch) : Prop := i64R r.Now ∧ lstR Post.ok r.Posts ∧ lstR Shock.ok r.Shocks ∧ i64R r.Next ∧ i64R r.Archived
theorem Watch.le {h : Hp} {r : Watch} {i0 i1 : Nat} (h0 : h[i0]? = some (some (rows Post.cs r.Posts))) (h1 : h[i1]? = some (some (rows Shock.cs r.Shocks))) : LeV (ren (snapR h 3) 3 (r.o i0 i1)) r.v := by
  refine .inl ?_
  simp only [Watch.o, Watch.v, ren, List.map_cons, List.map_nil, snapR, h0, h1, map_ren_rows, List.drop_zero, take_rows]
theorem toWatch_ok (r : Watch) (hl0 : r.Posts.length ≤ 1048576) (hl1 : r.Shocks.length ≤ 1048576) : Ctr Try.prog 66 [r.v] [] (r.o 0 1) [some (rows Post.cs r.Posts), some (rows Shock.cs r.Shocks)] := by
  refine Ctr.intro Try.mixed Try.func66 rfl Try.okF66 ?_
  simp -implicitDefEqProofs -dsimp only [go_sem, Nat.reduceSub, Nat.reduceAdd, Nat.reduceMul, Nat.reduceLT, Nat.reduceLeDiff, Nat.reduceEqDiff, Nat.reduceDiv, Nat.reduceMod, Int.reduceToNat, Int.reduceLE, Int.reduceLT, Int.reduceBEq, Int.reduceBNe, Int.reduceNeg, Int.reduceAdd, Int.reduceSub, Int.reduceMul, reduceCtorEq, Try.ntmps66, Try.results66]
  simp -implicitDefEqProofs -dsimp only [go_sem, Nat.reduceSub, Nat.reduceAdd, Nat.reduceMul, Nat.reduceLT, Nat.reduceLeDiff, Nat.reduceEqDiff, Nat.reduceDiv, Nat.reduceMod, Int.reduceToNat, Int.reduceLE, Int.reduceLT, Int.reduceBEq, Int.reduceBNe, Int.reduceNeg, Int.reduceAdd, Int.reduceSub, Int.reduceMul, reduceCtorEq, Watch.v]
  (first | refine callT.at (toPostS_ok r.Posts hl0) ⟨.inl rfl, trivial⟩ ?_ | refine callS.at (toPostS_ok r.Posts hl0) ⟨.inl rfl, trivial⟩ ?_)
  simp -implicitDefEqProofs -dsimp only [go_sem, Nat.reduceSub, Nat.reduceAdd, Nat.reduceMul, Nat.reduceLT, Nat.reduceLeDiff, Nat.reduceEqDiff, Nat.reduceDiv, Nat.reduceMod, Int.reduceToNat, Int.reduceLE, Int.reduceLT, Int.reduceBEq, Int.reduceBNe, Int.reduceNeg, Int.reduceAdd, Int.reduceSub, Int.reduceMul, reduceCtorEq]
  (first | refine callT.at (toShockS_ok r.Shocks hl1) ⟨.inl rfl, trivial⟩ ?_ | refine callS.at (toShockS_ok r.Shocks hl1) ⟨.inl rfl, trivial⟩ ?_)
  simp -implicitDefEqProofs -dsimp only [go_sem, Nat.reduceSub, Nat.reduceAdd, Nat.reduceMul, Nat.reduceLT, Nat.reduceLeDiff, Nat.reduceEqDiff, Nat.reduceDiv, Nat.reduceMod, Int.reduceToNat, Int.reduceLE, Int.reduceLT, Int.reduceBEq, Int.reduceBNe, Int.reduceNeg, Int.reduceAdd, Int.reduceSub, Int.reduceMul, reduceCtorEq]
  refine WeakR.pick [3, 4] (by decide) (fun j hj => by omega) (.inl ?_) ?_
  · rfl
  · simp only [pickH, List.map_cons, List.map_nil, pickB, List.getElem?_cons_zero, List.getElem?_cons_succ, map_ren_rows]
theorem szWatch_ok (r : Watch) (hr : r.ok) (n : Int) (hn : 0 ≤ n) (hn2 : n ≤ 1048576) : ∃ z : Int, (z < 0 ∨ 0 ≤ z ∧ z = n - (r.Posts.length : Int) - (r.Shocks.length : Int) ∧ r.Posts.length ≤ 1048576 ∧ r.Shocks.length ≤ 1048576) ∧ Ctr Try.prog 65 [r.v, .int .i64 n] [] (.int .i64 z) [] := by
  obtain ⟨o0, o1, o2, o3, o4⟩ := hr
  by_cases c0 : n < (r.Posts.length : Int)
  · refine ⟨-1, .inl (by omega), ?_⟩
    refine Ctr.intro Try.mixed Try.func65 rfl Try.okF65 ?_
    simp -implicitDefEqProofs -dsimp only [go_sem, Nat.reduceSub, Nat.reduceAdd, Nat.reduceMul, Nat.reduceLT, Nat.reduceLeDiff, Nat.reduceEqDiff, Nat.reduceDiv, Nat.reduceMod, Int.reduceToNat, Int.reduceLE, Int.reduceLT, Int.reduceBEq, Int.reduceBNe, Int.reduceNeg, Int.reduceAdd, Int.reduceSub, Int.reduceMul, reduceCtorEq, Try.ntmps65, Try.results65]
    simp -implicitDefEqProofs -dsimp only [go_sem, Nat.reduceSub, Nat.reduceAdd, Nat.reduceMul, Nat.reduceLT, Nat.reduceLeDiff, Nat.reduceEqDiff, Nat.reduceDiv, Nat.reduceMod, Int.reduceToNat, Int.reduceLE, Int.reduceLT, Int.reduceBEq, Int.reduceBNe, Int.reduceNeg, Int.reduceAdd, Int.reduceSub, Int.reduceMul, reduceCtorEq, Watch.v]
    (first | refine callT.at (szPostS_ok r.Posts (n) o1.1 (by omega) (by omega)) ⟨.inl rfl, .inl rfl, trivial⟩ ?_ | refine callS.at (szPostS_ok r.Posts (n) o1.1 (by omega) (by omega)) ⟨.inl rfl, .inl rfl, trivial⟩ ?_)
    rw [if_pos c0]
    simp -implicitDefEqProofs -dsimp only [go_sem, Nat.reduceSub, Nat.reduceAdd, Nat.reduceMul, Nat.reduceLT, Nat.reduceLeDiff, Nat.reduceEqDiff, Nat.reduceDiv, Nat.reduceMod, Int.reduceToNat, Int.reduceLE, Int.reduceLT, Int.reduceBEq, Int.reduceBNe, Int.reduceNeg, Int.reduceAdd, Int.reduceSub, Int.reduceMul, reduceCtorEq]
    exact WeakR.drop' rfl (by rfl)
  by_cases c1 : n - (r.Posts.length : Int) < (r.Shocks.length : Int)
  · refine ⟨-1, .inl (by omega), ?_⟩
    refine Ctr.intro Try.mixed Try.func65 rfl Try.okF65 ?_
    simp -implicitDefEqProofs -dsimp only [go_sem, Nat.reduceSub, Nat.reduceAdd, Nat.reduceMul, Nat.reduceLT, Nat.reduceLeDiff, Nat.reduceEqDiff, Nat.reduceDiv, Nat.reduceMod, Int.reduceToNat, Int.reduceLE, Int.reduceLT, Int.reduceBEq, Int.reduceBNe, Int.reduceNeg, Int.reduceAdd, Int.reduceSub, Int.reduceMul, reduceCtorEq, Try.ntmps65, Try.results65]
    simp -implicitDefEqProofs -dsimp only [go_sem, Nat.reduceSub, Nat.reduceAdd, Nat.reduceMul, Nat.reduceLT, Nat.reduceLeDiff, Nat.reduceEqDiff, Nat.reduceDiv, Nat.reduceMod, Int.reduceToNat, Int.reduceLE, Int.reduceLT, Int.reduceBEq, Int.reduceBNe, Int.reduceNeg, Int.reduceAdd, Int.reduceSub, Int.reduceMul, reduceCtorEq, Watch.v]
    (first | refine callT.at (szPostS_ok r.Posts (n) o1.1 (by omega) (by omega)) ⟨.inl rfl, .inl rfl, trivial⟩ ?_ | refine callS.at (szPostS_ok r.Posts (n) o1.1 (by omega) (by omega)) ⟨.inl rfl, .inl rfl, trivial⟩ ?_)
    rw [if_neg c0]
    simp -implicitDefEqProofs -dsimp only [go_sem, Nat.reduceSub, Nat.reduceAdd, Nat.reduceMul, Nat.reduceLT, Nat.reduceLeDiff, Nat.reduceEqDiff, Nat.reduceDiv, Nat.reduceMod, Int.reduceToNat, Int.reduceLE, Int.reduceLT, Int.reduceBEq, Int.reduceBNe, Int.reduceNeg, Int.reduceAdd, Int.reduceSub, Int.reduceMul, reduceCtorEq]
    refine condT.split (fun hh => absurd hh (by simp; omega)) (fun hh => ?_)
    simp -implicitDefEqProofs -dsimp only [go_sem, Nat.reduceSub, Nat.reduceAdd, Nat.reduceMul, Nat.reduceLT, Nat.reduceLeDiff, Nat.reduceEqDiff, Nat.reduceDiv, Nat.reduceMod, Int.reduceToNat, Int.reduceLE, Int.reduceLT, Int.reduceBEq, Int.reduceBNe, Int.reduceNeg, Int.reduceAdd, Int.reduceSub, Int.reduceMul, reduceCtorEq, hh]
    (first | refine callT.at (szShockS_ok r.Shocks (n - (r.Posts.length : Int)) o2.1 (by omega) (by omega)) ⟨.inl rfl, .inl rfl, trivial⟩ ?_ | refine callS.at (szShockS_ok r.Shocks (n - (r.Posts.length : Int)) o2.1 (by omega) (by omega)) ⟨.inl rfl, .inl rfl, trivial⟩ ?_)
    rw [if_pos c1]
    simp -implicitDefEqProofs -dsimp only [go_sem, Nat.reduceSub, Nat.reduceAdd, Nat.reduceMul, Nat.reduceLT, Nat.reduceLeDiff, Nat.reduceEqDiff, Nat.reduceDiv, Nat.reduceMod, Int.reduceToNat, Int.reduceLE, Int.reduceLT, Int.reduceBEq, Int.reduceBNe, Int.reduceNeg, Int.reduceAdd, Int.reduceSub, Int.reduceMul, reduceCtorEq]
    exact WeakR.drop' rfl (by rfl)
  · refine ⟨n - (r.Posts.length : Int) - (r.Shocks.length : Int), .inr ⟨by omega, rfl, by omega, by omega⟩, ?_⟩
    refine Ctr.intro Try.mixed Try.func65 rfl Try.okF65 ?_
    simp -implicitDefEqProofs -dsimp only [go_sem, Nat.reduceSub, Nat.reduceAdd, Nat.reduceMul, Nat.reduceLT, Nat.reduceLeDiff, Nat.reduceEqDiff, Nat.reduceDiv, Nat.reduceMod, Int.reduceToNat, Int.reduceLE, Int.reduceLT, Int.reduceBEq, Int.reduceBNe, Int.reduceNeg, Int.reduceAdd, Int.reduceSub, Int.reduceMul, reduceCtorEq, Try.ntmps65, Try.results65]
    simp -implicitDefEqProofs -dsimp only [go_sem, Nat.reduceSub, Nat.reduceAdd, Nat.reduceMul, Nat.reduceLT, Nat.reduceLeDiff, Nat.reduceEqDiff, Nat.reduceDiv, Nat.reduceMod, Int.reduceToNat, Int.reduceLE, Int.reduceLT, Int.reduceBEq, Int.reduceBNe, Int.reduceNeg, Int.reduceAdd, Int.reduceSub, Int.reduceMul, reduceCtorEq, Watch.v]
    (first | refine callT.at (szPostS_ok r.Posts (n) o1.1 (by omega) (by omega)) ⟨.inl rfl, .inl rfl, trivial⟩ ?_ | refine callS.at (szPostS_ok r.Posts (n) o1.1 (by omega) (by omega)) ⟨.inl rfl, .inl rfl, trivial⟩ ?_)
    rw [if_neg c0]
    simp -implicitDefEqProofs -dsimp only [go_sem, Nat.reduceSub, Nat.reduceAdd, Nat.reduceMul, Nat.reduceLT, Nat.reduceLeDiff, Nat.reduceEqDiff, Nat.reduceDiv, Nat.reduceMod, Int.reduceToNat, Int.reduceLE, Int.reduceLT, Int.reduceBEq, Int.reduceBNe, Int.reduceNeg, Int.reduceAdd, Int.reduceSub, Int.reduceMul, reduceCtorEq]
    refine condT.split (fun hh => absurd hh (by simp; omega)) (fun hh => ?_)
    simp -implicitDefEqProofs -dsimp only [go_sem, Nat.reduceSub, Nat.reduceAdd, Nat.reduceMul, Nat.reduceLT, Nat.reduceLeDiff, Nat.reduceEqDiff, Nat.reduceDiv, Nat.reduceMod, Int.reduceToNat, Int.reduceLE, Int.reduceLT, Int.reduceBEq, Int.reduceBNe, Int.reduceNeg, Int.reduceAdd, Int.reduceSub, Int.reduceMul, reduceCtorEq, hh]
    (first | refine callT.at (szShockS_ok r.Shocks (n - (r.Posts.length : Int)) o2.1 (by omega) (by omega)) ⟨.inl rfl, .inl rfl, trivial⟩ ?_ | refine callS.at (szShockS_ok r.Shocks (n - (r.Posts.length : Int)) o2.1 (by omega) (by omega)) ⟨.inl rfl, .inl rfl, trivial⟩ ?_)
    rw [if_neg c1]
    simp -implicitDefEqProofs -dsimp only [go_sem, Nat.reduceSub, Nat.reduceAdd, Nat.reduceMul, Nat.reduceLT, Nat.reduceLeDiff, Nat.reduceEqDiff, Nat.reduceDiv, Nat.reduceMod, Int.reduceToNat, Int.reduceLE, Int.reduceLT, Int.reduceBEq, Int.reduceBNe, Int.reduceNeg, Int.reduceAdd, Int.reduceSub, Int.reduceMul, reduceCtorEq]
    refine condT.split (fun hh => absurd hh (by simp; omega)) (fun hh => ?_)
    simp -implicitDefEqProofs -dsimp only [go_sem, Nat.reduceSub, Nat.reduceAdd, Nat.reduceMul, Nat.reduceLT, Nat.reduceLeDiff, Nat.reduceEqDiff, Nat.reduceDiv, Nat.reduceMod, Int.reduceToNat, Int.reduceLE, Int.reduceLT, Int.reduceBEq, Int.reduceBNe, Int.reduceNeg, Int.reduceAdd, Int.reduceSub, Int.reduceMul, reduceCtorEq, hh]
    exact WeakR.drop' rfl (by rfl)
theorem eqWatch_ok (r : Watch) (hl0 : r.Posts.length ≤ 281474976710656) (hl1 : r.Shocks.length ≤ 281474976710656) : Ctr Try.prog 68 [r.v, r.v] [] (.bool true) [] := by
  refine Ctr.intro Try.mixed Try.func68 rfl Try.okF68 ?_
  simp -implicitDefEqProofs -dsimp only [go_sem, Nat.reduceSub, Nat.reduceAdd, Nat.reduceMul, Nat.reduceLT, Nat.reduceLeDiff, Nat.reduceEqDiff, Nat.reduceDiv, Nat.reduceMod, Int.reduceToNat, Int.reduceLE, Int.reduceLT, Int.reduceBEq, Int.reduceBNe, Int.reduceNeg, Int.reduceAdd, Int.reduceSub, Int.reduceMul, reduceCtorEq, Try.ntmps68, Try.results68]
  simp -implicitDefEqProofs -dsimp only [go_sem, Nat.reduceSub, Nat.reduceAdd, Nat.reduceMul, Nat.reduceLT, Nat.reduceLeDiff, Nat.reduceEqDiff, Nat.reduceDiv, Nat.reduceMod, Int.reduceToNat, Int.reduceLE, Int.reduceLT, Int.reduceBEq, Int.reduceBNe, Int.reduceNeg, Int.reduceAdd, Int.reduceSub, Int.reduceMul, reduceCtorEq, Watch.v]
  (first | refine callT.at (eqPostS_ok r.Posts hl0) ⟨leA, leA, trivial⟩ ?_ | refine callS.at (eqPostS_ok r.Posts hl0) ⟨leA, leA, trivial⟩ ?_)
  simp -implicitDefEqProofs -dsimp only [go_sem, Nat.reduceSub, Nat.reduceAdd, Nat.reduceMul, Nat.reduceLT, Nat.reduceLeDiff, Nat.reduceEqDiff, Nat.reduceDiv, Nat.reduceMod, Int.reduceToNat, Int.reduceLE, Int.reduceLT, Int.reduceBEq, Int.reduceBNe, Int.reduceNeg, Int.reduceAdd, Int.reduceSub, Int.reduceMul, reduceCtorEq]
  (first | refine callT.at (eqShockS_ok r.Shocks hl1) ⟨leA, leA, trivial⟩ ?_ | refine callS.at (eqShockS_ok r.Shocks hl1) ⟨leA, leA, trivial⟩ ?_)
  simp -implicitDefEqProofs -dsimp only [go_sem, Nat.reduceSub, Nat.reduceAdd, Nat.reduceMul, Nat.reduceLT, Nat.reduceLeDiff, Nat.reduceEqDiff, Nat.reduceDiv, Nat.reduceMod, Int.reduceToNat, Int.reduceLE, Int.reduceLT, Int.reduceBEq, Int.reduceBNe, Int.reduceNeg, Int.reduceAdd, Int.reduceSub, Int.reduceMul, reduceCtorEq]
  exact WeakR.drop' rfl (by rfl)
theorem markWatch_ok (r : Watch) (kk : Int) (hl0 : r.Posts.length ≤ 16777216) (hl1 : r.Shocks.length ≤ 16777216) (hk : 0 ≤ kk) (hk2 : kk ≤ 16777216) : Ctr Try.prog 69 [.agg [.int .i64 r.Now, .osl 0 0 r.Posts.length 3, .osl 1 0 r.Shocks.length 5, .int .i64 r.Next, .int .i64 r.Archived], .int .i64 kk] [some (rows Post.cs r.Posts), some (rows Shock.cs r.Shocks)] (.int .i64 (kk + 3 * (r.Posts.length : Int) + 5 * (r.Shocks.length : Int))) [some (rows Post.cs (Post.marks (kk) r.Posts.length)), some (rows Shock.cs (Shock.marks (kk + 3 * (r.Posts.length : Int)) r.Shocks.length))] := by
  refine Ctr.intro Try.mixed Try.func69 rfl Try.okF69 ?_
  simp -implicitDefEqProofs -dsimp only [go_sem, Nat.reduceSub, Nat.reduceAdd, Nat.reduceMul, Nat.reduceLT, Nat.reduceLeDiff, Nat.reduceEqDiff, Nat.reduceDiv, Nat.reduceMod, Int.reduceToNat, Int.reduceLE, Int.reduceLT, Int.reduceBEq, Int.reduceBNe, Int.reduceNeg, Int.reduceAdd, Int.reduceSub, Int.reduceMul, reduceCtorEq, Try.ntmps69, Try.results69]
  refine callS.lend [0] false ( markPostS_ok r.Posts (kk) (by omega) (by omega) (by omega)) (by decide) ⟨leO, leO, trivial⟩ lendA ( grown_one (by simp)) (.inl rfl) ?_
  simp -implicitDefEqProofs -dsimp only [go_sem, Nat.reduceSub, Nat.reduceAdd, Nat.reduceMul, Nat.reduceLT, Nat.reduceLeDiff, Nat.reduceEqDiff, Nat.reduceDiv, Nat.reduceMod, Int.reduceToNat, Int.reduceLE, Int.reduceLT, Int.reduceBEq, Int.reduceBNe, Int.reduceNeg, Int.reduceAdd, Int.reduceSub, Int.reduceMul, reduceCtorEq]
  refine callS.lend [1] false ( markShockS_ok r.Shocks (kk + 3 * (r.Posts.length : Int)) (by omega) (by omega) (by omega)) (by decide) ⟨leO, leO, trivial⟩ lendA ( grown_one (by simp)) (.inl rfl) ?_
  simp -implicitDefEqProofs -dsimp only [go_sem, Nat.reduceSub, Nat.reduceAdd, Nat.reduceMul, Nat.reduceLT, Nat.reduceLeDiff, Nat.reduceEqDiff, Nat.reduceDiv, Nat.reduceMod, Int.reduceToNat, Int.reduceLE, Int.reduceLT, Int.reduceBEq, Int.reduceBNe, Int.reduceNeg, Int.reduceAdd, Int.reduceSub, Int.reduceMul, reduceCtorEq]
  refine WeakR.pick [0, 1] (by decide) (by decide) (.inl rfl) ?_
  simp only [pickH, List.map_cons, List.map_nil, pickB, List.getElem?_cons_zero, List.getElem?_cons_succ, map_ren_rows]
theorem markWatch_nn_ok (r : Watch) (kk : Int)  (hk : 0 ≤ kk) (hk2 : kk ≤ 16777216) : Ctr Try.prog 69 [.agg [.int .i64 r.Now, .sl 0 3 [], .sl 0 5 [], .int .i64 r.Next, .int .i64 r.Archived], .int .i64 kk] [] (.int .i64 (kk)) [] := by
  refine Ctr.intro Try.mixed Try.func69 rfl Try.okF69 ?_
  simp -implicitDefEqProofs -dsimp only [go_sem, Nat.reduceSub, Nat.reduceAdd, Nat.reduceMul, Nat.reduceLT, Nat.reduceLeDiff, Nat.reduceEqDiff, Nat.reduceDiv, Nat.reduceMod, Int.reduceToNat, Int.reduceLE, Int.reduceLT, Int.reduceBEq, Int.reduceBNe, Int.reduceNeg, Int.reduceAdd, Int.reduceSub, Int.reduceMul, reduceCtorEq, Try.ntmps69, Try.results69]
  (first | refine callT.at (markPostS_nil (kk)) ⟨leA, leA, trivial⟩ ?_ | refine callS.at (markPostS_nil (kk)) ⟨leA, leA, trivial⟩ ?_)
  simp -implicitDefEqProofs -dsimp only [go_sem, Nat.reduceSub, Nat.reduceAdd, Nat.reduceMul, Nat.reduceLT, Nat.reduceLeDiff, Nat.reduceEqDiff, Nat.reduceDiv, Nat.reduceMod, Int.reduceToNat, Int.reduceLE, Int.reduceLT, Int.reduceBEq, Int.reduceBNe, Int.reduceNeg, Int.reduceAdd, Int.reduceSub, Int.reduceMul, reduceCtorEq]
  (first | refine callT.at (markShockS_nil (kk)) ⟨leA, leA, trivial⟩ ?_ | refine callS.at (markShockS_nil (kk)) ⟨leA, leA, trivial⟩ ?_)
  simp -implicitDefEqProofs -dsimp only [go_sem, Nat.reduceSub, Nat.reduceAdd, Nat.reduceMul, Nat.reduceLT, Nat.reduceLeDiff, Nat.reduceEqDiff, Nat.reduceDiv, Nat.reduceMod, Int.reduceToNat, Int.reduceLE, Int.reduceLT, Int.reduceBEq, Int.reduceBNe, Int.reduceNeg, Int.reduceAdd, Int.reduceSub, Int.reduceMul, reduceCtorEq]
  refine WeakR.pick [] (by decide) (by decide) (.inl rfl) ?_
  simp only [pickH, List.map_cons, List.map_nil, pickB, List.getElem?_cons_zero, List.getElem?_cons_succ, map_ren_rows]
theorem heldWatch_ok (r : Watch) (n0 n1 : Nat) (kk : Int) (hn0 : n0 ≤ 16777216) (hn1 : n1 ≤ 16777216) (hk : 0 ≤ kk) (hk2 : kk ≤ 16777216) : Ctr Try.prog 70 [.agg [.int .i64 r.Now, .sl n0 3 (rows Post.cs (Post.marks (kk) n0)), .sl n1 5 (rows Shock.cs (Shock.marks (kk + 3 * (n0 : Int)) n1)), .int .i64 r.Next, .int .i64 r.Archived], .int .i64 kk] [] (.int .i64 (kk + 3 * (n0 : Int) + 5 * (n1 : Int))) [] := by
  refine Ctr.intro Try.mixed Try.func70 rfl Try.okF70 ?_
  simp -implicitDefEqProofs -dsimp only [go_sem, Nat.reduceSub, Nat.reduceAdd, Nat.reduceMul, Nat.reduceLT, Nat.reduceLeDiff, Nat.reduceEqDiff, Nat.reduceDiv, Nat.reduceMod, Int.reduceToNat, Int.reduceLE, Int.reduceLT, Int.reduceBEq, Int.reduceBNe, Int.reduceNeg, Int.reduceAdd, Int.reduceSub, Int.reduceMul, reduceCtorEq, Try.ntmps70, Try.results70]
  have c0 := heldPostS_ok n0 (kk) (by omega) (by omega) (by omega)
  simp only [Post.sl, Post.marks_len] at c0
  (first | refine callT.at (c0) ⟨leA, leA, trivial⟩ ?_ | refine callS.at (c0) ⟨leA, leA, trivial⟩ ?_)
  simp -implicitDefEqProofs -dsimp only [go_sem, Nat.reduceSub, Nat.reduceAdd, Nat.reduceMul, Nat.reduceLT, Nat.reduceLeDiff, Nat.reduceEqDiff, Nat.reduceDiv, Nat.reduceMod, Int.reduceToNat, Int.reduceLE, Int.reduceLT, Int.reduceBEq, Int.reduceBNe, Int.reduceNeg, Int.reduceAdd, Int.reduceSub, Int.reduceMul, reduceCtorEq]
  refine condT.split (fun hh => absurd hh (by simp; omega)) (fun hh => ?_)
  simp -implicitDefEqProofs -dsimp only [go_sem, Nat.reduceSub, Nat.reduceAdd, Nat.reduceMul, Nat.reduceLT, Nat.reduceLeDiff, Nat.reduceEqDiff, Nat.reduceDiv, Nat.reduceMod, Int.reduceToNat, Int.reduceLE, Int.reduceLT, Int.reduceBEq, Int.reduceBNe, Int.reduceNeg, Int.reduceAdd, Int.reduceSub, Int.reduceMul, reduceCtorEq, hh]
  have c1 := heldShockS_ok n1 (kk + 3 * (n0 : Int)) (by omega) (by omega) (by omega)
  simp only [Shock.sl, Shock.marks_len] at c1
  (first | refine callT.at (c1) ⟨leA, leA, trivial⟩ ?_ | refine callS.at (c1) ⟨leA, leA, trivial⟩ ?_)
  simp -implicitDefEqProofs -dsimp only [go_sem, Nat.reduceSub, Nat.reduceAdd, Nat.reduceMul, Nat.reduceLT, Nat.reduceLeDiff, Nat.reduceEqDiff, Nat.reduceDiv, Nat.reduceMod, Int.reduceToNat, Int.reduceLE, Int.reduceLT, Int.reduceBEq, Int.reduceBNe, Int.reduceNeg, Int.reduceAdd, Int.reduceSub, Int.reduceMul, reduceCtorEq]
  refine condT.split (fun hh => absurd hh (by simp; omega)) (fun hh => ?_)
  simp -implicitDefEqProofs -dsimp only [go_sem, Nat.reduceSub, Nat.reduceAdd, Nat.reduceMul, Nat.reduceLT, Nat.reduceLeDiff, Nat.reduceEqDiff, Nat.reduceDiv, Nat.reduceMod, Int.reduceToNat, Int.reduceLE, Int.reduceLT, Int.reduceBEq, Int.reduceBNe, Int.reduceNeg, Int.reduceAdd, Int.reduceSub, Int.reduceMul, reduceCtorEq, hh]
  exact WeakR.drop' rfl (by rfl)
end Go.Proofs
end
section
set_option linter.unusedSimpArgs false
set_option linter.unusedVariables false
set_option maxRecDepth 100000
namespace Go.Proofs
open Go.Lv
def postB (now : Int) (p : Post) : Bool := inB' p.Station 1 99 && inB' p.Since 0 now
def shockB (next now : Int) (x : Shock) : Bool := inB' x.Number 1 (next - 1) && inB' x.State 0 3 && inB' x.Seen 0 8 && inB' x.Size (-20) 95 && (x.State != 0 || x.Size == 0) && inB' x.Tick 0 now
def countsB (w : Watch) : Bool := inB' w.Now 0 1000000 && inB' w.Next 1 999 && inB' w.Archived 0 999
def wB (w : Watch) : Bool := countsB w && listedB (postB w.Now) Post.Station 8 w.Posts && listedB (shockB w.Next w.Now) Shock.Number 6 w.Shocks
theorem countsB_iff {w : Watch} : countsB w = true ↔ (0 ≤ w.Now ∧ w.Now ≤ 1000000) ∧ (1 ≤ w.Next ∧ w.Next ≤ 999) ∧ 0 ≤ w.Archived ∧ w.Archived ≤ 999 := by simp [countsB, inB', and_assoc]
theorem shockB_iff {next now : Int} {x : Shock} : shockB next now x = true ↔ (1 ≤ x.Number ∧ x.Number ≤ next - 1) ∧ (0 ≤ x.State ∧ x.State ≤ 3) ∧ (0 ≤ x.Seen ∧ x.Seen ≤ 8) ∧ (-20 ≤ x.Size ∧ x.Size ≤ 95) ∧ (x.State ≠ 0 ∨ x.Size = 0) ∧ 0 ≤ x.Tick ∧ x.Tick ≤ now := by
  simp [shockB, inB', and_assoc]
structure WatchOk (w : Watch) : Prop where
  now : 0 ≤ w.Now ∧ w.Now ≤ 1000000
  next : 1 ≤ w.Next ∧ w.Next ≤ 999
  arch : 0 ≤ w.Archived ∧ w.Archived ≤ 999
  posts : ∀ p ∈ w.Posts, postB w.Now p = true
  plen : w.Posts.length ≤ 8
  shocks : ∀ x ∈ w.Shocks, shockB w.Next w.Now x = true
  slen : w.Shocks.length ≤ 6
  pasc : (w.Posts.map Post.Station).Pairwise (· < ·)
  sasc : (w.Shocks.map Shock.Number).Pairwise (· < ·)
theorem wB_ok {w : Watch} (h : wB w = true) : WatchOk w := by
  simp only [wB, Bool.and_eq_true] at h
  obtain ⟨⟨h1, h2⟩, h3⟩ := h
  obtain ⟨a, b, c⟩ := countsB_iff.1 h1
  obtain ⟨d, e⟩ := listedB_all h2
  obtain ⟨f, g⟩ := listedB_all h3
  exact ⟨a, b, c, d, e, f, g, listedB_lt h2, listedB_lt h3⟩
theorem isPost_ok (w : Watch) (p : Post) : Ctr Try.prog 135 [p.v, .pt w.cs] [] (.bool (postB w.Now p)) [] := by
  refine Ctr.intro Try.mixed Try.func135 rfl Try.okF135 ?_
  simp -implicitDefEqProofs -dsimp only [go_sem, Nat.reduceSub, Nat.reduceAdd, Nat.reduceMul, Nat.reduceLT, Nat.reduceLeDiff, Nat.reduceEqDiff, Nat.reduceDiv, Nat.reduceMod, Int.reduceToNat, Int.reduceLE, Int.reduceLT, Int.reduceBEq, Int.reduceBNe, Int.reduceNeg, Int.reduceAdd, Int.reduceSub, Int.reduceMul, reduceCtorEq, Try.ntmps135, Try.results135]
  simp -implicitDefEqProofs -dsimp only [go_sem, Nat.reduceSub, Nat.reduceAdd, Nat.reduceMul, Nat.reduceLT, Nat.reduceLeDiff, Nat.reduceEqDiff, Nat.reduceDiv, Nat.reduceMod, Int.reduceToNat, Int.reduceLE, Int.reduceLT, Int.reduceBEq, Int.reduceBNe, Int.reduceNeg, Int.reduceAdd, Int.reduceSub, Int.reduceMul, reduceCtorEq, Post.v, Watch.cs]
  repeat' (first | (refine WeakR.drop' ?_ (by rfl); first | rfl | (simp [postB, *]; done)) | ((first | refine callT.at (in_ok _ _ _) ⟨leA, leA, leA, trivial⟩ ?_ | refine callS.at (in_ok _ _ _) ⟨leA, leA, leA, trivial⟩ ?_); simp -implicitDefEqProofs -dsimp only [go_sem, Nat.reduceSub, Nat.reduceAdd, Nat.reduceMul, Nat.reduceLT, Nat.reduceLeDiff, Nat.reduceEqDiff, Nat.reduceDiv, Nat.reduceMod, Int.reduceToNat, Int.reduceLE, Int.reduceLT, Int.reduceBEq, Int.reduceBNe, Int.reduceNeg, Int.reduceAdd, Int.reduceSub, Int.reduceMul, reduceCtorEq, *]) | ((first | refine callT.at (isStationId_ok _) ⟨leA, trivial⟩ ?_ | refine callS.at (isStationId_ok _) ⟨leA, trivial⟩ ?_); simp -implicitDefEqProofs -dsimp only [go_sem, Nat.reduceSub, Nat.reduceAdd, Nat.reduceMul, Nat.reduceLT, Nat.reduceLeDiff, Nat.reduceEqDiff, Nat.reduceDiv, Nat.reduceMod, Int.reduceToNat, Int.reduceLE, Int.reduceLT, Int.reduceBEq, Int.reduceBNe, Int.reduceNeg, Int.reduceAdd, Int.reduceSub, Int.reduceMul, reduceCtorEq, *]) | (refine guardT.splitT (fun _ => ?_) (fun _ => ?_) <;> simp -implicitDefEqProofs -dsimp only [go_sem, Nat.reduceSub, Nat.reduceAdd, Nat.reduceMul, Nat.reduceLT, Nat.reduceLeDiff, Nat.reduceEqDiff, Nat.reduceDiv, Nat.reduceMod, Int.reduceToNat, Int.reduceLE, Int.reduceLT, Int.reduceBEq, Int.reduceBNe, Int.reduceNeg, Int.reduceAdd, Int.reduceSub, Int.reduceMul, reduceCtorEq, *]) | (refine guardT.splitF (fun _ => ?_) (fun _ => ?_) <;> simp -implicitDefEqProofs -dsimp only [go_sem, Nat.reduceSub, Nat.reduceAdd, Nat.reduceMul, Nat.reduceLT, Nat.reduceLeDiff, Nat.reduceEqDiff, Nat.reduceDiv, Nat.reduceMod, Int.reduceToNat, Int.reduceLE, Int.reduceLT, Int.reduceBEq, Int.reduceBNe, Int.reduceNeg, Int.reduceAdd, Int.reduceSub, Int.reduceMul, reduceCtorEq, *]) | (refine condT.split (fun _ => ?_) (fun _ => ?_) <;> simp -implicitDefEqProofs -dsimp only [go_sem, Nat.reduceSub, Nat.reduceAdd, Nat.reduceMul, Nat.reduceLT, Nat.reduceLeDiff, Nat.reduceEqDiff, Nat.reduceDiv, Nat.reduceMod, Int.reduceToNat, Int.reduceLE, Int.reduceLT, Int.reduceBEq, Int.reduceBNe, Int.reduceNeg, Int.reduceAdd, Int.reduceSub, Int.reduceMul, reduceCtorEq, *]))
theorem isShock_ok (w : Watch) (hw : 1 ≤ w.Next ∧ w.Next ≤ 999) (x : Shock) : Ctr Try.prog 137 [x.v, .pt w.cs] [] (.bool (shockB w.Next w.Now x)) [] := by
  refine Ctr.intro Try.mixed Try.func137 rfl Try.okF137 ?_
  simp -implicitDefEqProofs -dsimp only [go_sem, Nat.reduceSub, Nat.reduceAdd, Nat.reduceMul, Nat.reduceLT, Nat.reduceLeDiff, Nat.reduceEqDiff, Nat.reduceDiv, Nat.reduceMod, Int.reduceToNat, Int.reduceLE, Int.reduceLT, Int.reduceBEq, Int.reduceBNe, Int.reduceNeg, Int.reduceAdd, Int.reduceSub, Int.reduceMul, reduceCtorEq, Try.ntmps137, Try.results137]
  simp -implicitDefEqProofs -dsimp only [go_sem, Nat.reduceSub, Nat.reduceAdd, Nat.reduceMul, Nat.reduceLT, Nat.reduceLeDiff, Nat.reduceEqDiff, Nat.reduceDiv, Nat.reduceMod, Int.reduceToNat, Int.reduceLE, Int.reduceLT, Int.reduceBEq, Int.reduceBNe, Int.reduceNeg, Int.reduceAdd, Int.reduceSub, Int.reduceMul, reduceCtorEq, Shock.v, Watch.cs]
  have hw1 : IntKind.i64.wrap (w.Next - 1) = w.Next - 1 := wrap_i64 (by omega) (by omega)
  repeat' (first | (refine WeakR.drop' ?_ (by rfl); first | rfl | (simp [shockB, *]; done)) | ((first | refine callT.at (in_ok _ _ _) ⟨leA, leA, leA, trivial⟩ ?_ | refine callS.at (in_ok _ _ _) ⟨leA, leA, leA, trivial⟩ ?_); simp -implicitDefEqProofs -dsimp only [go_sem, Nat.reduceSub, Nat.reduceAdd, Nat.reduceMul, Nat.reduceLT, Nat.reduceLeDiff, Nat.reduceEqDiff, Nat.reduceDiv, Nat.reduceMod, Int.reduceToNat, Int.reduceLE, Int.reduceLT, Int.reduceBEq, Int.reduceBNe, Int.reduceNeg, Int.reduceAdd, Int.reduceSub, Int.reduceMul, reduceCtorEq, *]) | ((first | refine callT.at (isQuakeSize_ok _) ⟨leA, trivial⟩ ?_ | refine callS.at (isQuakeSize_ok _) ⟨leA, trivial⟩ ?_); simp -implicitDefEqProofs -dsimp only [go_sem, Nat.reduceSub, Nat.reduceAdd, Nat.reduceMul, Nat.reduceLT, Nat.reduceLeDiff, Nat.reduceEqDiff, Nat.reduceDiv, Nat.reduceMod, Int.reduceToNat, Int.reduceLE, Int.reduceLT, Int.reduceBEq, Int.reduceBNe, Int.reduceNeg, Int.reduceAdd, Int.reduceSub, Int.reduceMul, reduceCtorEq, *]) | (refine guardT.splitT (fun _ => ?_) (fun _ => ?_) <;> simp -implicitDefEqProofs -dsimp only [go_sem, Nat.reduceSub, Nat.reduceAdd, Nat.reduceMul, Nat.reduceLT, Nat.reduceLeDiff, Nat.reduceEqDiff, Nat.reduceDiv, Nat.reduceMod, Int.reduceToNat, Int.reduceLE, Int.reduceLT, Int.reduceBEq, Int.reduceBNe, Int.reduceNeg, Int.reduceAdd, Int.reduceSub, Int.reduceMul, reduceCtorEq, *]) | (refine guardT.splitF (fun _ => ?_) (fun _ => ?_) <;> simp -implicitDefEqProofs -dsimp only [go_sem, Nat.reduceSub, Nat.reduceAdd, Nat.reduceMul, Nat.reduceLT, Nat.reduceLeDiff, Nat.reduceEqDiff, Nat.reduceDiv, Nat.reduceMod, Int.reduceToNat, Int.reduceLE, Int.reduceLT, Int.reduceBEq, Int.reduceBNe, Int.reduceNeg, Int.reduceAdd, Int.reduceSub, Int.reduceMul, reduceCtorEq, *]))
theorem stationOf_ok (p : Post) : Ctr Try.prog 141 [p.v] [] (.int .i64 p.Station) [] := by
  refine Ctr.intro Try.mixed Try.func141 rfl Try.okF141 ?_
  simp -implicitDefEqProofs -dsimp only [go_sem, Nat.reduceSub, Nat.reduceAdd, Nat.reduceMul, Nat.reduceLT, Nat.reduceLeDiff, Nat.reduceEqDiff, Nat.reduceDiv, Nat.reduceMod, Int.reduceToNat, Int.reduceLE, Int.reduceLT, Int.reduceBEq, Int.reduceBNe, Int.reduceNeg, Int.reduceAdd, Int.reduceSub, Int.reduceMul, reduceCtorEq, Try.ntmps141, Try.results141]
  simp -implicitDefEqProofs -dsimp only [go_sem, Nat.reduceSub, Nat.reduceAdd, Nat.reduceMul, Nat.reduceLT, Nat.reduceLeDiff, Nat.reduceEqDiff, Nat.reduceDiv, Nat.reduceMod, Int.reduceToNat, Int.reduceLE, Int.reduceLT, Int.reduceBEq, Int.reduceBNe, Int.reduceNeg, Int.reduceAdd, Int.reduceSub, Int.reduceMul, reduceCtorEq, Post.v]
  exact WeakR.drop' rfl (by rfl)
theorem numberOf_ok (x : Shock) : Ctr Try.prog 143 [x.v] [] (.int .i64 x.Number) [] := by
  refine Ctr.intro Try.mixed Try.func143 rfl Try.okF143 ?_
  simp -implicitDefEqProofs -dsimp only [go_sem, Nat.reduceSub, Nat.reduceAdd, Nat.reduceMul, Nat.reduceLT, Nat.reduceLeDiff, Nat.reduceEqDiff, Nat.reduceDiv, Nat.reduceMod, Int.reduceToNat, Int.reduceLE, Int.reduceLT, Int.reduceBEq, Int.reduceBNe, Int.reduceNeg, Int.reduceAdd, Int.reduceSub, Int.reduceMul, reduceCtorEq, Try.ntmps143, Try.results143]
  simp -implicitDefEqProofs -dsimp only [go_sem, Nat.reduceSub, Nat.reduceAdd, Nat.reduceMul, Nat.reduceLT, Nat.reduceLeDiff, Nat.reduceEqDiff, Nat.reduceDiv, Nat.reduceMod, Int.reduceToNat, Int.reduceLE, Int.reduceLT, Int.reduceBEq, Int.reduceBNe, Int.reduceNeg, Int.reduceAdd, Int.reduceSub, Int.reduceMul, reduceCtorEq, Shock.v]
  exact WeakR.drop' rfl (by rfl)
theorem iIsWatch_ok (w : Watch) (hp : w.Posts.length ≤ 281474976710656) (hs : w.Shocks.length ≤ 281474976710656) : Ctr Try.prog 55 [w.v] [] (.bool (wB w)) [] := by
  refine Ctr.intro Try.mixed Try.func55 rfl Try.okF55 ?_
  simp -implicitDefEqProofs -dsimp only [go_sem, Nat.reduceSub, Nat.reduceAdd, Nat.reduceMul, Nat.reduceLT, Nat.reduceLeDiff, Nat.reduceEqDiff, Nat.reduceDiv, Nat.reduceMod, Int.reduceToNat, Int.reduceLE, Int.reduceLT, Int.reduceBEq, Int.reduceBNe, Int.reduceNeg, Int.reduceAdd, Int.reduceSub, Int.reduceMul, reduceCtorEq, Try.ntmps55, Try.results55]
  simp -implicitDefEqProofs -dsimp only [go_sem, Nat.reduceSub, Nat.reduceAdd, Nat.reduceMul, Nat.reduceLT, Nat.reduceLeDiff, Nat.reduceEqDiff, Nat.reduceDiv, Nat.reduceMod, Int.reduceToNat, Int.reduceLE, Int.reduceLT, Int.reduceBEq, Int.reduceBNe, Int.reduceNeg, Int.reduceAdd, Int.reduceSub, Int.reduceMul, reduceCtorEq, Watch.v]
  have fin : ∀ b, b = wB w → WeakR 0 (.bool b) [some w.cs] (.bool (wB w)) [] := fun b h => WeakR.drop' (by rw [h]) (by rfl)
  (first | refine callT.at (isTick_ok _) ⟨leA, trivial⟩ ?_ | refine callS.at (isTick_ok _) ⟨leA, trivial⟩ ?_)
  simp -implicitDefEqProofs -dsimp only [go_sem, Nat.reduceSub, Nat.reduceAdd, Nat.reduceMul, Nat.reduceLT, Nat.reduceLeDiff, Nat.reduceEqDiff, Nat.reduceDiv, Nat.reduceMod, Int.reduceToNat, Int.reduceLE, Int.reduceLT, Int.reduceBEq, Int.reduceBNe, Int.reduceNeg, Int.reduceAdd, Int.reduceSub, Int.reduceMul, reduceCtorEq]
  refine guardT.splitT (fun h1 => ?_) (fun h1 => ?_) <;> simp -implicitDefEqProofs -dsimp only [go_sem, Nat.reduceSub, Nat.reduceAdd, Nat.reduceMul, Nat.reduceLT, Nat.reduceLeDiff, Nat.reduceEqDiff, Nat.reduceDiv, Nat.reduceMod, Int.reduceToNat, Int.reduceLE, Int.reduceLT, Int.reduceBEq, Int.reduceBNe, Int.reduceNeg, Int.reduceAdd, Int.reduceSub, Int.reduceMul, reduceCtorEq, h1]
  rotate_left
  · exact WeakR.drop' (by simp [wB, countsB, h1]) (by rfl)
  (first | refine callT.at (in_ok _ _ _) ⟨leA, leA, leA, trivial⟩ ?_ | refine callS.at (in_ok _ _ _) ⟨leA, leA, leA, trivial⟩ ?_)
  simp -implicitDefEqProofs -dsimp only [go_sem, Nat.reduceSub, Nat.reduceAdd, Nat.reduceMul, Nat.reduceLT, Nat.reduceLeDiff, Nat.reduceEqDiff, Nat.reduceDiv, Nat.reduceMod, Int.reduceToNat, Int.reduceLE, Int.reduceLT, Int.reduceBEq, Int.reduceBNe, Int.reduceNeg, Int.reduceAdd, Int.reduceSub, Int.reduceMul, reduceCtorEq, h1]
  refine guardT.splitT (fun h2 => ?_) (fun h2 => ?_) <;> simp -implicitDefEqProofs -dsimp only [go_sem, Nat.reduceSub, Nat.reduceAdd, Nat.reduceMul, Nat.reduceLT, Nat.reduceLeDiff, Nat.reduceEqDiff, Nat.reduceDiv, Nat.reduceMod, Int.reduceToNat, Int.reduceLE, Int.reduceLT, Int.reduceBEq, Int.reduceBNe, Int.reduceNeg, Int.reduceAdd, Int.reduceSub, Int.reduceMul, reduceCtorEq, h1, h2]
  rotate_left
  · exact WeakR.drop' (by simp [wB, countsB, h1, h2]) (by rfl)
  (first | refine callT.at (in_ok _ _ _) ⟨leA, leA, leA, trivial⟩ ?_ | refine callS.at (in_ok _ _ _) ⟨leA, leA, leA, trivial⟩ ?_)
  simp -implicitDefEqProofs -dsimp only [go_sem, Nat.reduceSub, Nat.reduceAdd, Nat.reduceMul, Nat.reduceLT, Nat.reduceLeDiff, Nat.reduceEqDiff, Nat.reduceDiv, Nat.reduceMod, Int.reduceToNat, Int.reduceLE, Int.reduceLT, Int.reduceBEq, Int.reduceBNe, Int.reduceNeg, Int.reduceAdd, Int.reduceSub, Int.reduceMul, reduceCtorEq, h1, h2]
  refine guardT.splitT (fun h3 => ?_) (fun h3 => ?_) <;> simp -implicitDefEqProofs -dsimp only [go_sem, Nat.reduceSub, Nat.reduceAdd, Nat.reduceMul, Nat.reduceLT, Nat.reduceLeDiff, Nat.reduceEqDiff, Nat.reduceDiv, Nat.reduceMod, Int.reduceToNat, Int.reduceLE, Int.reduceLT, Int.reduceBEq, Int.reduceBNe, Int.reduceNeg, Int.reduceAdd, Int.reduceSub, Int.reduceMul, reduceCtorEq, h1, h2, h3]
  rotate_left
  · exact WeakR.drop' (by simp [wB, countsB, h1, h2, h3]) (by rfl)
  have hc : countsB w = true := by simp [countsB, h1, h2, h3]
  have hw := (countsB_iff.1 hc).2.1
  (first | refine callT.at (areListedPost_ok w.Posts (postB w.Now) Post.Station 8 _ _ [.pt w.cs] [] (fun d => by cases d <;> rfl) (fun _ => rfl) (fun x => isPost_ok w x) stationOf_ok 8 rfl hp) ⟨leA, leA, leA, leA, trivial⟩ ?_ | refine callS.at (areListedPost_ok w.Posts (postB w.Now) Post.Station 8 _ _ [.pt w.cs] [] (fun d => by cases d <;> rfl) (fun _ => rfl) (fun x => isPost_ok w x) stationOf_ok 8 rfl hp) ⟨leA, leA, leA, leA, trivial⟩ ?_)
  simp -implicitDefEqProofs -dsimp only [go_sem, Nat.reduceSub, Nat.reduceAdd, Nat.reduceMul, Nat.reduceLT, Nat.reduceLeDiff, Nat.reduceEqDiff, Nat.reduceDiv, Nat.reduceMod, Int.reduceToNat, Int.reduceLE, Int.reduceLT, Int.reduceBEq, Int.reduceBNe, Int.reduceNeg, Int.reduceAdd, Int.reduceSub, Int.reduceMul, reduceCtorEq, h1, h2, h3]
  refine guardT.splitT (fun h4 => ?_) (fun h4 => ?_) <;> simp -implicitDefEqProofs -dsimp only [go_sem, Nat.reduceSub, Nat.reduceAdd, Nat.reduceMul, Nat.reduceLT, Nat.reduceLeDiff, Nat.reduceEqDiff, Nat.reduceDiv, Nat.reduceMod, Int.reduceToNat, Int.reduceLE, Int.reduceLT, Int.reduceBEq, Int.reduceBNe, Int.reduceNeg, Int.reduceAdd, Int.reduceSub, Int.reduceMul, reduceCtorEq, h1, h2, h3, h4]
  rotate_left
  · exact WeakR.drop' (by simp [wB, hc, h4]) (by rfl)
  (first | refine callT.at (areListedShock_ok w.Shocks (shockB w.Next w.Now) Shock.Number 6 _ _ [.pt w.cs] [] (fun d => by cases d <;> rfl) (fun _ => rfl) (fun x => isShock_ok w hw x) numberOf_ok 6 rfl hs) ⟨leA, leA, leA, leA, trivial⟩ ?_ | refine callS.at (areListedShock_ok w.Shocks (shockB w.Next w.Now) Shock.Number 6 _ _ [.pt w.cs] [] (fun d => by cases d <;> rfl) (fun _ => rfl) (fun x => isShock_ok w hw x) numberOf_ok 6 rfl hs) ⟨leA, leA, leA, leA, trivial⟩ ?_)
  simp -implicitDefEqProofs -dsimp only [go_sem, Nat.reduceSub, Nat.reduceAdd, Nat.reduceMul, Nat.reduceLT, Nat.reduceLeDiff, Nat.reduceEqDiff, Nat.reduceDiv, Nat.reduceMod, Int.reduceToNat, Int.reduceLE, Int.reduceLT, Int.reduceBEq, Int.reduceBNe, Int.reduceNeg, Int.reduceAdd, Int.reduceSub, Int.reduceMul, reduceCtorEq, h1, h2, h3, h4]
  exact WeakR.drop' (by simp [wB, hc, h4]) (by rfl)
theorem listedB_of {α : Type} {p : α → Bool} {k : α → Int} {m : Nat} {L : List α} (h : (List.range L.length).all (listedQ p k L) = true) (hm : L.length ≤ m) : listedB p k m L = true := by
  simp [listedB, h, hm]
theorem l25Shock_ok (w : Watch) (hw : 1 ≤ w.Next ∧ w.Next ≤ 999) (x : Shock) : Ctr Try.prog 216 [w.v, x.v] [] (.bool (shockB w.Next w.Now x)) [] := by
  refine Ctr.intro Try.mixed Try.func216 rfl Try.okF216 ?_
  simp -implicitDefEqProofs -dsimp only [go_sem, Nat.reduceSub, Nat.reduceAdd, Nat.reduceMul, Nat.reduceLT, Nat.reduceLeDiff, Nat.reduceEqDiff, Nat.reduceDiv, Nat.reduceMod, Int.reduceToNat, Int.reduceLE, Int.reduceLT, Int.reduceBEq, Int.reduceBNe, Int.reduceNeg, Int.reduceAdd, Int.reduceSub, Int.reduceMul, reduceCtorEq, Try.ntmps216, Try.results216]
  simp -implicitDefEqProofs -dsimp only [go_sem, Nat.reduceSub, Nat.reduceAdd, Nat.reduceMul, Nat.reduceLT, Nat.reduceLeDiff, Nat.reduceEqDiff, Nat.reduceDiv, Nat.reduceMod, Int.reduceToNat, Int.reduceLE, Int.reduceLT, Int.reduceBEq, Int.reduceBNe, Int.reduceNeg, Int.reduceAdd, Int.reduceSub, Int.reduceMul, reduceCtorEq, Shock.v, Watch.v]
  have hw1 : IntKind.i64.wrap (w.Next - 1) = w.Next - 1 := wrap_i64 (by omega) (by omega)
  repeat' (first | (refine WeakR.drop' ?_ (by rfl); first | rfl | (simp [shockB, *]; done)) | ((first | refine callT.at (l1In_ok _ _ _) ⟨leA, leA, leA, trivial⟩ ?_ | refine callS.at (l1In_ok _ _ _) ⟨leA, leA, leA, trivial⟩ ?_); simp -implicitDefEqProofs -dsimp only [go_sem, Nat.reduceSub, Nat.reduceAdd, Nat.reduceMul, Nat.reduceLT, Nat.reduceLeDiff, Nat.reduceEqDiff, Nat.reduceDiv, Nat.reduceMod, Int.reduceToNat, Int.reduceLE, Int.reduceLT, Int.reduceBEq, Int.reduceBNe, Int.reduceNeg, Int.reduceAdd, Int.reduceSub, Int.reduceMul, reduceCtorEq, *]) | (refine guardT.splitT (fun _ => ?_) (fun _ => ?_) <;> simp -implicitDefEqProofs -dsimp only [go_sem, Nat.reduceSub, Nat.reduceAdd, Nat.reduceMul, Nat.reduceLT, Nat.reduceLeDiff, Nat.reduceEqDiff, Nat.reduceDiv, Nat.reduceMod, Int.reduceToNat, Int.reduceLE, Int.reduceLT, Int.reduceBEq, Int.reduceBNe, Int.reduceNeg, Int.reduceAdd, Int.reduceSub, Int.reduceMul, reduceCtorEq, *]) | (refine guardT.splitF (fun _ => ?_) (fun _ => ?_) <;> simp -implicitDefEqProofs -dsimp only [go_sem, Nat.reduceSub, Nat.reduceAdd, Nat.reduceMul, Nat.reduceLT, Nat.reduceLeDiff, Nat.reduceEqDiff, Nat.reduceDiv, Nat.reduceMod, Int.reduceToNat, Int.reduceLE, Int.reduceLT, Int.reduceBEq, Int.reduceBNe, Int.reduceNeg, Int.reduceAdd, Int.reduceSub, Int.reduceMul, reduceCtorEq, *]))
theorem l25Good_ok (w : Watch) (hp : w.Posts.length ≤ 281474976710656) (hs : w.Shocks.length ≤ 281474976710656) : Ctr Try.prog 130 [w.v] [] (.bool (wB w)) [] := by
  refine Ctr.intro Try.mixed Try.func130 rfl Try.okF130 ?_
  simp -implicitDefEqProofs -dsimp only [go_sem, Nat.reduceSub, Nat.reduceAdd, Nat.reduceMul, Nat.reduceLT, Nat.reduceLeDiff, Nat.reduceEqDiff, Nat.reduceDiv, Nat.reduceMod, Int.reduceToNat, Int.reduceLE, Int.reduceLT, Int.reduceBEq, Int.reduceBNe, Int.reduceNeg, Int.reduceAdd, Int.reduceSub, Int.reduceMul, reduceCtorEq, Try.ntmps130, Try.results130]
  simp -implicitDefEqProofs -dsimp only [go_sem, Nat.reduceSub, Nat.reduceAdd, Nat.reduceMul, Nat.reduceLT, Nat.reduceLeDiff, Nat.reduceEqDiff, Nat.reduceDiv, Nat.reduceMod, Int.reduceToNat, Int.reduceLE, Int.reduceLT, Int.reduceBEq, Int.reduceBNe, Int.reduceNeg, Int.reduceAdd, Int.reduceSub, Int.reduceMul, reduceCtorEq, Watch.v]
  (first | refine callT.at (l2Tick_ok _) ⟨leA, trivial⟩ ?_ | refine callS.at (l2Tick_ok _) ⟨leA, trivial⟩ ?_)
  simp -implicitDefEqProofs -dsimp only [go_sem, Nat.reduceSub, Nat.reduceAdd, Nat.reduceMul, Nat.reduceLT, Nat.reduceLeDiff, Nat.reduceEqDiff, Nat.reduceDiv, Nat.reduceMod, Int.reduceToNat, Int.reduceLE, Int.reduceLT, Int.reduceBEq, Int.reduceBNe, Int.reduceNeg, Int.reduceAdd, Int.reduceSub, Int.reduceMul, reduceCtorEq]
  refine guardT.splitF (fun h1 => ?_) (fun h1 => ?_) <;> simp -implicitDefEqProofs -dsimp only [go_sem, Nat.reduceSub, Nat.reduceAdd, Nat.reduceMul, Nat.reduceLT, Nat.reduceLeDiff, Nat.reduceEqDiff, Nat.reduceDiv, Nat.reduceMod, Int.reduceToNat, Int.reduceLE, Int.reduceLT, Int.reduceBEq, Int.reduceBNe, Int.reduceNeg, Int.reduceAdd, Int.reduceSub, Int.reduceMul, reduceCtorEq, h1]
  rotate_left
  · exact WeakR.drop' (by simp at h1; simp [wB, countsB, h1]) (by rfl)
  refine guardT.splitF (fun h2 => ?_) (fun h2 => ?_) <;> simp -implicitDefEqProofs -dsimp only [go_sem, Nat.reduceSub, Nat.reduceAdd, Nat.reduceMul, Nat.reduceLT, Nat.reduceLeDiff, Nat.reduceEqDiff, Nat.reduceDiv, Nat.reduceMod, Int.reduceToNat, Int.reduceLE, Int.reduceLT, Int.reduceBEq, Int.reduceBNe, Int.reduceNeg, Int.reduceAdd, Int.reduceSub, Int.reduceMul, reduceCtorEq, h2]
  rotate_left
  · have : ¬ w.Posts.length ≤ 8 := by simp at h2; omega
    exact WeakR.drop' (by simp [wB, listedB, this]) (by rfl)
  refine guardT.splitF (fun h3 => ?_) (fun h3 => ?_) <;> simp -implicitDefEqProofs -dsimp only [go_sem, Nat.reduceSub, Nat.reduceAdd, Nat.reduceMul, Nat.reduceLT, Nat.reduceLeDiff, Nat.reduceEqDiff, Nat.reduceDiv, Nat.reduceMod, Int.reduceToNat, Int.reduceLE, Int.reduceLT, Int.reduceBEq, Int.reduceBNe, Int.reduceNeg, Int.reduceAdd, Int.reduceSub, Int.reduceMul, reduceCtorEq, h3]
  rotate_left
  · have : ¬ w.Shocks.length ≤ 6 := by simp at h3; omega
    exact WeakR.drop' (by simp [wB, listedB, this]) (by rfl)
  (first | refine callT.at (l1In_ok _ _ _) ⟨leA, leA, leA, trivial⟩ ?_ | refine callS.at (l1In_ok _ _ _) ⟨leA, leA, leA, trivial⟩ ?_)
  simp -implicitDefEqProofs -dsimp only [go_sem, Nat.reduceSub, Nat.reduceAdd, Nat.reduceMul, Nat.reduceLT, Nat.reduceLeDiff, Nat.reduceEqDiff, Nat.reduceDiv, Nat.reduceMod, Int.reduceToNat, Int.reduceLE, Int.reduceLT, Int.reduceBEq, Int.reduceBNe, Int.reduceNeg, Int.reduceAdd, Int.reduceSub, Int.reduceMul, reduceCtorEq]
  refine guardT.splitF (fun h4 => ?_) (fun h4 => ?_) <;> simp -implicitDefEqProofs -dsimp only [go_sem, Nat.reduceSub, Nat.reduceAdd, Nat.reduceMul, Nat.reduceLT, Nat.reduceLeDiff, Nat.reduceEqDiff, Nat.reduceDiv, Nat.reduceMod, Int.reduceToNat, Int.reduceLE, Int.reduceLT, Int.reduceBEq, Int.reduceBNe, Int.reduceNeg, Int.reduceAdd, Int.reduceSub, Int.reduceMul, reduceCtorEq, h4]
  rotate_left
  · exact WeakR.drop' (by simp at h4; simp [wB, countsB, h4]) (by rfl)
  (first | refine callT.at (l1In_ok _ _ _) ⟨leA, leA, leA, trivial⟩ ?_ | refine callS.at (l1In_ok _ _ _) ⟨leA, leA, leA, trivial⟩ ?_)
  simp -implicitDefEqProofs -dsimp only [go_sem, Nat.reduceSub, Nat.reduceAdd, Nat.reduceMul, Nat.reduceLT, Nat.reduceLeDiff, Nat.reduceEqDiff, Nat.reduceDiv, Nat.reduceMod, Int.reduceToNat, Int.reduceLE, Int.reduceLT, Int.reduceBEq, Int.reduceBNe, Int.reduceNeg, Int.reduceAdd, Int.reduceSub, Int.reduceMul, reduceCtorEq]
  refine condT.split (fun h5 => ?_) (fun h5 => ?_) <;> simp -implicitDefEqProofs -dsimp only [go_sem, Nat.reduceSub, Nat.reduceAdd, Nat.reduceMul, Nat.reduceLT, Nat.reduceLeDiff, Nat.reduceEqDiff, Nat.reduceDiv, Nat.reduceMod, Int.reduceToNat, Int.reduceLE, Int.reduceLT, Int.reduceBEq, Int.reduceBNe, Int.reduceNeg, Int.reduceAdd, Int.reduceSub, Int.reduceMul, reduceCtorEq, h5]
  · exact WeakR.drop' (by simp at h5; simp [wB, countsB, h5]) (by rfl)
  have hc : countsB w = true := by simp at h1 h4 h5; simp [countsB, h1, h4, h5]
  have hcn := countsB_iff.1 hc
  have hpl : w.Posts.length ≤ 8 := by simp at h2; omega
  have hsl : w.Shocks.length ≤ 6 := by simp at h3; omega
  clear h1 h2 h3 h4 h5
  refine LoopT.intro (fun i : Nat => i ≤ (w.Posts).length ∧ (List.range i).all (listedQ (postB w.Now) Post.Station (w.Posts)) = true) (fun i => ⟨[.undef, .ptr 0 0, .undef, .int .i64 i, .undef, .undef, .undef, .undef, .undef, .undef, .undef, .undef, .undef, .undef, .undef, .undef, .undef, .undef, .undef, .undef, .undef, .undef, .undef, .undef, .undef, .undef, .undef, .undef, .undef, .undef, .undef, .undef, .undef, .undef, .undef, .undef, .undef, .undef, .undef, .undef, .undef, .undef, .undef, .undef, .undef, .undef, .undef, .undef, .undef, .undef, .undef, .undef, .undef, .undef, .undef, .undef, .undef, .undef, .undef, .undef, .undef, .undef, .undef, .undef, .undef, .undef, .undef, .undef, .undef, .undef, .undef, .undef, .undef, .undef, .undef, .undef, .undef, .undef, .undef, .undef, .undef, .undef, .undef, .undef, .undef, .undef, .undef, .undef, .undef, .undef, .undef, .undef, .undef, .undef, .undef, .undef, .undef, .undef, .undef, .undef, .undef, .undef, .undef, .undef, .undef, .undef, .undef, .undef, .undef], [some w.cs], 0⟩) (fun i => (w.Posts).length - i) 0 ⟨Nat.zero_le _, rfl⟩ ?_ (fun i hi => ?_)
  · refine Weak.cut (1) (by simp) (by simp) ?_ ?_
    · simp [LeC, LeV, ren, cutF]
    · first | rfl | simp [cutH, cutB, ren, map_ren_rows, Watch.cs]
  simp -implicitDefEqProofs -dsimp only [go_sem, Nat.reduceSub, Nat.reduceAdd, Nat.reduceMul, Nat.reduceLT, Nat.reduceLeDiff, Nat.reduceEqDiff, Nat.reduceDiv, Nat.reduceMod, Int.reduceToNat, Int.reduceLE, Int.reduceLT, Int.reduceBEq, Int.reduceBNe, Int.reduceNeg, Int.reduceAdd, Int.reduceSub, Int.reduceMul, reduceCtorEq, Watch.cs]
  refine condT.split (fun h1 => ?_) (fun h1 => ?_)
  rotate_left
  · simp -implicitDefEqProofs -dsimp only [go_sem, Nat.reduceSub, Nat.reduceAdd, Nat.reduceMul, Nat.reduceLT, Nat.reduceLeDiff, Nat.reduceEqDiff, Nat.reduceDiv, Nat.reduceMod, Int.reduceToNat, Int.reduceLE, Int.reduceLT, Int.reduceBEq, Int.reduceBNe, Int.reduceNeg, Int.reduceAdd, Int.reduceSub, Int.reduceMul, reduceCtorEq, h1, Watch.cs]
    have hi' : i = (w.Posts).length := by simp at h1; omega
    subst hi'
    have hpq := listedB_of hi.2 hpl
    refine LoopT.intro (fun i : Nat => i ≤ (w.Shocks).length ∧ (List.range i).all (listedQ (shockB w.Next w.Now) Shock.Number (w.Shocks)) = true) (fun i => ⟨[.undef, .ptr 0 0, .undef, .undef, .undef, .int .i64 i, .undef, .undef, .undef, .undef, .undef, .undef, .undef, .undef, .undef, .undef, .undef, .undef, .undef, .undef, .undef, .undef, .undef, .undef, .undef, .undef, .undef, .undef, .undef, .undef, .undef, .undef, .undef, .undef, .undef, .undef, .undef, .undef, .undef, .undef, .undef, .undef, .undef, .undef, .undef, .undef, .undef, .undef, .undef, .undef, .undef, .undef, .undef, .undef, .undef, .undef, .undef, .undef, .undef, .undef, .undef, .undef, .undef, .undef, .undef, .undef, .undef, .undef, .undef, .undef, .undef, .undef, .undef, .undef, .undef, .undef, .undef, .undef, .undef, .undef, .undef, .undef, .undef, .undef, .undef, .undef, .undef, .undef, .undef, .undef, .undef, .undef, .undef, .undef, .undef, .undef, .undef, .undef, .undef, .undef, .undef, .undef, .undef, .undef, .undef, .undef, .undef, .undef, .undef], [some w.cs], 0⟩) (fun i => (w.Shocks).length - i) 0 ⟨Nat.zero_le _, rfl⟩ ?_ (fun i hi => ?_)
    · refine Weak.cut (1) (by simp) (by simp) ?_ ?_
      · simp [LeC, LeV, ren, cutF]
      · first | rfl | simp [cutH, cutB, ren, map_ren_rows, Watch.cs]
    simp -implicitDefEqProofs -dsimp only [go_sem, Nat.reduceSub, Nat.reduceAdd, Nat.reduceMul, Nat.reduceLT, Nat.reduceLeDiff, Nat.reduceEqDiff, Nat.reduceDiv, Nat.reduceMod, Int.reduceToNat, Int.reduceLE, Int.reduceLT, Int.reduceBEq, Int.reduceBNe, Int.reduceNeg, Int.reduceAdd, Int.reduceSub, Int.reduceMul, reduceCtorEq, Watch.cs]
    refine condT.split (fun h1 => ?_) (fun h1 => ?_)
    rotate_left
    · simp -implicitDefEqProofs -dsimp only [go_sem, Nat.reduceSub, Nat.reduceAdd, Nat.reduceMul, Nat.reduceLT, Nat.reduceLeDiff, Nat.reduceEqDiff, Nat.reduceDiv, Nat.reduceMod, Int.reduceToNat, Int.reduceLE, Int.reduceLT, Int.reduceBEq, Int.reduceBNe, Int.reduceNeg, Int.reduceAdd, Int.reduceSub, Int.reduceMul, reduceCtorEq, h1, Watch.cs]
      have hi' : i = (w.Shocks).length := by simp at h1; omega
      subst hi'
      exact WeakR.drop' (by rw [wB, hc, hpq, listedB_of hi.2 hsl]; rfl) (by rfl)
    · simp -implicitDefEqProofs -dsimp only [go_sem, Nat.reduceSub, Nat.reduceAdd, Nat.reduceMul, Nat.reduceLT, Nat.reduceLeDiff, Nat.reduceEqDiff, Nat.reduceDiv, Nat.reduceMod, Int.reduceToNat, Int.reduceLE, Int.reduceLT, Int.reduceBEq, Int.reduceBNe, Int.reduceNeg, Int.reduceAdd, Int.reduceSub, Int.reduceMul, reduceCtorEq, h1, Watch.cs]
      have hi' : i < (w.Shocks).length := by simpa using h1
      have h5 := Shock.csl (w.Shocks)[i]
      have hr := rows_at Shock.csl hi'
      have hbad : listedQ (shockB w.Next w.Now) Shock.Number (w.Shocks) i = false → _ := fun hq => (show V.bool false = V.bool (wB w) by rw [wB, listedB_false hi' hq]; simp)
      cases i with
      | zero =>
        have hz : ((0 : Nat) : Int) = 0 := rfl
        have hr0 := hr
        rw [Nat.zero_mul, List.drop_zero] at hr0
        (repeat ((repeat1' (first | simp -implicitDefEqProofs -dsimp only [go_sem, Nat.reduceSub, Nat.reduceAdd, Nat.reduceMul, Nat.reduceLT, Nat.reduceLeDiff, Nat.reduceEqDiff, Nat.reduceDiv, Nat.reduceMod, Int.reduceToNat, Int.reduceLE, Int.reduceLT, Int.reduceBEq, Int.reduceBNe, Int.reduceNeg, Int.reduceAdd, Int.reduceSub, Int.reduceMul, reduceCtorEq, hr, hr0, hz, Shock.cs, Watch.cs] | simp -implicitDefEqProofs -dsimp (disch := omega) only [wrap_i64])); repeat (with_reducible refine sideA ?_)))
        repeat' (first | (refine WeakR.drop' (hbad ?_) (by rfl); (rw [listedQ_zero hi']; (try simp only [Bool.not_eq_false', Bool.not_eq_true', decide_eq_false_iff_not, decide_eq_true_eq] at *); simp [*]; try omega; done)) | ((first | refine callT.at (l25Shock_ok w hcn.2.1 (w.Shocks[0])) ⟨leA, leA, trivial⟩ ?_ | refine callS.at (l25Shock_ok w hcn.2.1 (w.Shocks[0])) ⟨leA, leA, trivial⟩ ?_); simp -implicitDefEqProofs -dsimp only [go_sem, Nat.reduceSub, Nat.reduceAdd, Nat.reduceMul, Nat.reduceLT, Nat.reduceLeDiff, Nat.reduceEqDiff, Nat.reduceDiv, Nat.reduceMod, Int.reduceToNat, Int.reduceLE, Int.reduceLT, Int.reduceBEq, Int.reduceBNe, Int.reduceNeg, Int.reduceAdd, Int.reduceSub, Int.reduceMul, reduceCtorEq, *, Watch.cs]) | (refine guardT.splitT (fun _ => ?_) (fun _ => ?_) <;> simp -implicitDefEqProofs -dsimp only [go_sem, Nat.reduceSub, Nat.reduceAdd, Nat.reduceMul, Nat.reduceLT, Nat.reduceLeDiff, Nat.reduceEqDiff, Nat.reduceDiv, Nat.reduceMod, Int.reduceToNat, Int.reduceLE, Int.reduceLT, Int.reduceBEq, Int.reduceBNe, Int.reduceNeg, Int.reduceAdd, Int.reduceSub, Int.reduceMul, reduceCtorEq, *, Watch.cs]) | (refine guardT.splitF (fun _ => ?_) (fun _ => ?_) <;> simp -implicitDefEqProofs -dsimp only [go_sem, Nat.reduceSub, Nat.reduceAdd, Nat.reduceMul, Nat.reduceLT, Nat.reduceLeDiff, Nat.reduceEqDiff, Nat.reduceDiv, Nat.reduceMod, Int.reduceToNat, Int.reduceLE, Int.reduceLT, Int.reduceBEq, Int.reduceBNe, Int.reduceNeg, Int.reduceAdd, Int.reduceSub, Int.reduceMul, reduceCtorEq, *, Watch.cs]) | (refine condT.split (fun _ => ?_) (fun _ => ?_) <;> simp -implicitDefEqProofs -dsimp only [go_sem, Nat.reduceSub, Nat.reduceAdd, Nat.reduceMul, Nat.reduceLT, Nat.reduceLeDiff, Nat.reduceEqDiff, Nat.reduceDiv, Nat.reduceMod, Int.reduceToNat, Int.reduceLE, Int.reduceLT, Int.reduceBEq, Int.reduceBNe, Int.reduceNeg, Int.reduceAdd, Int.reduceSub, Int.reduceMul, reduceCtorEq, *, Watch.cs]) | (with_reducible refine And.intro (by first | omega | (show drawOk _ = true; kernel_rfl)) ?_; (repeat ((repeat1' (first | simp -implicitDefEqProofs -dsimp only [go_sem, Nat.reduceSub, Nat.reduceAdd, Nat.reduceMul, Nat.reduceLT, Nat.reduceLeDiff, Nat.reduceEqDiff, Nat.reduceDiv, Nat.reduceMod, Int.reduceToNat, Int.reduceLE, Int.reduceLT, Int.reduceBEq, Int.reduceBNe, Int.reduceNeg, Int.reduceAdd, Int.reduceSub, Int.reduceMul, reduceCtorEq, *, Shock.cs, Watch.cs] | simp -implicitDefEqProofs -dsimp (disch := omega) only [wrap_i64])); repeat (with_reducible refine sideA ?_)))) | (refine ⟨0 + 1, ⟨hi', range_all_succ hi.2 (by rw [listedQ_zero hi']; (try simp only [Bool.not_eq_false', Bool.not_eq_true', decide_eq_false_iff_not, decide_eq_true_eq] at *); simp [*]; try omega)⟩, ?_, by omega⟩; refine Weak.cut (1) (by simp) (by simp) ?_ ?_; (· (try (repeat1' (first | simp -implicitDefEqProofs -dsimp only [go_sem, Nat.reduceSub, Nat.reduceAdd, Nat.reduceMul, Nat.reduceLT, Nat.reduceLeDiff, Nat.reduceEqDiff, Nat.reduceDiv, Nat.reduceMod, Int.reduceToNat, Int.reduceLE, Int.reduceLT, Int.reduceBEq, Int.reduceBNe, Int.reduceNeg, Int.reduceAdd, Int.reduceSub, Int.reduceMul, reduceCtorEq] | simp -implicitDefEqProofs -dsimp (disch := omega) only [wrap_i64])); simp [LeC, LeV, ren, cutF]; try omega)); (· (first | rfl | simp [cutH, cutB, ren, map_ren_rows, Watch.cs]))))
      | succ j =>
        have hj : j < (w.Shocks).length := by omega
        have hw1 : IntKind.i64.wrap (((j + 1 : Nat) : Int) - 1) = (j : Int) := by rw [wrap_i64 (by omega) (by omega)]; omega
        have hg : decide ((0 : Int) < ((j + 1 : Nat) : Int)) = true := decide_eq_true (by omega)
        have hr2 := rows_at Shock.csl hj
        (repeat ((repeat1' (first | simp -implicitDefEqProofs -dsimp only [go_sem, Nat.reduceSub, Nat.reduceAdd, Nat.reduceMul, Nat.reduceLT, Nat.reduceLeDiff, Nat.reduceEqDiff, Nat.reduceDiv, Nat.reduceMod, Int.reduceToNat, Int.reduceLE, Int.reduceLT, Int.reduceBEq, Int.reduceBNe, Int.reduceNeg, Int.reduceAdd, Int.reduceSub, Int.reduceMul, reduceCtorEq, hr, hg, hw1, hr2, Shock.cs, Watch.cs] | simp -implicitDefEqProofs -dsimp (disch := omega) only [wrap_i64])); repeat (with_reducible refine sideA ?_)))
        repeat' (first | (refine WeakR.drop' (hbad ?_) (by rfl); (rw [listedQ_succ hi']; (try simp only [Bool.not_eq_false', Bool.not_eq_true', decide_eq_false_iff_not, decide_eq_true_eq] at *); simp [*]; try omega; done)) | ((first | refine callT.at (l25Shock_ok w hcn.2.1 (w.Shocks[j + 1])) ⟨leA, leA, trivial⟩ ?_ | refine callS.at (l25Shock_ok w hcn.2.1 (w.Shocks[j + 1])) ⟨leA, leA, trivial⟩ ?_); simp -implicitDefEqProofs -dsimp only [go_sem, Nat.reduceSub, Nat.reduceAdd, Nat.reduceMul, Nat.reduceLT, Nat.reduceLeDiff, Nat.reduceEqDiff, Nat.reduceDiv, Nat.reduceMod, Int.reduceToNat, Int.reduceLE, Int.reduceLT, Int.reduceBEq, Int.reduceBNe, Int.reduceNeg, Int.reduceAdd, Int.reduceSub, Int.reduceMul, reduceCtorEq, *, Watch.cs]) | (refine guardT.splitT (fun _ => ?_) (fun _ => ?_) <;> simp -implicitDefEqProofs -dsimp only [go_sem, Nat.reduceSub, Nat.reduceAdd, Nat.reduceMul, Nat.reduceLT, Nat.reduceLeDiff, Nat.reduceEqDiff, Nat.reduceDiv, Nat.reduceMod, Int.reduceToNat, Int.reduceLE, Int.reduceLT, Int.reduceBEq, Int.reduceBNe, Int.reduceNeg, Int.reduceAdd, Int.reduceSub, Int.reduceMul, reduceCtorEq, *, Watch.cs]) | (refine guardT.splitF (fun _ => ?_) (fun _ => ?_) <;> simp -implicitDefEqProofs -dsimp only [go_sem, Nat.reduceSub, Nat.reduceAdd, Nat.reduceMul, Nat.reduceLT, Nat.reduceLeDiff, Nat.reduceEqDiff, Nat.reduceDiv, Nat.reduceMod, Int.reduceToNat, Int.reduceLE, Int.reduceLT, Int.reduceBEq, Int.reduceBNe, Int.reduceNeg, Int.reduceAdd, Int.reduceSub, Int.reduceMul, reduceCtorEq, *, Watch.cs]) | (refine condT.split (fun _ => ?_) (fun _ => ?_) <;> simp -implicitDefEqProofs -dsimp only [go_sem, Nat.reduceSub, Nat.reduceAdd, Nat.reduceMul, Nat.reduceLT, Nat.reduceLeDiff, Nat.reduceEqDiff, Nat.reduceDiv, Nat.reduceMod, Int.reduceToNat, Int.reduceLE, Int.reduceLT, Int.reduceBEq, Int.reduceBNe, Int.reduceNeg, Int.reduceAdd, Int.reduceSub, Int.reduceMul, reduceCtorEq, *, Watch.cs]) | (with_reducible refine And.intro (by first | omega | (show drawOk _ = true; kernel_rfl)) ?_; (repeat ((repeat1' (first | simp -implicitDefEqProofs -dsimp only [go_sem, Nat.reduceSub, Nat.reduceAdd, Nat.reduceMul, Nat.reduceLT, Nat.reduceLeDiff, Nat.reduceEqDiff, Nat.reduceDiv, Nat.reduceMod, Int.reduceToNat, Int.reduceLE, Int.reduceLT, Int.reduceBEq, Int.reduceBNe, Int.reduceNeg, Int.reduceAdd, Int.reduceSub, Int.reduceMul, reduceCtorEq, *, Shock.cs, Watch.cs] | simp -implicitDefEqProofs -dsimp (disch := omega) only [wrap_i64])); repeat (with_reducible refine sideA ?_)))) | (refine ⟨j + 1 + 1, ⟨hi', range_all_succ hi.2 (by rw [listedQ_succ hi']; (try simp only [Bool.not_eq_false', Bool.not_eq_true', decide_eq_false_iff_not, decide_eq_true_eq] at *); simp [*]; try omega)⟩, ?_, by omega⟩; refine Weak.cut (1) (by simp) (by simp) ?_ ?_; (· (try (repeat1' (first | simp -implicitDefEqProofs -dsimp only [go_sem, Nat.reduceSub, Nat.reduceAdd, Nat.reduceMul, Nat.reduceLT, Nat.reduceLeDiff, Nat.reduceEqDiff, Nat.reduceDiv, Nat.reduceMod, Int.reduceToNat, Int.reduceLE, Int.reduceLT, Int.reduceBEq, Int.reduceBNe, Int.reduceNeg, Int.reduceAdd, Int.reduceSub, Int.reduceMul, reduceCtorEq] | simp -implicitDefEqProofs -dsimp (disch := omega) only [wrap_i64])); simp [LeC, LeV, ren, cutF]; try omega)); (· (first | rfl | simp [cutH, cutB, ren, map_ren_rows, Watch.cs]))))
  · simp -implicitDefEqProofs -dsimp only [go_sem, Nat.reduceSub, Nat.reduceAdd, Nat.reduceMul, Nat.reduceLT, Nat.reduceLeDiff, Nat.reduceEqDiff, Nat.reduceDiv, Nat.reduceMod, Int.reduceToNat, Int.reduceLE, Int.reduceLT, Int.reduceBEq, Int.reduceBNe, Int.reduceNeg, Int.reduceAdd, Int.reduceSub, Int.reduceMul, reduceCtorEq, h1, Watch.cs]
    have hi' : i < (w.Posts).length := by simpa using h1
    have h5 := Post.csl (w.Posts)[i]
    have hr := rows_at Post.csl hi'
    have hbad : listedQ (postB w.Now) Post.Station (w.Posts) i = false → _ := fun hq => (show V.bool false = V.bool (wB w) by rw [wB, listedB_false hi' hq]; simp)
    cases i with
    | zero =>
      have hz : ((0 : Nat) : Int) = 0 := rfl
      have hr0 := hr
      rw [Nat.zero_mul, List.drop_zero] at hr0
      (repeat ((repeat1' (first | simp -implicitDefEqProofs -dsimp only [go_sem, Nat.reduceSub, Nat.reduceAdd, Nat.reduceMul, Nat.reduceLT, Nat.reduceLeDiff, Nat.reduceEqDiff, Nat.reduceDiv, Nat.reduceMod, Int.reduceToNat, Int.reduceLE, Int.reduceLT, Int.reduceBEq, Int.reduceBNe, Int.reduceNeg, Int.reduceAdd, Int.reduceSub, Int.reduceMul, reduceCtorEq, hr, hr0, hz, Post.cs, Watch.cs] | simp -implicitDefEqProofs -dsimp (disch := omega) only [wrap_i64])); repeat (with_reducible refine sideA ?_)))
      repeat' (first | (refine WeakR.drop' (hbad ?_) (by rfl); (rw [listedQ_zero hi']; (try simp only [Bool.not_eq_false', Bool.not_eq_true', decide_eq_false_iff_not, decide_eq_true_eq] at *); simp [postB, *]; try omega; done)) | ((first | refine callT.at (l1In_ok _ _ _) ⟨leA, leA, leA, trivial⟩ ?_ | refine callS.at (l1In_ok _ _ _) ⟨leA, leA, leA, trivial⟩ ?_); simp -implicitDefEqProofs -dsimp only [go_sem, Nat.reduceSub, Nat.reduceAdd, Nat.reduceMul, Nat.reduceLT, Nat.reduceLeDiff, Nat.reduceEqDiff, Nat.reduceDiv, Nat.reduceMod, Int.reduceToNat, Int.reduceLE, Int.reduceLT, Int.reduceBEq, Int.reduceBNe, Int.reduceNeg, Int.reduceAdd, Int.reduceSub, Int.reduceMul, reduceCtorEq, *, Watch.cs]) | (refine guardT.splitT (fun _ => ?_) (fun _ => ?_) <;> simp -implicitDefEqProofs -dsimp only [go_sem, Nat.reduceSub, Nat.reduceAdd, Nat.reduceMul, Nat.reduceLT, Nat.reduceLeDiff, Nat.reduceEqDiff, Nat.reduceDiv, Nat.reduceMod, Int.reduceToNat, Int.reduceLE, Int.reduceLT, Int.reduceBEq, Int.reduceBNe, Int.reduceNeg, Int.reduceAdd, Int.reduceSub, Int.reduceMul, reduceCtorEq, *, Watch.cs]) | (refine guardT.splitF (fun _ => ?_) (fun _ => ?_) <;> simp -implicitDefEqProofs -dsimp only [go_sem, Nat.reduceSub, Nat.reduceAdd, Nat.reduceMul, Nat.reduceLT, Nat.reduceLeDiff, Nat.reduceEqDiff, Nat.reduceDiv, Nat.reduceMod, Int.reduceToNat, Int.reduceLE, Int.reduceLT, Int.reduceBEq, Int.reduceBNe, Int.reduceNeg, Int.reduceAdd, Int.reduceSub, Int.reduceMul, reduceCtorEq, *, Watch.cs]) | (refine condT.split (fun _ => ?_) (fun _ => ?_) <;> simp -implicitDefEqProofs -dsimp only [go_sem, Nat.reduceSub, Nat.reduceAdd, Nat.reduceMul, Nat.reduceLT, Nat.reduceLeDiff, Nat.reduceEqDiff, Nat.reduceDiv, Nat.reduceMod, Int.reduceToNat, Int.reduceLE, Int.reduceLT, Int.reduceBEq, Int.reduceBNe, Int.reduceNeg, Int.reduceAdd, Int.reduceSub, Int.reduceMul, reduceCtorEq, *, Watch.cs]) | (with_reducible refine And.intro (by first | omega | (show drawOk _ = true; kernel_rfl)) ?_; (repeat ((repeat1' (first | simp -implicitDefEqProofs -dsimp only [go_sem, Nat.reduceSub, Nat.reduceAdd, Nat.reduceMul, Nat.reduceLT, Nat.reduceLeDiff, Nat.reduceEqDiff, Nat.reduceDiv, Nat.reduceMod, Int.reduceToNat, Int.reduceLE, Int.reduceLT, Int.reduceBEq, Int.reduceBNe, Int.reduceNeg, Int.reduceAdd, Int.reduceSub, Int.reduceMul, reduceCtorEq, *, Post.cs, Watch.cs] | simp -implicitDefEqProofs -dsimp (disch := omega) only [wrap_i64])); repeat (with_reducible refine sideA ?_)))) | (refine ⟨0 + 1, ⟨hi', range_all_succ hi.2 (by rw [listedQ_zero hi']; (try simp only [Bool.not_eq_false', Bool.not_eq_true', decide_eq_false_iff_not, decide_eq_true_eq] at *); simp [postB, *]; try omega)⟩, ?_, by omega⟩; refine Weak.cut (1) (by simp) (by simp) ?_ ?_; (· (try (repeat1' (first | simp -implicitDefEqProofs -dsimp only [go_sem, Nat.reduceSub, Nat.reduceAdd, Nat.reduceMul, Nat.reduceLT, Nat.reduceLeDiff, Nat.reduceEqDiff, Nat.reduceDiv, Nat.reduceMod, Int.reduceToNat, Int.reduceLE, Int.reduceLT, Int.reduceBEq, Int.reduceBNe, Int.reduceNeg, Int.reduceAdd, Int.reduceSub, Int.reduceMul, reduceCtorEq] | simp -implicitDefEqProofs -dsimp (disch := omega) only [wrap_i64])); simp [LeC, LeV, ren, cutF]; try omega)); (· (first | rfl | simp [cutH, cutB, ren, map_ren_rows, Watch.cs]))))
    | succ j =>
      have hj : j < (w.Posts).length := by omega
      have hw1 : IntKind.i64.wrap (((j + 1 : Nat) : Int) - 1) = (j : Int) := by rw [wrap_i64 (by omega) (by omega)]; omega
      have hg : decide ((0 : Int) < ((j + 1 : Nat) : Int)) = true := decide_eq_true (by omega)
      have hr2 := rows_at Post.csl hj
      (repeat ((repeat1' (first | simp -implicitDefEqProofs -dsimp only [go_sem, Nat.reduceSub, Nat.reduceAdd, Nat.reduceMul, Nat.reduceLT, Nat.reduceLeDiff, Nat.reduceEqDiff, Nat.reduceDiv, Nat.reduceMod, Int.reduceToNat, Int.reduceLE, Int.reduceLT, Int.reduceBEq, Int.reduceBNe, Int.reduceNeg, Int.reduceAdd, Int.reduceSub, Int.reduceMul, reduceCtorEq, hr, hg, hw1, hr2, Post.cs, Watch.cs] | simp -implicitDefEqProofs -dsimp (disch := omega) only [wrap_i64])); repeat (with_reducible refine sideA ?_)))
      repeat' (first | (refine WeakR.drop' (hbad ?_) (by rfl); (rw [listedQ_succ hi']; (try simp only [Bool.not_eq_false', Bool.not_eq_true', decide_eq_false_iff_not, decide_eq_true_eq] at *); simp [postB, *]; try omega; done)) | ((first | refine callT.at (l1In_ok _ _ _) ⟨leA, leA, leA, trivial⟩ ?_ | refine callS.at (l1In_ok _ _ _) ⟨leA, leA, leA, trivial⟩ ?_); simp -implicitDefEqProofs -dsimp only [go_sem, Nat.reduceSub, Nat.reduceAdd, Nat.reduceMul, Nat.reduceLT, Nat.reduceLeDiff, Nat.reduceEqDiff, Nat.reduceDiv, Nat.reduceMod, Int.reduceToNat, Int.reduceLE, Int.reduceLT, Int.reduceBEq, Int.reduceBNe, Int.reduceNeg, Int.reduceAdd, Int.reduceSub, Int.reduceMul, reduceCtorEq, *, Watch.cs]) | (refine guardT.splitT (fun _ => ?_) (fun _ => ?_) <;> simp -implicitDefEqProofs -dsimp only [go_sem, Nat.reduceSub, Nat.reduceAdd, Nat.reduceMul, Nat.reduceLT, Nat.reduceLeDiff, Nat.reduceEqDiff, Nat.reduceDiv, Nat.reduceMod, Int.reduceToNat, Int.reduceLE, Int.reduceLT, Int.reduceBEq, Int.reduceBNe, Int.reduceNeg, Int.reduceAdd, Int.reduceSub, Int.reduceMul, reduceCtorEq, *, Watch.cs]) | (refine guardT.splitF (fun _ => ?_) (fun _ => ?_) <;> simp -implicitDefEqProofs -dsimp only [go_sem, Nat.reduceSub, Nat.reduceAdd, Nat.reduceMul, Nat.reduceLT, Nat.reduceLeDiff, Nat.reduceEqDiff, Nat.reduceDiv, Nat.reduceMod, Int.reduceToNat, Int.reduceLE, Int.reduceLT, Int.reduceBEq, Int.reduceBNe, Int.reduceNeg, Int.reduceAdd, Int.reduceSub, Int.reduceMul, reduceCtorEq, *, Watch.cs]) | (refine condT.split (fun _ => ?_) (fun _ => ?_) <;> simp -implicitDefEqProofs -dsimp only [go_sem, Nat.reduceSub, Nat.reduceAdd, Nat.reduceMul, Nat.reduceLT, Nat.reduceLeDiff, Nat.reduceEqDiff, Nat.reduceDiv, Nat.reduceMod, Int.reduceToNat, Int.reduceLE, Int.reduceLT, Int.reduceBEq, Int.reduceBNe, Int.reduceNeg, Int.reduceAdd, Int.reduceSub, Int.reduceMul, reduceCtorEq, *, Watch.cs]) | (with_reducible refine And.intro (by first | omega | (show drawOk _ = true; kernel_rfl)) ?_; (repeat ((repeat1' (first | simp -implicitDefEqProofs -dsimp only [go_sem, Nat.reduceSub, Nat.reduceAdd, Nat.reduceMul, Nat.reduceLT, Nat.reduceLeDiff, Nat.reduceEqDiff, Nat.reduceDiv, Nat.reduceMod, Int.reduceToNat, Int.reduceLE, Int.reduceLT, Int.reduceBEq, Int.reduceBNe, Int.reduceNeg, Int.reduceAdd, Int.reduceSub, Int.reduceMul, reduceCtorEq, *, Post.cs, Watch.cs] | simp -implicitDefEqProofs -dsimp (disch := omega) only [wrap_i64])); repeat (with_reducible refine sideA ?_)))) | (refine ⟨j + 1 + 1, ⟨hi', range_all_succ hi.2 (by rw [listedQ_succ hi']; (try simp only [Bool.not_eq_false', Bool.not_eq_true', decide_eq_false_iff_not, decide_eq_true_eq] at *); simp [postB, *]; try omega)⟩, ?_, by omega⟩; refine Weak.cut (1) (by simp) (by simp) ?_ ?_; (· (try (repeat1' (first | simp -implicitDefEqProofs -dsimp only [go_sem, Nat.reduceSub, Nat.reduceAdd, Nat.reduceMul, Nat.reduceLT, Nat.reduceLeDiff, Nat.reduceEqDiff, Nat.reduceDiv, Nat.reduceMod, Int.reduceToNat, Int.reduceLE, Int.reduceLT, Int.reduceBEq, Int.reduceBNe, Int.reduceNeg, Int.reduceAdd, Int.reduceSub, Int.reduceMul, reduceCtorEq] | simp -implicitDefEqProofs -dsimp (disch := omega) only [wrap_i64])); simp [LeC, LeV, ren, cutF]; try omega)); (· (first | rfl | simp [cutH, cutB, ren, map_ren_rows, Watch.cs]))))
end Go.Proofs
end
section
set_option linter.unusedSimpArgs false
set_option linter.unusedVariables false
namespace Go.Lv
def idxI {α : Type} (p : α → Bool) (L : List α) : Int := match L.findIdx? p with
  | some i => i
  | none => -1
theorem idxI_found {α : Type} {p : α → Bool} {L : List α} {i : Nat} (h : i < L.length) (h0 : (L.take i).any p = false) (h1 : p L[i] = true) : idxI p L = i := by
  have : L.findIdx? p = some i := by
    rw [List.findIdx?_eq_some_iff_getElem]
    refine ⟨h, h1, fun j hj => ?_⟩
    have := List.any_eq_false.1 h0 L[j] (by rw [List.mem_take_iff_getElem]; exact ⟨j, by omega, rfl⟩)
    simpa using this
  simp [idxI, this]
theorem idxI_none {α : Type} {p : α → Bool} {L : List α} (h : L.any p = false) : idxI p L = -1 := by
  have : L.findIdx? p = none := by
    rw [List.findIdx?_eq_none_iff]
    intro x hx
    have := List.any_eq_false.1 h x hx
    simpa using this
  simp [idxI, this]
end Go.Lv
end
section
set_option linter.unusedSimpArgs false
set_option linter.unusedVariables false
set_option maxRecDepth 100000
namespace Go.Proofs
open Go.Lv
theorem indexFuncPost_ok (L : List Post) (p : Post → Bool) (fv : Nat) (vc : List V) (hvc : ∀ d, vc.all (noOwn d) = true) (hv : ∀ x, Ctr Try.prog fv (Post.v x :: vc) [] (.bool (p x)) []) (hl : L.length ≤ 281474976710656) :
    Ctr Try.prog 249 [Post.sl L, .fn (.func fv) [] vc] [] (.int .i64 (idxI p L)) [] := by
  refine Ctr.intro Try.mixed Try.func249 rfl Try.okF249 ?_
  simp -implicitDefEqProofs -dsimp only [go_sem, Nat.reduceSub, Nat.reduceAdd, Nat.reduceMul, Nat.reduceLT, Nat.reduceLeDiff, Nat.reduceEqDiff, Nat.reduceDiv, Nat.reduceMod, Int.reduceToNat, Int.reduceLE, Int.reduceLT, Int.reduceBEq, Int.reduceBNe, Int.reduceNeg, Int.reduceAdd, Int.reduceSub, Int.reduceMul, reduceCtorEq, Try.ntmps249, Try.results249]
  have hvc2 : ∀ f d, vc.map (ren f d) = vc := fun f d => map_ren f (hvc d)
  refine LoopT.intro (fun i : Nat => i ≤ L.length ∧ (L.take i).any p = false) (fun i => ⟨[Post.sl L, .fn (.func fv) [] vc, .undef, .undef, .undef, .undef, .undef, .int .i64 L.length, .int .i64 i, .undef, .undef, .undef, .undef, .undef, .undef, .undef, .undef, .undef, .undef], [], 0⟩) (fun i => L.length - i) 0 ⟨Nat.zero_le _, rfl⟩ ?_ (fun i hi => ?_)
  · refine Weak.cut (0) (by simp) (by simp) ?_ ?_
    · simp [LeC, LeV, ren, cutF, hvc2]
    · rfl
  simp -implicitDefEqProofs -dsimp only [go_sem, Nat.reduceSub, Nat.reduceAdd, Nat.reduceMul, Nat.reduceLT, Nat.reduceLeDiff, Nat.reduceEqDiff, Nat.reduceDiv, Nat.reduceMod, Int.reduceToNat, Int.reduceLE, Int.reduceLT, Int.reduceBEq, Int.reduceBNe, Int.reduceNeg, Int.reduceAdd, Int.reduceSub, Int.reduceMul, reduceCtorEq]
  refine condT.split (fun h1 => ?_) (fun h1 => ?_)
  · simp -implicitDefEqProofs -dsimp only [go_sem, Nat.reduceSub, Nat.reduceAdd, Nat.reduceMul, Nat.reduceLT, Nat.reduceLeDiff, Nat.reduceEqDiff, Nat.reduceDiv, Nat.reduceMod, Int.reduceToNat, Int.reduceLE, Int.reduceLT, Int.reduceBEq, Int.reduceBNe, Int.reduceNeg, Int.reduceAdd, Int.reduceSub, Int.reduceMul, reduceCtorEq, h1]
    have hi' : i < L.length := by simpa using h1
    have h5 := Post.csl L[i]
    have hr := rows_at Post.csl hi'
    (repeat1' (first | simp -implicitDefEqProofs -dsimp only [go_sem, Nat.reduceSub, Nat.reduceAdd, Nat.reduceMul, Nat.reduceLT, Nat.reduceLeDiff, Nat.reduceEqDiff, Nat.reduceDiv, Nat.reduceMod, Int.reduceToNat, Int.reduceLE, Int.reduceLT, Int.reduceBEq, Int.reduceBNe, Int.reduceNeg, Int.reduceAdd, Int.reduceSub, Int.reduceMul, reduceCtorEq, hr, Post.cs] | simp -implicitDefEqProofs -dsimp (disch := omega) only [wrap_i64]))
    repeat (with_reducible refine sideA ?_)
    refine callS.intro (hv L[i]) ⟨.inl rfl, LeL_same (hvc2 _ _)⟩ (.inl (by simp only [List.nil_append, List.cons_append, List.all_cons, hvc, Bool.and_true]; rfl)) ?_
    simp -implicitDefEqProofs -dsimp only [go_sem, Nat.reduceSub, Nat.reduceAdd, Nat.reduceMul, Nat.reduceLT, Nat.reduceLeDiff, Nat.reduceEqDiff, Nat.reduceDiv, Nat.reduceMod, Int.reduceToNat, Int.reduceLE, Int.reduceLT, Int.reduceBEq, Int.reduceBNe, Int.reduceNeg, Int.reduceAdd, Int.reduceSub, Int.reduceMul, reduceCtorEq]
    refine condT.split (fun h2 => ?_) (fun h2 => ?_) <;> simp -implicitDefEqProofs -dsimp only [go_sem, Nat.reduceSub, Nat.reduceAdd, Nat.reduceMul, Nat.reduceLT, Nat.reduceLeDiff, Nat.reduceEqDiff, Nat.reduceDiv, Nat.reduceMod, Int.reduceToNat, Int.reduceLE, Int.reduceLT, Int.reduceBEq, Int.reduceBNe, Int.reduceNeg, Int.reduceAdd, Int.reduceSub, Int.reduceMul, reduceCtorEq, h2]
    · exact WeakR.drop' (by rw [idxI_found hi' hi.2 h2]) (by rfl)
    · refine ⟨i + 1, ⟨hi', by rw [List.take_succ_eq_append_getElem hi']; simp only [List.any_append, hi.2, List.any_cons, h2, List.any_nil, Bool.or_self]⟩, ?_, by omega⟩
      refine Weak.cut (0) (by simp) (by simp) ?_ ?_
      · rw [wrap_i64 (by omega) (by omega)]
        simp [LeC, LeV, ren, cutF, hvc2]
      · rfl
  · simp -implicitDefEqProofs -dsimp only [go_sem, Nat.reduceSub, Nat.reduceAdd, Nat.reduceMul, Nat.reduceLT, Nat.reduceLeDiff, Nat.reduceEqDiff, Nat.reduceDiv, Nat.reduceMod, Int.reduceToNat, Int.reduceLE, Int.reduceLT, Int.reduceBEq, Int.reduceBNe, Int.reduceNeg, Int.reduceAdd, Int.reduceSub, Int.reduceMul, reduceCtorEq, h1]
    have hi' : i = L.length := by simp at h1; omega
    subst hi'
    have h2 := hi.2
    rw [List.take_length] at h2
    exact WeakR.drop' (by rw [idxI_none h2]) (by rfl)
end Go.Proofs
end
section
set_option linter.unusedSimpArgs false
set_option linter.unusedVariables false
set_option maxRecDepth 100000
namespace Go.Proofs
open Go.Lv
theorem indexFuncShock_ok (L : List Shock) (p : Shock → Bool) (fv : Nat) (vc : List V) (hvc : ∀ d, vc.all (noOwn d) = true) (hv : ∀ x, Ctr Try.prog fv (Shock.v x :: vc) [] (.bool (p x)) []) (hl : L.length ≤ 281474976710656) :
    Ctr Try.prog 251 [Shock.sl L, .fn (.func fv) [] vc] [] (.int .i64 (idxI p L)) [] := by
  refine Ctr.intro Try.mixed Try.func251 rfl Try.okF251 ?_
  simp -implicitDefEqProofs -dsimp only [go_sem, Nat.reduceSub, Nat.reduceAdd, Nat.reduceMul, Nat.reduceLT, Nat.reduceLeDiff, Nat.reduceEqDiff, Nat.reduceDiv, Nat.reduceMod, Int.reduceToNat, Int.reduceLE, Int.reduceLT, Int.reduceBEq, Int.reduceBNe, Int.reduceNeg, Int.reduceAdd, Int.reduceSub, Int.reduceMul, reduceCtorEq, Try.ntmps251, Try.results251]
  have hvc2 : ∀ f d, vc.map (ren f d) = vc := fun f d => map_ren f (hvc d)
  refine LoopT.intro (fun i : Nat => i ≤ L.length ∧ (L.take i).any p = false) (fun i => ⟨[Shock.sl L, .fn (.func fv) [] vc, .undef, .undef, .undef, .undef, .undef, .int .i64 L.length, .int .i64 i, .undef, .undef, .undef, .undef, .undef, .undef, .undef, .undef, .undef, .undef], [], 0⟩) (fun i => L.length - i) 0 ⟨Nat.zero_le _, rfl⟩ ?_ (fun i hi => ?_)
  · refine Weak.cut (0) (by simp) (by simp) ?_ ?_
    · simp [LeC, LeV, ren, cutF, hvc2]
    · rfl
  simp -implicitDefEqProofs -dsimp only [go_sem, Nat.reduceSub, Nat.reduceAdd, Nat.reduceMul, Nat.reduceLT, Nat.reduceLeDiff, Nat.reduceEqDiff, Nat.reduceDiv, Nat.reduceMod, Int.reduceToNat, Int.reduceLE, Int.reduceLT, Int.reduceBEq, Int.reduceBNe, Int.reduceNeg, Int.reduceAdd, Int.reduceSub, Int.reduceMul, reduceCtorEq]
  refine condT.split (fun h1 => ?_) (fun h1 => ?_)
  · simp -implicitDefEqProofs -dsimp only [go_sem, Nat.reduceSub, Nat.reduceAdd, Nat.reduceMul, Nat.reduceLT, Nat.reduceLeDiff, Nat.reduceEqDiff, Nat.reduceDiv, Nat.reduceMod, Int.reduceToNat, Int.reduceLE, Int.reduceLT, Int.reduceBEq, Int.reduceBNe, Int.reduceNeg, Int.reduceAdd, Int.reduceSub, Int.reduceMul, reduceCtorEq, h1]
    have hi' : i < L.length := by simpa using h1
    have h5 := Shock.csl L[i]
    have hr := rows_at Shock.csl hi'
    (repeat1' (first | simp -implicitDefEqProofs -dsimp only [go_sem, Nat.reduceSub, Nat.reduceAdd, Nat.reduceMul, Nat.reduceLT, Nat.reduceLeDiff, Nat.reduceEqDiff, Nat.reduceDiv, Nat.reduceMod, Int.reduceToNat, Int.reduceLE, Int.reduceLT, Int.reduceBEq, Int.reduceBNe, Int.reduceNeg, Int.reduceAdd, Int.reduceSub, Int.reduceMul, reduceCtorEq, hr, Shock.cs] | simp -implicitDefEqProofs -dsimp (disch := omega) only [wrap_i64]))
    repeat (with_reducible refine sideA ?_)
    refine callS.intro (hv L[i]) ⟨.inl rfl, LeL_same (hvc2 _ _)⟩ (.inl (by simp only [List.nil_append, List.cons_append, List.all_cons, hvc, Bool.and_true]; rfl)) ?_
    simp -implicitDefEqProofs -dsimp only [go_sem, Nat.reduceSub, Nat.reduceAdd, Nat.reduceMul, Nat.reduceLT, Nat.reduceLeDiff, Nat.reduceEqDiff, Nat.reduceDiv, Nat.reduceMod, Int.reduceToNat, Int.reduceLE, Int.reduceLT, Int.reduceBEq, Int.reduceBNe, Int.reduceNeg, Int.reduceAdd, Int.reduceSub, Int.reduceMul, reduceCtorEq]
    refine condT.split (fun h2 => ?_) (fun h2 => ?_) <;> simp -implicitDefEqProofs -dsimp only [go_sem, Nat.reduceSub, Nat.reduceAdd, Nat.reduceMul, Nat.reduceLT, Nat.reduceLeDiff, Nat.reduceEqDiff, Nat.reduceDiv, Nat.reduceMod, Int.reduceToNat, Int.reduceLE, Int.reduceLT, Int.reduceBEq, Int.reduceBNe, Int.reduceNeg, Int.reduceAdd, Int.reduceSub, Int.reduceMul, reduceCtorEq, h2]
    · exact WeakR.drop' (by rw [idxI_found hi' hi.2 h2]) (by rfl)
    · refine ⟨i + 1, ⟨hi', by rw [List.take_succ_eq_append_getElem hi']; simp only [List.any_append, hi.2, List.any_cons, h2, List.any_nil, Bool.or_self]⟩, ?_, by omega⟩
      refine Weak.cut (0) (by simp) (by simp) ?_ ?_
      · rw [wrap_i64 (by omega) (by omega)]
        simp [LeC, LeV, ren, cutF, hvc2]
      · rfl
  · simp -implicitDefEqProofs -dsimp only [go_sem, Nat.reduceSub, Nat.reduceAdd, Nat.reduceMul, Nat.reduceLT, Nat.reduceLeDiff, Nat.reduceEqDiff, Nat.reduceDiv, Nat.reduceMod, Int.reduceToNat, Int.reduceLE, Int.reduceLT, Int.reduceBEq, Int.reduceBNe, Int.reduceNeg, Int.reduceAdd, Int.reduceSub, Int.reduceMul, reduceCtorEq, h1]
    have hi' : i = L.length := by simp at h1; omega
    subst hi'
    have h2 := hi.2
    rw [List.take_length] at h2
    exact WeakR.drop' (by rw [idxI_none h2]) (by rfl)
end Go.Proofs
end
section
set_option linter.unusedSimpArgs false
set_option linter.unusedVariables false
set_option maxRecDepth 100000
namespace Go.Proofs
open Go.Lv
def shockIs (n : Int) (x : Shock) : Bool := x.Number == n
def postIs (n : Int) (x : Post) : Bool := x.Station == n
theorem shockIs_ok (x : Shock) (n : Int) : Ctr Try.prog 252 [x.v, .pt [.int .i64 n]] [] (.bool (shockIs n x)) [] := by
  refine Ctr.intro Try.mixed Try.func252 rfl Try.okF252 ?_
  simp -implicitDefEqProofs -dsimp only [go_sem, Nat.reduceSub, Nat.reduceAdd, Nat.reduceMul, Nat.reduceLT, Nat.reduceLeDiff, Nat.reduceEqDiff, Nat.reduceDiv, Nat.reduceMod, Int.reduceToNat, Int.reduceLE, Int.reduceLT, Int.reduceBEq, Int.reduceBNe, Int.reduceNeg, Int.reduceAdd, Int.reduceSub, Int.reduceMul, reduceCtorEq, Try.ntmps252, Try.results252]
  simp -implicitDefEqProofs -dsimp only [go_sem, Nat.reduceSub, Nat.reduceAdd, Nat.reduceMul, Nat.reduceLT, Nat.reduceLeDiff, Nat.reduceEqDiff, Nat.reduceDiv, Nat.reduceMod, Int.reduceToNat, Int.reduceLE, Int.reduceLT, Int.reduceBEq, Int.reduceBNe, Int.reduceNeg, Int.reduceAdd, Int.reduceSub, Int.reduceMul, reduceCtorEq, Shock.v]
  exact WeakR.drop' rfl (by rfl)
theorem shockAt_ok (w : Watch) (n : Int) (hs : w.Shocks.length ≤ 281474976710656) : Ctr Try.prog 213 [w.v, .int .i64 n] [] (.int .i64 (idxI (shockIs n) w.Shocks)) [] := by
  refine Ctr.intro Try.mixed Try.func213 rfl Try.okF213 ?_
  simp -implicitDefEqProofs -dsimp only [go_sem, Nat.reduceSub, Nat.reduceAdd, Nat.reduceMul, Nat.reduceLT, Nat.reduceLeDiff, Nat.reduceEqDiff, Nat.reduceDiv, Nat.reduceMod, Int.reduceToNat, Int.reduceLE, Int.reduceLT, Int.reduceBEq, Int.reduceBNe, Int.reduceNeg, Int.reduceAdd, Int.reduceSub, Int.reduceMul, reduceCtorEq, Try.ntmps213, Try.results213]
  simp -implicitDefEqProofs -dsimp only [go_sem, Nat.reduceSub, Nat.reduceAdd, Nat.reduceMul, Nat.reduceLT, Nat.reduceLeDiff, Nat.reduceEqDiff, Nat.reduceDiv, Nat.reduceMod, Int.reduceToNat, Int.reduceLE, Int.reduceLT, Int.reduceBEq, Int.reduceBNe, Int.reduceNeg, Int.reduceAdd, Int.reduceSub, Int.reduceMul, reduceCtorEq, Watch.v]
  (first | refine callT.at (indexFuncShock_ok w.Shocks (shockIs n) _ [.pt [.int .i64 n]] (fun d => by cases d <;> rfl) (fun x => shockIs_ok x n) hs) ⟨leA, leA, trivial⟩ ?_ | refine callS.at (indexFuncShock_ok w.Shocks (shockIs n) _ [.pt [.int .i64 n]] (fun d => by cases d <;> rfl) (fun x => shockIs_ok x n) hs) ⟨leA, leA, trivial⟩ ?_)
  simp -implicitDefEqProofs -dsimp only [go_sem, Nat.reduceSub, Nat.reduceAdd, Nat.reduceMul, Nat.reduceLT, Nat.reduceLeDiff, Nat.reduceEqDiff, Nat.reduceDiv, Nat.reduceMod, Int.reduceToNat, Int.reduceLE, Int.reduceLT, Int.reduceBEq, Int.reduceBNe, Int.reduceNeg, Int.reduceAdd, Int.reduceSub, Int.reduceMul, reduceCtorEq]
  exact WeakR.drop' rfl (by rfl)
theorem l25Find_ok (w : Watch) (n : Int) (hs : w.Shocks.length ≤ 281474976710656) : Ctr Try.prog 218 [w.v, .int .i64 n] [] (.int .i64 (idxI (shockIs n) w.Shocks)) [] := by
  refine Ctr.intro Try.mixed Try.func218 rfl Try.okF218 ?_
  simp -implicitDefEqProofs -dsimp only [go_sem, Nat.reduceSub, Nat.reduceAdd, Nat.reduceMul, Nat.reduceLT, Nat.reduceLeDiff, Nat.reduceEqDiff, Nat.reduceDiv, Nat.reduceMod, Int.reduceToNat, Int.reduceLE, Int.reduceLT, Int.reduceBEq, Int.reduceBNe, Int.reduceNeg, Int.reduceAdd, Int.reduceSub, Int.reduceMul, reduceCtorEq, Try.ntmps218, Try.results218]
  simp -implicitDefEqProofs -dsimp only [go_sem, Nat.reduceSub, Nat.reduceAdd, Nat.reduceMul, Nat.reduceLT, Nat.reduceLeDiff, Nat.reduceEqDiff, Nat.reduceDiv, Nat.reduceMod, Int.reduceToNat, Int.reduceLE, Int.reduceLT, Int.reduceBEq, Int.reduceBNe, Int.reduceNeg, Int.reduceAdd, Int.reduceSub, Int.reduceMul, reduceCtorEq, Watch.v]
  refine LoopT.intro (fun i : Nat => i ≤ w.Shocks.length ∧ (w.Shocks.take i).any (shockIs n) = false) (fun i => ⟨[.undef, .int .i64 n, .ptr 0 0, .undef, .undef, .int .i64 i, .undef, .undef, .undef, .undef, .undef, .undef, .undef, .undef, .undef, .undef, .undef, .undef, .undef, .undef, .undef, .undef], [some w.cs], 0⟩) (fun i => w.Shocks.length - i) 0 ⟨Nat.zero_le _, rfl⟩ ?_ (fun i hi => ?_)
  · refine Weak.cut (1) (by simp) (by simp) ?_ ?_
    · simp [LeC, LeV, ren, cutF]
    · simp [cutH, cutB, ren, map_ren_rows, Watch.cs]
  simp -implicitDefEqProofs -dsimp only [go_sem, Nat.reduceSub, Nat.reduceAdd, Nat.reduceMul, Nat.reduceLT, Nat.reduceLeDiff, Nat.reduceEqDiff, Nat.reduceDiv, Nat.reduceMod, Int.reduceToNat, Int.reduceLE, Int.reduceLT, Int.reduceBEq, Int.reduceBNe, Int.reduceNeg, Int.reduceAdd, Int.reduceSub, Int.reduceMul, reduceCtorEq, Watch.cs]
  refine condT.split (fun h1 => ?_) (fun h1 => ?_)
  · simp -implicitDefEqProofs -dsimp only [go_sem, Nat.reduceSub, Nat.reduceAdd, Nat.reduceMul, Nat.reduceLT, Nat.reduceLeDiff, Nat.reduceEqDiff, Nat.reduceDiv, Nat.reduceMod, Int.reduceToNat, Int.reduceLE, Int.reduceLT, Int.reduceBEq, Int.reduceBNe, Int.reduceNeg, Int.reduceAdd, Int.reduceSub, Int.reduceMul, reduceCtorEq, h1, Watch.cs]
    have hi' : i < w.Shocks.length := by simpa using h1
    have h5 := Shock.csl w.Shocks[i]
    have hr := rows_at Shock.csl hi'
    (repeat ((repeat1' (first | simp -implicitDefEqProofs -dsimp only [go_sem, Nat.reduceSub, Nat.reduceAdd, Nat.reduceMul, Nat.reduceLT, Nat.reduceLeDiff, Nat.reduceEqDiff, Nat.reduceDiv, Nat.reduceMod, Int.reduceToNat, Int.reduceLE, Int.reduceLT, Int.reduceBEq, Int.reduceBNe, Int.reduceNeg, Int.reduceAdd, Int.reduceSub, Int.reduceMul, reduceCtorEq, hr, Shock.cs, Watch.cs] | simp -implicitDefEqProofs -dsimp (disch := omega) only [wrap_i64])); repeat (with_reducible refine sideA ?_)))
    refine condT.split (fun h2 => ?_) (fun h2 => ?_) <;> (repeat ((repeat1' (first | simp -implicitDefEqProofs -dsimp only [go_sem, Nat.reduceSub, Nat.reduceAdd, Nat.reduceMul, Nat.reduceLT, Nat.reduceLeDiff, Nat.reduceEqDiff, Nat.reduceDiv, Nat.reduceMod, Int.reduceToNat, Int.reduceLE, Int.reduceLT, Int.reduceBEq, Int.reduceBNe, Int.reduceNeg, Int.reduceAdd, Int.reduceSub, Int.reduceMul, reduceCtorEq, h2] | simp -implicitDefEqProofs -dsimp (disch := omega) only [wrap_i64])); repeat (with_reducible refine sideA ?_)))
    · exact WeakR.drop' (by rw [idxI_found hi' hi.2 h2]) (by rfl)
    · refine ⟨i + 1, ⟨hi', by rw [List.take_succ_eq_append_getElem hi']; simp only [List.any_append, hi.2, List.any_cons, shockIs, h2, List.any_nil, Bool.or_self]⟩, ?_, by omega⟩
      refine Weak.cut (1) (by simp) (by simp) ?_ ?_
      · simp [LeC, LeV, ren, cutF]
      · simp [cutH, cutB, ren, map_ren_rows, Watch.cs]
  · simp -implicitDefEqProofs -dsimp only [go_sem, Nat.reduceSub, Nat.reduceAdd, Nat.reduceMul, Nat.reduceLT, Nat.reduceLeDiff, Nat.reduceEqDiff, Nat.reduceDiv, Nat.reduceMod, Int.reduceToNat, Int.reduceLE, Int.reduceLT, Int.reduceBEq, Int.reduceBNe, Int.reduceNeg, Int.reduceAdd, Int.reduceSub, Int.reduceMul, reduceCtorEq, h1]
    have hi' : i = w.Shocks.length := by simp at h1; omega
    subst hi'
    have h2 := hi.2
    rw [List.take_length] at h2
    exact WeakR.drop' (by rw [idxI_none h2]) (by rfl)
theorem postIs_ok (x : Post) (n : Int) : Ctr Try.prog 250 [x.v, .pt [.int .i64 n]] [] (.bool (postIs n x)) [] := by
  refine Ctr.intro Try.mixed Try.func250 rfl Try.okF250 ?_
  simp -implicitDefEqProofs -dsimp only [go_sem, Nat.reduceSub, Nat.reduceAdd, Nat.reduceMul, Nat.reduceLT, Nat.reduceLeDiff, Nat.reduceEqDiff, Nat.reduceDiv, Nat.reduceMod, Int.reduceToNat, Int.reduceLE, Int.reduceLT, Int.reduceBEq, Int.reduceBNe, Int.reduceNeg, Int.reduceAdd, Int.reduceSub, Int.reduceMul, reduceCtorEq, Try.ntmps250, Try.results250]
  simp -implicitDefEqProofs -dsimp only [go_sem, Nat.reduceSub, Nat.reduceAdd, Nat.reduceMul, Nat.reduceLT, Nat.reduceLeDiff, Nat.reduceEqDiff, Nat.reduceDiv, Nat.reduceMod, Int.reduceToNat, Int.reduceLE, Int.reduceLT, Int.reduceBEq, Int.reduceBNe, Int.reduceNeg, Int.reduceAdd, Int.reduceSub, Int.reduceMul, reduceCtorEq, Post.v]
  exact WeakR.drop' rfl (by rfl)
theorem postAt_ok (w : Watch) (n : Int) (hs : w.Posts.length ≤ 281474976710656) : Ctr Try.prog 212 [w.v, .int .i64 n] [] (.int .i64 (idxI (postIs n) w.Posts)) [] := by
  refine Ctr.intro Try.mixed Try.func212 rfl Try.okF212 ?_
  simp -implicitDefEqProofs -dsimp only [go_sem, Nat.reduceSub, Nat.reduceAdd, Nat.reduceMul, Nat.reduceLT, Nat.reduceLeDiff, Nat.reduceEqDiff, Nat.reduceDiv, Nat.reduceMod, Int.reduceToNat, Int.reduceLE, Int.reduceLT, Int.reduceBEq, Int.reduceBNe, Int.reduceNeg, Int.reduceAdd, Int.reduceSub, Int.reduceMul, reduceCtorEq, Try.ntmps212, Try.results212]
  simp -implicitDefEqProofs -dsimp only [go_sem, Nat.reduceSub, Nat.reduceAdd, Nat.reduceMul, Nat.reduceLT, Nat.reduceLeDiff, Nat.reduceEqDiff, Nat.reduceDiv, Nat.reduceMod, Int.reduceToNat, Int.reduceLE, Int.reduceLT, Int.reduceBEq, Int.reduceBNe, Int.reduceNeg, Int.reduceAdd, Int.reduceSub, Int.reduceMul, reduceCtorEq, Watch.v]
  (first | refine callT.at (indexFuncPost_ok w.Posts (postIs n) _ [.pt [.int .i64 n]] (fun d => by cases d <;> rfl) (fun x => postIs_ok x n) hs) ⟨leA, leA, trivial⟩ ?_ | refine callS.at (indexFuncPost_ok w.Posts (postIs n) _ [.pt [.int .i64 n]] (fun d => by cases d <;> rfl) (fun x => postIs_ok x n) hs) ⟨leA, leA, trivial⟩ ?_)
  simp -implicitDefEqProofs -dsimp only [go_sem, Nat.reduceSub, Nat.reduceAdd, Nat.reduceMul, Nat.reduceLT, Nat.reduceLeDiff, Nat.reduceEqDiff, Nat.reduceDiv, Nat.reduceMod, Int.reduceToNat, Int.reduceLE, Int.reduceLT, Int.reduceBEq, Int.reduceBNe, Int.reduceNeg, Int.reduceAdd, Int.reduceSub, Int.reduceMul, reduceCtorEq]
  exact WeakR.drop' rfl (by rfl)
theorem l25Post_ok (w : Watch) (n : Int) (hs : w.Posts.length ≤ 281474976710656) : Ctr Try.prog 217 [w.v, .int .i64 n] [] (.int .i64 (idxI (postIs n) w.Posts)) [] := by
  refine Ctr.intro Try.mixed Try.func217 rfl Try.okF217 ?_
  simp -implicitDefEqProofs -dsimp only [go_sem, Nat.reduceSub, Nat.reduceAdd, Nat.reduceMul, Nat.reduceLT, Nat.reduceLeDiff, Nat.reduceEqDiff, Nat.reduceDiv, Nat.reduceMod, Int.reduceToNat, Int.reduceLE, Int.reduceLT, Int.reduceBEq, Int.reduceBNe, Int.reduceNeg, Int.reduceAdd, Int.reduceSub, Int.reduceMul, reduceCtorEq, Try.ntmps217, Try.results217]
  simp -implicitDefEqProofs -dsimp only [go_sem, Nat.reduceSub, Nat.reduceAdd, Nat.reduceMul, Nat.reduceLT, Nat.reduceLeDiff, Nat.reduceEqDiff, Nat.reduceDiv, Nat.reduceMod, Int.reduceToNat, Int.reduceLE, Int.reduceLT, Int.reduceBEq, Int.reduceBNe, Int.reduceNeg, Int.reduceAdd, Int.reduceSub, Int.reduceMul, reduceCtorEq, Watch.v]
  refine LoopT.intro (fun i : Nat => i ≤ w.Posts.length ∧ (w.Posts.take i).any (postIs n) = false) (fun i => ⟨[.undef, .int .i64 n, .ptr 0 0, .undef, .undef, .int .i64 i, .undef, .undef, .undef, .undef, .undef, .undef, .undef, .undef, .undef, .undef, .undef, .undef, .undef, .undef, .undef, .undef], [some w.cs], 0⟩) (fun i => w.Posts.length - i) 0 ⟨Nat.zero_le _, rfl⟩ ?_ (fun i hi => ?_)
  · refine Weak.cut (1) (by simp) (by simp) ?_ ?_
    · simp [LeC, LeV, ren, cutF]
    · simp [cutH, cutB, ren, map_ren_rows, Watch.cs]
  simp -implicitDefEqProofs -dsimp only [go_sem, Nat.reduceSub, Nat.reduceAdd, Nat.reduceMul, Nat.reduceLT, Nat.reduceLeDiff, Nat.reduceEqDiff, Nat.reduceDiv, Nat.reduceMod, Int.reduceToNat, Int.reduceLE, Int.reduceLT, Int.reduceBEq, Int.reduceBNe, Int.reduceNeg, Int.reduceAdd, Int.reduceSub, Int.reduceMul, reduceCtorEq, Watch.cs]
  refine condT.split (fun h1 => ?_) (fun h1 => ?_)
  · simp -implicitDefEqProofs -dsimp only [go_sem, Nat.reduceSub, Nat.reduceAdd, Nat.reduceMul, Nat.reduceLT, Nat.reduceLeDiff, Nat.reduceEqDiff, Nat.reduceDiv, Nat.reduceMod, Int.reduceToNat, Int.reduceLE, Int.reduceLT, Int.reduceBEq, Int.reduceBNe, Int.reduceNeg, Int.reduceAdd, Int.reduceSub, Int.reduceMul, reduceCtorEq, h1, Watch.cs]
    have hi' : i < w.Posts.length := by simpa using h1
    have h5 := Post.csl w.Posts[i]
    have hr := rows_at Post.csl hi'
    (repeat ((repeat1' (first | simp -implicitDefEqProofs -dsimp only [go_sem, Nat.reduceSub, Nat.reduceAdd, Nat.reduceMul, Nat.reduceLT, Nat.reduceLeDiff, Nat.reduceEqDiff, Nat.reduceDiv, Nat.reduceMod, Int.reduceToNat, Int.reduceLE, Int.reduceLT, Int.reduceBEq, Int.reduceBNe, Int.reduceNeg, Int.reduceAdd, Int.reduceSub, Int.reduceMul, reduceCtorEq, hr, Post.cs, Watch.cs] | simp -implicitDefEqProofs -dsimp (disch := omega) only [wrap_i64])); repeat (with_reducible refine sideA ?_)))
    refine condT.split (fun h2 => ?_) (fun h2 => ?_) <;> (repeat ((repeat1' (first | simp -implicitDefEqProofs -dsimp only [go_sem, Nat.reduceSub, Nat.reduceAdd, Nat.reduceMul, Nat.reduceLT, Nat.reduceLeDiff, Nat.reduceEqDiff, Nat.reduceDiv, Nat.reduceMod, Int.reduceToNat, Int.reduceLE, Int.reduceLT, Int.reduceBEq, Int.reduceBNe, Int.reduceNeg, Int.reduceAdd, Int.reduceSub, Int.reduceMul, reduceCtorEq, h2] | simp -implicitDefEqProofs -dsimp (disch := omega) only [wrap_i64])); repeat (with_reducible refine sideA ?_)))
    · exact WeakR.drop' (by rw [idxI_found hi' hi.2 h2]) (by rfl)
    · refine ⟨i + 1, ⟨hi', by rw [List.take_succ_eq_append_getElem hi']; simp only [List.any_append, hi.2, List.any_cons, postIs, h2, List.any_nil, Bool.or_self]⟩, ?_, by omega⟩
      refine Weak.cut (1) (by simp) (by simp) ?_ ?_
      · simp [LeC, LeV, ren, cutF]
      · simp [cutH, cutB, ren, map_ren_rows, Watch.cs]
  · simp -implicitDefEqProofs -dsimp only [go_sem, Nat.reduceSub, Nat.reduceAdd, Nat.reduceMul, Nat.reduceLT, Nat.reduceLeDiff, Nat.reduceEqDiff, Nat.reduceDiv, Nat.reduceMod, Int.reduceToNat, Int.reduceLE, Int.reduceLT, Int.reduceBEq, Int.reduceBNe, Int.reduceNeg, Int.reduceAdd, Int.reduceSub, Int.reduceMul, reduceCtorEq, h1]
    have hi' : i = w.Posts.length := by simp at h1; omega
    subst hi'
    have h2 := hi.2
    rw [List.take_length] at h2
    exact WeakR.drop' (by rw [idxI_none h2]) (by rfl)
end Go.Proofs
end
section
set_option linter.unusedSimpArgs false
set_option linter.unusedVariables false
set_option maxRecDepth 100000
namespace Go.Proofs
open Go.Lv
structure WatchStep where
  Kind : Int
  Number : Int
  Value : Int
def WatchStep.cs (r : WatchStep) : List V := [.int .i64 r.Kind, .int .i64 r.Number, .int .i64 r.Value]
def WatchStep.v (r : WatchStep) : V := .agg [.int .i64 r.Kind, .int .i64 r.Number, .int .i64 r.Value]
theorem WatchStep.csl (a : WatchStep) : a.cs.length = 3 := rfl
theorem WatchStep.csp (a : WatchStep) : a.cs.all (noOwn 2) = true := rfl
instance : FlatP WatchStep.cs 3 := ⟨fun _ => rfl, fun _ d => by cases d <;> rfl, fun _ => rfl, fun _ => rfl⟩
def WatchStep.ok (r : WatchStep) : Prop := i64R r.Kind ∧ i64R r.Number ∧ i64R r.Value
abbrev WatchStep.rows (L : List WatchStep) : List V := Go.Lv.rows WatchStep.cs L
abbrev WatchStep.sl (L : List WatchStep) : V := .sl L.length 3 (Go.Lv.rows WatchStep.cs L)
abbrev WatchStep.zs : List V := [.int .i64 0, .int .i64 0, .int .i64 0]
/-- What a mark writes. -/
def WatchStep.mk1 (k : Int) : WatchStep := ⟨k, k + 1, k + 1 + 1⟩
def WatchStep.marks (k : Int) (n : Nat) : List WatchStep := (List.range n).map fun i : Nat => WatchStep.mk1 (k + 3 * (i : Int))
@[simp] theorem WatchStep.marks_len (k : Int) (n : Nat) : (WatchStep.marks k n).length = n := by simp [WatchStep.marks]
theorem WatchStep.marks_succ (k : Int) (n : Nat) : WatchStep.marks k (n + 1) = WatchStep.marks k n ++ [WatchStep.mk1 (k + 3 * (n : Int))] := by simp [WatchStep.marks, List.range_succ]
theorem WatchStep.marks_get (k : Int) (n : Nat) {i : Nat} (hi : i < (WatchStep.marks k n).length) : (WatchStep.marks k n)[i] = WatchStep.mk1 (k + 3 * (i : Int)) := by simp [WatchStep.marks]
theorem toWatchStep_ok (r : WatchStep) : Ctr Try.prog 67 [r.v] [] r.v [] := by
  refine Ctr.intro Try.mixed Try.func67 rfl Try.okF67 ?_
  simp -implicitDefEqProofs -dsimp only [go_sem, Nat.reduceSub, Nat.reduceAdd, Nat.reduceMul, Nat.reduceLT, Nat.reduceLeDiff, Nat.reduceEqDiff, Nat.reduceDiv, Nat.reduceMod, Int.reduceToNat, Int.reduceLE, Int.reduceLT, Int.reduceBEq, Int.reduceBNe, Int.reduceNeg, Int.reduceAdd, Int.reduceSub, Int.reduceMul, reduceCtorEq, Try.ntmps67, Try.results67]
  simp -implicitDefEqProofs -dsimp only [go_sem, Nat.reduceSub, Nat.reduceAdd, Nat.reduceMul, Nat.reduceLT, Nat.reduceLeDiff, Nat.reduceEqDiff, Nat.reduceDiv, Nat.reduceMod, Int.reduceToNat, Int.reduceLE, Int.reduceLT, Int.reduceBEq, Int.reduceBNe, Int.reduceNeg, Int.reduceAdd, Int.reduceSub, Int.reduceMul, reduceCtorEq, WatchStep.v]
  exact WeakR.drop' rfl rfl
theorem toWatchStepS_ok (L : List WatchStep) (hl : L.length ≤ 1048576) : Ctr Try.prog 75 [WatchStep.sl L] [] (.osl 0 0 L.length 3) [some (rows WatchStep.cs L)] := by
  refine Ctr.intro Try.mixed Try.func75 rfl Try.okF75 ?_
  simp -implicitDefEqProofs -dsimp only [go_sem, Nat.reduceSub, Nat.reduceAdd, Nat.reduceMul, Nat.reduceLT, Nat.reduceLeDiff, Nat.reduceEqDiff, Nat.reduceDiv, Nat.reduceMod, Int.reduceToNat, Int.reduceLE, Int.reduceLT, Int.reduceBEq, Int.reduceBNe, Int.reduceNeg, Int.reduceAdd, Int.reduceSub, Int.reduceMul, reduceCtorEq, Try.ntmps75, Try.results75]
  refine ⟨by omega, by omega, by omega, ?_⟩
  refine LoopT.intro (fun i : Nat => i ≤ L.length) (fun i => ⟨[WatchStep.sl L, .undef, .undef, .osl 0 0 L.length 3, .int .i64 i, .undef, .undef, .undef, .undef, .undef, .undef, .undef, .undef, .undef, .undef, .undef, .undef, .undef, .undef, .undef, .undef, .undef, .undef], [some (filled WatchStep.cs 3 WatchStep.zs L i)], 0⟩) (fun i => L.length - i) 0 (Nat.zero_le _) ?_ (fun i hi => ?_)
  · refine Weak.cut (1) (by simp) (by simp) ?_ ?_
    · simp [LeC, LeV, ren, cutF]
    · rw [filled_zero]
      simp only [cutH, List.take, List.map]
      rw [cutB_rows (zrow_all rfl (by decide) _)]
  simp -implicitDefEqProofs -dsimp only [go_sem, Nat.reduceSub, Nat.reduceAdd, Nat.reduceMul, Nat.reduceLT, Nat.reduceLeDiff, Nat.reduceEqDiff, Nat.reduceDiv, Nat.reduceMod, Int.reduceToNat, Int.reduceLE, Int.reduceLT, Int.reduceBEq, Int.reduceBNe, Int.reduceNeg, Int.reduceAdd, Int.reduceSub, Int.reduceMul, reduceCtorEq]
  refine condT.split (fun h1 => ?_) (fun h1 => ?_)
  · simp -implicitDefEqProofs -dsimp only [go_sem, Nat.reduceSub, Nat.reduceAdd, Nat.reduceMul, Nat.reduceLT, Nat.reduceLeDiff, Nat.reduceEqDiff, Nat.reduceDiv, Nat.reduceMod, Int.reduceToNat, Int.reduceLE, Int.reduceLT, Int.reduceBEq, Int.reduceBNe, Int.reduceNeg, Int.reduceAdd, Int.reduceSub, Int.reduceMul, reduceCtorEq, h1]
    have hi' : i < L.length := by simpa using h1
    rw [rows_at WatchStep.csl hi']
    refine ⟨by omega, by simp [WatchStep.csl], ?_⟩
    (first | refine callT.at (toWatchStep_ok L[i]) ⟨.inl rfl, trivial⟩ ?_ | refine callS.at (toWatchStep_ok L[i]) ⟨.inl rfl, trivial⟩ ?_)
    simp -implicitDefEqProofs -dsimp only [go_sem, Nat.reduceSub, Nat.reduceAdd, Nat.reduceMul, Nat.reduceLT, Nat.reduceLeDiff, Nat.reduceEqDiff, Nat.reduceDiv, Nat.reduceMod, Int.reduceToNat, Int.reduceLE, Int.reduceLT, Int.reduceBEq, Int.reduceBNe, Int.reduceNeg, Int.reduceAdd, Int.reduceSub, Int.reduceMul, reduceCtorEq, WatchStep.v]
    refine ⟨⟨by omega, by omega⟩, by rw [filled_len WatchStep.csl hi]; omega, i + 1, hi', ?_, by omega⟩
    refine Weak.cut (1) (by simp) (by simp) ?_ ?_
    · rw [wrap_i64 (by omega) (by omega)]
      simp [LeC, LeV, ren, cutF]
    · have := filled_step (zs := WatchStep.zs) WatchStep.csl rfl hi'
      simp only [WatchStep.cs] at this ⊢
      rw [this]
      simp only [cutH, List.take, List.map]
      rw [cutB_rows (filled_plain (by decide) rfl (fun a => by exact WatchStep.csp a))]
  · simp -implicitDefEqProofs -dsimp only [go_sem, Nat.reduceSub, Nat.reduceAdd, Nat.reduceMul, Nat.reduceLT, Nat.reduceLeDiff, Nat.reduceEqDiff, Nat.reduceDiv, Nat.reduceMod, Int.reduceToNat, Int.reduceLE, Int.reduceLT, Int.reduceBEq, Int.reduceBNe, Int.reduceNeg, Int.reduceAdd, Int.reduceSub, Int.reduceMul, reduceCtorEq, h1]
    have hi' : i = L.length := by simp at h1; omega
    subst hi'
    rw [filled_all WatchStep.csl (Nat.le_refl _)]
    exact WeakR.refl _ _ _
theorem szWatchStepS_ok (L : List WatchStep) (n : Int) (hl : L.length ≤ 9223372036854775807) (hn : 0 ≤ n) (hn2 : n ≤ 1048576) : Ctr Try.prog 74 [WatchStep.sl L, .int .i64 n] [] (.int .i64 (if n < L.length then -1 else n - L.length)) [] := by
  refine Ctr.intro Try.mixed Try.func74 rfl Try.okF74 ?_
  simp -implicitDefEqProofs -dsimp only [go_sem, Nat.reduceSub, Nat.reduceAdd, Nat.reduceMul, Nat.reduceLT, Nat.reduceLeDiff, Nat.reduceEqDiff, Nat.reduceDiv, Nat.reduceMod, Int.reduceToNat, Int.reduceLE, Int.reduceLT, Int.reduceBEq, Int.reduceBNe, Int.reduceNeg, Int.reduceAdd, Int.reduceSub, Int.reduceMul, reduceCtorEq, Try.ntmps74, Try.results74]
  rw [wrap_i64 (by omega) (by omega)]
  refine condT.split (fun h1 => ?_) (fun h1 => ?_) <;> simp -implicitDefEqProofs -dsimp only [go_sem, Nat.reduceSub, Nat.reduceAdd, Nat.reduceMul, Nat.reduceLT, Nat.reduceLeDiff, Nat.reduceEqDiff, Nat.reduceDiv, Nat.reduceMod, Int.reduceToNat, Int.reduceLE, Int.reduceLT, Int.reduceBEq, Int.reduceBNe, Int.reduceNeg, Int.reduceAdd, Int.reduceSub, Int.reduceMul, reduceCtorEq, h1]
  · exact WeakR.of_eq (by simp at h1; rw [if_pos (by omega)])
  · exact WeakR.of_eq (by simp at h1; rw [if_neg (by omega)])
theorem eqWatchStep_ok (r : WatchStep) : Ctr Try.prog 166 [r.v, r.v] [] (.bool true) [] := by
  refine Ctr.intro Try.mixed Try.func166 rfl Try.okF166 ?_
  simp -implicitDefEqProofs -dsimp only [go_sem, Nat.reduceSub, Nat.reduceAdd, Nat.reduceMul, Nat.reduceLT, Nat.reduceLeDiff, Nat.reduceEqDiff, Nat.reduceDiv, Nat.reduceMod, Int.reduceToNat, Int.reduceLE, Int.reduceLT, Int.reduceBEq, Int.reduceBNe, Int.reduceNeg, Int.reduceAdd, Int.reduceSub, Int.reduceMul, reduceCtorEq, Try.ntmps166, Try.results166]
  simp -implicitDefEqProofs -dsimp only [go_sem, Nat.reduceSub, Nat.reduceAdd, Nat.reduceMul, Nat.reduceLT, Nat.reduceLeDiff, Nat.reduceEqDiff, Nat.reduceDiv, Nat.reduceMod, Int.reduceToNat, Int.reduceLE, Int.reduceLT, Int.reduceBEq, Int.reduceBNe, Int.reduceNeg, Int.reduceAdd, Int.reduceSub, Int.reduceMul, reduceCtorEq, WatchStep.v, bne_self_eq_false, beq_self_eq_true, Bool.not_true]
  exact WeakR.drop' rfl rfl
theorem eqWatchStepS_ok (L : List WatchStep) (hl : L.length ≤ 281474976710656) : Ctr Try.prog 76 [WatchStep.sl L, WatchStep.sl L] [] (.bool true) [] := by
  refine Ctr.intro Try.mixed Try.func76 rfl Try.okF76 ?_
  simp -implicitDefEqProofs -dsimp only [go_sem, Nat.reduceSub, Nat.reduceAdd, Nat.reduceMul, Nat.reduceLT, Nat.reduceLeDiff, Nat.reduceEqDiff, Nat.reduceDiv, Nat.reduceMod, Int.reduceToNat, Int.reduceLE, Int.reduceLT, Int.reduceBEq, Int.reduceBNe, Int.reduceNeg, Int.reduceAdd, Int.reduceSub, Int.reduceMul, reduceCtorEq, Try.ntmps76, Try.results76]
  refine LoopT.intro (fun i : Nat => i ≤ L.length) (fun i => ⟨[WatchStep.sl L, WatchStep.sl L, .undef, .undef, .undef, .int .i64 i, .undef, .undef, .undef, .undef, .undef, .undef, .undef, .undef, .undef, .undef, .undef, .undef, .undef, .undef, .undef, .undef, .undef, .undef, .undef, .undef, .undef], [], 0⟩) (fun i => L.length - i) 0 (Nat.zero_le _) ?_ (fun i hi => ?_)
  · refine Weak.cut (0) (by simp) (by simp) ?_ ?_
    · simp [LeC, LeV, ren, cutF]
    · rfl
  simp -implicitDefEqProofs -dsimp only [go_sem, Nat.reduceSub, Nat.reduceAdd, Nat.reduceMul, Nat.reduceLT, Nat.reduceLeDiff, Nat.reduceEqDiff, Nat.reduceDiv, Nat.reduceMod, Int.reduceToNat, Int.reduceLE, Int.reduceLT, Int.reduceBEq, Int.reduceBNe, Int.reduceNeg, Int.reduceAdd, Int.reduceSub, Int.reduceMul, reduceCtorEq]
  refine condT.split (fun h1 => ?_) (fun h1 => ?_)
  · simp -implicitDefEqProofs -dsimp only [go_sem, Nat.reduceSub, Nat.reduceAdd, Nat.reduceMul, Nat.reduceLT, Nat.reduceLeDiff, Nat.reduceEqDiff, Nat.reduceDiv, Nat.reduceMod, Int.reduceToNat, Int.reduceLE, Int.reduceLT, Int.reduceBEq, Int.reduceBNe, Int.reduceNeg, Int.reduceAdd, Int.reduceSub, Int.reduceMul, reduceCtorEq, h1]
    have hi' : i < L.length := by simpa using h1
    rw [rows_at WatchStep.csl hi']
    have h5 := WatchStep.csl L[i]
    refine ⟨by kernel_rfl, ⟨by omega, by omega⟩, by omega, ⟨by omega, by omega⟩, by omega, ?_⟩
    (first | refine callT.at (eqWatchStep_ok L[i]) ⟨.inl rfl, .inl rfl, trivial⟩ ?_ | refine callS.at (eqWatchStep_ok L[i]) ⟨.inl rfl, .inl rfl, trivial⟩ ?_)
    simp -implicitDefEqProofs -dsimp only [go_sem, Nat.reduceSub, Nat.reduceAdd, Nat.reduceMul, Nat.reduceLT, Nat.reduceLeDiff, Nat.reduceEqDiff, Nat.reduceDiv, Nat.reduceMod, Int.reduceToNat, Int.reduceLE, Int.reduceLT, Int.reduceBEq, Int.reduceBNe, Int.reduceNeg, Int.reduceAdd, Int.reduceSub, Int.reduceMul, reduceCtorEq]
    refine ⟨i + 1, hi', ?_, by omega⟩
    refine Weak.cut (0) (by simp) (by simp) ?_ ?_
    · rw [wrap_i64 (by omega) (by omega)]
      simp [LeC, LeV, ren, cutF]
    · rfl
  · simp -implicitDefEqProofs -dsimp only [go_sem, Nat.reduceSub, Nat.reduceAdd, Nat.reduceMul, Nat.reduceLT, Nat.reduceLeDiff, Nat.reduceEqDiff, Nat.reduceDiv, Nat.reduceMod, Int.reduceToNat, Int.reduceLE, Int.reduceLT, Int.reduceBEq, Int.reduceBNe, Int.reduceNeg, Int.reduceAdd, Int.reduceSub, Int.reduceMul, reduceCtorEq, h1]
    exact WeakR.refl _ _ _
theorem markWatchStepS_ok (L : List WatchStep) (kk : Int) (hl : L.length ≤ 281474976710656) (hk : 0 ≤ kk) (hk2 : kk ≤ 281474976710656) : Ctr Try.prog 77 [.osl 0 0 L.length 3, .int .i64 kk] [some (rows WatchStep.cs L)] (.int .i64 (kk + 3 * L.length)) [some (rows WatchStep.cs (WatchStep.marks kk L.length))] := by
  refine Ctr.intro Try.mixed Try.func77 rfl Try.okF77 ?_
  simp -implicitDefEqProofs -dsimp only [go_sem, Nat.reduceSub, Nat.reduceAdd, Nat.reduceMul, Nat.reduceLT, Nat.reduceLeDiff, Nat.reduceEqDiff, Nat.reduceDiv, Nat.reduceMod, Int.reduceToNat, Int.reduceLE, Int.reduceLT, Int.reduceBEq, Int.reduceBNe, Int.reduceNeg, Int.reduceAdd, Int.reduceSub, Int.reduceMul, reduceCtorEq, Try.ntmps77, Try.results77]
  refine LoopT.intro (fun i : Nat => i ≤ L.length) (fun i => ⟨[.osl 0 0 L.length 3, .int .i64 (kk + 3 * (i : Int)), .undef, .undef, .undef, .int .i64 i, .undef, .undef, .undef, .undef, .undef, .undef, .undef, .undef, .undef, .undef, .undef, .undef, .undef, .undef, .undef, .undef, .undef, .undef, .undef, .undef, .undef, .undef, .undef, .undef, .undef, .undef, .undef, .undef], [some (rows WatchStep.cs (WatchStep.marks kk i ++ L.drop i))], 1⟩) (fun i => L.length - i) 0 (Nat.zero_le _) ?_ (fun i hi => ?_)
  · refine Weak.cut (1) (by simp) (by simp) ?_ ?_
    · simp [LeC, LeV, ren, cutF]
    · simp only [cutH, List.take, List.map]
      rw [cutB_rows (rows_all WatchStep.csp _)]
      simp [WatchStep.marks]
  simp -implicitDefEqProofs -dsimp only [go_sem, Nat.reduceSub, Nat.reduceAdd, Nat.reduceMul, Nat.reduceLT, Nat.reduceLeDiff, Nat.reduceEqDiff, Nat.reduceDiv, Nat.reduceMod, Int.reduceToNat, Int.reduceLE, Int.reduceLT, Int.reduceBEq, Int.reduceBNe, Int.reduceNeg, Int.reduceAdd, Int.reduceSub, Int.reduceMul, reduceCtorEq]
  refine condT.split (fun h1 => ?_) (fun h1 => ?_)
  · simp -implicitDefEqProofs -dsimp only [go_sem, Nat.reduceSub, Nat.reduceAdd, Nat.reduceMul, Nat.reduceLT, Nat.reduceLeDiff, Nat.reduceEqDiff, Nat.reduceDiv, Nat.reduceMod, Int.reduceToNat, Int.reduceLE, Int.reduceLT, Int.reduceBEq, Int.reduceBNe, Int.reduceNeg, Int.reduceAdd, Int.reduceSub, Int.reduceMul, reduceCtorEq, h1]
    have hi' : i < L.length := by simpa using h1
    have hA : (rows WatchStep.cs (WatchStep.marks kk i)).length = i * 3 := by rw [rows_len WatchStep.csl, WatchStep.marks_len]
    have hB : rows WatchStep.cs (WatchStep.marks kk i ++ L.drop i) = rows WatchStep.cs (WatchStep.marks kk i) ++ (WatchStep.cs L[i] ++ rows WatchStep.cs (L.drop (i + 1))) := by
      rw [rowsOf_append, List.drop_eq_getElem_cons hi', rows_cons]
    rw [hB]
    have hsp : ∀ (M ns : List V) (j : Nat), splice (rows WatchStep.cs (WatchStep.marks kk i) ++ M) (i * 3 + j) ns = rows WatchStep.cs (WatchStep.marks kk i) ++ splice M j ns := fun M ns j => splice_mid hA
    have hsp0 : ∀ (M ns : List V), splice (rows WatchStep.cs (WatchStep.marks kk i) ++ M) (i * 3) ns = rows WatchStep.cs (WatchStep.marks kk i) ++ splice M 0 ns := fun M ns => splice_mid0 hA
    (repeat1' (first | simp -implicitDefEqProofs -dsimp only [go_sem, Nat.reduceSub, Nat.reduceAdd, Nat.reduceMul, Nat.reduceLT, Nat.reduceLeDiff, Nat.reduceEqDiff, Nat.reduceDiv, Nat.reduceMod, Int.reduceToNat, Int.reduceLE, Int.reduceLT, Int.reduceBEq, Int.reduceBNe, Int.reduceNeg, Int.reduceAdd, Int.reduceSub, Int.reduceMul, reduceCtorEq, hsp, hsp0, List.length_append, hA, WatchStep.cs] | simp -implicitDefEqProofs -dsimp (disch := omega) only [wrap_i64]))
    repeat (with_reducible refine sideA ?_)
    refine ⟨i + 1, hi', ?_, by omega⟩
    refine Weak.cut (1) (by simp) (by simp) ?_ ?_
    · simp [LeC, LeV, ren, cutF]
      omega
    · have e : rows WatchStep.cs (WatchStep.marks kk (i + 1) ++ L.drop (i + 1)) = rows WatchStep.cs (WatchStep.marks kk i) ++ (WatchStep.cs (WatchStep.mk1 (kk + 3 * (i : Int))) ++ rows WatchStep.cs (L.drop (i + 1))) := by
        rw [WatchStep.marks_succ, List.append_assoc, rowsOf_append, rowsOf_append, rows_one]
      rw [e]
      simp only [cutH, List.take, List.map]
      rw [cutB_rows (by rw [List.all_append, rows_all WatchStep.csp]; simp only [List.all_cons, noOwn, rows_all WatchStep.csp, Bool.and_self])]
      simp [WatchStep.cs, WatchStep.mk1, Int.add_assoc]
  · simp -implicitDefEqProofs -dsimp only [go_sem, Nat.reduceSub, Nat.reduceAdd, Nat.reduceMul, Nat.reduceLT, Nat.reduceLeDiff, Nat.reduceEqDiff, Nat.reduceDiv, Nat.reduceMod, Int.reduceToNat, Int.reduceLE, Int.reduceLT, Int.reduceBEq, Int.reduceBNe, Int.reduceNeg, Int.reduceAdd, Int.reduceSub, Int.reduceMul, reduceCtorEq, h1]
    have hi' : i = L.length := by simp at h1; omega
    subst hi'
    rw [List.drop_length, List.append_nil]
    exact WeakR.of_eq (by simp)
end Go.Proofs
end
section
set_option linter.unusedSimpArgs false
set_option linter.unusedVariables false
namespace Go.Lv
theorem splice_row {α : Type} {cs : α → List V} {w : Nat} (hw : ∀ a, (cs a).length = w) {L : List α} {i : Nat} (hi : i < L.length) (x : α) : splice (rows cs L) (i * w) (cs x) = rows cs (L.set i x) := by
  have e : L = L.take i ++ L[i] :: L.drop (i + 1) := by rw [← List.drop_eq_getElem_cons hi, List.take_append_drop]
  have e2 : L.set i x = L.take i ++ x :: L.drop (i + 1) := by rw [List.set_eq_take_append_cons_drop, if_pos hi]
  have hA : (rows cs (L.take i)).length = i * w := by rw [rows_len hw, List.length_take, Nat.min_eq_left (by omega)]
  rw [e2, rowsOf_append, rows_cons]
  conv => lhs; rw [e, rowsOf_append, rows_cons]
  rw [splice_mid0 hA, splice_zero]
  congr 2
  rw [List.drop_append_of_le_length (by rw [hw, hw]; exact Nat.le_refl _), List.drop_of_length_le (by rw [hw, hw]; exact Nat.le_refl _)]
  rfl
end Go.Lv
end
