/-
  Closed facts on the types and functions of the seat, for the rules. Made by a program of the prover. Conditions: none.
-/
import Derived.Test.YtekhnmibkkinaaaProg
import Derived.Test.YtekhnmibkkinaaaLvJ
import Derived.KernelRfl
namespace Go.Proofs
open Go.Lv

theorem Try.mixed : Try.prog.follows .mixedOrders = true := by kernel_rfl
@[go_sem] theorem Try.tsz1 : tszOf Try.prog 1 = some (1, false) := by kernel_rfl
theorem Try.cz1 : Try.prog.cellsOf 1 = 1 := by kernel_rfl
@[go_sem] theorem Try.udef1 : (Try.prog.underlying 1).isSome = true := by kernel_rfl
@[go_sem] theorem Try.zero1 : zeroOf Try.prog 1 = some [.lit ((Go.Value.nilFunc))] := by kernel_rfl
@[go_sem] theorem Try.tsz2 : tszOf Try.prog 2 = some (1, false) := by kernel_rfl
theorem Try.cz2 : Try.prog.cellsOf 2 = 1 := by kernel_rfl
@[go_sem] theorem Try.udef2 : (Try.prog.underlying 2).isSome = true := by kernel_rfl
@[go_sem] theorem Try.zero2 : zeroOf Try.prog 2 = some [.int .i64 0] := by kernel_rfl
@[go_sem] theorem Try.isInt2 : isIntT Try.prog 2 = some .i64 := by kernel_rfl
@[go_sem] theorem Try.tsz3 : tszOf Try.prog 3 = some (1, false) := by kernel_rfl
theorem Try.cz3 : Try.prog.cellsOf 3 = 1 := by kernel_rfl
@[go_sem] theorem Try.udef3 : (Try.prog.underlying 3).isSome = true := by kernel_rfl
@[go_sem] theorem Try.zero3 : zeroOf Try.prog 3 = some [.int .i64 0] := by kernel_rfl
@[go_sem] theorem Try.isInt3 : isIntT Try.prog 3 = some .i64 := by kernel_rfl
@[go_sem] theorem Try.tsz4 : tszOf Try.prog 4 = some (1, false) := by kernel_rfl
theorem Try.cz4 : Try.prog.cellsOf 4 = 1 := by kernel_rfl
@[go_sem] theorem Try.udef4 : (Try.prog.underlying 4).isSome = true := by kernel_rfl
@[go_sem] theorem Try.zero4 : zeroOf Try.prog 4 = some [.bool false] := by kernel_rfl
@[go_sem] theorem Try.isBool4 : isBoolT Try.prog 4 = true := by kernel_rfl
@[go_sem] theorem Try.tsz5 : tszOf Try.prog 5 = some (1, false) := by kernel_rfl
theorem Try.cz5 : Try.prog.cellsOf 5 = 1 := by kernel_rfl
@[go_sem] theorem Try.udef5 : (Try.prog.underlying 5).isSome = true := by kernel_rfl
@[go_sem] theorem Try.zero5 : zeroOf Try.prog 5 = some [.int .u8 0] := by kernel_rfl
@[go_sem] theorem Try.isInt5 : isIntT Try.prog 5 = some .u8 := by kernel_rfl
@[go_sem] theorem Try.tsz6 : tszOf Try.prog 6 = some (1, false) := by kernel_rfl
theorem Try.cz6 : Try.prog.cellsOf 6 = 1 := by kernel_rfl
@[go_sem] theorem Try.udef6 : (Try.prog.underlying 6).isSome = true := by kernel_rfl
@[go_sem] theorem Try.zero6 : zeroOf Try.prog 6 = some [.int .u8 0] := by kernel_rfl
@[go_sem] theorem Try.isInt6 : isIntT Try.prog 6 = some .u8 := by kernel_rfl
@[go_sem] theorem Try.tsz7 : tszOf Try.prog 7 = some (4, true) := by kernel_rfl
theorem Try.cz7 : Try.prog.cellsOf 7 = 4 := by kernel_rfl
@[go_sem] theorem Try.udef7 : (Try.prog.underlying 7).isSome = true := by kernel_rfl
@[go_sem] theorem Try.zero7 : zeroOf Try.prog 7 = some [.int .i64 0, .int .i64 0, .bool false, .int .u8 0] := by kernel_rfl
@[go_sem] theorem Try.pl7 : plOf Try.prog 7 = some [(0, 1), (1, 1), (2, 1), (3, 1)] := by kernel_rfl
@[go_sem] theorem Try.tsz8 : tszOf Try.prog 8 = some (4, true) := by kernel_rfl
theorem Try.cz8 : Try.prog.cellsOf 8 = 4 := by kernel_rfl
@[go_sem] theorem Try.udef8 : (Try.prog.underlying 8).isSome = true := by kernel_rfl
@[go_sem] theorem Try.zero8 : zeroOf Try.prog 8 = some [.int .i64 0, .int .i64 0, .bool false, .int .u8 0] := by kernel_rfl
@[go_sem] theorem Try.pl8 : plOf Try.prog 8 = some [(0, 1), (1, 1), (2, 1), (3, 1)] := by kernel_rfl
@[go_sem] theorem Try.tsz9 : tszOf Try.prog 9 = some (1, false) := by kernel_rfl
theorem Try.cz9 : Try.prog.cellsOf 9 = 1 := by kernel_rfl
@[go_sem] theorem Try.udef9 : (Try.prog.underlying 9).isSome = true := by kernel_rfl
@[go_sem] theorem Try.zero9 : zeroOf Try.prog 9 = some [.str ByteArray.empty] := by kernel_rfl
@[go_sem] theorem Try.isIntN9 : isIntT Try.prog 9 = none := by kernel_rfl
@[go_sem] theorem Try.isStr9 : isStr Try.prog 9 = true := by kernel_rfl
@[go_sem] theorem Try.tsz10 : tszOf Try.prog 10 = some (1, false) := by kernel_rfl
theorem Try.cz10 : Try.prog.cellsOf 10 = 1 := by kernel_rfl
@[go_sem] theorem Try.udef10 : (Try.prog.underlying 10).isSome = true := by kernel_rfl
@[go_sem] theorem Try.zero10 : zeroOf Try.prog 10 = some [.str ByteArray.empty] := by kernel_rfl
@[go_sem] theorem Try.isIntN10 : isIntT Try.prog 10 = none := by kernel_rfl
@[go_sem] theorem Try.isStr10 : isStr Try.prog 10 = true := by kernel_rfl
@[go_sem] theorem Try.tsz11 : tszOf Try.prog 11 = some (1, false) := by kernel_rfl
theorem Try.cz11 : Try.prog.cellsOf 11 = 1 := by kernel_rfl
@[go_sem] theorem Try.udef11 : (Try.prog.underlying 11).isSome = true := by kernel_rfl
@[go_sem] theorem Try.zero11 : zeroOf Try.prog 11 = some [.str ByteArray.empty] := by kernel_rfl
@[go_sem] theorem Try.isIntN11 : isIntT Try.prog 11 = none := by kernel_rfl
@[go_sem] theorem Try.isStr11 : isStr Try.prog 11 = true := by kernel_rfl
@[go_sem] theorem Try.tsz12 : tszOf Try.prog 12 = some (1, false) := by kernel_rfl
theorem Try.cz12 : Try.prog.cellsOf 12 = 1 := by kernel_rfl
@[go_sem] theorem Try.udef12 : (Try.prog.underlying 12).isSome = true := by kernel_rfl
@[go_sem] theorem Try.zero12 : zeroOf Try.prog 12 = some [.int .u64 0] := by kernel_rfl
@[go_sem] theorem Try.isInt12 : isIntT Try.prog 12 = some .u64 := by kernel_rfl
@[go_sem] theorem Try.tsz13 : tszOf Try.prog 13 = some (2, true) := by kernel_rfl
theorem Try.cz13 : Try.prog.cellsOf 13 = 2 := by kernel_rfl
@[go_sem] theorem Try.udef13 : (Try.prog.underlying 13).isSome = true := by kernel_rfl
@[go_sem] theorem Try.zero13 : zeroOf Try.prog 13 = some [.str ByteArray.empty, .int .u64 0] := by kernel_rfl
@[go_sem] theorem Try.pl13 : plOf Try.prog 13 = some [(0, 1), (1, 1)] := by kernel_rfl
@[go_sem] theorem Try.tsz14 : tszOf Try.prog 14 = some (2, true) := by kernel_rfl
theorem Try.cz14 : Try.prog.cellsOf 14 = 2 := by kernel_rfl
@[go_sem] theorem Try.udef14 : (Try.prog.underlying 14).isSome = true := by kernel_rfl
@[go_sem] theorem Try.zero14 : zeroOf Try.prog 14 = some [.str ByteArray.empty, .int .u64 0] := by kernel_rfl
@[go_sem] theorem Try.pl14 : plOf Try.prog 14 = some [(0, 1), (1, 1)] := by kernel_rfl
@[go_sem] theorem Try.tsz15 : tszOf Try.prog 15 = some (1, false) := by kernel_rfl
theorem Try.cz15 : Try.prog.cellsOf 15 = 1 := by kernel_rfl
@[go_sem] theorem Try.udef15 : (Try.prog.underlying 15).isSome = true := by kernel_rfl
@[go_sem] theorem Try.zero15 : zeroOf Try.prog 15 = some [.lit ((Go.Value.pointer none))] := by kernel_rfl
@[go_sem] theorem Try.tsz16 : tszOf Try.prog 16 = some (1, false) := by kernel_rfl
theorem Try.cz16 : Try.prog.cellsOf 16 = 1 := by kernel_rfl
@[go_sem] theorem Try.udef16 : (Try.prog.underlying 16).isSome = true := by kernel_rfl
@[go_sem] theorem Try.zero16 : zeroOf Try.prog 16 = some [.lit ((Go.Value.pointer none))] := by kernel_rfl
@[go_sem] theorem Try.tsz17 : tszOf Try.prog 17 = some (1, false) := by kernel_rfl
theorem Try.cz17 : Try.prog.cellsOf 17 = 1 := by kernel_rfl
@[go_sem] theorem Try.udef17 : (Try.prog.underlying 17).isSome = true := by kernel_rfl
@[go_sem] theorem Try.zero17 : zeroOf Try.prog 17 = some [.lit ((Go.Value.pointer none))] := by kernel_rfl
@[go_sem] theorem Try.tsz18 : tszOf Try.prog 18 = some (1, true) := by kernel_rfl
theorem Try.cz18 : Try.prog.cellsOf 18 = 1 := by kernel_rfl
@[go_sem] theorem Try.udef18 : (Try.prog.underlying 18).isSome = true := by kernel_rfl
@[go_sem] theorem Try.zero18 : zeroOf Try.prog 18 = some [.lit ((Go.Value.pointer none))] := by kernel_rfl
@[go_sem] theorem Try.pl18 : plOf Try.prog 18 = some [(0, 1)] := by kernel_rfl
@[go_sem] theorem Try.tsz19 : tszOf Try.prog 19 = some (1, true) := by kernel_rfl
theorem Try.cz19 : Try.prog.cellsOf 19 = 1 := by kernel_rfl
@[go_sem] theorem Try.udef19 : (Try.prog.underlying 19).isSome = true := by kernel_rfl
@[go_sem] theorem Try.zero19 : zeroOf Try.prog 19 = some [.lit ((Go.Value.pointer none))] := by kernel_rfl
@[go_sem] theorem Try.pl19 : plOf Try.prog 19 = some [(0, 1)] := by kernel_rfl
@[go_sem] theorem Try.tsz20 : tszOf Try.prog 20 = some (1, false) := by kernel_rfl
theorem Try.cz20 : Try.prog.cellsOf 20 = 1 := by kernel_rfl
@[go_sem] theorem Try.udef20 : (Try.prog.underlying 20).isSome = true := by kernel_rfl
@[go_sem] theorem Try.zero20 : zeroOf Try.prog 20 = some [.lit ((Go.Value.nilIface))] := by kernel_rfl
@[go_sem] theorem Try.tsz21 : tszOf Try.prog 21 = some (1, false) := by kernel_rfl
theorem Try.cz21 : Try.prog.cellsOf 21 = 1 := by kernel_rfl
@[go_sem] theorem Try.udef21 : (Try.prog.underlying 21).isSome = true := by kernel_rfl
@[go_sem] theorem Try.zero21 : zeroOf Try.prog 21 = some [.int .i32 0] := by kernel_rfl
@[go_sem] theorem Try.isInt21 : isIntT Try.prog 21 = some .i32 := by kernel_rfl
@[go_sem] theorem Try.tsz22 : tszOf Try.prog 22 = some (1, false) := by kernel_rfl
theorem Try.cz22 : Try.prog.cellsOf 22 = 1 := by kernel_rfl
@[go_sem] theorem Try.udef22 : (Try.prog.underlying 22).isSome = true := by kernel_rfl
@[go_sem] theorem Try.zero22 : zeroOf Try.prog 22 = some [.nilsl] := by kernel_rfl
@[go_sem] theorem Try.el22 : elOf Try.prog 22 = some (129, 5, 40) := by kernel_rfl
@[go_sem] theorem Try.isSl22 : isSl Try.prog 22 = true := by kernel_rfl
@[go_sem] theorem Try.tsz23 : tszOf Try.prog 23 = some (1, false) := by kernel_rfl
theorem Try.cz23 : Try.prog.cellsOf 23 = 1 := by kernel_rfl
@[go_sem] theorem Try.udef23 : (Try.prog.underlying 23).isSome = true := by kernel_rfl
@[go_sem] theorem Try.zero23 : zeroOf Try.prog 23 = some [.lit ((Go.Value.nilFunc))] := by kernel_rfl
@[go_sem] theorem Try.tsz24 : tszOf Try.prog 24 = some (1, false) := by kernel_rfl
theorem Try.cz24 : Try.prog.cellsOf 24 = 1 := by kernel_rfl
@[go_sem] theorem Try.udef24 : (Try.prog.underlying 24).isSome = true := by kernel_rfl
@[go_sem] theorem Try.zero24 : zeroOf Try.prog 24 = some [.nilsl] := by kernel_rfl
@[go_sem] theorem Try.el24 : elOf Try.prog 24 = some (99, 1, 24) := by kernel_rfl
@[go_sem] theorem Try.isSl24 : isSl Try.prog 24 = true := by kernel_rfl
@[go_sem] theorem Try.tsz26 : tszOf Try.prog 26 = some (1, false) := by kernel_rfl
theorem Try.cz26 : Try.prog.cellsOf 26 = 1 := by kernel_rfl
@[go_sem] theorem Try.udef26 : (Try.prog.underlying 26).isSome = true := by kernel_rfl
@[go_sem] theorem Try.zero26 : zeroOf Try.prog 26 = some [.lit ((Go.Value.nilFunc))] := by kernel_rfl
@[go_sem] theorem Try.tsz27 : tszOf Try.prog 27 = some (1, false) := by kernel_rfl
theorem Try.cz27 : Try.prog.cellsOf 27 = 1 := by kernel_rfl
@[go_sem] theorem Try.udef27 : (Try.prog.underlying 27).isSome = true := by kernel_rfl
@[go_sem] theorem Try.zero27 : zeroOf Try.prog 27 = some [.nilsl] := by kernel_rfl
@[go_sem] theorem Try.el27 : elOf Try.prog 27 = some (127, 5, 40) := by kernel_rfl
@[go_sem] theorem Try.isSl27 : isSl Try.prog 27 = true := by kernel_rfl
@[go_sem] theorem Try.tsz28 : tszOf Try.prog 28 = some (1, false) := by kernel_rfl
theorem Try.cz28 : Try.prog.cellsOf 28 = 1 := by kernel_rfl
@[go_sem] theorem Try.udef28 : (Try.prog.underlying 28).isSome = true := by kernel_rfl
@[go_sem] theorem Try.zero28 : zeroOf Try.prog 28 = some [.lit ((Go.Value.nilFunc))] := by kernel_rfl
@[go_sem] theorem Try.tsz29 : tszOf Try.prog 29 = some (1, false) := by kernel_rfl
theorem Try.cz29 : Try.prog.cellsOf 29 = 1 := by kernel_rfl
@[go_sem] theorem Try.udef29 : (Try.prog.underlying 29).isSome = true := by kernel_rfl
@[go_sem] theorem Try.zero29 : zeroOf Try.prog 29 = some [.lit ((Go.Value.nilFunc))] := by kernel_rfl
@[go_sem] theorem Try.tsz30 : tszOf Try.prog 30 = some (1, false) := by kernel_rfl
theorem Try.cz30 : Try.prog.cellsOf 30 = 1 := by kernel_rfl
@[go_sem] theorem Try.udef30 : (Try.prog.underlying 30).isSome = true := by kernel_rfl
@[go_sem] theorem Try.zero30 : zeroOf Try.prog 30 = some [.lit ((Go.Value.nilFunc))] := by kernel_rfl
@[go_sem] theorem Try.tsz31 : tszOf Try.prog 31 = some (1, false) := by kernel_rfl
theorem Try.cz31 : Try.prog.cellsOf 31 = 1 := by kernel_rfl
@[go_sem] theorem Try.udef31 : (Try.prog.underlying 31).isSome = true := by kernel_rfl
@[go_sem] theorem Try.zero31 : zeroOf Try.prog 31 = some [.lit ((Go.Value.nilFunc))] := by kernel_rfl
@[go_sem] theorem Try.tsz32 : tszOf Try.prog 32 = some (1, false) := by kernel_rfl
theorem Try.cz32 : Try.prog.cellsOf 32 = 1 := by kernel_rfl
@[go_sem] theorem Try.udef32 : (Try.prog.underlying 32).isSome = true := by kernel_rfl
@[go_sem] theorem Try.zero32 : zeroOf Try.prog 32 = some [.lit ((Go.Value.nilFunc))] := by kernel_rfl
@[go_sem] theorem Try.tsz33 : tszOf Try.prog 33 = some (1, false) := by kernel_rfl
theorem Try.cz33 : Try.prog.cellsOf 33 = 1 := by kernel_rfl
@[go_sem] theorem Try.udef33 : (Try.prog.underlying 33).isSome = true := by kernel_rfl
@[go_sem] theorem Try.zero33 : zeroOf Try.prog 33 = some [.lit ((Go.Value.nilFunc))] := by kernel_rfl
@[go_sem] theorem Try.tsz34 : tszOf Try.prog 34 = some (1, false) := by kernel_rfl
theorem Try.cz34 : Try.prog.cellsOf 34 = 1 := by kernel_rfl
@[go_sem] theorem Try.udef34 : (Try.prog.underlying 34).isSome = true := by kernel_rfl
@[go_sem] theorem Try.zero34 : zeroOf Try.prog 34 = some [.nilsl] := by kernel_rfl
@[go_sem] theorem Try.el34 : elOf Try.prog 34 = some (136, 4, 56) := by kernel_rfl
@[go_sem] theorem Try.isSl34 : isSl Try.prog 34 = true := by kernel_rfl
@[go_sem] theorem Try.tsz35 : tszOf Try.prog 35 = some (1, false) := by kernel_rfl
theorem Try.cz35 : Try.prog.cellsOf 35 = 1 := by kernel_rfl
@[go_sem] theorem Try.udef35 : (Try.prog.underlying 35).isSome = true := by kernel_rfl
@[go_sem] theorem Try.zero35 : zeroOf Try.prog 35 = some [.lit ((Go.Value.nilFunc))] := by kernel_rfl
@[go_sem] theorem Try.tsz36 : tszOf Try.prog 36 = some (1, false) := by kernel_rfl
theorem Try.cz36 : Try.prog.cellsOf 36 = 1 := by kernel_rfl
@[go_sem] theorem Try.udef36 : (Try.prog.underlying 36).isSome = true := by kernel_rfl
@[go_sem] theorem Try.zero36 : zeroOf Try.prog 36 = some [.nilsl] := by kernel_rfl
@[go_sem] theorem Try.el36 : elOf Try.prog 36 = some (142, 4, 56) := by kernel_rfl
@[go_sem] theorem Try.isSl36 : isSl Try.prog 36 = true := by kernel_rfl
@[go_sem] theorem Try.tsz38 : tszOf Try.prog 38 = some (1, false) := by kernel_rfl
theorem Try.cz38 : Try.prog.cellsOf 38 = 1 := by kernel_rfl
@[go_sem] theorem Try.udef38 : (Try.prog.underlying 38).isSome = true := by kernel_rfl
@[go_sem] theorem Try.zero38 : zeroOf Try.prog 38 = some [.lit ((Go.Value.nilFunc))] := by kernel_rfl
@[go_sem] theorem Try.tsz39 : tszOf Try.prog 39 = some (1, false) := by kernel_rfl
theorem Try.cz39 : Try.prog.cellsOf 39 = 1 := by kernel_rfl
@[go_sem] theorem Try.udef39 : (Try.prog.underlying 39).isSome = true := by kernel_rfl
@[go_sem] theorem Try.zero39 : zeroOf Try.prog 39 = some [.lit ((Go.Value.nilFunc))] := by kernel_rfl
@[go_sem] theorem Try.tsz40 : tszOf Try.prog 40 = some (1, false) := by kernel_rfl
theorem Try.cz40 : Try.prog.cellsOf 40 = 1 := by kernel_rfl
@[go_sem] theorem Try.udef40 : (Try.prog.underlying 40).isSome = true := by kernel_rfl
@[go_sem] theorem Try.zero40 : zeroOf Try.prog 40 = some [.lit ((Go.Value.nilFunc))] := by kernel_rfl
@[go_sem] theorem Try.tsz41 : tszOf Try.prog 41 = some (1, false) := by kernel_rfl
theorem Try.cz41 : Try.prog.cellsOf 41 = 1 := by kernel_rfl
@[go_sem] theorem Try.udef41 : (Try.prog.underlying 41).isSome = true := by kernel_rfl
@[go_sem] theorem Try.zero41 : zeroOf Try.prog 41 = some [.lit ((Go.Value.nilFunc))] := by kernel_rfl
@[go_sem] theorem Try.tsz42 : tszOf Try.prog 42 = some (1, false) := by kernel_rfl
theorem Try.cz42 : Try.prog.cellsOf 42 = 1 := by kernel_rfl
@[go_sem] theorem Try.udef42 : (Try.prog.underlying 42).isSome = true := by kernel_rfl
@[go_sem] theorem Try.zero42 : zeroOf Try.prog 42 = some [.lit ((Go.Value.nilFunc))] := by kernel_rfl
@[go_sem] theorem Try.tsz43 : tszOf Try.prog 43 = some (1, false) := by kernel_rfl
theorem Try.cz43 : Try.prog.cellsOf 43 = 1 := by kernel_rfl
@[go_sem] theorem Try.udef43 : (Try.prog.underlying 43).isSome = true := by kernel_rfl
@[go_sem] theorem Try.zero43 : zeroOf Try.prog 43 = some [.nilsl] := by kernel_rfl
@[go_sem] theorem Try.el43 : elOf Try.prog 43 = some (229, 2, 16) := by kernel_rfl
@[go_sem] theorem Try.isSl43 : isSl Try.prog 43 = true := by kernel_rfl
@[go_sem] theorem Try.tsz44 : tszOf Try.prog 44 = some (5, true) := by kernel_rfl
theorem Try.cz44 : Try.prog.cellsOf 44 = 5 := by kernel_rfl
@[go_sem] theorem Try.udef44 : (Try.prog.underlying 44).isSome = true := by kernel_rfl
@[go_sem] theorem Try.zero44 : zeroOf Try.prog 44 = some [.int .i64 0, .int .i64 0, .nilsl, .int .i64 0, .int .i64 0] := by kernel_rfl
@[go_sem] theorem Try.pl44 : plOf Try.prog 44 = some [(0, 1), (1, 1), (2, 1), (3, 1), (4, 1)] := by kernel_rfl
@[go_sem] theorem Try.tsz45 : tszOf Try.prog 45 = some (5, true) := by kernel_rfl
theorem Try.cz45 : Try.prog.cellsOf 45 = 5 := by kernel_rfl
@[go_sem] theorem Try.udef45 : (Try.prog.underlying 45).isSome = true := by kernel_rfl
@[go_sem] theorem Try.zero45 : zeroOf Try.prog 45 = some [.int .i64 0, .int .i64 0, .nilsl, .int .i64 0, .int .i64 0] := by kernel_rfl
@[go_sem] theorem Try.pl45 : plOf Try.prog 45 = some [(0, 1), (1, 1), (2, 1), (3, 1), (4, 1)] := by kernel_rfl
@[go_sem] theorem Try.fd45_0 : fdOf Try.prog 45 0 = some (0, 1, false) := by kernel_rfl
@[go_sem] theorem Try.fd45_1 : fdOf Try.prog 45 1 = some (1, 1, false) := by kernel_rfl
@[go_sem] theorem Try.fd45_2 : fdOf Try.prog 45 2 = some (2, 1, false) := by kernel_rfl
@[go_sem] theorem Try.fd45_3 : fdOf Try.prog 45 3 = some (3, 1, false) := by kernel_rfl
@[go_sem] theorem Try.fd45_4 : fdOf Try.prog 45 4 = some (4, 1, false) := by kernel_rfl
@[go_sem] theorem Try.tsz46 : tszOf Try.prog 46 = some (2, true) := by kernel_rfl
theorem Try.cz46 : Try.prog.cellsOf 46 = 2 := by kernel_rfl
@[go_sem] theorem Try.udef46 : (Try.prog.underlying 46).isSome = true := by kernel_rfl
@[go_sem] theorem Try.zero46 : zeroOf Try.prog 46 = some [.int .i64 0, .int .i64 0] := by kernel_rfl
@[go_sem] theorem Try.pl46 : plOf Try.prog 46 = some [(0, 1), (1, 1)] := by kernel_rfl
@[go_sem] theorem Try.tsz47 : tszOf Try.prog 47 = some (2, true) := by kernel_rfl
theorem Try.cz47 : Try.prog.cellsOf 47 = 2 := by kernel_rfl
@[go_sem] theorem Try.udef47 : (Try.prog.underlying 47).isSome = true := by kernel_rfl
@[go_sem] theorem Try.zero47 : zeroOf Try.prog 47 = some [.int .i64 0, .int .i64 0] := by kernel_rfl
@[go_sem] theorem Try.flatEq47 : flatEq Try.prog 47 = some [.int .i64, .int .i64] := by kernel_rfl
@[go_sem] theorem Try.pl47 : plOf Try.prog 47 = some [(0, 1), (1, 1)] := by kernel_rfl
@[go_sem] theorem Try.fd47_0 : fdOf Try.prog 47 0 = some (0, 1, false) := by kernel_rfl
@[go_sem] theorem Try.fd47_1 : fdOf Try.prog 47 1 = some (1, 1, false) := by kernel_rfl
@[go_sem] theorem Try.tsz48 : tszOf Try.prog 48 = some (1, false) := by kernel_rfl
theorem Try.cz48 : Try.prog.cellsOf 48 = 1 := by kernel_rfl
@[go_sem] theorem Try.udef48 : (Try.prog.underlying 48).isSome = true := by kernel_rfl
@[go_sem] theorem Try.zero48 : zeroOf Try.prog 48 = some [.lit ((Go.Value.nilFunc))] := by kernel_rfl
@[go_sem] theorem Try.tsz49 : tszOf Try.prog 49 = some (1, false) := by kernel_rfl
theorem Try.cz49 : Try.prog.cellsOf 49 = 1 := by kernel_rfl
@[go_sem] theorem Try.udef49 : (Try.prog.underlying 49).isSome = true := by kernel_rfl
@[go_sem] theorem Try.zero49 : zeroOf Try.prog 49 = some [.nilsl] := by kernel_rfl
@[go_sem] theorem Try.el49 : elOf Try.prog 49 = some (224, 2, 16) := by kernel_rfl
@[go_sem] theorem Try.isSl49 : isSl Try.prog 49 = true := by kernel_rfl
@[go_sem] theorem Try.tsz50 : tszOf Try.prog 50 = some (5, true) := by kernel_rfl
theorem Try.cz50 : Try.prog.cellsOf 50 = 5 := by kernel_rfl
@[go_sem] theorem Try.udef50 : (Try.prog.underlying 50).isSome = true := by kernel_rfl
@[go_sem] theorem Try.zero50 : zeroOf Try.prog 50 = some [.int .i64 0, .int .i64 0, .nilsl, .int .i64 0, .int .i64 0] := by kernel_rfl
@[go_sem] theorem Try.pl50 : plOf Try.prog 50 = some [(0, 1), (1, 1), (2, 1), (3, 1), (4, 1)] := by kernel_rfl
@[go_sem] theorem Try.tsz51 : tszOf Try.prog 51 = some (5, true) := by kernel_rfl
theorem Try.cz51 : Try.prog.cellsOf 51 = 5 := by kernel_rfl
@[go_sem] theorem Try.udef51 : (Try.prog.underlying 51).isSome = true := by kernel_rfl
@[go_sem] theorem Try.zero51 : zeroOf Try.prog 51 = some [.int .i64 0, .int .i64 0, .nilsl, .int .i64 0, .int .i64 0] := by kernel_rfl
@[go_sem] theorem Try.pl51 : plOf Try.prog 51 = some [(0, 1), (1, 1), (2, 1), (3, 1), (4, 1)] := by kernel_rfl
@[go_sem] theorem Try.fd51_0 : fdOf Try.prog 51 0 = some (0, 1, false) := by kernel_rfl
@[go_sem] theorem Try.fd51_1 : fdOf Try.prog 51 1 = some (1, 1, false) := by kernel_rfl
@[go_sem] theorem Try.fd51_2 : fdOf Try.prog 51 2 = some (2, 1, false) := by kernel_rfl
@[go_sem] theorem Try.fd51_3 : fdOf Try.prog 51 3 = some (3, 1, false) := by kernel_rfl
@[go_sem] theorem Try.fd51_4 : fdOf Try.prog 51 4 = some (4, 1, false) := by kernel_rfl
@[go_sem] theorem Try.tsz53 : tszOf Try.prog 53 = some (1, false) := by kernel_rfl
theorem Try.cz53 : Try.prog.cellsOf 53 = 1 := by kernel_rfl
@[go_sem] theorem Try.udef53 : (Try.prog.underlying 53).isSome = true := by kernel_rfl
@[go_sem] theorem Try.zero53 : zeroOf Try.prog 53 = some [.lit ((Go.Value.nilFunc))] := by kernel_rfl
@[go_sem] theorem Try.tsz54 : tszOf Try.prog 54 = some (1, false) := by kernel_rfl
theorem Try.cz54 : Try.prog.cellsOf 54 = 1 := by kernel_rfl
@[go_sem] theorem Try.udef54 : (Try.prog.underlying 54).isSome = true := by kernel_rfl
@[go_sem] theorem Try.zero54 : zeroOf Try.prog 54 = some [.lit ((Go.Value.nilFunc))] := by kernel_rfl
@[go_sem] theorem Try.tsz55 : tszOf Try.prog 55 = some (2, true) := by kernel_rfl
theorem Try.cz55 : Try.prog.cellsOf 55 = 2 := by kernel_rfl
@[go_sem] theorem Try.udef55 : (Try.prog.underlying 55).isSome = true := by kernel_rfl
@[go_sem] theorem Try.zero55 : zeroOf Try.prog 55 = some [.int .i64 0, .int .i64 0] := by kernel_rfl
@[go_sem] theorem Try.flatEq55 : flatEq Try.prog 55 = some [.int .i64, .int .i64] := by kernel_rfl
@[go_sem] theorem Try.pl55 : plOf Try.prog 55 = some [(0, 1), (1, 1)] := by kernel_rfl
@[go_sem] theorem Try.fd55_0 : fdOf Try.prog 55 0 = some (0, 1, false) := by kernel_rfl
@[go_sem] theorem Try.fd55_1 : fdOf Try.prog 55 1 = some (1, 1, false) := by kernel_rfl
@[go_sem] theorem Try.tsz56 : tszOf Try.prog 56 = some (1, false) := by kernel_rfl
theorem Try.cz56 : Try.prog.cellsOf 56 = 1 := by kernel_rfl
@[go_sem] theorem Try.udef56 : (Try.prog.underlying 56).isSome = true := by kernel_rfl
@[go_sem] theorem Try.zero56 : zeroOf Try.prog 56 = some [.lit ((Go.Value.nilFunc))] := by kernel_rfl
@[go_sem] theorem Try.tsz57 : tszOf Try.prog 57 = some (1, false) := by kernel_rfl
theorem Try.cz57 : Try.prog.cellsOf 57 = 1 := by kernel_rfl
@[go_sem] theorem Try.udef57 : (Try.prog.underlying 57).isSome = true := by kernel_rfl
@[go_sem] theorem Try.zero57 : zeroOf Try.prog 57 = some [.lit ((Go.Value.nilFunc))] := by kernel_rfl
@[go_sem] theorem Try.tsz58 : tszOf Try.prog 58 = some (1, false) := by kernel_rfl
theorem Try.cz58 : Try.prog.cellsOf 58 = 1 := by kernel_rfl
@[go_sem] theorem Try.udef58 : (Try.prog.underlying 58).isSome = true := by kernel_rfl
@[go_sem] theorem Try.zero58 : zeroOf Try.prog 58 = some [.lit ((Go.Value.nilFunc))] := by kernel_rfl
@[go_sem] theorem Try.tsz59 : tszOf Try.prog 59 = some (1, false) := by kernel_rfl
theorem Try.cz59 : Try.prog.cellsOf 59 = 1 := by kernel_rfl
@[go_sem] theorem Try.udef59 : (Try.prog.underlying 59).isSome = true := by kernel_rfl
@[go_sem] theorem Try.zero59 : zeroOf Try.prog 59 = some [.lit ((Go.Value.nilFunc))] := by kernel_rfl
@[go_sem] theorem Try.tsz60 : tszOf Try.prog 60 = some (1, false) := by kernel_rfl
theorem Try.cz60 : Try.prog.cellsOf 60 = 1 := by kernel_rfl
@[go_sem] theorem Try.udef60 : (Try.prog.underlying 60).isSome = true := by kernel_rfl
@[go_sem] theorem Try.zero60 : zeroOf Try.prog 60 = some [.nilsl] := by kernel_rfl
@[go_sem] theorem Try.el60 : elOf Try.prog 60 = some (162, 7, 56) := by kernel_rfl
@[go_sem] theorem Try.isSl60 : isSl Try.prog 60 = true := by kernel_rfl
@[go_sem] theorem Try.tsz61 : tszOf Try.prog 61 = some (1, false) := by kernel_rfl
theorem Try.cz61 : Try.prog.cellsOf 61 = 1 := by kernel_rfl
@[go_sem] theorem Try.udef61 : (Try.prog.underlying 61).isSome = true := by kernel_rfl
@[go_sem] theorem Try.zero61 : zeroOf Try.prog 61 = some [.lit ((Go.Value.nilFunc))] := by kernel_rfl
@[go_sem] theorem Try.tsz62 : tszOf Try.prog 62 = some (1, false) := by kernel_rfl
theorem Try.cz62 : Try.prog.cellsOf 62 = 1 := by kernel_rfl
@[go_sem] theorem Try.udef62 : (Try.prog.underlying 62).isSome = true := by kernel_rfl
@[go_sem] theorem Try.zero62 : zeroOf Try.prog 62 = some [.nilsl] := by kernel_rfl
@[go_sem] theorem Try.el62 : elOf Try.prog 62 = some (159, 7, 56) := by kernel_rfl
@[go_sem] theorem Try.isSl62 : isSl Try.prog 62 = true := by kernel_rfl
@[go_sem] theorem Try.tsz64 : tszOf Try.prog 64 = some (1, false) := by kernel_rfl
theorem Try.cz64 : Try.prog.cellsOf 64 = 1 := by kernel_rfl
@[go_sem] theorem Try.udef64 : (Try.prog.underlying 64).isSome = true := by kernel_rfl
@[go_sem] theorem Try.zero64 : zeroOf Try.prog 64 = some [.lit ((Go.Value.nilFunc))] := by kernel_rfl
@[go_sem] theorem Try.tsz65 : tszOf Try.prog 65 = some (1, false) := by kernel_rfl
theorem Try.cz65 : Try.prog.cellsOf 65 = 1 := by kernel_rfl
@[go_sem] theorem Try.udef65 : (Try.prog.underlying 65).isSome = true := by kernel_rfl
@[go_sem] theorem Try.zero65 : zeroOf Try.prog 65 = some [.lit ((Go.Value.nilFunc))] := by kernel_rfl
@[go_sem] theorem Try.tsz66 : tszOf Try.prog 66 = some (1, false) := by kernel_rfl
theorem Try.cz66 : Try.prog.cellsOf 66 = 1 := by kernel_rfl
@[go_sem] theorem Try.udef66 : (Try.prog.underlying 66).isSome = true := by kernel_rfl
@[go_sem] theorem Try.zero66 : zeroOf Try.prog 66 = some [.lit ((Go.Value.nilFunc))] := by kernel_rfl
@[go_sem] theorem Try.tsz67 : tszOf Try.prog 67 = some (1, false) := by kernel_rfl
theorem Try.cz67 : Try.prog.cellsOf 67 = 1 := by kernel_rfl
@[go_sem] theorem Try.udef67 : (Try.prog.underlying 67).isSome = true := by kernel_rfl
@[go_sem] theorem Try.zero67 : zeroOf Try.prog 67 = some [.lit ((Go.Value.nilFunc))] := by kernel_rfl
@[go_sem] theorem Try.tsz68 : tszOf Try.prog 68 = some (1, false) := by kernel_rfl
theorem Try.cz68 : Try.prog.cellsOf 68 = 1 := by kernel_rfl
@[go_sem] theorem Try.udef68 : (Try.prog.underlying 68).isSome = true := by kernel_rfl
@[go_sem] theorem Try.zero68 : zeroOf Try.prog 68 = some [.lit ((Go.Value.nilFunc))] := by kernel_rfl
@[go_sem] theorem Try.tsz69 : tszOf Try.prog 69 = some (1, false) := by kernel_rfl
theorem Try.cz69 : Try.prog.cellsOf 69 = 1 := by kernel_rfl
@[go_sem] theorem Try.udef69 : (Try.prog.underlying 69).isSome = true := by kernel_rfl
@[go_sem] theorem Try.zero69 : zeroOf Try.prog 69 = some [.nilsl] := by kernel_rfl
@[go_sem] theorem Try.el69 : elOf Try.prog 69 = some (47, 2, 16) := by kernel_rfl
@[go_sem] theorem Try.isSl69 : isSl Try.prog 69 = true := by kernel_rfl
@[go_sem] theorem Try.tsz70 : tszOf Try.prog 70 = some (1, false) := by kernel_rfl
theorem Try.cz70 : Try.prog.cellsOf 70 = 1 := by kernel_rfl
@[go_sem] theorem Try.udef70 : (Try.prog.underlying 70).isSome = true := by kernel_rfl
@[go_sem] theorem Try.zero70 : zeroOf Try.prog 70 = some [.lit ((Go.Value.nilFunc))] := by kernel_rfl
@[go_sem] theorem Try.tsz72 : tszOf Try.prog 72 = some (1, false) := by kernel_rfl
theorem Try.cz72 : Try.prog.cellsOf 72 = 1 := by kernel_rfl
@[go_sem] theorem Try.udef72 : (Try.prog.underlying 72).isSome = true := by kernel_rfl
@[go_sem] theorem Try.zero72 : zeroOf Try.prog 72 = some [.lit ((Go.Value.nilFunc))] := by kernel_rfl
@[go_sem] theorem Try.tsz73 : tszOf Try.prog 73 = some (1, false) := by kernel_rfl
theorem Try.cz73 : Try.prog.cellsOf 73 = 1 := by kernel_rfl
@[go_sem] theorem Try.udef73 : (Try.prog.underlying 73).isSome = true := by kernel_rfl
@[go_sem] theorem Try.zero73 : zeroOf Try.prog 73 = some [.nilsl] := by kernel_rfl
@[go_sem] theorem Try.el73 : elOf Try.prog 73 = some (55, 2, 16) := by kernel_rfl
@[go_sem] theorem Try.isSl73 : isSl Try.prog 73 = true := by kernel_rfl
@[go_sem] theorem Try.tsz74 : tszOf Try.prog 74 = some (1, false) := by kernel_rfl
theorem Try.cz74 : Try.prog.cellsOf 74 = 1 := by kernel_rfl
@[go_sem] theorem Try.udef74 : (Try.prog.underlying 74).isSome = true := by kernel_rfl
@[go_sem] theorem Try.zero74 : zeroOf Try.prog 74 = some [.lit ((Go.Value.nilFunc))] := by kernel_rfl
@[go_sem] theorem Try.tsz75 : tszOf Try.prog 75 = some (1, false) := by kernel_rfl
theorem Try.cz75 : Try.prog.cellsOf 75 = 1 := by kernel_rfl
@[go_sem] theorem Try.udef75 : (Try.prog.underlying 75).isSome = true := by kernel_rfl
@[go_sem] theorem Try.zero75 : zeroOf Try.prog 75 = some [.lit ((Go.Value.nilFunc))] := by kernel_rfl
@[go_sem] theorem Try.tsz76 : tszOf Try.prog 76 = some (1, false) := by kernel_rfl
theorem Try.cz76 : Try.prog.cellsOf 76 = 1 := by kernel_rfl
@[go_sem] theorem Try.udef76 : (Try.prog.underlying 76).isSome = true := by kernel_rfl
@[go_sem] theorem Try.zero76 : zeroOf Try.prog 76 = some [.lit ((Go.Value.nilFunc))] := by kernel_rfl
@[go_sem] theorem Try.tsz77 : tszOf Try.prog 77 = some (1, false) := by kernel_rfl
theorem Try.cz77 : Try.prog.cellsOf 77 = 1 := by kernel_rfl
@[go_sem] theorem Try.udef77 : (Try.prog.underlying 77).isSome = true := by kernel_rfl
@[go_sem] theorem Try.zero77 : zeroOf Try.prog 77 = some [.lit ((Go.Value.nilFunc))] := by kernel_rfl
@[go_sem] theorem Try.tsz78 : tszOf Try.prog 78 = some (1, false) := by kernel_rfl
theorem Try.cz78 : Try.prog.cellsOf 78 = 1 := by kernel_rfl
@[go_sem] theorem Try.udef78 : (Try.prog.underlying 78).isSome = true := by kernel_rfl
@[go_sem] theorem Try.zero78 : zeroOf Try.prog 78 = some [.nilsl] := by kernel_rfl
@[go_sem] theorem Try.el78 : elOf Try.prog 78 = some (5, 1, 1) := by kernel_rfl
@[go_sem] theorem Try.isSl78 : isSl Try.prog 78 = true := by kernel_rfl
@[go_sem] theorem Try.isU8S78 : isU8S Try.prog 78 = true := by kernel_rfl
@[go_sem] theorem Try.tsz79 : tszOf Try.prog 79 = some (1, false) := by kernel_rfl
theorem Try.cz79 : Try.prog.cellsOf 79 = 1 := by kernel_rfl
@[go_sem] theorem Try.udef79 : (Try.prog.underlying 79).isSome = true := by kernel_rfl
@[go_sem] theorem Try.zero79 : zeroOf Try.prog 79 = some [.lit ((Go.Value.nilFunc))] := by kernel_rfl
@[go_sem] theorem Try.tsz80 : tszOf Try.prog 80 = some (1, false) := by kernel_rfl
theorem Try.cz80 : Try.prog.cellsOf 80 = 1 := by kernel_rfl
@[go_sem] theorem Try.udef80 : (Try.prog.underlying 80).isSome = true := by kernel_rfl
@[go_sem] theorem Try.zero80 : zeroOf Try.prog 80 = some [.nilsl] := by kernel_rfl
@[go_sem] theorem Try.el80 : elOf Try.prog 80 = some (183, 3, 24) := by kernel_rfl
@[go_sem] theorem Try.isSl80 : isSl Try.prog 80 = true := by kernel_rfl
@[go_sem] theorem Try.tsz81 : tszOf Try.prog 81 = some (1, false) := by kernel_rfl
theorem Try.cz81 : Try.prog.cellsOf 81 = 1 := by kernel_rfl
@[go_sem] theorem Try.udef81 : (Try.prog.underlying 81).isSome = true := by kernel_rfl
@[go_sem] theorem Try.zero81 : zeroOf Try.prog 81 = some [.nilsl] := by kernel_rfl
@[go_sem] theorem Try.el81 : elOf Try.prog 81 = some (93, 5, 40) := by kernel_rfl
@[go_sem] theorem Try.isSl81 : isSl Try.prog 81 = true := by kernel_rfl
@[go_sem] theorem Try.tsz82 : tszOf Try.prog 82 = some (5, true) := by kernel_rfl
theorem Try.cz82 : Try.prog.cellsOf 82 = 5 := by kernel_rfl
@[go_sem] theorem Try.udef82 : (Try.prog.underlying 82).isSome = true := by kernel_rfl
@[go_sem] theorem Try.zero82 : zeroOf Try.prog 82 = some [.int .i64 0, .nilsl, .nilsl, .int .i64 0, .int .i64 0] := by kernel_rfl
@[go_sem] theorem Try.pl82 : plOf Try.prog 82 = some [(0, 1), (1, 1), (2, 1), (3, 1), (4, 1)] := by kernel_rfl
@[go_sem] theorem Try.tsz83 : tszOf Try.prog 83 = some (5, true) := by kernel_rfl
theorem Try.cz83 : Try.prog.cellsOf 83 = 5 := by kernel_rfl
@[go_sem] theorem Try.udef83 : (Try.prog.underlying 83).isSome = true := by kernel_rfl
@[go_sem] theorem Try.zero83 : zeroOf Try.prog 83 = some [.int .i64 0, .nilsl, .nilsl, .int .i64 0, .int .i64 0] := by kernel_rfl
@[go_sem] theorem Try.pl83 : plOf Try.prog 83 = some [(0, 1), (1, 1), (2, 1), (3, 1), (4, 1)] := by kernel_rfl
@[go_sem] theorem Try.fd83_0 : fdOf Try.prog 83 0 = some (0, 1, false) := by kernel_rfl
@[go_sem] theorem Try.fd83_1 : fdOf Try.prog 83 1 = some (1, 1, false) := by kernel_rfl
@[go_sem] theorem Try.fd83_2 : fdOf Try.prog 83 2 = some (2, 1, false) := by kernel_rfl
@[go_sem] theorem Try.fd83_3 : fdOf Try.prog 83 3 = some (3, 1, false) := by kernel_rfl
@[go_sem] theorem Try.fd83_4 : fdOf Try.prog 83 4 = some (4, 1, false) := by kernel_rfl
@[go_sem] theorem Try.tsz84 : tszOf Try.prog 84 = some (3, true) := by kernel_rfl
theorem Try.cz84 : Try.prog.cellsOf 84 = 3 := by kernel_rfl
@[go_sem] theorem Try.udef84 : (Try.prog.underlying 84).isSome = true := by kernel_rfl
@[go_sem] theorem Try.zero84 : zeroOf Try.prog 84 = some [.int .i64 0, .int .i64 0, .int .i64 0] := by kernel_rfl
@[go_sem] theorem Try.pl84 : plOf Try.prog 84 = some [(0, 1), (1, 1), (2, 1)] := by kernel_rfl
@[go_sem] theorem Try.tsz85 : tszOf Try.prog 85 = some (3, true) := by kernel_rfl
theorem Try.cz85 : Try.prog.cellsOf 85 = 3 := by kernel_rfl
@[go_sem] theorem Try.udef85 : (Try.prog.underlying 85).isSome = true := by kernel_rfl
@[go_sem] theorem Try.zero85 : zeroOf Try.prog 85 = some [.int .i64 0, .int .i64 0, .int .i64 0] := by kernel_rfl
@[go_sem] theorem Try.flatEq85 : flatEq Try.prog 85 = some [.int .i64, .int .i64, .int .i64] := by kernel_rfl
@[go_sem] theorem Try.pl85 : plOf Try.prog 85 = some [(0, 1), (1, 1), (2, 1)] := by kernel_rfl
@[go_sem] theorem Try.fd85_0 : fdOf Try.prog 85 0 = some (0, 1, false) := by kernel_rfl
@[go_sem] theorem Try.fd85_1 : fdOf Try.prog 85 1 = some (1, 1, false) := by kernel_rfl
@[go_sem] theorem Try.fd85_2 : fdOf Try.prog 85 2 = some (2, 1, false) := by kernel_rfl
@[go_sem] theorem Try.tsz87 : tszOf Try.prog 87 = some (1, false) := by kernel_rfl
theorem Try.cz87 : Try.prog.cellsOf 87 = 1 := by kernel_rfl
@[go_sem] theorem Try.udef87 : (Try.prog.underlying 87).isSome = true := by kernel_rfl
@[go_sem] theorem Try.zero87 : zeroOf Try.prog 87 = some [.lit ((Go.Value.nilFunc))] := by kernel_rfl
@[go_sem] theorem Try.tsz89 : tszOf Try.prog 89 = some (1, false) := by kernel_rfl
theorem Try.cz89 : Try.prog.cellsOf 89 = 1 := by kernel_rfl
@[go_sem] theorem Try.udef89 : (Try.prog.underlying 89).isSome = true := by kernel_rfl
@[go_sem] theorem Try.zero89 : zeroOf Try.prog 89 = some [.lit ((Go.Value.nilFunc))] := by kernel_rfl
@[go_sem] theorem Try.tsz90 : tszOf Try.prog 90 = some (1, false) := by kernel_rfl
theorem Try.cz90 : Try.prog.cellsOf 90 = 1 := by kernel_rfl
@[go_sem] theorem Try.udef90 : (Try.prog.underlying 90).isSome = true := by kernel_rfl
@[go_sem] theorem Try.zero90 : zeroOf Try.prog 90 = some [.lit ((Go.Value.nilFunc))] := by kernel_rfl
@[go_sem] theorem Try.tsz91 : tszOf Try.prog 91 = some (1, false) := by kernel_rfl
theorem Try.cz91 : Try.prog.cellsOf 91 = 1 := by kernel_rfl
@[go_sem] theorem Try.udef91 : (Try.prog.underlying 91).isSome = true := by kernel_rfl
@[go_sem] theorem Try.zero91 : zeroOf Try.prog 91 = some [.lit ((Go.Value.nilFunc))] := by kernel_rfl
@[go_sem] theorem Try.tsz92 : tszOf Try.prog 92 = some (5, true) := by kernel_rfl
theorem Try.cz92 : Try.prog.cellsOf 92 = 5 := by kernel_rfl
@[go_sem] theorem Try.udef92 : (Try.prog.underlying 92).isSome = true := by kernel_rfl
@[go_sem] theorem Try.zero92 : zeroOf Try.prog 92 = some [.int .i64 0, .int .i64 0, .int .i64 0, .int .i64 0, .int .i64 0] := by kernel_rfl
@[go_sem] theorem Try.pl92 : plOf Try.prog 92 = some [(0, 1), (1, 1), (2, 1), (3, 1), (4, 1)] := by kernel_rfl
@[go_sem] theorem Try.tsz93 : tszOf Try.prog 93 = some (5, true) := by kernel_rfl
theorem Try.cz93 : Try.prog.cellsOf 93 = 5 := by kernel_rfl
@[go_sem] theorem Try.udef93 : (Try.prog.underlying 93).isSome = true := by kernel_rfl
@[go_sem] theorem Try.zero93 : zeroOf Try.prog 93 = some [.int .i64 0, .int .i64 0, .int .i64 0, .int .i64 0, .int .i64 0] := by kernel_rfl
@[go_sem] theorem Try.flatEq93 : flatEq Try.prog 93 = some [.int .i64, .int .i64, .int .i64, .int .i64, .int .i64] := by kernel_rfl
@[go_sem] theorem Try.pl93 : plOf Try.prog 93 = some [(0, 1), (1, 1), (2, 1), (3, 1), (4, 1)] := by kernel_rfl
@[go_sem] theorem Try.fd93_0 : fdOf Try.prog 93 0 = some (0, 1, false) := by kernel_rfl
@[go_sem] theorem Try.fd93_1 : fdOf Try.prog 93 1 = some (1, 1, false) := by kernel_rfl
@[go_sem] theorem Try.fd93_2 : fdOf Try.prog 93 2 = some (2, 1, false) := by kernel_rfl
@[go_sem] theorem Try.fd93_3 : fdOf Try.prog 93 3 = some (3, 1, false) := by kernel_rfl
@[go_sem] theorem Try.fd93_4 : fdOf Try.prog 93 4 = some (4, 1, false) := by kernel_rfl
@[go_sem] theorem Try.tsz94 : tszOf Try.prog 94 = some (1, false) := by kernel_rfl
theorem Try.cz94 : Try.prog.cellsOf 94 = 1 := by kernel_rfl
@[go_sem] theorem Try.udef94 : (Try.prog.underlying 94).isSome = true := by kernel_rfl
@[go_sem] theorem Try.zero94 : zeroOf Try.prog 94 = some [.nilsl] := by kernel_rfl
@[go_sem] theorem Try.el94 : elOf Try.prog 94 = some (85, 3, 24) := by kernel_rfl
@[go_sem] theorem Try.isSl94 : isSl Try.prog 94 = true := by kernel_rfl
@[go_sem] theorem Try.tsz96 : tszOf Try.prog 96 = some (1, false) := by kernel_rfl
theorem Try.cz96 : Try.prog.cellsOf 96 = 1 := by kernel_rfl
@[go_sem] theorem Try.udef96 : (Try.prog.underlying 96).isSome = true := by kernel_rfl
@[go_sem] theorem Try.zero96 : zeroOf Try.prog 96 = some [.lit ((Go.Value.nilFunc))] := by kernel_rfl
@[go_sem] theorem Try.tsz98 : tszOf Try.prog 98 = some (1, false) := by kernel_rfl
theorem Try.cz98 : Try.prog.cellsOf 98 = 1 := by kernel_rfl
@[go_sem] theorem Try.udef98 : (Try.prog.underlying 98).isSome = true := by kernel_rfl
@[go_sem] theorem Try.zero98 : zeroOf Try.prog 98 = some [.lit ((Go.Value.nilFunc))] := by kernel_rfl
@[go_sem] theorem Try.tsz99 : tszOf Try.prog 99 = some (1, false) := by kernel_rfl
theorem Try.cz99 : Try.prog.cellsOf 99 = 1 := by kernel_rfl
@[go_sem] theorem Try.udef99 : (Try.prog.underlying 99).isSome = true := by kernel_rfl
@[go_sem] theorem Try.zero99 : zeroOf Try.prog 99 = some [.nilsl] := by kernel_rfl
@[go_sem] theorem Try.el99 : elOf Try.prog 99 = some (3, 1, 8) := by kernel_rfl
@[go_sem] theorem Try.isSl99 : isSl Try.prog 99 = true := by kernel_rfl
@[go_sem] theorem Try.tsz100 : tszOf Try.prog 100 = some (1, false) := by kernel_rfl
theorem Try.cz100 : Try.prog.cellsOf 100 = 1 := by kernel_rfl
@[go_sem] theorem Try.udef100 : (Try.prog.underlying 100).isSome = true := by kernel_rfl
@[go_sem] theorem Try.zero100 : zeroOf Try.prog 100 = some [.lit ((Go.Value.nilFunc))] := by kernel_rfl
@[go_sem] theorem Try.tsz101 : tszOf Try.prog 101 = some (1, false) := by kernel_rfl
theorem Try.cz101 : Try.prog.cellsOf 101 = 1 := by kernel_rfl
@[go_sem] theorem Try.udef101 : (Try.prog.underlying 101).isSome = true := by kernel_rfl
@[go_sem] theorem Try.zero101 : zeroOf Try.prog 101 = some [.lit ((Go.Value.nilFunc))] := by kernel_rfl
@[go_sem] theorem Try.tsz103 : tszOf Try.prog 103 = some (1, false) := by kernel_rfl
theorem Try.cz103 : Try.prog.cellsOf 103 = 1 := by kernel_rfl
@[go_sem] theorem Try.udef103 : (Try.prog.underlying 103).isSome = true := by kernel_rfl
@[go_sem] theorem Try.zero103 : zeroOf Try.prog 103 = some [.lit ((Go.Value.nilFunc))] := by kernel_rfl
@[go_sem] theorem Try.tsz104 : tszOf Try.prog 104 = some (1, false) := by kernel_rfl
theorem Try.cz104 : Try.prog.cellsOf 104 = 1 := by kernel_rfl
@[go_sem] theorem Try.udef104 : (Try.prog.underlying 104).isSome = true := by kernel_rfl
@[go_sem] theorem Try.zero104 : zeroOf Try.prog 104 = some [.lit ((Go.Value.nilFunc))] := by kernel_rfl
@[go_sem] theorem Try.tsz105 : tszOf Try.prog 105 = some (1, false) := by kernel_rfl
theorem Try.cz105 : Try.prog.cellsOf 105 = 1 := by kernel_rfl
@[go_sem] theorem Try.udef105 : (Try.prog.underlying 105).isSome = true := by kernel_rfl
@[go_sem] theorem Try.zero105 : zeroOf Try.prog 105 = some [.nilsl] := by kernel_rfl
@[go_sem] theorem Try.el105 : elOf Try.prog 105 = some (255, 3, 24) := by kernel_rfl
@[go_sem] theorem Try.isSl105 : isSl Try.prog 105 = true := by kernel_rfl
@[go_sem] theorem Try.tsz106 : tszOf Try.prog 106 = some (1, false) := by kernel_rfl
theorem Try.cz106 : Try.prog.cellsOf 106 = 1 := by kernel_rfl
@[go_sem] theorem Try.udef106 : (Try.prog.underlying 106).isSome = true := by kernel_rfl
@[go_sem] theorem Try.zero106 : zeroOf Try.prog 106 = some [.nilsl] := by kernel_rfl
@[go_sem] theorem Try.el106 : elOf Try.prog 106 = some (257, 5, 40) := by kernel_rfl
@[go_sem] theorem Try.isSl106 : isSl Try.prog 106 = true := by kernel_rfl
@[go_sem] theorem Try.tsz107 : tszOf Try.prog 107 = some (5, true) := by kernel_rfl
theorem Try.cz107 : Try.prog.cellsOf 107 = 5 := by kernel_rfl
@[go_sem] theorem Try.udef107 : (Try.prog.underlying 107).isSome = true := by kernel_rfl
@[go_sem] theorem Try.zero107 : zeroOf Try.prog 107 = some [.int .i64 0, .nilsl, .nilsl, .int .i64 0, .int .i64 0] := by kernel_rfl
@[go_sem] theorem Try.pl107 : plOf Try.prog 107 = some [(0, 1), (1, 1), (2, 1), (3, 1), (4, 1)] := by kernel_rfl
@[go_sem] theorem Try.tsz108 : tszOf Try.prog 108 = some (5, true) := by kernel_rfl
theorem Try.cz108 : Try.prog.cellsOf 108 = 5 := by kernel_rfl
@[go_sem] theorem Try.udef108 : (Try.prog.underlying 108).isSome = true := by kernel_rfl
@[go_sem] theorem Try.zero108 : zeroOf Try.prog 108 = some [.int .i64 0, .nilsl, .nilsl, .int .i64 0, .int .i64 0] := by kernel_rfl
@[go_sem] theorem Try.pl108 : plOf Try.prog 108 = some [(0, 1), (1, 1), (2, 1), (3, 1), (4, 1)] := by kernel_rfl
@[go_sem] theorem Try.fd108_0 : fdOf Try.prog 108 0 = some (0, 1, false) := by kernel_rfl
@[go_sem] theorem Try.fd108_1 : fdOf Try.prog 108 1 = some (1, 1, false) := by kernel_rfl
@[go_sem] theorem Try.fd108_2 : fdOf Try.prog 108 2 = some (2, 1, false) := by kernel_rfl
@[go_sem] theorem Try.fd108_3 : fdOf Try.prog 108 3 = some (3, 1, false) := by kernel_rfl
@[go_sem] theorem Try.fd108_4 : fdOf Try.prog 108 4 = some (4, 1, false) := by kernel_rfl
@[go_sem] theorem Try.tsz109 : tszOf Try.prog 109 = some (3, true) := by kernel_rfl
theorem Try.cz109 : Try.prog.cellsOf 109 = 3 := by kernel_rfl
@[go_sem] theorem Try.udef109 : (Try.prog.underlying 109).isSome = true := by kernel_rfl
@[go_sem] theorem Try.zero109 : zeroOf Try.prog 109 = some [.int .i64 0, .int .i64 0, .int .i64 0] := by kernel_rfl
@[go_sem] theorem Try.flatEq109 : flatEq Try.prog 109 = some [.int .i64, .int .i64, .int .i64] := by kernel_rfl
@[go_sem] theorem Try.pl109 : plOf Try.prog 109 = some [(0, 1), (1, 1), (2, 1)] := by kernel_rfl
@[go_sem] theorem Try.fd109_0 : fdOf Try.prog 109 0 = some (0, 1, false) := by kernel_rfl
@[go_sem] theorem Try.fd109_1 : fdOf Try.prog 109 1 = some (1, 1, false) := by kernel_rfl
@[go_sem] theorem Try.fd109_2 : fdOf Try.prog 109 2 = some (2, 1, false) := by kernel_rfl
@[go_sem] theorem Try.tsz110 : tszOf Try.prog 110 = some (1, false) := by kernel_rfl
theorem Try.cz110 : Try.prog.cellsOf 110 = 1 := by kernel_rfl
@[go_sem] theorem Try.udef110 : (Try.prog.underlying 110).isSome = true := by kernel_rfl
@[go_sem] theorem Try.zero110 : zeroOf Try.prog 110 = some [.lit ((Go.Value.nilFunc))] := by kernel_rfl
@[go_sem] theorem Try.tsz111 : tszOf Try.prog 111 = some (1, false) := by kernel_rfl
theorem Try.cz111 : Try.prog.cellsOf 111 = 1 := by kernel_rfl
@[go_sem] theorem Try.udef111 : (Try.prog.underlying 111).isSome = true := by kernel_rfl
@[go_sem] theorem Try.zero111 : zeroOf Try.prog 111 = some [.lit ((Go.Value.nilFunc))] := by kernel_rfl
@[go_sem] theorem Try.tsz112 : tszOf Try.prog 112 = some (1, false) := by kernel_rfl
theorem Try.cz112 : Try.prog.cellsOf 112 = 1 := by kernel_rfl
@[go_sem] theorem Try.udef112 : (Try.prog.underlying 112).isSome = true := by kernel_rfl
@[go_sem] theorem Try.zero112 : zeroOf Try.prog 112 = some [.lit ((Go.Value.nilFunc))] := by kernel_rfl
@[go_sem] theorem Try.tsz113 : tszOf Try.prog 113 = some (1, false) := by kernel_rfl
theorem Try.cz113 : Try.prog.cellsOf 113 = 1 := by kernel_rfl
@[go_sem] theorem Try.udef113 : (Try.prog.underlying 113).isSome = true := by kernel_rfl
@[go_sem] theorem Try.zero113 : zeroOf Try.prog 113 = some [.lit ((Go.Value.nilFunc))] := by kernel_rfl
@[go_sem] theorem Try.tsz114 : tszOf Try.prog 114 = some (1, false) := by kernel_rfl
theorem Try.cz114 : Try.prog.cellsOf 114 = 1 := by kernel_rfl
@[go_sem] theorem Try.udef114 : (Try.prog.underlying 114).isSome = true := by kernel_rfl
@[go_sem] theorem Try.zero114 : zeroOf Try.prog 114 = some [.lit ((Go.Value.nilFunc))] := by kernel_rfl
@[go_sem] theorem Try.tsz116 : tszOf Try.prog 116 = some (1, false) := by kernel_rfl
theorem Try.cz116 : Try.prog.cellsOf 116 = 1 := by kernel_rfl
@[go_sem] theorem Try.udef116 : (Try.prog.underlying 116).isSome = true := by kernel_rfl
@[go_sem] theorem Try.zero116 : zeroOf Try.prog 116 = some [.lit ((Go.Value.nilFunc))] := by kernel_rfl
@[go_sem] theorem Try.tsz117 : tszOf Try.prog 117 = some (1, false) := by kernel_rfl
theorem Try.cz117 : Try.prog.cellsOf 117 = 1 := by kernel_rfl
@[go_sem] theorem Try.udef117 : (Try.prog.underlying 117).isSome = true := by kernel_rfl
@[go_sem] theorem Try.zero117 : zeroOf Try.prog 117 = some [.lit ((Go.Value.nilFunc))] := by kernel_rfl
@[go_sem] theorem Try.tsz118 : tszOf Try.prog 118 = some (1, false) := by kernel_rfl
theorem Try.cz118 : Try.prog.cellsOf 118 = 1 := by kernel_rfl
@[go_sem] theorem Try.udef118 : (Try.prog.underlying 118).isSome = true := by kernel_rfl
@[go_sem] theorem Try.zero118 : zeroOf Try.prog 118 = some [.nilsl] := by kernel_rfl
@[go_sem] theorem Try.el118 : elOf Try.prog 118 = some (109, 3, 24) := by kernel_rfl
@[go_sem] theorem Try.isSl118 : isSl Try.prog 118 = true := by kernel_rfl
@[go_sem] theorem Try.tsz119 : tszOf Try.prog 119 = some (1, false) := by kernel_rfl
theorem Try.cz119 : Try.prog.cellsOf 119 = 1 := by kernel_rfl
@[go_sem] theorem Try.udef119 : (Try.prog.underlying 119).isSome = true := by kernel_rfl
@[go_sem] theorem Try.zero119 : zeroOf Try.prog 119 = some [.lit ((Go.Value.nilFunc))] := by kernel_rfl
@[go_sem] theorem Try.tsz120 : tszOf Try.prog 120 = some (1, false) := by kernel_rfl
theorem Try.cz120 : Try.prog.cellsOf 120 = 1 := by kernel_rfl
@[go_sem] theorem Try.udef120 : (Try.prog.underlying 120).isSome = true := by kernel_rfl
@[go_sem] theorem Try.zero120 : zeroOf Try.prog 120 = some [.lit ((Go.Value.nilFunc))] := by kernel_rfl
@[go_sem] theorem Try.tsz121 : tszOf Try.prog 121 = some (1, false) := by kernel_rfl
theorem Try.cz121 : Try.prog.cellsOf 121 = 1 := by kernel_rfl
@[go_sem] theorem Try.udef121 : (Try.prog.underlying 121).isSome = true := by kernel_rfl
@[go_sem] theorem Try.zero121 : zeroOf Try.prog 121 = some [.lit ((Go.Value.nilFunc))] := by kernel_rfl
@[go_sem] theorem Try.tsz122 : tszOf Try.prog 122 = some (1, false) := by kernel_rfl
theorem Try.cz122 : Try.prog.cellsOf 122 = 1 := by kernel_rfl
@[go_sem] theorem Try.udef122 : (Try.prog.underlying 122).isSome = true := by kernel_rfl
@[go_sem] theorem Try.zero122 : zeroOf Try.prog 122 = some [.lit ((Go.Value.nilFunc))] := by kernel_rfl
@[go_sem] theorem Try.tsz123 : tszOf Try.prog 123 = some (1, false) := by kernel_rfl
theorem Try.cz123 : Try.prog.cellsOf 123 = 1 := by kernel_rfl
@[go_sem] theorem Try.udef123 : (Try.prog.underlying 123).isSome = true := by kernel_rfl
@[go_sem] theorem Try.zero123 : zeroOf Try.prog 123 = some [.lit ((Go.Value.nilFunc))] := by kernel_rfl
@[go_sem] theorem Try.tsz124 : tszOf Try.prog 124 = some (1, false) := by kernel_rfl
theorem Try.cz124 : Try.prog.cellsOf 124 = 1 := by kernel_rfl
@[go_sem] theorem Try.udef124 : (Try.prog.underlying 124).isSome = true := by kernel_rfl
@[go_sem] theorem Try.zero124 : zeroOf Try.prog 124 = some [.lit ((Go.Value.nilFunc))] := by kernel_rfl
@[go_sem] theorem Try.tsz125 : tszOf Try.prog 125 = some (1, false) := by kernel_rfl
theorem Try.cz125 : Try.prog.cellsOf 125 = 1 := by kernel_rfl
@[go_sem] theorem Try.udef125 : (Try.prog.underlying 125).isSome = true := by kernel_rfl
@[go_sem] theorem Try.zero125 : zeroOf Try.prog 125 = some [.lit ((Go.Value.nilFunc))] := by kernel_rfl
@[go_sem] theorem Try.tsz126 : tszOf Try.prog 126 = some (5, true) := by kernel_rfl
theorem Try.cz126 : Try.prog.cellsOf 126 = 5 := by kernel_rfl
@[go_sem] theorem Try.udef126 : (Try.prog.underlying 126).isSome = true := by kernel_rfl
@[go_sem] theorem Try.zero126 : zeroOf Try.prog 126 = some [.int .i64 0, .int .i64 0, .int .i64 0, .int .i64 0, .int .i64 0] := by kernel_rfl
@[go_sem] theorem Try.pl126 : plOf Try.prog 126 = some [(0, 1), (1, 1), (2, 1), (3, 1), (4, 1)] := by kernel_rfl
@[go_sem] theorem Try.tsz127 : tszOf Try.prog 127 = some (5, true) := by kernel_rfl
theorem Try.cz127 : Try.prog.cellsOf 127 = 5 := by kernel_rfl
@[go_sem] theorem Try.udef127 : (Try.prog.underlying 127).isSome = true := by kernel_rfl
@[go_sem] theorem Try.zero127 : zeroOf Try.prog 127 = some [.int .i64 0, .int .i64 0, .int .i64 0, .int .i64 0, .int .i64 0] := by kernel_rfl
@[go_sem] theorem Try.flatEq127 : flatEq Try.prog 127 = some [.int .i64, .int .i64, .int .i64, .int .i64, .int .i64] := by kernel_rfl
@[go_sem] theorem Try.pl127 : plOf Try.prog 127 = some [(0, 1), (1, 1), (2, 1), (3, 1), (4, 1)] := by kernel_rfl
@[go_sem] theorem Try.fd127_0 : fdOf Try.prog 127 0 = some (0, 1, false) := by kernel_rfl
@[go_sem] theorem Try.fd127_1 : fdOf Try.prog 127 1 = some (1, 1, false) := by kernel_rfl
@[go_sem] theorem Try.fd127_2 : fdOf Try.prog 127 2 = some (2, 1, false) := by kernel_rfl
@[go_sem] theorem Try.fd127_3 : fdOf Try.prog 127 3 = some (3, 1, false) := by kernel_rfl
@[go_sem] theorem Try.fd127_4 : fdOf Try.prog 127 4 = some (4, 1, false) := by kernel_rfl
@[go_sem] theorem Try.tsz128 : tszOf Try.prog 128 = some (1, false) := by kernel_rfl
theorem Try.cz128 : Try.prog.cellsOf 128 = 1 := by kernel_rfl
@[go_sem] theorem Try.udef128 : (Try.prog.underlying 128).isSome = true := by kernel_rfl
@[go_sem] theorem Try.zero128 : zeroOf Try.prog 128 = some [.lit ((Go.Value.nilFunc))] := by kernel_rfl
@[go_sem] theorem Try.tsz129 : tszOf Try.prog 129 = some (5, true) := by kernel_rfl
theorem Try.cz129 : Try.prog.cellsOf 129 = 5 := by kernel_rfl
@[go_sem] theorem Try.udef129 : (Try.prog.underlying 129).isSome = true := by kernel_rfl
@[go_sem] theorem Try.zero129 : zeroOf Try.prog 129 = some [.int .i64 0, .int .i64 0, .int .i64 0, .int .i64 0, .int .i64 0] := by kernel_rfl
@[go_sem] theorem Try.flatEq129 : flatEq Try.prog 129 = some [.int .i64, .int .i64, .int .i64, .int .i64, .int .i64] := by kernel_rfl
@[go_sem] theorem Try.pl129 : plOf Try.prog 129 = some [(0, 1), (1, 1), (2, 1), (3, 1), (4, 1)] := by kernel_rfl
@[go_sem] theorem Try.fd129_0 : fdOf Try.prog 129 0 = some (0, 1, false) := by kernel_rfl
@[go_sem] theorem Try.fd129_1 : fdOf Try.prog 129 1 = some (1, 1, false) := by kernel_rfl
@[go_sem] theorem Try.fd129_2 : fdOf Try.prog 129 2 = some (2, 1, false) := by kernel_rfl
@[go_sem] theorem Try.fd129_3 : fdOf Try.prog 129 3 = some (3, 1, false) := by kernel_rfl
@[go_sem] theorem Try.fd129_4 : fdOf Try.prog 129 4 = some (4, 1, false) := by kernel_rfl
@[go_sem] theorem Try.tsz130 : tszOf Try.prog 130 = some (1, false) := by kernel_rfl
theorem Try.cz130 : Try.prog.cellsOf 130 = 1 := by kernel_rfl
@[go_sem] theorem Try.udef130 : (Try.prog.underlying 130).isSome = true := by kernel_rfl
@[go_sem] theorem Try.zero130 : zeroOf Try.prog 130 = some [.lit ((Go.Value.nilFunc))] := by kernel_rfl
@[go_sem] theorem Try.tsz131 : tszOf Try.prog 131 = some (1, false) := by kernel_rfl
theorem Try.cz131 : Try.prog.cellsOf 131 = 1 := by kernel_rfl
@[go_sem] theorem Try.udef131 : (Try.prog.underlying 131).isSome = true := by kernel_rfl
@[go_sem] theorem Try.zero131 : zeroOf Try.prog 131 = some [.lit ((Go.Value.nilFunc))] := by kernel_rfl
@[go_sem] theorem Try.tsz132 : tszOf Try.prog 132 = some (1, false) := by kernel_rfl
theorem Try.cz132 : Try.prog.cellsOf 132 = 1 := by kernel_rfl
@[go_sem] theorem Try.udef132 : (Try.prog.underlying 132).isSome = true := by kernel_rfl
@[go_sem] theorem Try.zero132 : zeroOf Try.prog 132 = some [.lit ((Go.Value.nilFunc))] := by kernel_rfl
@[go_sem] theorem Try.tsz133 : tszOf Try.prog 133 = some (1, false) := by kernel_rfl
theorem Try.cz133 : Try.prog.cellsOf 133 = 1 := by kernel_rfl
@[go_sem] theorem Try.udef133 : (Try.prog.underlying 133).isSome = true := by kernel_rfl
@[go_sem] theorem Try.zero133 : zeroOf Try.prog 133 = some [.lit ((Go.Value.nilFunc))] := by kernel_rfl
@[go_sem] theorem Try.tsz134 : tszOf Try.prog 134 = some (1, false) := by kernel_rfl
theorem Try.cz134 : Try.prog.cellsOf 134 = 1 := by kernel_rfl
@[go_sem] theorem Try.udef134 : (Try.prog.underlying 134).isSome = true := by kernel_rfl
@[go_sem] theorem Try.zero134 : zeroOf Try.prog 134 = some [.nilsl] := by kernel_rfl
@[go_sem] theorem Try.el134 : elOf Try.prog 134 = some (264, 2, 16) := by kernel_rfl
@[go_sem] theorem Try.isSl134 : isSl Try.prog 134 = true := by kernel_rfl
@[go_sem] theorem Try.tsz135 : tszOf Try.prog 135 = some (4, true) := by kernel_rfl
theorem Try.cz135 : Try.prog.cellsOf 135 = 4 := by kernel_rfl
@[go_sem] theorem Try.udef135 : (Try.prog.underlying 135).isSome = true := by kernel_rfl
@[go_sem] theorem Try.zero135 : zeroOf Try.prog 135 = some [.int .i64 0, .str ByteArray.empty, .nilsl, .int .i64 0] := by kernel_rfl
@[go_sem] theorem Try.pl135 : plOf Try.prog 135 = some [(0, 1), (1, 1), (2, 1), (3, 1)] := by kernel_rfl
@[go_sem] theorem Try.tsz136 : tszOf Try.prog 136 = some (4, true) := by kernel_rfl
theorem Try.cz136 : Try.prog.cellsOf 136 = 4 := by kernel_rfl
@[go_sem] theorem Try.udef136 : (Try.prog.underlying 136).isSome = true := by kernel_rfl
@[go_sem] theorem Try.zero136 : zeroOf Try.prog 136 = some [.int .i64 0, .str ByteArray.empty, .nilsl, .int .i64 0] := by kernel_rfl
@[go_sem] theorem Try.pl136 : plOf Try.prog 136 = some [(0, 1), (1, 1), (2, 1), (3, 1)] := by kernel_rfl
@[go_sem] theorem Try.fd136_0 : fdOf Try.prog 136 0 = some (0, 1, false) := by kernel_rfl
@[go_sem] theorem Try.fd136_1 : fdOf Try.prog 136 1 = some (1, 1, false) := by kernel_rfl
@[go_sem] theorem Try.fd136_2 : fdOf Try.prog 136 2 = some (2, 1, false) := by kernel_rfl
@[go_sem] theorem Try.fd136_3 : fdOf Try.prog 136 3 = some (3, 1, false) := by kernel_rfl
@[go_sem] theorem Try.tsz137 : tszOf Try.prog 137 = some (1, false) := by kernel_rfl
theorem Try.cz137 : Try.prog.cellsOf 137 = 1 := by kernel_rfl
@[go_sem] theorem Try.udef137 : (Try.prog.underlying 137).isSome = true := by kernel_rfl
@[go_sem] theorem Try.zero137 : zeroOf Try.prog 137 = some [.lit ((Go.Value.nilFunc))] := by kernel_rfl
@[go_sem] theorem Try.tsz138 : tszOf Try.prog 138 = some (2, true) := by kernel_rfl
theorem Try.cz138 : Try.prog.cellsOf 138 = 2 := by kernel_rfl
@[go_sem] theorem Try.udef138 : (Try.prog.underlying 138).isSome = true := by kernel_rfl
@[go_sem] theorem Try.zero138 : zeroOf Try.prog 138 = some [.int .i64 0, .int .i64 0] := by kernel_rfl
@[go_sem] theorem Try.pl138 : plOf Try.prog 138 = some [(0, 1), (1, 1)] := by kernel_rfl
@[go_sem] theorem Try.tsz139 : tszOf Try.prog 139 = some (2, true) := by kernel_rfl
theorem Try.cz139 : Try.prog.cellsOf 139 = 2 := by kernel_rfl
@[go_sem] theorem Try.udef139 : (Try.prog.underlying 139).isSome = true := by kernel_rfl
@[go_sem] theorem Try.zero139 : zeroOf Try.prog 139 = some [.int .i64 0, .int .i64 0] := by kernel_rfl
@[go_sem] theorem Try.flatEq139 : flatEq Try.prog 139 = some [.int .i64, .int .i64] := by kernel_rfl
@[go_sem] theorem Try.pl139 : plOf Try.prog 139 = some [(0, 1), (1, 1)] := by kernel_rfl
@[go_sem] theorem Try.fd139_0 : fdOf Try.prog 139 0 = some (0, 1, false) := by kernel_rfl
@[go_sem] theorem Try.fd139_1 : fdOf Try.prog 139 1 = some (1, 1, false) := by kernel_rfl
@[go_sem] theorem Try.tsz140 : tszOf Try.prog 140 = some (1, false) := by kernel_rfl
theorem Try.cz140 : Try.prog.cellsOf 140 = 1 := by kernel_rfl
@[go_sem] theorem Try.udef140 : (Try.prog.underlying 140).isSome = true := by kernel_rfl
@[go_sem] theorem Try.zero140 : zeroOf Try.prog 140 = some [.nilsl] := by kernel_rfl
@[go_sem] theorem Try.el140 : elOf Try.prog 140 = some (139, 2, 16) := by kernel_rfl
@[go_sem] theorem Try.isSl140 : isSl Try.prog 140 = true := by kernel_rfl
@[go_sem] theorem Try.tsz141 : tszOf Try.prog 141 = some (4, true) := by kernel_rfl
theorem Try.cz141 : Try.prog.cellsOf 141 = 4 := by kernel_rfl
@[go_sem] theorem Try.udef141 : (Try.prog.underlying 141).isSome = true := by kernel_rfl
@[go_sem] theorem Try.zero141 : zeroOf Try.prog 141 = some [.int .i64 0, .str ByteArray.empty, .nilsl, .int .i64 0] := by kernel_rfl
@[go_sem] theorem Try.pl141 : plOf Try.prog 141 = some [(0, 1), (1, 1), (2, 1), (3, 1)] := by kernel_rfl
@[go_sem] theorem Try.tsz142 : tszOf Try.prog 142 = some (4, true) := by kernel_rfl
theorem Try.cz142 : Try.prog.cellsOf 142 = 4 := by kernel_rfl
@[go_sem] theorem Try.udef142 : (Try.prog.underlying 142).isSome = true := by kernel_rfl
@[go_sem] theorem Try.zero142 : zeroOf Try.prog 142 = some [.int .i64 0, .str ByteArray.empty, .nilsl, .int .i64 0] := by kernel_rfl
@[go_sem] theorem Try.pl142 : plOf Try.prog 142 = some [(0, 1), (1, 1), (2, 1), (3, 1)] := by kernel_rfl
@[go_sem] theorem Try.fd142_0 : fdOf Try.prog 142 0 = some (0, 1, false) := by kernel_rfl
@[go_sem] theorem Try.fd142_1 : fdOf Try.prog 142 1 = some (1, 1, false) := by kernel_rfl
@[go_sem] theorem Try.fd142_2 : fdOf Try.prog 142 2 = some (2, 1, false) := by kernel_rfl
@[go_sem] theorem Try.fd142_3 : fdOf Try.prog 142 3 = some (3, 1, false) := by kernel_rfl
@[go_sem] theorem Try.tsz143 : tszOf Try.prog 143 = some (1, false) := by kernel_rfl
theorem Try.cz143 : Try.prog.cellsOf 143 = 1 := by kernel_rfl
@[go_sem] theorem Try.udef143 : (Try.prog.underlying 143).isSome = true := by kernel_rfl
@[go_sem] theorem Try.zero143 : zeroOf Try.prog 143 = some [.lit ((Go.Value.nilFunc))] := by kernel_rfl
@[go_sem] theorem Try.tsz144 : tszOf Try.prog 144 = some (1, false) := by kernel_rfl
theorem Try.cz144 : Try.prog.cellsOf 144 = 1 := by kernel_rfl
@[go_sem] theorem Try.udef144 : (Try.prog.underlying 144).isSome = true := by kernel_rfl
@[go_sem] theorem Try.zero144 : zeroOf Try.prog 144 = some [.lit ((Go.Value.nilFunc))] := by kernel_rfl
@[go_sem] theorem Try.tsz145 : tszOf Try.prog 145 = some (1, false) := by kernel_rfl
theorem Try.cz145 : Try.prog.cellsOf 145 = 1 := by kernel_rfl
@[go_sem] theorem Try.udef145 : (Try.prog.underlying 145).isSome = true := by kernel_rfl
@[go_sem] theorem Try.zero145 : zeroOf Try.prog 145 = some [.lit ((Go.Value.nilFunc))] := by kernel_rfl
@[go_sem] theorem Try.tsz146 : tszOf Try.prog 146 = some (1, false) := by kernel_rfl
theorem Try.cz146 : Try.prog.cellsOf 146 = 1 := by kernel_rfl
@[go_sem] theorem Try.udef146 : (Try.prog.underlying 146).isSome = true := by kernel_rfl
@[go_sem] theorem Try.zero146 : zeroOf Try.prog 146 = some [.lit ((Go.Value.nilFunc))] := by kernel_rfl
@[go_sem] theorem Try.tsz147 : tszOf Try.prog 147 = some (1, false) := by kernel_rfl
theorem Try.cz147 : Try.prog.cellsOf 147 = 1 := by kernel_rfl
@[go_sem] theorem Try.udef147 : (Try.prog.underlying 147).isSome = true := by kernel_rfl
@[go_sem] theorem Try.zero147 : zeroOf Try.prog 147 = some [.lit ((Go.Value.nilFunc))] := by kernel_rfl
@[go_sem] theorem Try.tsz148 : tszOf Try.prog 148 = some (1, false) := by kernel_rfl
theorem Try.cz148 : Try.prog.cellsOf 148 = 1 := by kernel_rfl
@[go_sem] theorem Try.udef148 : (Try.prog.underlying 148).isSome = true := by kernel_rfl
@[go_sem] theorem Try.zero148 : zeroOf Try.prog 148 = some [.lit ((Go.Value.nilFunc))] := by kernel_rfl
@[go_sem] theorem Try.tsz149 : tszOf Try.prog 149 = some (1, false) := by kernel_rfl
theorem Try.cz149 : Try.prog.cellsOf 149 = 1 := by kernel_rfl
@[go_sem] theorem Try.udef149 : (Try.prog.underlying 149).isSome = true := by kernel_rfl
@[go_sem] theorem Try.zero149 : zeroOf Try.prog 149 = some [.lit ((Go.Value.nilFunc))] := by kernel_rfl
@[go_sem] theorem Try.tsz150 : tszOf Try.prog 150 = some (1, false) := by kernel_rfl
theorem Try.cz150 : Try.prog.cellsOf 150 = 1 := by kernel_rfl
@[go_sem] theorem Try.udef150 : (Try.prog.underlying 150).isSome = true := by kernel_rfl
@[go_sem] theorem Try.zero150 : zeroOf Try.prog 150 = some [.lit ((Go.Value.nilFunc))] := by kernel_rfl
@[go_sem] theorem Try.tsz151 : tszOf Try.prog 151 = some (1, false) := by kernel_rfl
theorem Try.cz151 : Try.prog.cellsOf 151 = 1 := by kernel_rfl
@[go_sem] theorem Try.udef151 : (Try.prog.underlying 151).isSome = true := by kernel_rfl
@[go_sem] theorem Try.zero151 : zeroOf Try.prog 151 = some [.lit ((Go.Value.nilFunc))] := by kernel_rfl
@[go_sem] theorem Try.tsz152 : tszOf Try.prog 152 = some (1, false) := by kernel_rfl
theorem Try.cz152 : Try.prog.cellsOf 152 = 1 := by kernel_rfl
@[go_sem] theorem Try.udef152 : (Try.prog.underlying 152).isSome = true := by kernel_rfl
@[go_sem] theorem Try.zero152 : zeroOf Try.prog 152 = some [.lit ((Go.Value.nilFunc))] := by kernel_rfl
@[go_sem] theorem Try.tsz153 : tszOf Try.prog 153 = some (1, false) := by kernel_rfl
theorem Try.cz153 : Try.prog.cellsOf 153 = 1 := by kernel_rfl
@[go_sem] theorem Try.udef153 : (Try.prog.underlying 153).isSome = true := by kernel_rfl
@[go_sem] theorem Try.zero153 : zeroOf Try.prog 153 = some [.lit ((Go.Value.nilFunc))] := by kernel_rfl
@[go_sem] theorem Try.tsz154 : tszOf Try.prog 154 = some (1, false) := by kernel_rfl
theorem Try.cz154 : Try.prog.cellsOf 154 = 1 := by kernel_rfl
@[go_sem] theorem Try.udef154 : (Try.prog.underlying 154).isSome = true := by kernel_rfl
@[go_sem] theorem Try.zero154 : zeroOf Try.prog 154 = some [.lit ((Go.Value.nilFunc))] := by kernel_rfl
@[go_sem] theorem Try.tsz155 : tszOf Try.prog 155 = some (1, false) := by kernel_rfl
theorem Try.cz155 : Try.prog.cellsOf 155 = 1 := by kernel_rfl
@[go_sem] theorem Try.udef155 : (Try.prog.underlying 155).isSome = true := by kernel_rfl
@[go_sem] theorem Try.zero155 : zeroOf Try.prog 155 = some [.lit ((Go.Value.nilFunc))] := by kernel_rfl
@[go_sem] theorem Try.tsz156 : tszOf Try.prog 156 = some (1, false) := by kernel_rfl
theorem Try.cz156 : Try.prog.cellsOf 156 = 1 := by kernel_rfl
@[go_sem] theorem Try.udef156 : (Try.prog.underlying 156).isSome = true := by kernel_rfl
@[go_sem] theorem Try.zero156 : zeroOf Try.prog 156 = some [.lit ((Go.Value.nilFunc))] := by kernel_rfl
@[go_sem] theorem Try.tsz157 : tszOf Try.prog 157 = some (1, false) := by kernel_rfl
theorem Try.cz157 : Try.prog.cellsOf 157 = 1 := by kernel_rfl
@[go_sem] theorem Try.udef157 : (Try.prog.underlying 157).isSome = true := by kernel_rfl
@[go_sem] theorem Try.zero157 : zeroOf Try.prog 157 = some [.lit ((Go.Value.nilFunc))] := by kernel_rfl
@[go_sem] theorem Try.tsz158 : tszOf Try.prog 158 = some (7, true) := by kernel_rfl
theorem Try.cz158 : Try.prog.cellsOf 158 = 7 := by kernel_rfl
@[go_sem] theorem Try.udef158 : (Try.prog.underlying 158).isSome = true := by kernel_rfl
@[go_sem] theorem Try.zero158 : zeroOf Try.prog 158 = some [.int .i64 0, .int .i64 0, .int .i64 0, .int .i64 0, .int .i64 0, .int .i64 0, .int .i64 0] := by kernel_rfl
@[go_sem] theorem Try.pl158 : plOf Try.prog 158 = some [(0, 1), (1, 1), (2, 1), (3, 1), (4, 1), (5, 1), (6, 1)] := by kernel_rfl
@[go_sem] theorem Try.tsz159 : tszOf Try.prog 159 = some (7, true) := by kernel_rfl
theorem Try.cz159 : Try.prog.cellsOf 159 = 7 := by kernel_rfl
@[go_sem] theorem Try.udef159 : (Try.prog.underlying 159).isSome = true := by kernel_rfl
@[go_sem] theorem Try.zero159 : zeroOf Try.prog 159 = some [.int .i64 0, .int .i64 0, .int .i64 0, .int .i64 0, .int .i64 0, .int .i64 0, .int .i64 0] := by kernel_rfl
@[go_sem] theorem Try.flatEq159 : flatEq Try.prog 159 = some [.int .i64, .int .i64, .int .i64, .int .i64, .int .i64, .int .i64, .int .i64] := by kernel_rfl
@[go_sem] theorem Try.pl159 : plOf Try.prog 159 = some [(0, 1), (1, 1), (2, 1), (3, 1), (4, 1), (5, 1), (6, 1)] := by kernel_rfl
@[go_sem] theorem Try.fd159_0 : fdOf Try.prog 159 0 = some (0, 1, false) := by kernel_rfl
@[go_sem] theorem Try.fd159_1 : fdOf Try.prog 159 1 = some (1, 1, false) := by kernel_rfl
@[go_sem] theorem Try.fd159_2 : fdOf Try.prog 159 2 = some (2, 1, false) := by kernel_rfl
@[go_sem] theorem Try.fd159_3 : fdOf Try.prog 159 3 = some (3, 1, false) := by kernel_rfl
@[go_sem] theorem Try.fd159_4 : fdOf Try.prog 159 4 = some (4, 1, false) := by kernel_rfl
@[go_sem] theorem Try.fd159_5 : fdOf Try.prog 159 5 = some (5, 1, false) := by kernel_rfl
@[go_sem] theorem Try.fd159_6 : fdOf Try.prog 159 6 = some (6, 1, false) := by kernel_rfl
@[go_sem] theorem Try.tsz160 : tszOf Try.prog 160 = some (1, false) := by kernel_rfl
theorem Try.cz160 : Try.prog.cellsOf 160 = 1 := by kernel_rfl
@[go_sem] theorem Try.udef160 : (Try.prog.underlying 160).isSome = true := by kernel_rfl
@[go_sem] theorem Try.zero160 : zeroOf Try.prog 160 = some [.lit ((Go.Value.nilFunc))] := by kernel_rfl
@[go_sem] theorem Try.tsz161 : tszOf Try.prog 161 = some (1, false) := by kernel_rfl
theorem Try.cz161 : Try.prog.cellsOf 161 = 1 := by kernel_rfl
@[go_sem] theorem Try.udef161 : (Try.prog.underlying 161).isSome = true := by kernel_rfl
@[go_sem] theorem Try.zero161 : zeroOf Try.prog 161 = some [.lit ((Go.Value.nilFunc))] := by kernel_rfl
@[go_sem] theorem Try.tsz162 : tszOf Try.prog 162 = some (7, true) := by kernel_rfl
theorem Try.cz162 : Try.prog.cellsOf 162 = 7 := by kernel_rfl
@[go_sem] theorem Try.udef162 : (Try.prog.underlying 162).isSome = true := by kernel_rfl
@[go_sem] theorem Try.zero162 : zeroOf Try.prog 162 = some [.int .i64 0, .int .i64 0, .int .i64 0, .int .i64 0, .int .i64 0, .int .i64 0, .int .i64 0] := by kernel_rfl
@[go_sem] theorem Try.flatEq162 : flatEq Try.prog 162 = some [.int .i64, .int .i64, .int .i64, .int .i64, .int .i64, .int .i64, .int .i64] := by kernel_rfl
@[go_sem] theorem Try.pl162 : plOf Try.prog 162 = some [(0, 1), (1, 1), (2, 1), (3, 1), (4, 1), (5, 1), (6, 1)] := by kernel_rfl
@[go_sem] theorem Try.fd162_0 : fdOf Try.prog 162 0 = some (0, 1, false) := by kernel_rfl
@[go_sem] theorem Try.fd162_1 : fdOf Try.prog 162 1 = some (1, 1, false) := by kernel_rfl
@[go_sem] theorem Try.fd162_2 : fdOf Try.prog 162 2 = some (2, 1, false) := by kernel_rfl
@[go_sem] theorem Try.fd162_3 : fdOf Try.prog 162 3 = some (3, 1, false) := by kernel_rfl
@[go_sem] theorem Try.fd162_4 : fdOf Try.prog 162 4 = some (4, 1, false) := by kernel_rfl
@[go_sem] theorem Try.fd162_5 : fdOf Try.prog 162 5 = some (5, 1, false) := by kernel_rfl
@[go_sem] theorem Try.fd162_6 : fdOf Try.prog 162 6 = some (6, 1, false) := by kernel_rfl
@[go_sem] theorem Try.tsz163 : tszOf Try.prog 163 = some (1, false) := by kernel_rfl
theorem Try.cz163 : Try.prog.cellsOf 163 = 1 := by kernel_rfl
@[go_sem] theorem Try.udef163 : (Try.prog.underlying 163).isSome = true := by kernel_rfl
@[go_sem] theorem Try.zero163 : zeroOf Try.prog 163 = some [.lit ((Go.Value.nilFunc))] := by kernel_rfl
@[go_sem] theorem Try.tsz164 : tszOf Try.prog 164 = some (1, false) := by kernel_rfl
theorem Try.cz164 : Try.prog.cellsOf 164 = 1 := by kernel_rfl
@[go_sem] theorem Try.udef164 : (Try.prog.underlying 164).isSome = true := by kernel_rfl
@[go_sem] theorem Try.zero164 : zeroOf Try.prog 164 = some [.lit ((Go.Value.nilFunc))] := by kernel_rfl
@[go_sem] theorem Try.tsz165 : tszOf Try.prog 165 = some (1, false) := by kernel_rfl
theorem Try.cz165 : Try.prog.cellsOf 165 = 1 := by kernel_rfl
@[go_sem] theorem Try.udef165 : (Try.prog.underlying 165).isSome = true := by kernel_rfl
@[go_sem] theorem Try.zero165 : zeroOf Try.prog 165 = some [.lit ((Go.Value.nilFunc))] := by kernel_rfl
@[go_sem] theorem Try.tsz166 : tszOf Try.prog 166 = some (1, false) := by kernel_rfl
theorem Try.cz166 : Try.prog.cellsOf 166 = 1 := by kernel_rfl
@[go_sem] theorem Try.udef166 : (Try.prog.underlying 166).isSome = true := by kernel_rfl
@[go_sem] theorem Try.zero166 : zeroOf Try.prog 166 = some [.lit ((Go.Value.nilFunc))] := by kernel_rfl
@[go_sem] theorem Try.tsz167 : tszOf Try.prog 167 = some (1, false) := by kernel_rfl
theorem Try.cz167 : Try.prog.cellsOf 167 = 1 := by kernel_rfl
@[go_sem] theorem Try.udef167 : (Try.prog.underlying 167).isSome = true := by kernel_rfl
@[go_sem] theorem Try.zero167 : zeroOf Try.prog 167 = some [.lit ((Go.Value.nilFunc))] := by kernel_rfl
@[go_sem] theorem Try.tsz168 : tszOf Try.prog 168 = some (1, false) := by kernel_rfl
theorem Try.cz168 : Try.prog.cellsOf 168 = 1 := by kernel_rfl
@[go_sem] theorem Try.udef168 : (Try.prog.underlying 168).isSome = true := by kernel_rfl
@[go_sem] theorem Try.zero168 : zeroOf Try.prog 168 = some [.lit ((Go.Value.nilFunc))] := by kernel_rfl
@[go_sem] theorem Try.tsz169 : tszOf Try.prog 169 = some (1, false) := by kernel_rfl
theorem Try.cz169 : Try.prog.cellsOf 169 = 1 := by kernel_rfl
@[go_sem] theorem Try.udef169 : (Try.prog.underlying 169).isSome = true := by kernel_rfl
@[go_sem] theorem Try.zero169 : zeroOf Try.prog 169 = some [.lit ((Go.Value.nilFunc))] := by kernel_rfl
@[go_sem] theorem Try.tsz170 : tszOf Try.prog 170 = some (1, false) := by kernel_rfl
theorem Try.cz170 : Try.prog.cellsOf 170 = 1 := by kernel_rfl
@[go_sem] theorem Try.udef170 : (Try.prog.underlying 170).isSome = true := by kernel_rfl
@[go_sem] theorem Try.zero170 : zeroOf Try.prog 170 = some [.lit ((Go.Value.nilFunc))] := by kernel_rfl
@[go_sem] theorem Try.tsz171 : tszOf Try.prog 171 = some (1, false) := by kernel_rfl
theorem Try.cz171 : Try.prog.cellsOf 171 = 1 := by kernel_rfl
@[go_sem] theorem Try.udef171 : (Try.prog.underlying 171).isSome = true := by kernel_rfl
@[go_sem] theorem Try.zero171 : zeroOf Try.prog 171 = some [.lit ((Go.Value.pointer none))] := by kernel_rfl
@[go_sem] theorem Try.tsz172 : tszOf Try.prog 172 = some (1, false) := by kernel_rfl
theorem Try.cz172 : Try.prog.cellsOf 172 = 1 := by kernel_rfl
@[go_sem] theorem Try.udef172 : (Try.prog.underlying 172).isSome = true := by kernel_rfl
@[go_sem] theorem Try.zero172 : zeroOf Try.prog 172 = some [.int .u64 0] := by kernel_rfl
@[go_sem] theorem Try.isInt172 : isIntT Try.prog 172 = some .u64 := by kernel_rfl
@[go_sem] theorem Try.tsz173 : tszOf Try.prog 173 = some (3, true) := by kernel_rfl
theorem Try.cz173 : Try.prog.cellsOf 173 = 3 := by kernel_rfl
@[go_sem] theorem Try.udef173 : (Try.prog.underlying 173).isSome = true := by kernel_rfl
@[go_sem] theorem Try.zero173 : zeroOf Try.prog 173 = some [.nilsl, .int .i64 0, .int .u64 0] := by kernel_rfl
@[go_sem] theorem Try.pl173 : plOf Try.prog 173 = some [(0, 1), (1, 1), (2, 1)] := by kernel_rfl
@[go_sem] theorem Try.tsz174 : tszOf Try.prog 174 = some (3, true) := by kernel_rfl
theorem Try.cz174 : Try.prog.cellsOf 174 = 3 := by kernel_rfl
@[go_sem] theorem Try.udef174 : (Try.prog.underlying 174).isSome = true := by kernel_rfl
@[go_sem] theorem Try.zero174 : zeroOf Try.prog 174 = some [.nilsl, .int .i64 0, .int .u64 0] := by kernel_rfl
@[go_sem] theorem Try.pl174 : plOf Try.prog 174 = some [(0, 1), (1, 1), (2, 1)] := by kernel_rfl
@[go_sem] theorem Try.fd174_0 : fdOf Try.prog 174 0 = some (0, 1, false) := by kernel_rfl
@[go_sem] theorem Try.fd174_1 : fdOf Try.prog 174 1 = some (1, 1, false) := by kernel_rfl
@[go_sem] theorem Try.fd174_2 : fdOf Try.prog 174 2 = some (2, 1, false) := by kernel_rfl
@[go_sem] theorem Try.tsz175 : tszOf Try.prog 175 = some (1, false) := by kernel_rfl
theorem Try.cz175 : Try.prog.cellsOf 175 = 1 := by kernel_rfl
@[go_sem] theorem Try.udef175 : (Try.prog.underlying 175).isSome = true := by kernel_rfl
@[go_sem] theorem Try.zero175 : zeroOf Try.prog 175 = some [.lit ((Go.Value.nilFunc))] := by kernel_rfl
@[go_sem] theorem Try.tsz176 : tszOf Try.prog 176 = some (1, false) := by kernel_rfl
theorem Try.cz176 : Try.prog.cellsOf 176 = 1 := by kernel_rfl
@[go_sem] theorem Try.udef176 : (Try.prog.underlying 176).isSome = true := by kernel_rfl
@[go_sem] theorem Try.zero176 : zeroOf Try.prog 176 = some [.lit ((Go.Value.nilFunc))] := by kernel_rfl
@[go_sem] theorem Try.tsz177 : tszOf Try.prog 177 = some (1, false) := by kernel_rfl
theorem Try.cz177 : Try.prog.cellsOf 177 = 1 := by kernel_rfl
@[go_sem] theorem Try.udef177 : (Try.prog.underlying 177).isSome = true := by kernel_rfl
@[go_sem] theorem Try.zero177 : zeroOf Try.prog 177 = some [.lit ((Go.Value.nilFunc))] := by kernel_rfl
@[go_sem] theorem Try.tsz178 : tszOf Try.prog 178 = some (1, false) := by kernel_rfl
theorem Try.cz178 : Try.prog.cellsOf 178 = 1 := by kernel_rfl
@[go_sem] theorem Try.udef178 : (Try.prog.underlying 178).isSome = true := by kernel_rfl
@[go_sem] theorem Try.zero178 : zeroOf Try.prog 178 = some [.lit ((Go.Value.nilFunc))] := by kernel_rfl
@[go_sem] theorem Try.tsz179 : tszOf Try.prog 179 = some (1, false) := by kernel_rfl
theorem Try.cz179 : Try.prog.cellsOf 179 = 1 := by kernel_rfl
@[go_sem] theorem Try.udef179 : (Try.prog.underlying 179).isSome = true := by kernel_rfl
@[go_sem] theorem Try.zero179 : zeroOf Try.prog 179 = some [.lit ((Go.Value.nilFunc))] := by kernel_rfl
@[go_sem] theorem Try.tsz180 : tszOf Try.prog 180 = some (1, false) := by kernel_rfl
theorem Try.cz180 : Try.prog.cellsOf 180 = 1 := by kernel_rfl
@[go_sem] theorem Try.udef180 : (Try.prog.underlying 180).isSome = true := by kernel_rfl
@[go_sem] theorem Try.zero180 : zeroOf Try.prog 180 = some [.lit ((Go.Value.nilFunc))] := by kernel_rfl
@[go_sem] theorem Try.tsz181 : tszOf Try.prog 181 = some (1, false) := by kernel_rfl
theorem Try.cz181 : Try.prog.cellsOf 181 = 1 := by kernel_rfl
@[go_sem] theorem Try.udef181 : (Try.prog.underlying 181).isSome = true := by kernel_rfl
@[go_sem] theorem Try.zero181 : zeroOf Try.prog 181 = some [.lit ((Go.Value.nilFunc))] := by kernel_rfl
@[go_sem] theorem Try.tsz182 : tszOf Try.prog 182 = some (3, true) := by kernel_rfl
theorem Try.cz182 : Try.prog.cellsOf 182 = 3 := by kernel_rfl
@[go_sem] theorem Try.udef182 : (Try.prog.underlying 182).isSome = true := by kernel_rfl
@[go_sem] theorem Try.zero182 : zeroOf Try.prog 182 = some [.int .i64 0, .bool false, .int .i64 0] := by kernel_rfl
@[go_sem] theorem Try.pl182 : plOf Try.prog 182 = some [(0, 1), (1, 1), (2, 1)] := by kernel_rfl
@[go_sem] theorem Try.tsz183 : tszOf Try.prog 183 = some (3, true) := by kernel_rfl
theorem Try.cz183 : Try.prog.cellsOf 183 = 3 := by kernel_rfl
@[go_sem] theorem Try.udef183 : (Try.prog.underlying 183).isSome = true := by kernel_rfl
@[go_sem] theorem Try.zero183 : zeroOf Try.prog 183 = some [.int .i64 0, .bool false, .int .i64 0] := by kernel_rfl
@[go_sem] theorem Try.flatEq183 : flatEq Try.prog 183 = some [.int .i64, .bool, .int .i64] := by kernel_rfl
@[go_sem] theorem Try.pl183 : plOf Try.prog 183 = some [(0, 1), (1, 1), (2, 1)] := by kernel_rfl
@[go_sem] theorem Try.fd183_0 : fdOf Try.prog 183 0 = some (0, 1, false) := by kernel_rfl
@[go_sem] theorem Try.fd183_1 : fdOf Try.prog 183 1 = some (1, 1, false) := by kernel_rfl
@[go_sem] theorem Try.fd183_2 : fdOf Try.prog 183 2 = some (2, 1, false) := by kernel_rfl
@[go_sem] theorem Try.tsz184 : tszOf Try.prog 184 = some (1, false) := by kernel_rfl
theorem Try.cz184 : Try.prog.cellsOf 184 = 1 := by kernel_rfl
@[go_sem] theorem Try.udef184 : (Try.prog.underlying 184).isSome = true := by kernel_rfl
@[go_sem] theorem Try.zero184 : zeroOf Try.prog 184 = some [.lit ((Go.Value.nilFunc))] := by kernel_rfl
@[go_sem] theorem Try.tsz185 : tszOf Try.prog 185 = some (1, false) := by kernel_rfl
theorem Try.cz185 : Try.prog.cellsOf 185 = 1 := by kernel_rfl
@[go_sem] theorem Try.udef185 : (Try.prog.underlying 185).isSome = true := by kernel_rfl
@[go_sem] theorem Try.zero185 : zeroOf Try.prog 185 = some [.lit ((Go.Value.nilFunc))] := by kernel_rfl
@[go_sem] theorem Try.tsz186 : tszOf Try.prog 186 = some (1, false) := by kernel_rfl
theorem Try.cz186 : Try.prog.cellsOf 186 = 1 := by kernel_rfl
@[go_sem] theorem Try.udef186 : (Try.prog.underlying 186).isSome = true := by kernel_rfl
@[go_sem] theorem Try.zero186 : zeroOf Try.prog 186 = some [.lit ((Go.Value.nilFunc))] := by kernel_rfl
@[go_sem] theorem Try.tsz187 : tszOf Try.prog 187 = some (1, false) := by kernel_rfl
theorem Try.cz187 : Try.prog.cellsOf 187 = 1 := by kernel_rfl
@[go_sem] theorem Try.udef187 : (Try.prog.underlying 187).isSome = true := by kernel_rfl
@[go_sem] theorem Try.zero187 : zeroOf Try.prog 187 = some [.lit ((Go.Value.nilFunc))] := by kernel_rfl
@[go_sem] theorem Try.tsz188 : tszOf Try.prog 188 = some (1, false) := by kernel_rfl
theorem Try.cz188 : Try.prog.cellsOf 188 = 1 := by kernel_rfl
@[go_sem] theorem Try.udef188 : (Try.prog.underlying 188).isSome = true := by kernel_rfl
@[go_sem] theorem Try.zero188 : zeroOf Try.prog 188 = some [.lit ((Go.Value.nilFunc))] := by kernel_rfl
@[go_sem] theorem Try.tsz189 : tszOf Try.prog 189 = some (1, false) := by kernel_rfl
theorem Try.cz189 : Try.prog.cellsOf 189 = 1 := by kernel_rfl
@[go_sem] theorem Try.udef189 : (Try.prog.underlying 189).isSome = true := by kernel_rfl
@[go_sem] theorem Try.zero189 : zeroOf Try.prog 189 = some [.lit ((Go.Value.nilFunc))] := by kernel_rfl
@[go_sem] theorem Try.tsz190 : tszOf Try.prog 190 = some (1, false) := by kernel_rfl
theorem Try.cz190 : Try.prog.cellsOf 190 = 1 := by kernel_rfl
@[go_sem] theorem Try.udef190 : (Try.prog.underlying 190).isSome = true := by kernel_rfl
@[go_sem] theorem Try.zero190 : zeroOf Try.prog 190 = some [.lit ((Go.Value.nilFunc))] := by kernel_rfl
@[go_sem] theorem Try.tsz191 : tszOf Try.prog 191 = some (1, false) := by kernel_rfl
theorem Try.cz191 : Try.prog.cellsOf 191 = 1 := by kernel_rfl
@[go_sem] theorem Try.udef191 : (Try.prog.underlying 191).isSome = true := by kernel_rfl
@[go_sem] theorem Try.zero191 : zeroOf Try.prog 191 = some [.lit ((Go.Value.nilFunc))] := by kernel_rfl
@[go_sem] theorem Try.tsz192 : tszOf Try.prog 192 = some (1, false) := by kernel_rfl
theorem Try.cz192 : Try.prog.cellsOf 192 = 1 := by kernel_rfl
@[go_sem] theorem Try.udef192 : (Try.prog.underlying 192).isSome = true := by kernel_rfl
@[go_sem] theorem Try.zero192 : zeroOf Try.prog 192 = some [.lit ((Go.Value.nilFunc))] := by kernel_rfl
@[go_sem] theorem Try.tsz193 : tszOf Try.prog 193 = some (1, false) := by kernel_rfl
theorem Try.cz193 : Try.prog.cellsOf 193 = 1 := by kernel_rfl
@[go_sem] theorem Try.udef193 : (Try.prog.underlying 193).isSome = true := by kernel_rfl
@[go_sem] theorem Try.zero193 : zeroOf Try.prog 193 = some [.lit ((Go.Value.nilFunc))] := by kernel_rfl
@[go_sem] theorem Try.tsz194 : tszOf Try.prog 194 = some (1, false) := by kernel_rfl
theorem Try.cz194 : Try.prog.cellsOf 194 = 1 := by kernel_rfl
@[go_sem] theorem Try.udef194 : (Try.prog.underlying 194).isSome = true := by kernel_rfl
@[go_sem] theorem Try.zero194 : zeroOf Try.prog 194 = some [.lit ((Go.Value.nilFunc))] := by kernel_rfl
@[go_sem] theorem Try.tsz195 : tszOf Try.prog 195 = some (1, false) := by kernel_rfl
theorem Try.cz195 : Try.prog.cellsOf 195 = 1 := by kernel_rfl
@[go_sem] theorem Try.udef195 : (Try.prog.underlying 195).isSome = true := by kernel_rfl
@[go_sem] theorem Try.zero195 : zeroOf Try.prog 195 = some [.lit ((Go.Value.nilFunc))] := by kernel_rfl
@[go_sem] theorem Try.tsz196 : tszOf Try.prog 196 = some (1, false) := by kernel_rfl
theorem Try.cz196 : Try.prog.cellsOf 196 = 1 := by kernel_rfl
@[go_sem] theorem Try.udef196 : (Try.prog.underlying 196).isSome = true := by kernel_rfl
@[go_sem] theorem Try.zero196 : zeroOf Try.prog 196 = some [.lit ((Go.Value.nilFunc))] := by kernel_rfl
@[go_sem] theorem Try.tsz197 : tszOf Try.prog 197 = some (1, false) := by kernel_rfl
theorem Try.cz197 : Try.prog.cellsOf 197 = 1 := by kernel_rfl
@[go_sem] theorem Try.udef197 : (Try.prog.underlying 197).isSome = true := by kernel_rfl
@[go_sem] theorem Try.zero197 : zeroOf Try.prog 197 = some [.lit ((Go.Value.nilFunc))] := by kernel_rfl
@[go_sem] theorem Try.tsz198 : tszOf Try.prog 198 = some (1, false) := by kernel_rfl
theorem Try.cz198 : Try.prog.cellsOf 198 = 1 := by kernel_rfl
@[go_sem] theorem Try.udef198 : (Try.prog.underlying 198).isSome = true := by kernel_rfl
@[go_sem] theorem Try.zero198 : zeroOf Try.prog 198 = some [.lit ((Go.Value.nilFunc))] := by kernel_rfl
@[go_sem] theorem Try.tsz199 : tszOf Try.prog 199 = some (1, false) := by kernel_rfl
theorem Try.cz199 : Try.prog.cellsOf 199 = 1 := by kernel_rfl
@[go_sem] theorem Try.udef199 : (Try.prog.underlying 199).isSome = true := by kernel_rfl
@[go_sem] theorem Try.zero199 : zeroOf Try.prog 199 = some [.lit ((Go.Value.nilFunc))] := by kernel_rfl
@[go_sem] theorem Try.tsz200 : tszOf Try.prog 200 = some (1, false) := by kernel_rfl
theorem Try.cz200 : Try.prog.cellsOf 200 = 1 := by kernel_rfl
@[go_sem] theorem Try.udef200 : (Try.prog.underlying 200).isSome = true := by kernel_rfl
@[go_sem] theorem Try.zero200 : zeroOf Try.prog 200 = some [.lit ((Go.Value.nilFunc))] := by kernel_rfl
@[go_sem] theorem Try.tsz201 : tszOf Try.prog 201 = some (1, false) := by kernel_rfl
theorem Try.cz201 : Try.prog.cellsOf 201 = 1 := by kernel_rfl
@[go_sem] theorem Try.udef201 : (Try.prog.underlying 201).isSome = true := by kernel_rfl
@[go_sem] theorem Try.zero201 : zeroOf Try.prog 201 = some [.lit ((Go.Value.nilFunc))] := by kernel_rfl
@[go_sem] theorem Try.tsz202 : tszOf Try.prog 202 = some (1, false) := by kernel_rfl
theorem Try.cz202 : Try.prog.cellsOf 202 = 1 := by kernel_rfl
@[go_sem] theorem Try.udef202 : (Try.prog.underlying 202).isSome = true := by kernel_rfl
@[go_sem] theorem Try.zero202 : zeroOf Try.prog 202 = some [.lit ((Go.Value.nilFunc))] := by kernel_rfl
@[go_sem] theorem Try.tsz203 : tszOf Try.prog 203 = some (1, false) := by kernel_rfl
theorem Try.cz203 : Try.prog.cellsOf 203 = 1 := by kernel_rfl
@[go_sem] theorem Try.udef203 : (Try.prog.underlying 203).isSome = true := by kernel_rfl
@[go_sem] theorem Try.zero203 : zeroOf Try.prog 203 = some [.lit ((Go.Value.nilFunc))] := by kernel_rfl
@[go_sem] theorem Try.tsz204 : tszOf Try.prog 204 = some (1, false) := by kernel_rfl
theorem Try.cz204 : Try.prog.cellsOf 204 = 1 := by kernel_rfl
@[go_sem] theorem Try.udef204 : (Try.prog.underlying 204).isSome = true := by kernel_rfl
@[go_sem] theorem Try.zero204 : zeroOf Try.prog 204 = some [.lit ((Go.Value.nilFunc))] := by kernel_rfl
@[go_sem] theorem Try.tsz205 : tszOf Try.prog 205 = some (1, false) := by kernel_rfl
theorem Try.cz205 : Try.prog.cellsOf 205 = 1 := by kernel_rfl
@[go_sem] theorem Try.udef205 : (Try.prog.underlying 205).isSome = true := by kernel_rfl
@[go_sem] theorem Try.zero205 : zeroOf Try.prog 205 = some [.lit ((Go.Value.nilFunc))] := by kernel_rfl
@[go_sem] theorem Try.tsz206 : tszOf Try.prog 206 = some (1, false) := by kernel_rfl
theorem Try.cz206 : Try.prog.cellsOf 206 = 1 := by kernel_rfl
@[go_sem] theorem Try.udef206 : (Try.prog.underlying 206).isSome = true := by kernel_rfl
@[go_sem] theorem Try.zero206 : zeroOf Try.prog 206 = some [.lit ((Go.Value.nilFunc))] := by kernel_rfl
@[go_sem] theorem Try.tsz207 : tszOf Try.prog 207 = some (1, false) := by kernel_rfl
theorem Try.cz207 : Try.prog.cellsOf 207 = 1 := by kernel_rfl
@[go_sem] theorem Try.udef207 : (Try.prog.underlying 207).isSome = true := by kernel_rfl
@[go_sem] theorem Try.zero207 : zeroOf Try.prog 207 = some [.lit ((Go.Value.nilFunc))] := by kernel_rfl
@[go_sem] theorem Try.tsz208 : tszOf Try.prog 208 = some (1, false) := by kernel_rfl
theorem Try.cz208 : Try.prog.cellsOf 208 = 1 := by kernel_rfl
@[go_sem] theorem Try.udef208 : (Try.prog.underlying 208).isSome = true := by kernel_rfl
@[go_sem] theorem Try.zero208 : zeroOf Try.prog 208 = some [.lit ((Go.Value.nilFunc))] := by kernel_rfl
@[go_sem] theorem Try.tsz209 : tszOf Try.prog 209 = some (1, false) := by kernel_rfl
theorem Try.cz209 : Try.prog.cellsOf 209 = 1 := by kernel_rfl
@[go_sem] theorem Try.udef209 : (Try.prog.underlying 209).isSome = true := by kernel_rfl
@[go_sem] theorem Try.zero209 : zeroOf Try.prog 209 = some [.lit ((Go.Value.nilFunc))] := by kernel_rfl
@[go_sem] theorem Try.tsz210 : tszOf Try.prog 210 = some (1, false) := by kernel_rfl
theorem Try.cz210 : Try.prog.cellsOf 210 = 1 := by kernel_rfl
@[go_sem] theorem Try.udef210 : (Try.prog.underlying 210).isSome = true := by kernel_rfl
@[go_sem] theorem Try.zero210 : zeroOf Try.prog 210 = some [.lit ((Go.Value.nilFunc))] := by kernel_rfl
@[go_sem] theorem Try.tsz211 : tszOf Try.prog 211 = some (1, false) := by kernel_rfl
theorem Try.cz211 : Try.prog.cellsOf 211 = 1 := by kernel_rfl
@[go_sem] theorem Try.udef211 : (Try.prog.underlying 211).isSome = true := by kernel_rfl
@[go_sem] theorem Try.zero211 : zeroOf Try.prog 211 = some [.lit ((Go.Value.nilFunc))] := by kernel_rfl
@[go_sem] theorem Try.tsz212 : tszOf Try.prog 212 = some (1, false) := by kernel_rfl
theorem Try.cz212 : Try.prog.cellsOf 212 = 1 := by kernel_rfl
@[go_sem] theorem Try.udef212 : (Try.prog.underlying 212).isSome = true := by kernel_rfl
@[go_sem] theorem Try.zero212 : zeroOf Try.prog 212 = some [.lit ((Go.Value.nilFunc))] := by kernel_rfl
@[go_sem] theorem Try.tsz213 : tszOf Try.prog 213 = some (1, false) := by kernel_rfl
theorem Try.cz213 : Try.prog.cellsOf 213 = 1 := by kernel_rfl
@[go_sem] theorem Try.udef213 : (Try.prog.underlying 213).isSome = true := by kernel_rfl
@[go_sem] theorem Try.zero213 : zeroOf Try.prog 213 = some [.lit ((Go.Value.nilFunc))] := by kernel_rfl
@[go_sem] theorem Try.tsz214 : tszOf Try.prog 214 = some (1, false) := by kernel_rfl
theorem Try.cz214 : Try.prog.cellsOf 214 = 1 := by kernel_rfl
@[go_sem] theorem Try.udef214 : (Try.prog.underlying 214).isSome = true := by kernel_rfl
@[go_sem] theorem Try.zero214 : zeroOf Try.prog 214 = some [.lit ((Go.Value.nilFunc))] := by kernel_rfl
@[go_sem] theorem Try.tsz215 : tszOf Try.prog 215 = some (1, false) := by kernel_rfl
theorem Try.cz215 : Try.prog.cellsOf 215 = 1 := by kernel_rfl
@[go_sem] theorem Try.udef215 : (Try.prog.underlying 215).isSome = true := by kernel_rfl
@[go_sem] theorem Try.zero215 : zeroOf Try.prog 215 = some [.lit ((Go.Value.nilFunc))] := by kernel_rfl
@[go_sem] theorem Try.tsz216 : tszOf Try.prog 216 = some (1, false) := by kernel_rfl
theorem Try.cz216 : Try.prog.cellsOf 216 = 1 := by kernel_rfl
@[go_sem] theorem Try.udef216 : (Try.prog.underlying 216).isSome = true := by kernel_rfl
@[go_sem] theorem Try.zero216 : zeroOf Try.prog 216 = some [.lit ((Go.Value.nilFunc))] := by kernel_rfl
@[go_sem] theorem Try.tsz217 : tszOf Try.prog 217 = some (1, false) := by kernel_rfl
theorem Try.cz217 : Try.prog.cellsOf 217 = 1 := by kernel_rfl
@[go_sem] theorem Try.udef217 : (Try.prog.underlying 217).isSome = true := by kernel_rfl
@[go_sem] theorem Try.zero217 : zeroOf Try.prog 217 = some [.lit ((Go.Value.nilFunc))] := by kernel_rfl
@[go_sem] theorem Try.tsz218 : tszOf Try.prog 218 = some (1, false) := by kernel_rfl
theorem Try.cz218 : Try.prog.cellsOf 218 = 1 := by kernel_rfl
@[go_sem] theorem Try.udef218 : (Try.prog.underlying 218).isSome = true := by kernel_rfl
@[go_sem] theorem Try.zero218 : zeroOf Try.prog 218 = some [.nilsl] := by kernel_rfl
@[go_sem] theorem Try.el218 : elOf Try.prog 218 = some (140, 1, 24) := by kernel_rfl
@[go_sem] theorem Try.isSl218 : isSl Try.prog 218 = true := by kernel_rfl
@[go_sem] theorem Try.tsz219 : tszOf Try.prog 219 = some (1, false) := by kernel_rfl
theorem Try.cz219 : Try.prog.cellsOf 219 = 1 := by kernel_rfl
@[go_sem] theorem Try.udef219 : (Try.prog.underlying 219).isSome = true := by kernel_rfl
@[go_sem] theorem Try.zero219 : zeroOf Try.prog 219 = some [.lit ((Go.Value.nilFunc))] := by kernel_rfl
@[go_sem] theorem Try.tsz220 : tszOf Try.prog 220 = some (1, false) := by kernel_rfl
theorem Try.cz220 : Try.prog.cellsOf 220 = 1 := by kernel_rfl
@[go_sem] theorem Try.udef220 : (Try.prog.underlying 220).isSome = true := by kernel_rfl
@[go_sem] theorem Try.zero220 : zeroOf Try.prog 220 = some [.lit ((Go.Value.nilFunc))] := by kernel_rfl
@[go_sem] theorem Try.tsz221 : tszOf Try.prog 221 = some (1, false) := by kernel_rfl
theorem Try.cz221 : Try.prog.cellsOf 221 = 1 := by kernel_rfl
@[go_sem] theorem Try.udef221 : (Try.prog.underlying 221).isSome = true := by kernel_rfl
@[go_sem] theorem Try.zero221 : zeroOf Try.prog 221 = some [.lit ((Go.Value.nilFunc))] := by kernel_rfl
@[go_sem] theorem Try.tsz222 : tszOf Try.prog 222 = some (1, false) := by kernel_rfl
theorem Try.cz222 : Try.prog.cellsOf 222 = 1 := by kernel_rfl
@[go_sem] theorem Try.udef222 : (Try.prog.underlying 222).isSome = true := by kernel_rfl
@[go_sem] theorem Try.zero222 : zeroOf Try.prog 222 = some [.lit ((Go.Value.nilFunc))] := by kernel_rfl
@[go_sem] theorem Try.tsz223 : tszOf Try.prog 223 = some (2, true) := by kernel_rfl
theorem Try.cz223 : Try.prog.cellsOf 223 = 2 := by kernel_rfl
@[go_sem] theorem Try.udef223 : (Try.prog.underlying 223).isSome = true := by kernel_rfl
@[go_sem] theorem Try.zero223 : zeroOf Try.prog 223 = some [.int .i64 0, .int .i64 0] := by kernel_rfl
@[go_sem] theorem Try.pl223 : plOf Try.prog 223 = some [(0, 1), (1, 1)] := by kernel_rfl
@[go_sem] theorem Try.tsz224 : tszOf Try.prog 224 = some (2, true) := by kernel_rfl
theorem Try.cz224 : Try.prog.cellsOf 224 = 2 := by kernel_rfl
@[go_sem] theorem Try.udef224 : (Try.prog.underlying 224).isSome = true := by kernel_rfl
@[go_sem] theorem Try.zero224 : zeroOf Try.prog 224 = some [.int .i64 0, .int .i64 0] := by kernel_rfl
@[go_sem] theorem Try.flatEq224 : flatEq Try.prog 224 = some [.int .i64, .int .i64] := by kernel_rfl
@[go_sem] theorem Try.pl224 : plOf Try.prog 224 = some [(0, 1), (1, 1)] := by kernel_rfl
@[go_sem] theorem Try.fd224_0 : fdOf Try.prog 224 0 = some (0, 1, false) := by kernel_rfl
@[go_sem] theorem Try.fd224_1 : fdOf Try.prog 224 1 = some (1, 1, false) := by kernel_rfl
@[go_sem] theorem Try.tsz225 : tszOf Try.prog 225 = some (1, false) := by kernel_rfl
theorem Try.cz225 : Try.prog.cellsOf 225 = 1 := by kernel_rfl
@[go_sem] theorem Try.udef225 : (Try.prog.underlying 225).isSome = true := by kernel_rfl
@[go_sem] theorem Try.zero225 : zeroOf Try.prog 225 = some [.lit ((Go.Value.nilFunc))] := by kernel_rfl
@[go_sem] theorem Try.tsz226 : tszOf Try.prog 226 = some (1, false) := by kernel_rfl
theorem Try.cz226 : Try.prog.cellsOf 226 = 1 := by kernel_rfl
@[go_sem] theorem Try.udef226 : (Try.prog.underlying 226).isSome = true := by kernel_rfl
@[go_sem] theorem Try.zero226 : zeroOf Try.prog 226 = some [.lit ((Go.Value.nilFunc))] := by kernel_rfl
@[go_sem] theorem Try.tsz227 : tszOf Try.prog 227 = some (1, false) := by kernel_rfl
theorem Try.cz227 : Try.prog.cellsOf 227 = 1 := by kernel_rfl
@[go_sem] theorem Try.udef227 : (Try.prog.underlying 227).isSome = true := by kernel_rfl
@[go_sem] theorem Try.zero227 : zeroOf Try.prog 227 = some [.lit ((Go.Value.nilFunc))] := by kernel_rfl
@[go_sem] theorem Try.tsz228 : tszOf Try.prog 228 = some (1, false) := by kernel_rfl
theorem Try.cz228 : Try.prog.cellsOf 228 = 1 := by kernel_rfl
@[go_sem] theorem Try.udef228 : (Try.prog.underlying 228).isSome = true := by kernel_rfl
@[go_sem] theorem Try.zero228 : zeroOf Try.prog 228 = some [.lit ((Go.Value.nilFunc))] := by kernel_rfl
@[go_sem] theorem Try.tsz229 : tszOf Try.prog 229 = some (2, true) := by kernel_rfl
theorem Try.cz229 : Try.prog.cellsOf 229 = 2 := by kernel_rfl
@[go_sem] theorem Try.udef229 : (Try.prog.underlying 229).isSome = true := by kernel_rfl
@[go_sem] theorem Try.zero229 : zeroOf Try.prog 229 = some [.int .i64 0, .int .i64 0] := by kernel_rfl
@[go_sem] theorem Try.flatEq229 : flatEq Try.prog 229 = some [.int .i64, .int .i64] := by kernel_rfl
@[go_sem] theorem Try.pl229 : plOf Try.prog 229 = some [(0, 1), (1, 1)] := by kernel_rfl
@[go_sem] theorem Try.fd229_0 : fdOf Try.prog 229 0 = some (0, 1, false) := by kernel_rfl
@[go_sem] theorem Try.fd229_1 : fdOf Try.prog 229 1 = some (1, 1, false) := by kernel_rfl
@[go_sem] theorem Try.tsz230 : tszOf Try.prog 230 = some (1, false) := by kernel_rfl
theorem Try.cz230 : Try.prog.cellsOf 230 = 1 := by kernel_rfl
@[go_sem] theorem Try.udef230 : (Try.prog.underlying 230).isSome = true := by kernel_rfl
@[go_sem] theorem Try.zero230 : zeroOf Try.prog 230 = some [.lit ((Go.Value.nilFunc))] := by kernel_rfl
@[go_sem] theorem Try.tsz231 : tszOf Try.prog 231 = some (1, false) := by kernel_rfl
theorem Try.cz231 : Try.prog.cellsOf 231 = 1 := by kernel_rfl
@[go_sem] theorem Try.udef231 : (Try.prog.underlying 231).isSome = true := by kernel_rfl
@[go_sem] theorem Try.zero231 : zeroOf Try.prog 231 = some [.lit ((Go.Value.nilFunc))] := by kernel_rfl
@[go_sem] theorem Try.tsz232 : tszOf Try.prog 232 = some (1, false) := by kernel_rfl
theorem Try.cz232 : Try.prog.cellsOf 232 = 1 := by kernel_rfl
@[go_sem] theorem Try.udef232 : (Try.prog.underlying 232).isSome = true := by kernel_rfl
@[go_sem] theorem Try.zero232 : zeroOf Try.prog 232 = some [.lit ((Go.Value.nilFunc))] := by kernel_rfl
@[go_sem] theorem Try.tsz233 : tszOf Try.prog 233 = some (1, false) := by kernel_rfl
theorem Try.cz233 : Try.prog.cellsOf 233 = 1 := by kernel_rfl
@[go_sem] theorem Try.udef233 : (Try.prog.underlying 233).isSome = true := by kernel_rfl
@[go_sem] theorem Try.zero233 : zeroOf Try.prog 233 = some [.lit ((Go.Value.nilFunc))] := by kernel_rfl
@[go_sem] theorem Try.tsz234 : tszOf Try.prog 234 = some (1, false) := by kernel_rfl
theorem Try.cz234 : Try.prog.cellsOf 234 = 1 := by kernel_rfl
@[go_sem] theorem Try.udef234 : (Try.prog.underlying 234).isSome = true := by kernel_rfl
@[go_sem] theorem Try.zero234 : zeroOf Try.prog 234 = some [.lit ((Go.Value.nilFunc))] := by kernel_rfl
@[go_sem] theorem Try.tsz235 : tszOf Try.prog 235 = some (1, false) := by kernel_rfl
theorem Try.cz235 : Try.prog.cellsOf 235 = 1 := by kernel_rfl
@[go_sem] theorem Try.udef235 : (Try.prog.underlying 235).isSome = true := by kernel_rfl
@[go_sem] theorem Try.zero235 : zeroOf Try.prog 235 = some [.lit ((Go.Value.nilFunc))] := by kernel_rfl
@[go_sem] theorem Try.tsz236 : tszOf Try.prog 236 = some (1, false) := by kernel_rfl
theorem Try.cz236 : Try.prog.cellsOf 236 = 1 := by kernel_rfl
@[go_sem] theorem Try.udef236 : (Try.prog.underlying 236).isSome = true := by kernel_rfl
@[go_sem] theorem Try.zero236 : zeroOf Try.prog 236 = some [.lit ((Go.Value.nilFunc))] := by kernel_rfl
@[go_sem] theorem Try.tsz237 : tszOf Try.prog 237 = some (1, false) := by kernel_rfl
theorem Try.cz237 : Try.prog.cellsOf 237 = 1 := by kernel_rfl
@[go_sem] theorem Try.udef237 : (Try.prog.underlying 237).isSome = true := by kernel_rfl
@[go_sem] theorem Try.zero237 : zeroOf Try.prog 237 = some [.lit ((Go.Value.nilFunc))] := by kernel_rfl
@[go_sem] theorem Try.tsz238 : tszOf Try.prog 238 = some (1, false) := by kernel_rfl
theorem Try.cz238 : Try.prog.cellsOf 238 = 1 := by kernel_rfl
@[go_sem] theorem Try.udef238 : (Try.prog.underlying 238).isSome = true := by kernel_rfl
@[go_sem] theorem Try.zero238 : zeroOf Try.prog 238 = some [.lit ((Go.Value.nilFunc))] := by kernel_rfl
@[go_sem] theorem Try.tsz239 : tszOf Try.prog 239 = some (1, false) := by kernel_rfl
theorem Try.cz239 : Try.prog.cellsOf 239 = 1 := by kernel_rfl
@[go_sem] theorem Try.udef239 : (Try.prog.underlying 239).isSome = true := by kernel_rfl
@[go_sem] theorem Try.zero239 : zeroOf Try.prog 239 = some [.lit ((Go.Value.nilFunc))] := by kernel_rfl
@[go_sem] theorem Try.tsz240 : tszOf Try.prog 240 = some (1, false) := by kernel_rfl
theorem Try.cz240 : Try.prog.cellsOf 240 = 1 := by kernel_rfl
@[go_sem] theorem Try.udef240 : (Try.prog.underlying 240).isSome = true := by kernel_rfl
@[go_sem] theorem Try.zero240 : zeroOf Try.prog 240 = some [.lit ((Go.Value.nilFunc))] := by kernel_rfl
@[go_sem] theorem Try.tsz241 : tszOf Try.prog 241 = some (1, false) := by kernel_rfl
theorem Try.cz241 : Try.prog.cellsOf 241 = 1 := by kernel_rfl
@[go_sem] theorem Try.udef241 : (Try.prog.underlying 241).isSome = true := by kernel_rfl
@[go_sem] theorem Try.zero241 : zeroOf Try.prog 241 = some [.lit ((Go.Value.nilFunc))] := by kernel_rfl
@[go_sem] theorem Try.tsz242 : tszOf Try.prog 242 = some (1, false) := by kernel_rfl
theorem Try.cz242 : Try.prog.cellsOf 242 = 1 := by kernel_rfl
@[go_sem] theorem Try.udef242 : (Try.prog.underlying 242).isSome = true := by kernel_rfl
@[go_sem] theorem Try.zero242 : zeroOf Try.prog 242 = some [.lit ((Go.Value.nilFunc))] := by kernel_rfl
@[go_sem] theorem Try.tsz243 : tszOf Try.prog 243 = some (1, false) := by kernel_rfl
theorem Try.cz243 : Try.prog.cellsOf 243 = 1 := by kernel_rfl
@[go_sem] theorem Try.udef243 : (Try.prog.underlying 243).isSome = true := by kernel_rfl
@[go_sem] theorem Try.zero243 : zeroOf Try.prog 243 = some [.lit ((Go.Value.nilFunc))] := by kernel_rfl
@[go_sem] theorem Try.tsz244 : tszOf Try.prog 244 = some (1, false) := by kernel_rfl
theorem Try.cz244 : Try.prog.cellsOf 244 = 1 := by kernel_rfl
@[go_sem] theorem Try.udef244 : (Try.prog.underlying 244).isSome = true := by kernel_rfl
@[go_sem] theorem Try.zero244 : zeroOf Try.prog 244 = some [.lit ((Go.Value.nilFunc))] := by kernel_rfl
@[go_sem] theorem Try.tsz245 : tszOf Try.prog 245 = some (1, false) := by kernel_rfl
theorem Try.cz245 : Try.prog.cellsOf 245 = 1 := by kernel_rfl
@[go_sem] theorem Try.udef245 : (Try.prog.underlying 245).isSome = true := by kernel_rfl
@[go_sem] theorem Try.zero245 : zeroOf Try.prog 245 = some [.lit ((Go.Value.nilFunc))] := by kernel_rfl
@[go_sem] theorem Try.tsz247 : tszOf Try.prog 247 = some (1, false) := by kernel_rfl
theorem Try.cz247 : Try.prog.cellsOf 247 = 1 := by kernel_rfl
@[go_sem] theorem Try.udef247 : (Try.prog.underlying 247).isSome = true := by kernel_rfl
@[go_sem] theorem Try.zero247 : zeroOf Try.prog 247 = some [.lit ((Go.Value.nilFunc))] := by kernel_rfl
@[go_sem] theorem Try.tsz248 : tszOf Try.prog 248 = some (1, false) := by kernel_rfl
theorem Try.cz248 : Try.prog.cellsOf 248 = 1 := by kernel_rfl
@[go_sem] theorem Try.udef248 : (Try.prog.underlying 248).isSome = true := by kernel_rfl
@[go_sem] theorem Try.zero248 : zeroOf Try.prog 248 = some [.lit ((Go.Value.nilFunc))] := by kernel_rfl
@[go_sem] theorem Try.tsz249 : tszOf Try.prog 249 = some (1, false) := by kernel_rfl
theorem Try.cz249 : Try.prog.cellsOf 249 = 1 := by kernel_rfl
@[go_sem] theorem Try.udef249 : (Try.prog.underlying 249).isSome = true := by kernel_rfl
@[go_sem] theorem Try.zero249 : zeroOf Try.prog 249 = some [.lit ((Go.Value.nilFunc))] := by kernel_rfl
@[go_sem] theorem Try.tsz250 : tszOf Try.prog 250 = some (1, false) := by kernel_rfl
theorem Try.cz250 : Try.prog.cellsOf 250 = 1 := by kernel_rfl
@[go_sem] theorem Try.udef250 : (Try.prog.underlying 250).isSome = true := by kernel_rfl
@[go_sem] theorem Try.zero250 : zeroOf Try.prog 250 = some [.lit ((Go.Value.nilFunc))] := by kernel_rfl
@[go_sem] theorem Try.tsz251 : tszOf Try.prog 251 = some (1, false) := by kernel_rfl
theorem Try.cz251 : Try.prog.cellsOf 251 = 1 := by kernel_rfl
@[go_sem] theorem Try.udef251 : (Try.prog.underlying 251).isSome = true := by kernel_rfl
@[go_sem] theorem Try.zero251 : zeroOf Try.prog 251 = some [.lit ((Go.Value.nilFunc))] := by kernel_rfl
@[go_sem] theorem Try.tsz252 : tszOf Try.prog 252 = some (1, false) := by kernel_rfl
theorem Try.cz252 : Try.prog.cellsOf 252 = 1 := by kernel_rfl
@[go_sem] theorem Try.udef252 : (Try.prog.underlying 252).isSome = true := by kernel_rfl
@[go_sem] theorem Try.zero252 : zeroOf Try.prog 252 = some [.lit ((Go.Value.nilFunc))] := by kernel_rfl
@[go_sem] theorem Try.tsz253 : tszOf Try.prog 253 = some (1, false) := by kernel_rfl
theorem Try.cz253 : Try.prog.cellsOf 253 = 1 := by kernel_rfl
@[go_sem] theorem Try.udef253 : (Try.prog.underlying 253).isSome = true := by kernel_rfl
@[go_sem] theorem Try.zero253 : zeroOf Try.prog 253 = some [.int .u64 0] := by kernel_rfl
@[go_sem] theorem Try.isInt253 : isIntT Try.prog 253 = some .u64 := by kernel_rfl
@[go_sem] theorem Try.tsz254 : tszOf Try.prog 254 = some (1, false) := by kernel_rfl
theorem Try.cz254 : Try.prog.cellsOf 254 = 1 := by kernel_rfl
@[go_sem] theorem Try.udef254 : (Try.prog.underlying 254).isSome = true := by kernel_rfl
@[go_sem] theorem Try.zero254 : zeroOf Try.prog 254 = some [.lit ((Go.Value.nilFunc))] := by kernel_rfl
@[go_sem] theorem Try.tsz255 : tszOf Try.prog 255 = some (3, true) := by kernel_rfl
theorem Try.cz255 : Try.prog.cellsOf 255 = 3 := by kernel_rfl
@[go_sem] theorem Try.udef255 : (Try.prog.underlying 255).isSome = true := by kernel_rfl
@[go_sem] theorem Try.zero255 : zeroOf Try.prog 255 = some [.int .i64 0, .bool false, .int .i64 0] := by kernel_rfl
@[go_sem] theorem Try.flatEq255 : flatEq Try.prog 255 = some [.int .i64, .bool, .int .i64] := by kernel_rfl
@[go_sem] theorem Try.pl255 : plOf Try.prog 255 = some [(0, 1), (1, 1), (2, 1)] := by kernel_rfl
@[go_sem] theorem Try.fd255_0 : fdOf Try.prog 255 0 = some (0, 1, false) := by kernel_rfl
@[go_sem] theorem Try.fd255_1 : fdOf Try.prog 255 1 = some (1, 1, false) := by kernel_rfl
@[go_sem] theorem Try.fd255_2 : fdOf Try.prog 255 2 = some (2, 1, false) := by kernel_rfl
@[go_sem] theorem Try.tsz256 : tszOf Try.prog 256 = some (1, false) := by kernel_rfl
theorem Try.cz256 : Try.prog.cellsOf 256 = 1 := by kernel_rfl
@[go_sem] theorem Try.udef256 : (Try.prog.underlying 256).isSome = true := by kernel_rfl
@[go_sem] theorem Try.zero256 : zeroOf Try.prog 256 = some [.lit ((Go.Value.nilFunc))] := by kernel_rfl
@[go_sem] theorem Try.tsz257 : tszOf Try.prog 257 = some (5, true) := by kernel_rfl
theorem Try.cz257 : Try.prog.cellsOf 257 = 5 := by kernel_rfl
@[go_sem] theorem Try.udef257 : (Try.prog.underlying 257).isSome = true := by kernel_rfl
@[go_sem] theorem Try.zero257 : zeroOf Try.prog 257 = some [.int .i64 0, .int .i64 0, .int .i64 0, .int .i64 0, .int .i64 0] := by kernel_rfl
@[go_sem] theorem Try.flatEq257 : flatEq Try.prog 257 = some [.int .i64, .int .i64, .int .i64, .int .i64, .int .i64] := by kernel_rfl
@[go_sem] theorem Try.pl257 : plOf Try.prog 257 = some [(0, 1), (1, 1), (2, 1), (3, 1), (4, 1)] := by kernel_rfl
@[go_sem] theorem Try.fd257_0 : fdOf Try.prog 257 0 = some (0, 1, false) := by kernel_rfl
@[go_sem] theorem Try.fd257_1 : fdOf Try.prog 257 1 = some (1, 1, false) := by kernel_rfl
@[go_sem] theorem Try.fd257_2 : fdOf Try.prog 257 2 = some (2, 1, false) := by kernel_rfl
@[go_sem] theorem Try.fd257_3 : fdOf Try.prog 257 3 = some (3, 1, false) := by kernel_rfl
@[go_sem] theorem Try.fd257_4 : fdOf Try.prog 257 4 = some (4, 1, false) := by kernel_rfl
@[go_sem] theorem Try.tsz258 : tszOf Try.prog 258 = some (1, false) := by kernel_rfl
theorem Try.cz258 : Try.prog.cellsOf 258 = 1 := by kernel_rfl
@[go_sem] theorem Try.udef258 : (Try.prog.underlying 258).isSome = true := by kernel_rfl
@[go_sem] theorem Try.zero258 : zeroOf Try.prog 258 = some [.lit ((Go.Value.nilFunc))] := by kernel_rfl
@[go_sem] theorem Try.tsz259 : tszOf Try.prog 259 = some (1, false) := by kernel_rfl
theorem Try.cz259 : Try.prog.cellsOf 259 = 1 := by kernel_rfl
@[go_sem] theorem Try.udef259 : (Try.prog.underlying 259).isSome = true := by kernel_rfl
@[go_sem] theorem Try.zero259 : zeroOf Try.prog 259 = some [.lit ((Go.Value.nilFunc))] := by kernel_rfl
@[go_sem] theorem Try.tsz260 : tszOf Try.prog 260 = some (1, false) := by kernel_rfl
theorem Try.cz260 : Try.prog.cellsOf 260 = 1 := by kernel_rfl
@[go_sem] theorem Try.udef260 : (Try.prog.underlying 260).isSome = true := by kernel_rfl
@[go_sem] theorem Try.zero260 : zeroOf Try.prog 260 = some [.lit ((Go.Value.nilFunc))] := by kernel_rfl
@[go_sem] theorem Try.tsz261 : tszOf Try.prog 261 = some (1, false) := by kernel_rfl
theorem Try.cz261 : Try.prog.cellsOf 261 = 1 := by kernel_rfl
@[go_sem] theorem Try.udef261 : (Try.prog.underlying 261).isSome = true := by kernel_rfl
@[go_sem] theorem Try.zero261 : zeroOf Try.prog 261 = some [.lit ((Go.Value.nilFunc))] := by kernel_rfl
@[go_sem] theorem Try.tsz262 : tszOf Try.prog 262 = some (1, false) := by kernel_rfl
theorem Try.cz262 : Try.prog.cellsOf 262 = 1 := by kernel_rfl
@[go_sem] theorem Try.udef262 : (Try.prog.underlying 262).isSome = true := by kernel_rfl
@[go_sem] theorem Try.zero262 : zeroOf Try.prog 262 = some [.lit ((Go.Value.nilFunc))] := by kernel_rfl
@[go_sem] theorem Try.tsz263 : tszOf Try.prog 263 = some (1, false) := by kernel_rfl
theorem Try.cz263 : Try.prog.cellsOf 263 = 1 := by kernel_rfl
@[go_sem] theorem Try.udef263 : (Try.prog.underlying 263).isSome = true := by kernel_rfl
@[go_sem] theorem Try.zero263 : zeroOf Try.prog 263 = some [.lit ((Go.Value.nilFunc))] := by kernel_rfl
@[go_sem] theorem Try.tsz264 : tszOf Try.prog 264 = some (2, true) := by kernel_rfl
theorem Try.cz264 : Try.prog.cellsOf 264 = 2 := by kernel_rfl
@[go_sem] theorem Try.udef264 : (Try.prog.underlying 264).isSome = true := by kernel_rfl
@[go_sem] theorem Try.zero264 : zeroOf Try.prog 264 = some [.int .i64 0, .int .i64 0] := by kernel_rfl
@[go_sem] theorem Try.flatEq264 : flatEq Try.prog 264 = some [.int .i64, .int .i64] := by kernel_rfl
@[go_sem] theorem Try.pl264 : plOf Try.prog 264 = some [(0, 1), (1, 1)] := by kernel_rfl
@[go_sem] theorem Try.fd264_0 : fdOf Try.prog 264 0 = some (0, 1, false) := by kernel_rfl
@[go_sem] theorem Try.fd264_1 : fdOf Try.prog 264 1 = some (1, 1, false) := by kernel_rfl
@[go_sem] theorem Try.tsz265 : tszOf Try.prog 265 = some (1, false) := by kernel_rfl
theorem Try.cz265 : Try.prog.cellsOf 265 = 1 := by kernel_rfl
@[go_sem] theorem Try.udef265 : (Try.prog.underlying 265).isSome = true := by kernel_rfl
@[go_sem] theorem Try.zero265 : zeroOf Try.prog 265 = some [.lit ((Go.Value.nilFunc))] := by kernel_rfl
@[go_sem] theorem Try.tsz266 : tszOf Try.prog 266 = some (1, false) := by kernel_rfl
theorem Try.cz266 : Try.prog.cellsOf 266 = 1 := by kernel_rfl
@[go_sem] theorem Try.udef266 : (Try.prog.underlying 266).isSome = true := by kernel_rfl
@[go_sem] theorem Try.zero266 : zeroOf Try.prog 266 = some [.lit ((Go.Value.nilFunc))] := by kernel_rfl
@[go_sem] theorem Try.tsz267 : tszOf Try.prog 267 = some (1, false) := by kernel_rfl
theorem Try.cz267 : Try.prog.cellsOf 267 = 1 := by kernel_rfl
@[go_sem] theorem Try.udef267 : (Try.prog.underlying 267).isSome = true := by kernel_rfl
@[go_sem] theorem Try.zero267 : zeroOf Try.prog 267 = some [.lit ((Go.Value.map none))] := by kernel_rfl
@[go_sem] theorem Try.mapOf267 : mapOf Try.prog 267 = some (.string, .bool false) := by kernel_rfl
@[go_sem] theorem Try.tsz268 : tszOf Try.prog 268 = some (1, false) := by kernel_rfl
theorem Try.cz268 : Try.prog.cellsOf 268 = 1 := by kernel_rfl
@[go_sem] theorem Try.udef268 : (Try.prog.underlying 268).isSome = true := by kernel_rfl
@[go_sem] theorem Try.zero268 : zeroOf Try.prog 268 = some [.lit ((Go.Value.map none))] := by kernel_rfl
@[go_sem] theorem Try.mapOf268 : mapOf Try.prog 268 = some (.int .i64, .bool false) := by kernel_rfl
@[go_sem] theorem Try.tsz269 : tszOf Try.prog 269 = some (1, false) := by kernel_rfl
theorem Try.cz269 : Try.prog.cellsOf 269 = 1 := by kernel_rfl
@[go_sem] theorem Try.udef269 : (Try.prog.underlying 269).isSome = true := by kernel_rfl
@[go_sem] theorem Try.zero269 : zeroOf Try.prog 269 = some [.lit ((Go.Value.nilFunc))] := by kernel_rfl
@[go_sem] theorem Try.tsz270 : tszOf Try.prog 270 = some (1, false) := by kernel_rfl
theorem Try.cz270 : Try.prog.cellsOf 270 = 1 := by kernel_rfl
@[go_sem] theorem Try.udef270 : (Try.prog.underlying 270).isSome = true := by kernel_rfl
@[go_sem] theorem Try.zero270 : zeroOf Try.prog 270 = some [.lit ((Go.Value.pointer none))] := by kernel_rfl
@[go_sem] theorem Try.tsz271 : tszOf Try.prog 271 = some (1, false) := by kernel_rfl
theorem Try.cz271 : Try.prog.cellsOf 271 = 1 := by kernel_rfl
@[go_sem] theorem Try.udef271 : (Try.prog.underlying 271).isSome = true := by kernel_rfl
@[go_sem] theorem Try.zero271 : zeroOf Try.prog 271 = some [.lit ((Go.Value.nilFunc))] := by kernel_rfl
@[go_sem] theorem Try.tsz272 : tszOf Try.prog 272 = some (1, false) := by kernel_rfl
theorem Try.cz272 : Try.prog.cellsOf 272 = 1 := by kernel_rfl
@[go_sem] theorem Try.udef272 : (Try.prog.underlying 272).isSome = true := by kernel_rfl
@[go_sem] theorem Try.zero272 : zeroOf Try.prog 272 = some [.lit ((Go.Value.nilFunc))] := by kernel_rfl
@[go_sem] theorem Try.tsz273 : tszOf Try.prog 273 = some (1, false) := by kernel_rfl
theorem Try.cz273 : Try.prog.cellsOf 273 = 1 := by kernel_rfl
@[go_sem] theorem Try.udef273 : (Try.prog.underlying 273).isSome = true := by kernel_rfl
@[go_sem] theorem Try.zero273 : zeroOf Try.prog 273 = some [.lit ((Go.Value.nilFunc))] := by kernel_rfl
@[go_sem] theorem Try.tsz274 : tszOf Try.prog 274 = some (1, false) := by kernel_rfl
theorem Try.cz274 : Try.prog.cellsOf 274 = 1 := by kernel_rfl
@[go_sem] theorem Try.udef274 : (Try.prog.underlying 274).isSome = true := by kernel_rfl
@[go_sem] theorem Try.zero274 : zeroOf Try.prog 274 = some [.lit ((Go.Value.nilFunc))] := by kernel_rfl
@[go_sem] theorem Try.tsz275 : tszOf Try.prog 275 = some (1, false) := by kernel_rfl
theorem Try.cz275 : Try.prog.cellsOf 275 = 1 := by kernel_rfl
@[go_sem] theorem Try.udef275 : (Try.prog.underlying 275).isSome = true := by kernel_rfl
@[go_sem] theorem Try.zero275 : zeroOf Try.prog 275 = some [.lit ((Go.Value.nilFunc))] := by kernel_rfl
@[go_sem] theorem Try.tsz276 : tszOf Try.prog 276 = some (1, false) := by kernel_rfl
theorem Try.cz276 : Try.prog.cellsOf 276 = 1 := by kernel_rfl
@[go_sem] theorem Try.udef276 : (Try.prog.underlying 276).isSome = true := by kernel_rfl
@[go_sem] theorem Try.zero276 : zeroOf Try.prog 276 = some [.lit ((Go.Value.pointer none))] := by kernel_rfl
@[go_sem] theorem Try.tsz277 : tszOf Try.prog 277 = some (1, false) := by kernel_rfl
theorem Try.cz277 : Try.prog.cellsOf 277 = 1 := by kernel_rfl
@[go_sem] theorem Try.udef277 : (Try.prog.underlying 277).isSome = true := by kernel_rfl
@[go_sem] theorem Try.zero277 : zeroOf Try.prog 277 = some [.lit ((Go.Value.pointer none))] := by kernel_rfl
@[go_sem] theorem Try.tsz278 : tszOf Try.prog 278 = some (1, false) := by kernel_rfl
theorem Try.cz278 : Try.prog.cellsOf 278 = 1 := by kernel_rfl
@[go_sem] theorem Try.udef278 : (Try.prog.underlying 278).isSome = true := by kernel_rfl
@[go_sem] theorem Try.zero278 : zeroOf Try.prog 278 = some [.lit ((Go.Value.nilFunc))] := by kernel_rfl
@[go_sem] theorem Try.tsz279 : tszOf Try.prog 279 = some (1, false) := by kernel_rfl
theorem Try.cz279 : Try.prog.cellsOf 279 = 1 := by kernel_rfl
@[go_sem] theorem Try.udef279 : (Try.prog.underlying 279).isSome = true := by kernel_rfl
@[go_sem] theorem Try.zero279 : zeroOf Try.prog 279 = some [.lit ((Go.Value.nilFunc))] := by kernel_rfl
@[go_sem] theorem Try.tsz280 : tszOf Try.prog 280 = some (1, false) := by kernel_rfl
theorem Try.cz280 : Try.prog.cellsOf 280 = 1 := by kernel_rfl
@[go_sem] theorem Try.udef280 : (Try.prog.underlying 280).isSome = true := by kernel_rfl
@[go_sem] theorem Try.zero280 : zeroOf Try.prog 280 = some [.int .i64 0] := by kernel_rfl
@[go_sem] theorem Try.isInt280 : isIntT Try.prog 280 = some .i64 := by kernel_rfl
@[go_sem] theorem Try.tsz282 : tszOf Try.prog 282 = some (1, false) := by kernel_rfl
theorem Try.cz282 : Try.prog.cellsOf 282 = 1 := by kernel_rfl
@[go_sem] theorem Try.udef282 : (Try.prog.underlying 282).isSome = true := by kernel_rfl
@[go_sem] theorem Try.zero282 : zeroOf Try.prog 282 = some [.lit ((Go.Value.nilFunc))] := by kernel_rfl
@[go_sem] theorem Try.tsz283 : tszOf Try.prog 283 = some (1, false) := by kernel_rfl
theorem Try.cz283 : Try.prog.cellsOf 283 = 1 := by kernel_rfl
@[go_sem] theorem Try.udef283 : (Try.prog.underlying 283).isSome = true := by kernel_rfl
@[go_sem] theorem Try.zero283 : zeroOf Try.prog 283 = some [.lit ((Go.Value.nilFunc))] := by kernel_rfl
@[go_sem] theorem Try.tsz284 : tszOf Try.prog 284 = some (1, false) := by kernel_rfl
theorem Try.cz284 : Try.prog.cellsOf 284 = 1 := by kernel_rfl
@[go_sem] theorem Try.udef284 : (Try.prog.underlying 284).isSome = true := by kernel_rfl
@[go_sem] theorem Try.zero284 : zeroOf Try.prog 284 = some [.lit ((Go.Value.nilFunc))] := by kernel_rfl
@[go_sem] theorem Try.tsz285 : tszOf Try.prog 285 = some (1, false) := by kernel_rfl
theorem Try.cz285 : Try.prog.cellsOf 285 = 1 := by kernel_rfl
@[go_sem] theorem Try.udef285 : (Try.prog.underlying 285).isSome = true := by kernel_rfl
@[go_sem] theorem Try.zero285 : zeroOf Try.prog 285 = some [.lit ((Go.Value.nilFunc))] := by kernel_rfl
@[go_sem] theorem Try.tsz286 : tszOf Try.prog 286 = some (1, false) := by kernel_rfl
theorem Try.cz286 : Try.prog.cellsOf 286 = 1 := by kernel_rfl
@[go_sem] theorem Try.udef286 : (Try.prog.underlying 286).isSome = true := by kernel_rfl
@[go_sem] theorem Try.zero286 : zeroOf Try.prog 286 = some [.lit ((Go.Value.nilFunc))] := by kernel_rfl
@[go_sem] theorem Try.tsz287 : tszOf Try.prog 287 = some (1, false) := by kernel_rfl
theorem Try.cz287 : Try.prog.cellsOf 287 = 1 := by kernel_rfl
@[go_sem] theorem Try.udef287 : (Try.prog.underlying 287).isSome = true := by kernel_rfl
@[go_sem] theorem Try.zero287 : zeroOf Try.prog 287 = some [.int .u32 0] := by kernel_rfl
@[go_sem] theorem Try.isInt287 : isIntT Try.prog 287 = some .u32 := by kernel_rfl
@[go_sem] theorem Try.tsz288 : tszOf Try.prog 288 = some (1, false) := by kernel_rfl
theorem Try.cz288 : Try.prog.cellsOf 288 = 1 := by kernel_rfl
@[go_sem] theorem Try.udef288 : (Try.prog.underlying 288).isSome = true := by kernel_rfl
@[go_sem] theorem Try.zero288 : zeroOf Try.prog 288 = some [.lit ((Go.Value.nilFunc))] := by kernel_rfl
@[go_sem] theorem Try.tsz289 : tszOf Try.prog 289 = some (1, false) := by kernel_rfl
theorem Try.cz289 : Try.prog.cellsOf 289 = 1 := by kernel_rfl
@[go_sem] theorem Try.udef289 : (Try.prog.underlying 289).isSome = true := by kernel_rfl
@[go_sem] theorem Try.zero289 : zeroOf Try.prog 289 = some [.lit ((Go.Value.nilFunc))] := by kernel_rfl
@[go_sem] theorem Try.tsz290 : tszOf Try.prog 290 = some (1, false) := by kernel_rfl
theorem Try.cz290 : Try.prog.cellsOf 290 = 1 := by kernel_rfl
@[go_sem] theorem Try.udef290 : (Try.prog.underlying 290).isSome = true := by kernel_rfl
@[go_sem] theorem Try.zero290 : zeroOf Try.prog 290 = some [.lit ((Go.Value.nilFunc))] := by kernel_rfl
@[go_sem] theorem Try.tsz291 : tszOf Try.prog 291 = some (1, false) := by kernel_rfl
theorem Try.cz291 : Try.prog.cellsOf 291 = 1 := by kernel_rfl
@[go_sem] theorem Try.udef291 : (Try.prog.underlying 291).isSome = true := by kernel_rfl
@[go_sem] theorem Try.zero291 : zeroOf Try.prog 291 = some [.lit ((Go.Value.nilFunc))] := by kernel_rfl
@[go_sem] theorem Try.tsz292 : tszOf Try.prog 292 = some (1, false) := by kernel_rfl
theorem Try.cz292 : Try.prog.cellsOf 292 = 1 := by kernel_rfl
@[go_sem] theorem Try.udef292 : (Try.prog.underlying 292).isSome = true := by kernel_rfl
@[go_sem] theorem Try.zero292 : zeroOf Try.prog 292 = some [.lit ((Go.Value.nilFunc))] := by kernel_rfl
@[go_sem] theorem Try.tsz293 : tszOf Try.prog 293 = some (1, false) := by kernel_rfl
theorem Try.cz293 : Try.prog.cellsOf 293 = 1 := by kernel_rfl
@[go_sem] theorem Try.udef293 : (Try.prog.underlying 293).isSome = true := by kernel_rfl
@[go_sem] theorem Try.zero293 : zeroOf Try.prog 293 = some [.lit ((Go.Value.nilFunc))] := by kernel_rfl
@[go_sem] theorem Try.tsz294 : tszOf Try.prog 294 = some (1, false) := by kernel_rfl
theorem Try.cz294 : Try.prog.cellsOf 294 = 1 := by kernel_rfl
@[go_sem] theorem Try.udef294 : (Try.prog.underlying 294).isSome = true := by kernel_rfl
@[go_sem] theorem Try.zero294 : zeroOf Try.prog 294 = some [.int .u64 0] := by kernel_rfl
@[go_sem] theorem Try.isInt294 : isIntT Try.prog 294 = some .u64 := by kernel_rfl
@[go_sem] theorem Try.tsz295 : tszOf Try.prog 295 = some (1, false) := by kernel_rfl
theorem Try.cz295 : Try.prog.cellsOf 295 = 1 := by kernel_rfl
@[go_sem] theorem Try.udef295 : (Try.prog.underlying 295).isSome = true := by kernel_rfl
@[go_sem] theorem Try.zero295 : zeroOf Try.prog 295 = some [.lit ((Go.Value.nilFunc))] := by kernel_rfl
@[go_sem] theorem Try.tsz296 : tszOf Try.prog 296 = some (1, false) := by kernel_rfl
theorem Try.cz296 : Try.prog.cellsOf 296 = 1 := by kernel_rfl
@[go_sem] theorem Try.udef296 : (Try.prog.underlying 296).isSome = true := by kernel_rfl
@[go_sem] theorem Try.zero296 : zeroOf Try.prog 296 = some [.lit ((Go.Value.nilFunc))] := by kernel_rfl
@[go_sem] theorem Try.tsz297 : tszOf Try.prog 297 = some (1, false) := by kernel_rfl
theorem Try.cz297 : Try.prog.cellsOf 297 = 1 := by kernel_rfl
@[go_sem] theorem Try.udef297 : (Try.prog.underlying 297).isSome = true := by kernel_rfl
@[go_sem] theorem Try.zero297 : zeroOf Try.prog 297 = some [.lit ((Go.Value.nilFunc))] := by kernel_rfl
@[go_sem] theorem Try.tsz298 : tszOf Try.prog 298 = some (1, false) := by kernel_rfl
theorem Try.cz298 : Try.prog.cellsOf 298 = 1 := by kernel_rfl
@[go_sem] theorem Try.udef298 : (Try.prog.underlying 298).isSome = true := by kernel_rfl
@[go_sem] theorem Try.zero298 : zeroOf Try.prog 298 = some [.lit ((Go.Value.pointer none))] := by kernel_rfl
@[go_sem] theorem Try.tsz299 : tszOf Try.prog 299 = some (1, false) := by kernel_rfl
theorem Try.cz299 : Try.prog.cellsOf 299 = 1 := by kernel_rfl
@[go_sem] theorem Try.udef299 : (Try.prog.underlying 299).isSome = true := by kernel_rfl
@[go_sem] theorem Try.zero299 : zeroOf Try.prog 299 = some [.lit ((Go.Value.nilFunc))] := by kernel_rfl
@[go_sem] theorem Try.tsz300 : tszOf Try.prog 300 = some (1, false) := by kernel_rfl
theorem Try.cz300 : Try.prog.cellsOf 300 = 1 := by kernel_rfl
@[go_sem] theorem Try.udef300 : (Try.prog.underlying 300).isSome = true := by kernel_rfl
@[go_sem] theorem Try.zero300 : zeroOf Try.prog 300 = some [.lit ((Go.Value.nilFunc))] := by kernel_rfl
@[go_sem] theorem Try.tsz301 : tszOf Try.prog 301 = some (1, false) := by kernel_rfl
theorem Try.cz301 : Try.prog.cellsOf 301 = 1 := by kernel_rfl
@[go_sem] theorem Try.udef301 : (Try.prog.underlying 301).isSome = true := by kernel_rfl
@[go_sem] theorem Try.zero301 : zeroOf Try.prog 301 = some [.lit ((Go.Value.nilFunc))] := by kernel_rfl
@[go_sem] theorem Try.tsz302 : tszOf Try.prog 302 = some (1, false) := by kernel_rfl
theorem Try.cz302 : Try.prog.cellsOf 302 = 1 := by kernel_rfl
@[go_sem] theorem Try.udef302 : (Try.prog.underlying 302).isSome = true := by kernel_rfl
@[go_sem] theorem Try.zero302 : zeroOf Try.prog 302 = some [.lit ((Go.Value.nilFunc))] := by kernel_rfl
@[go_sem] theorem Try.tsz303 : tszOf Try.prog 303 = some (1, false) := by kernel_rfl
theorem Try.cz303 : Try.prog.cellsOf 303 = 1 := by kernel_rfl
@[go_sem] theorem Try.udef303 : (Try.prog.underlying 303).isSome = true := by kernel_rfl
@[go_sem] theorem Try.zero303 : zeroOf Try.prog 303 = some [.lit ((Go.Value.pointer none))] := by kernel_rfl
@[go_sem] theorem Try.tsz305 : tszOf Try.prog 305 = some (1, false) := by kernel_rfl
theorem Try.cz305 : Try.prog.cellsOf 305 = 1 := by kernel_rfl
@[go_sem] theorem Try.udef305 : (Try.prog.underlying 305).isSome = true := by kernel_rfl
@[go_sem] theorem Try.zero305 : zeroOf Try.prog 305 = some [.lit ((Go.Value.nilFunc))] := by kernel_rfl
@[go_sem] theorem Try.tsz306 : tszOf Try.prog 306 = some (1, false) := by kernel_rfl
theorem Try.cz306 : Try.prog.cellsOf 306 = 1 := by kernel_rfl
@[go_sem] theorem Try.udef306 : (Try.prog.underlying 306).isSome = true := by kernel_rfl
@[go_sem] theorem Try.zero306 : zeroOf Try.prog 306 = some [.lit ((Go.Value.nilFunc))] := by kernel_rfl
@[go_sem] theorem Try.tsz307 : tszOf Try.prog 307 = some (1, false) := by kernel_rfl
theorem Try.cz307 : Try.prog.cellsOf 307 = 1 := by kernel_rfl
@[go_sem] theorem Try.udef307 : (Try.prog.underlying 307).isSome = true := by kernel_rfl
@[go_sem] theorem Try.zero307 : zeroOf Try.prog 307 = some [.lit ((Go.Value.nilFunc))] := by kernel_rfl
@[go_sem] theorem Try.tsz308 : tszOf Try.prog 308 = some (4, true) := by kernel_rfl
theorem Try.cz308 : Try.prog.cellsOf 308 = 4 := by kernel_rfl
@[go_sem] theorem Try.udef308 : (Try.prog.underlying 308).isSome = true := by kernel_rfl
@[go_sem] theorem Try.zero308 : zeroOf Try.prog 308 = some [.lit ((Go.Value.pointer none)), .lit ((Go.Value.pointer none)), .lit ((Go.Value.pointer none)), .str ByteArray.empty] := by kernel_rfl
@[go_sem] theorem Try.pl308 : plOf Try.prog 308 = some [(0, 1), (1, 1), (2, 1), (3, 1)] := by kernel_rfl
@[go_sem] theorem Try.tsz309 : tszOf Try.prog 309 = some (4, true) := by kernel_rfl
theorem Try.cz309 : Try.prog.cellsOf 309 = 4 := by kernel_rfl
@[go_sem] theorem Try.udef309 : (Try.prog.underlying 309).isSome = true := by kernel_rfl
@[go_sem] theorem Try.zero309 : zeroOf Try.prog 309 = some [.lit ((Go.Value.pointer none)), .lit ((Go.Value.pointer none)), .lit ((Go.Value.pointer none)), .str ByteArray.empty] := by kernel_rfl
@[go_sem] theorem Try.pl309 : plOf Try.prog 309 = some [(0, 1), (1, 1), (2, 1), (3, 1)] := by kernel_rfl
@[go_sem] theorem Try.tsz310 : tszOf Try.prog 310 = some (0, true) := by kernel_rfl
theorem Try.cz310 : Try.prog.cellsOf 310 = 0 := by kernel_rfl
@[go_sem] theorem Try.udef310 : (Try.prog.underlying 310).isSome = true := by kernel_rfl
@[go_sem] theorem Try.zero310 : zeroOf Try.prog 310 = some [] := by kernel_rfl
@[go_sem] theorem Try.ar310 : arOf Try.prog 310 = some (0, 1, false) := by kernel_rfl
@[go_sem] theorem Try.pl310 : plOf Try.prog 310 = some [] := by kernel_rfl
@[go_sem] theorem Try.tsz311 : tszOf Try.prog 311 = some (0, true) := by kernel_rfl
theorem Try.cz311 : Try.prog.cellsOf 311 = 0 := by kernel_rfl
@[go_sem] theorem Try.udef311 : (Try.prog.underlying 311).isSome = true := by kernel_rfl
@[go_sem] theorem Try.zero311 : zeroOf Try.prog 311 = some [] := by kernel_rfl
@[go_sem] theorem Try.pl311 : plOf Try.prog 311 = some [(0, 0)] := by kernel_rfl
@[go_sem] theorem Try.tsz312 : tszOf Try.prog 312 = some (0, true) := by kernel_rfl
theorem Try.cz312 : Try.prog.cellsOf 312 = 0 := by kernel_rfl
@[go_sem] theorem Try.udef312 : (Try.prog.underlying 312).isSome = true := by kernel_rfl
@[go_sem] theorem Try.zero312 : zeroOf Try.prog 312 = some [] := by kernel_rfl
@[go_sem] theorem Try.pl312 : plOf Try.prog 312 = some [(0, 0)] := by kernel_rfl
@[go_sem] theorem Try.tsz313 : tszOf Try.prog 313 = some (1, false) := by kernel_rfl
theorem Try.cz313 : Try.prog.cellsOf 313 = 1 := by kernel_rfl
@[go_sem] theorem Try.udef313 : (Try.prog.underlying 313).isSome = true := by kernel_rfl
@[go_sem] theorem Try.zero313 : zeroOf Try.prog 313 = some [.int .u8 0] := by kernel_rfl
@[go_sem] theorem Try.isInt313 : isIntT Try.prog 313 = some .u8 := by kernel_rfl
@[go_sem] theorem Try.tsz314 : tszOf Try.prog 314 = some (1, false) := by kernel_rfl
theorem Try.cz314 : Try.prog.cellsOf 314 = 1 := by kernel_rfl
@[go_sem] theorem Try.udef314 : (Try.prog.underlying 314).isSome = true := by kernel_rfl
@[go_sem] theorem Try.zero314 : zeroOf Try.prog 314 = some [.int .u8 0] := by kernel_rfl
@[go_sem] theorem Try.isInt314 : isIntT Try.prog 314 = some .u8 := by kernel_rfl
@[go_sem] theorem Try.tsz315 : tszOf Try.prog 315 = some (1, false) := by kernel_rfl
theorem Try.cz315 : Try.prog.cellsOf 315 = 1 := by kernel_rfl
@[go_sem] theorem Try.udef315 : (Try.prog.underlying 315).isSome = true := by kernel_rfl
@[go_sem] theorem Try.zero315 : zeroOf Try.prog 315 = some [.lit ((Go.Value.nilFunc))] := by kernel_rfl
@[go_sem] theorem Try.tsz316 : tszOf Try.prog 316 = some (1, false) := by kernel_rfl
theorem Try.cz316 : Try.prog.cellsOf 316 = 1 := by kernel_rfl
@[go_sem] theorem Try.udef316 : (Try.prog.underlying 316).isSome = true := by kernel_rfl
@[go_sem] theorem Try.zero316 : zeroOf Try.prog 316 = some [.lit ((Go.Value.pointer none))] := by kernel_rfl
@[go_sem] theorem Try.tsz317 : tszOf Try.prog 317 = some (1, false) := by kernel_rfl
theorem Try.cz317 : Try.prog.cellsOf 317 = 1 := by kernel_rfl
@[go_sem] theorem Try.udef317 : (Try.prog.underlying 317).isSome = true := by kernel_rfl
@[go_sem] theorem Try.zero317 : zeroOf Try.prog 317 = some [.int .i32 0] := by kernel_rfl
@[go_sem] theorem Try.isInt317 : isIntT Try.prog 317 = some .i32 := by kernel_rfl
@[go_sem] theorem Try.tsz318 : tszOf Try.prog 318 = some (1, false) := by kernel_rfl
theorem Try.cz318 : Try.prog.cellsOf 318 = 1 := by kernel_rfl
@[go_sem] theorem Try.udef318 : (Try.prog.underlying 318).isSome = true := by kernel_rfl
@[go_sem] theorem Try.zero318 : zeroOf Try.prog 318 = some [.int .i32 0] := by kernel_rfl
@[go_sem] theorem Try.isInt318 : isIntT Try.prog 318 = some .i32 := by kernel_rfl
@[go_sem] theorem Try.tsz319 : tszOf Try.prog 319 = some (11, true) := by kernel_rfl
theorem Try.cz319 : Try.prog.cellsOf 319 = 11 := by kernel_rfl
@[go_sem] theorem Try.udef319 : (Try.prog.underlying 319).isSome = true := by kernel_rfl
@[go_sem] theorem Try.zero319 : zeroOf Try.prog 319 = some [.int .u64 0, .int .u64 0, .int .u32 0, .int .u8 0, .int .u8 0, .int .u8 0, .int .u8 0, .lit ((Go.Value.nilFunc)), .lit ((Go.Value.pointer none)), .int .i32 0, .int .i32 0] := by kernel_rfl
@[go_sem] theorem Try.pl319 : plOf Try.prog 319 = some [(0, 1), (1, 1), (2, 1), (3, 1), (4, 1), (5, 1), (6, 1), (7, 1), (8, 1), (9, 1), (10, 1)] := by kernel_rfl
@[go_sem] theorem Try.tsz320 : tszOf Try.prog 320 = some (11, true) := by kernel_rfl
theorem Try.cz320 : Try.prog.cellsOf 320 = 11 := by kernel_rfl
@[go_sem] theorem Try.udef320 : (Try.prog.underlying 320).isSome = true := by kernel_rfl
@[go_sem] theorem Try.zero320 : zeroOf Try.prog 320 = some [.int .u64 0, .int .u64 0, .int .u32 0, .int .u8 0, .int .u8 0, .int .u8 0, .int .u8 0, .lit ((Go.Value.nilFunc)), .lit ((Go.Value.pointer none)), .int .i32 0, .int .i32 0] := by kernel_rfl
@[go_sem] theorem Try.pl320 : plOf Try.prog 320 = some [(0, 1), (1, 1), (2, 1), (3, 1), (4, 1), (5, 1), (6, 1), (7, 1), (8, 1), (9, 1), (10, 1)] := by kernel_rfl
@[go_sem] theorem Try.tsz321 : tszOf Try.prog 321 = some (1, false) := by kernel_rfl
theorem Try.cz321 : Try.prog.cellsOf 321 = 1 := by kernel_rfl
@[go_sem] theorem Try.udef321 : (Try.prog.underlying 321).isSome = true := by kernel_rfl
@[go_sem] theorem Try.zero321 : zeroOf Try.prog 321 = some [.lit ((Go.Value.pointer none))] := by kernel_rfl
theorem Try.okF2 : okF Try.prog 2 = true := by kernel_rfl
theorem Try.okF3 : okF Try.prog 3 = true := by kernel_rfl
theorem Try.okF4 : okF Try.prog 4 = true := by kernel_rfl
theorem Try.okF5 : okF Try.prog 5 = true := by kernel_rfl
theorem Try.okF6 : okF Try.prog 6 = true := by kernel_rfl
theorem Try.okF7 : okF Try.prog 7 = true := by kernel_rfl
theorem Try.okF8 : okF Try.prog 8 = true := by kernel_rfl
theorem Try.okF9 : okF Try.prog 9 = true := by kernel_rfl
theorem Try.okF10 : okF Try.prog 10 = true := by kernel_rfl
theorem Try.okF11 : okF Try.prog 11 = true := by kernel_rfl
theorem Try.okF12 : okF Try.prog 12 = true := by kernel_rfl
theorem Try.okF13 : okF Try.prog 13 = true := by kernel_rfl
theorem Try.okF14 : okF Try.prog 14 = true := by kernel_rfl
theorem Try.okF15 : okF Try.prog 15 = true := by kernel_rfl
theorem Try.okF16 : okF Try.prog 16 = true := by kernel_rfl
theorem Try.okF17 : okF Try.prog 17 = true := by kernel_rfl
theorem Try.okF18 : okF Try.prog 18 = true := by kernel_rfl
theorem Try.okF19 : okF Try.prog 19 = true := by kernel_rfl
theorem Try.okF20 : okF Try.prog 20 = true := by kernel_rfl
theorem Try.okF21 : okF Try.prog 21 = true := by kernel_rfl
theorem Try.okF22 : okF Try.prog 22 = true := by kernel_rfl
theorem Try.okF23 : okF Try.prog 23 = true := by kernel_rfl
theorem Try.okF24 : okF Try.prog 24 = true := by kernel_rfl
theorem Try.okF25 : okF Try.prog 25 = true := by kernel_rfl
theorem Try.okF26 : okF Try.prog 26 = true := by kernel_rfl
theorem Try.okF27 : okF Try.prog 27 = true := by kernel_rfl
theorem Try.okF28 : okF Try.prog 28 = true := by kernel_rfl
theorem Try.okF29 : okF Try.prog 29 = true := by kernel_rfl
theorem Try.okF30 : okF Try.prog 30 = true := by kernel_rfl
theorem Try.okF31 : okF Try.prog 31 = true := by kernel_rfl
theorem Try.okF32 : okF Try.prog 32 = true := by kernel_rfl
theorem Try.okF33 : okF Try.prog 33 = true := by kernel_rfl
theorem Try.okF34 : okF Try.prog 34 = true := by kernel_rfl
theorem Try.okF35 : okF Try.prog 35 = true := by kernel_rfl
theorem Try.okF36 : okF Try.prog 36 = true := by kernel_rfl
theorem Try.okF37 : okF Try.prog 37 = true := by kernel_rfl
theorem Try.okF38 : okF Try.prog 38 = true := by kernel_rfl
theorem Try.okF39 : okF Try.prog 39 = true := by kernel_rfl
theorem Try.okF40 : okF Try.prog 40 = true := by kernel_rfl
theorem Try.okF41 : okF Try.prog 41 = true := by kernel_rfl
theorem Try.okF42 : okF Try.prog 42 = true := by kernel_rfl
theorem Try.okF43 : okF Try.prog 43 = true := by kernel_rfl
theorem Try.okF44 : okF Try.prog 44 = true := by kernel_rfl
theorem Try.okF45 : okF Try.prog 45 = true := by kernel_rfl
theorem Try.okF46 : okF Try.prog 46 = true := by kernel_rfl
theorem Try.okF47 : okF Try.prog 47 = true := by kernel_rfl
theorem Try.okF48 : okF Try.prog 48 = true := by kernel_rfl
theorem Try.okF49 : okF Try.prog 49 = true := by kernel_rfl
theorem Try.okF50 : okF Try.prog 50 = true := by kernel_rfl
theorem Try.okF51 : okF Try.prog 51 = true := by kernel_rfl
theorem Try.okF52 : okF Try.prog 52 = true := by kernel_rfl
theorem Try.okF53 : okF Try.prog 53 = true := by kernel_rfl
theorem Try.okF54 : okF Try.prog 54 = true := by kernel_rfl
theorem Try.okF55 : okF Try.prog 55 = true := by kernel_rfl
theorem Try.okF56 : okF Try.prog 56 = true := by kernel_rfl
theorem Try.okF57 : okF Try.prog 57 = true := by kernel_rfl
theorem Try.okF58 : okF Try.prog 58 = true := by kernel_rfl
theorem Try.okF59 : okF Try.prog 59 = true := by kernel_rfl
theorem Try.okF60 : okF Try.prog 60 = true := by kernel_rfl
theorem Try.okF61 : okF Try.prog 61 = true := by kernel_rfl
theorem Try.okF62 : okF Try.prog 62 = true := by kernel_rfl
theorem Try.okF63 : okF Try.prog 63 = true := by kernel_rfl
theorem Try.okF64 : okF Try.prog 64 = true := by kernel_rfl
theorem Try.okF65 : okF Try.prog 65 = true := by kernel_rfl
theorem Try.okF66 : okF Try.prog 66 = true := by kernel_rfl
theorem Try.okF67 : okF Try.prog 67 = true := by kernel_rfl
theorem Try.okF68 : okF Try.prog 68 = true := by kernel_rfl
theorem Try.okF69 : okF Try.prog 69 = true := by kernel_rfl
theorem Try.okF70 : okF Try.prog 70 = true := by kernel_rfl
theorem Try.okF71 : okF Try.prog 71 = true := by kernel_rfl
theorem Try.okF72 : okF Try.prog 72 = true := by kernel_rfl
theorem Try.okF73 : okF Try.prog 73 = true := by kernel_rfl
theorem Try.okF74 : okF Try.prog 74 = true := by kernel_rfl
theorem Try.okF75 : okF Try.prog 75 = true := by kernel_rfl
theorem Try.okF76 : okF Try.prog 76 = true := by kernel_rfl
theorem Try.okF77 : okF Try.prog 77 = true := by kernel_rfl
theorem Try.okF78 : okF Try.prog 78 = true := by kernel_rfl
theorem Try.okF79 : okF Try.prog 79 = true := by kernel_rfl
theorem Try.okF80 : okF Try.prog 80 = true := by kernel_rfl
theorem Try.okF81 : okF Try.prog 81 = true := by kernel_rfl
theorem Try.okF82 : okF Try.prog 82 = true := by kernel_rfl
theorem Try.okF83 : okF Try.prog 83 = true := by kernel_rfl
theorem Try.okF84 : okF Try.prog 84 = true := by kernel_rfl
theorem Try.okF85 : okF Try.prog 85 = true := by kernel_rfl
theorem Try.okF86 : okF Try.prog 86 = true := by kernel_rfl
theorem Try.okF87 : okF Try.prog 87 = true := by kernel_rfl
theorem Try.okF88 : okF Try.prog 88 = true := by kernel_rfl
theorem Try.okF89 : okF Try.prog 89 = true := by kernel_rfl
theorem Try.okF90 : okF Try.prog 90 = true := by kernel_rfl
theorem Try.okF91 : okF Try.prog 91 = true := by kernel_rfl
theorem Try.okF92 : okF Try.prog 92 = true := by kernel_rfl
theorem Try.okF93 : okF Try.prog 93 = true := by kernel_rfl
theorem Try.okF94 : okF Try.prog 94 = true := by kernel_rfl
theorem Try.okF95 : okF Try.prog 95 = true := by kernel_rfl
theorem Try.okF96 : okF Try.prog 96 = true := by kernel_rfl
theorem Try.okF97 : okF Try.prog 97 = true := by kernel_rfl
theorem Try.okF98 : okF Try.prog 98 = true := by kernel_rfl
theorem Try.okF99 : okF Try.prog 99 = true := by kernel_rfl
theorem Try.okF100 : okF Try.prog 100 = true := by kernel_rfl
theorem Try.okF101 : okF Try.prog 101 = true := by kernel_rfl
theorem Try.okF102 : okF Try.prog 102 = true := by kernel_rfl
theorem Try.okF103 : okF Try.prog 103 = true := by kernel_rfl
theorem Try.okF104 : okF Try.prog 104 = true := by kernel_rfl
theorem Try.okF105 : okF Try.prog 105 = true := by kernel_rfl
theorem Try.okF106 : okF Try.prog 106 = true := by kernel_rfl
theorem Try.okF107 : okF Try.prog 107 = true := by kernel_rfl
theorem Try.okF108 : okF Try.prog 108 = true := by kernel_rfl
theorem Try.okF109 : okF Try.prog 109 = true := by kernel_rfl
theorem Try.okF110 : okF Try.prog 110 = true := by kernel_rfl
theorem Try.okF111 : okF Try.prog 111 = true := by kernel_rfl
theorem Try.okF112 : okF Try.prog 112 = true := by kernel_rfl
theorem Try.okF113 : okF Try.prog 113 = true := by kernel_rfl
theorem Try.okF114 : okF Try.prog 114 = true := by kernel_rfl
theorem Try.okF115 : okF Try.prog 115 = true := by kernel_rfl
theorem Try.okF116 : okF Try.prog 116 = true := by kernel_rfl
theorem Try.okF117 : okF Try.prog 117 = true := by kernel_rfl
theorem Try.okF118 : okF Try.prog 118 = true := by kernel_rfl
theorem Try.okF119 : okF Try.prog 119 = true := by kernel_rfl
theorem Try.okF120 : okF Try.prog 120 = true := by kernel_rfl
theorem Try.okF121 : okF Try.prog 121 = true := by kernel_rfl
theorem Try.okF122 : okF Try.prog 122 = true := by kernel_rfl
theorem Try.okF123 : okF Try.prog 123 = true := by kernel_rfl
theorem Try.okF124 : okF Try.prog 124 = true := by kernel_rfl
theorem Try.okF125 : okF Try.prog 125 = true := by kernel_rfl
theorem Try.okF126 : okF Try.prog 126 = true := by kernel_rfl
theorem Try.okF127 : okF Try.prog 127 = true := by kernel_rfl
theorem Try.okF128 : okF Try.prog 128 = true := by kernel_rfl
theorem Try.okF129 : okF Try.prog 129 = true := by kernel_rfl
theorem Try.okF130 : okF Try.prog 130 = true := by kernel_rfl
theorem Try.okF131 : okF Try.prog 131 = true := by kernel_rfl
theorem Try.okF132 : okF Try.prog 132 = true := by kernel_rfl
theorem Try.okF133 : okF Try.prog 133 = true := by kernel_rfl
theorem Try.okF134 : okF Try.prog 134 = true := by kernel_rfl
theorem Try.okF135 : okF Try.prog 135 = true := by kernel_rfl
theorem Try.okF136 : okF Try.prog 136 = true := by kernel_rfl
theorem Try.okF137 : okF Try.prog 137 = true := by kernel_rfl
theorem Try.okF138 : okF Try.prog 138 = true := by kernel_rfl
theorem Try.okF139 : okF Try.prog 139 = true := by kernel_rfl
theorem Try.okF140 : okF Try.prog 140 = true := by kernel_rfl
theorem Try.okF141 : okF Try.prog 141 = true := by kernel_rfl
theorem Try.okF142 : okF Try.prog 142 = true := by kernel_rfl
theorem Try.okF143 : okF Try.prog 143 = true := by kernel_rfl
theorem Try.okF144 : okF Try.prog 144 = true := by kernel_rfl
theorem Try.okF145 : okF Try.prog 145 = true := by kernel_rfl
theorem Try.okF146 : okF Try.prog 146 = true := by kernel_rfl
theorem Try.okF147 : okF Try.prog 147 = true := by kernel_rfl
theorem Try.okF148 : okF Try.prog 148 = true := by kernel_rfl
theorem Try.okF149 : okF Try.prog 149 = true := by kernel_rfl
theorem Try.okF150 : okF Try.prog 150 = true := by kernel_rfl
theorem Try.okF151 : okF Try.prog 151 = true := by kernel_rfl
theorem Try.okF152 : okF Try.prog 152 = true := by kernel_rfl
theorem Try.okF153 : okF Try.prog 153 = true := by kernel_rfl
theorem Try.okF154 : okF Try.prog 154 = true := by kernel_rfl
theorem Try.okF155 : okF Try.prog 155 = true := by kernel_rfl
theorem Try.okF156 : okF Try.prog 156 = true := by kernel_rfl
theorem Try.okF157 : okF Try.prog 157 = true := by kernel_rfl
theorem Try.okF158 : okF Try.prog 158 = true := by kernel_rfl
theorem Try.okF159 : okF Try.prog 159 = true := by kernel_rfl
theorem Try.okF160 : okF Try.prog 160 = true := by kernel_rfl
theorem Try.okF161 : okF Try.prog 161 = true := by kernel_rfl
theorem Try.okF162 : okF Try.prog 162 = true := by kernel_rfl
theorem Try.okF163 : okF Try.prog 163 = true := by kernel_rfl
theorem Try.okF164 : okF Try.prog 164 = true := by kernel_rfl
theorem Try.okF165 : okF Try.prog 165 = true := by kernel_rfl
theorem Try.okF166 : okF Try.prog 166 = true := by kernel_rfl
theorem Try.okF167 : okF Try.prog 167 = true := by kernel_rfl
theorem Try.okF168 : okF Try.prog 168 = true := by kernel_rfl
theorem Try.okF169 : okF Try.prog 169 = true := by kernel_rfl
theorem Try.okF170 : okF Try.prog 170 = true := by kernel_rfl
theorem Try.okF171 : okF Try.prog 171 = true := by kernel_rfl
theorem Try.okF172 : okF Try.prog 172 = true := by kernel_rfl
theorem Try.okF173 : okF Try.prog 173 = true := by kernel_rfl
theorem Try.okF174 : okF Try.prog 174 = true := by kernel_rfl
theorem Try.okF175 : okF Try.prog 175 = true := by kernel_rfl
theorem Try.okF176 : okF Try.prog 176 = true := by kernel_rfl
theorem Try.okF177 : okF Try.prog 177 = true := by kernel_rfl
theorem Try.okF178 : okF Try.prog 178 = true := by kernel_rfl
theorem Try.okF179 : okF Try.prog 179 = true := by kernel_rfl
theorem Try.okF180 : okF Try.prog 180 = true := by kernel_rfl
theorem Try.okF181 : okF Try.prog 181 = true := by kernel_rfl
theorem Try.okF182 : okF Try.prog 182 = true := by kernel_rfl
theorem Try.okF183 : okF Try.prog 183 = true := by kernel_rfl
theorem Try.okF184 : okF Try.prog 184 = true := by kernel_rfl
theorem Try.okF185 : okF Try.prog 185 = true := by kernel_rfl
theorem Try.okF186 : okF Try.prog 186 = true := by kernel_rfl
theorem Try.okF187 : okF Try.prog 187 = true := by kernel_rfl
theorem Try.okF188 : okF Try.prog 188 = true := by kernel_rfl
theorem Try.okF189 : okF Try.prog 189 = true := by kernel_rfl
theorem Try.okF190 : okF Try.prog 190 = true := by kernel_rfl
theorem Try.okF191 : okF Try.prog 191 = true := by kernel_rfl
theorem Try.okF192 : okF Try.prog 192 = true := by kernel_rfl
theorem Try.okF193 : okF Try.prog 193 = true := by kernel_rfl
theorem Try.okF194 : okF Try.prog 194 = true := by kernel_rfl
theorem Try.okF195 : okF Try.prog 195 = true := by kernel_rfl
theorem Try.okF196 : okF Try.prog 196 = true := by kernel_rfl
theorem Try.okF197 : okF Try.prog 197 = true := by kernel_rfl
theorem Try.okF198 : okF Try.prog 198 = true := by kernel_rfl
theorem Try.okF199 : okF Try.prog 199 = true := by kernel_rfl
theorem Try.okF200 : okF Try.prog 200 = true := by kernel_rfl
theorem Try.okF201 : okF Try.prog 201 = true := by kernel_rfl
theorem Try.okF202 : okF Try.prog 202 = true := by kernel_rfl
theorem Try.okF203 : okF Try.prog 203 = true := by kernel_rfl
theorem Try.okF204 : okF Try.prog 204 = true := by kernel_rfl
theorem Try.okF205 : okF Try.prog 205 = true := by kernel_rfl
theorem Try.okF206 : okF Try.prog 206 = true := by kernel_rfl
theorem Try.okF207 : okF Try.prog 207 = true := by kernel_rfl
theorem Try.okF208 : okF Try.prog 208 = true := by kernel_rfl
theorem Try.okF209 : okF Try.prog 209 = true := by kernel_rfl
theorem Try.okF210 : okF Try.prog 210 = true := by kernel_rfl
theorem Try.okF211 : okF Try.prog 211 = true := by kernel_rfl
theorem Try.okF212 : okF Try.prog 212 = true := by kernel_rfl
theorem Try.okF213 : okF Try.prog 213 = true := by kernel_rfl
theorem Try.okF214 : okF Try.prog 214 = true := by kernel_rfl
theorem Try.okF215 : okF Try.prog 215 = true := by kernel_rfl
theorem Try.okF216 : okF Try.prog 216 = true := by kernel_rfl
theorem Try.okF217 : okF Try.prog 217 = true := by kernel_rfl
theorem Try.okF218 : okF Try.prog 218 = true := by kernel_rfl
theorem Try.okF219 : okF Try.prog 219 = true := by kernel_rfl
theorem Try.okF220 : okF Try.prog 220 = true := by kernel_rfl
theorem Try.okF221 : okF Try.prog 221 = true := by kernel_rfl
theorem Try.okF222 : okF Try.prog 222 = true := by kernel_rfl
theorem Try.okF223 : okF Try.prog 223 = true := by kernel_rfl
theorem Try.okF224 : okF Try.prog 224 = true := by kernel_rfl
theorem Try.okF225 : okF Try.prog 225 = true := by kernel_rfl
theorem Try.okF226 : okF Try.prog 226 = true := by kernel_rfl
theorem Try.okF227 : okF Try.prog 227 = true := by kernel_rfl
theorem Try.okF228 : okF Try.prog 228 = true := by kernel_rfl
theorem Try.okF229 : okF Try.prog 229 = true := by kernel_rfl
theorem Try.okF230 : okF Try.prog 230 = true := by kernel_rfl
theorem Try.okF231 : okF Try.prog 231 = true := by kernel_rfl
theorem Try.okF232 : okF Try.prog 232 = true := by kernel_rfl
theorem Try.okF233 : okF Try.prog 233 = true := by kernel_rfl
theorem Try.okF234 : okF Try.prog 234 = true := by kernel_rfl
theorem Try.okF235 : okF Try.prog 235 = true := by kernel_rfl
theorem Try.okF236 : okF Try.prog 236 = true := by kernel_rfl
theorem Try.okF237 : okF Try.prog 237 = true := by kernel_rfl
theorem Try.okF238 : okF Try.prog 238 = true := by kernel_rfl
theorem Try.okF239 : okF Try.prog 239 = true := by kernel_rfl
theorem Try.okF240 : okF Try.prog 240 = true := by kernel_rfl
theorem Try.okF241 : okF Try.prog 241 = true := by kernel_rfl
theorem Try.okF242 : okF Try.prog 242 = true := by kernel_rfl
theorem Try.okF243 : okF Try.prog 243 = true := by kernel_rfl
theorem Try.okF244 : okF Try.prog 244 = true := by kernel_rfl
theorem Try.okF245 : okF Try.prog 245 = true := by kernel_rfl
theorem Try.okF246 : okF Try.prog 246 = true := by kernel_rfl
theorem Try.okF247 : okF Try.prog 247 = true := by kernel_rfl
theorem Try.okF248 : okF Try.prog 248 = true := by kernel_rfl
theorem Try.okF249 : okF Try.prog 249 = true := by kernel_rfl
theorem Try.okF250 : okF Try.prog 250 = true := by kernel_rfl
theorem Try.okF251 : okF Try.prog 251 = true := by kernel_rfl
theorem Try.okF252 : okF Try.prog 252 = true := by kernel_rfl
theorem Try.okF253 : okF Try.prog 253 = true := by kernel_rfl
theorem Try.okF254 : okF Try.prog 254 = true := by kernel_rfl
theorem Try.okF255 : okF Try.prog 255 = true := by kernel_rfl
theorem Try.okF256 : okF Try.prog 256 = true := by kernel_rfl
theorem Try.okF257 : okF Try.prog 257 = true := by kernel_rfl
theorem Try.okF258 : okF Try.prog 258 = true := by kernel_rfl
theorem Try.okF259 : okF Try.prog 259 = true := by kernel_rfl
theorem Try.okF260 : okF Try.prog 260 = true := by kernel_rfl
theorem Try.okF261 : okF Try.prog 261 = true := by kernel_rfl
theorem Try.okF262 : okF Try.prog 262 = true := by kernel_rfl
theorem Try.okF263 : okF Try.prog 263 = true := by kernel_rfl
theorem Try.okF264 : okF Try.prog 264 = true := by kernel_rfl
theorem Try.okF265 : okF Try.prog 265 = true := by kernel_rfl
theorem Try.okF266 : okF Try.prog 266 = true := by kernel_rfl
theorem Try.okF267 : okF Try.prog 267 = true := by kernel_rfl
theorem Try.okF268 : okF Try.prog 268 = true := by kernel_rfl
theorem Try.okF269 : okF Try.prog 269 = true := by kernel_rfl
theorem Try.okF270 : okF Try.prog 270 = true := by kernel_rfl
theorem Try.okF271 : okF Try.prog 271 = true := by kernel_rfl
theorem Try.okF272 : okF Try.prog 272 = true := by kernel_rfl
theorem Try.okF273 : okF Try.prog 273 = true := by kernel_rfl
theorem Try.okF274 : okF Try.prog 274 = true := by kernel_rfl
theorem Try.okF275 : okF Try.prog 275 = true := by kernel_rfl
theorem Try.okF276 : okF Try.prog 276 = true := by kernel_rfl
theorem Try.okF277 : okF Try.prog 277 = true := by kernel_rfl
theorem Try.okF278 : okF Try.prog 278 = true := by kernel_rfl
theorem Try.okF279 : okF Try.prog 279 = true := by kernel_rfl
theorem Try.okF280 : okF Try.prog 280 = true := by kernel_rfl
theorem Try.okF281 : okF Try.prog 281 = true := by kernel_rfl
theorem Try.okF282 : okF Try.prog 282 = true := by kernel_rfl
theorem Try.okF283 : okF Try.prog 283 = true := by kernel_rfl
theorem Try.okF284 : okF Try.prog 284 = true := by kernel_rfl
theorem Try.okF285 : okF Try.prog 285 = true := by kernel_rfl
theorem Try.okF286 : okF Try.prog 286 = true := by kernel_rfl
theorem Try.okF287 : okF Try.prog 287 = true := by kernel_rfl
theorem Try.okF288 : okF Try.prog 288 = true := by kernel_rfl
end Go.Proofs
