/-
  A part of the proof: texts put together by a program of the prover. Conditions: none.
-/
import Derived.Test.YtajpdjhjahobnaaZFaultsLaw3
import Derived.Test.YtajpdjhjahobnaaProg
import Derived.KernelRfl
set_option linter.unusedSimpArgs false
set_option linter.unusedVariables false
section
namespace Go.Proofs
open Go.Lv

theorem Try.mixed : Try.prog.follows .mixedOrders = true := by kernel_rfl
@[go_sem] theorem Try.tsz1 : tszOf Try.prog 1 = some (1, false) := by kernel_rfl
@[go_sem] theorem Try.udef1 : (Try.prog.underlying 1).isSome = true := by kernel_rfl
@[go_sem] theorem Try.zero1 : zeroOf Try.prog 1 = some [.lit ((Go.Value.nilFunc))] := by kernel_rfl
@[go_sem] theorem Try.tsz2 : tszOf Try.prog 2 = some (1, false) := by kernel_rfl
@[go_sem] theorem Try.udef2 : (Try.prog.underlying 2).isSome = true := by kernel_rfl
@[go_sem] theorem Try.zero2 : zeroOf Try.prog 2 = some [.int .i64 0] := by kernel_rfl
@[go_sem] theorem Try.isInt2 : isIntT Try.prog 2 = some .i64 := by kernel_rfl
@[go_sem] theorem Try.tsz3 : tszOf Try.prog 3 = some (1, false) := by kernel_rfl
@[go_sem] theorem Try.udef3 : (Try.prog.underlying 3).isSome = true := by kernel_rfl
@[go_sem] theorem Try.zero3 : zeroOf Try.prog 3 = some [.int .i64 0] := by kernel_rfl
@[go_sem] theorem Try.isInt3 : isIntT Try.prog 3 = some .i64 := by kernel_rfl
@[go_sem] theorem Try.tsz4 : tszOf Try.prog 4 = some (1, false) := by kernel_rfl
@[go_sem] theorem Try.udef4 : (Try.prog.underlying 4).isSome = true := by kernel_rfl
@[go_sem] theorem Try.zero4 : zeroOf Try.prog 4 = some [.bool false] := by kernel_rfl
@[go_sem] theorem Try.isBool4 : isBoolT Try.prog 4 = true := by kernel_rfl
@[go_sem] theorem Try.tsz5 : tszOf Try.prog 5 = some (1, false) := by kernel_rfl
theorem Try.cz5 : Try.prog.cellsOf 5 = 1 := by kernel_rfl
@[go_sem] theorem Try.udef5 : (Try.prog.underlying 5).isSome = true := by kernel_rfl
@[go_sem] theorem Try.zero5 : zeroOf Try.prog 5 = some [.int .u8 0] := by kernel_rfl
@[go_sem] theorem Try.isInt5 : isIntT Try.prog 5 = some .u8 := by kernel_rfl
@[go_sem] theorem Try.tsz6 : tszOf Try.prog 6 = some (1, false) := by kernel_rfl
@[go_sem] theorem Try.udef6 : (Try.prog.underlying 6).isSome = true := by kernel_rfl
@[go_sem] theorem Try.zero6 : zeroOf Try.prog 6 = some [.int .u8 0] := by kernel_rfl
@[go_sem] theorem Try.isInt6 : isIntT Try.prog 6 = some .u8 := by kernel_rfl
@[go_sem] theorem Try.tsz7 : tszOf Try.prog 7 = some (4, true) := by kernel_rfl
@[go_sem] theorem Try.udef7 : (Try.prog.underlying 7).isSome = true := by kernel_rfl
@[go_sem] theorem Try.zero7 : zeroOf Try.prog 7 = some [.int .i64 0, .int .i64 0, .bool false, .int .u8 0] := by kernel_rfl
@[go_sem] theorem Try.pl7 : plOf Try.prog 7 = some [(0, 1), (1, 1), (2, 1), (3, 1)] := by kernel_rfl
@[go_sem] theorem Try.tsz8 : tszOf Try.prog 8 = some (4, true) := by kernel_rfl
@[go_sem] theorem Try.udef8 : (Try.prog.underlying 8).isSome = true := by kernel_rfl
@[go_sem] theorem Try.zero8 : zeroOf Try.prog 8 = some [.int .i64 0, .int .i64 0, .bool false, .int .u8 0] := by kernel_rfl
@[go_sem] theorem Try.pl8 : plOf Try.prog 8 = some [(0, 1), (1, 1), (2, 1), (3, 1)] := by kernel_rfl
@[go_sem] theorem Try.tsz9 : tszOf Try.prog 9 = some (1, false) := by kernel_rfl
@[go_sem] theorem Try.udef9 : (Try.prog.underlying 9).isSome = true := by kernel_rfl
@[go_sem] theorem Try.zero9 : zeroOf Try.prog 9 = some [.str ByteArray.empty] := by kernel_rfl
@[go_sem] theorem Try.isU8S9 : isU8S Try.prog 9 = false := by kernel_rfl
@[go_sem] theorem Try.isIntN9 : isIntT Try.prog 9 = none := by kernel_rfl
@[go_sem] theorem Try.isStr9 : isStr Try.prog 9 = true := by kernel_rfl
@[go_sem] theorem Try.tsz10 : tszOf Try.prog 10 = some (1, false) := by kernel_rfl
@[go_sem] theorem Try.udef10 : (Try.prog.underlying 10).isSome = true := by kernel_rfl
@[go_sem] theorem Try.zero10 : zeroOf Try.prog 10 = some [.str ByteArray.empty] := by kernel_rfl
@[go_sem] theorem Try.isU8S10 : isU8S Try.prog 10 = false := by kernel_rfl
@[go_sem] theorem Try.isIntN10 : isIntT Try.prog 10 = none := by kernel_rfl
@[go_sem] theorem Try.isStr10 : isStr Try.prog 10 = true := by kernel_rfl
@[go_sem] theorem Try.tsz11 : tszOf Try.prog 11 = some (1, false) := by kernel_rfl
@[go_sem] theorem Try.udef11 : (Try.prog.underlying 11).isSome = true := by kernel_rfl
@[go_sem] theorem Try.zero11 : zeroOf Try.prog 11 = some [.str ByteArray.empty] := by kernel_rfl
@[go_sem] theorem Try.isU8S11 : isU8S Try.prog 11 = false := by kernel_rfl
@[go_sem] theorem Try.isIntN11 : isIntT Try.prog 11 = none := by kernel_rfl
@[go_sem] theorem Try.isStr11 : isStr Try.prog 11 = true := by kernel_rfl
@[go_sem] theorem Try.tsz12 : tszOf Try.prog 12 = some (1, false) := by kernel_rfl
@[go_sem] theorem Try.udef12 : (Try.prog.underlying 12).isSome = true := by kernel_rfl
@[go_sem] theorem Try.zero12 : zeroOf Try.prog 12 = some [.int .u64 0] := by kernel_rfl
@[go_sem] theorem Try.isInt12 : isIntT Try.prog 12 = some .u64 := by kernel_rfl
@[go_sem] theorem Try.tsz13 : tszOf Try.prog 13 = some (2, true) := by kernel_rfl
@[go_sem] theorem Try.udef13 : (Try.prog.underlying 13).isSome = true := by kernel_rfl
@[go_sem] theorem Try.zero13 : zeroOf Try.prog 13 = some [.str ByteArray.empty, .int .u64 0] := by kernel_rfl
@[go_sem] theorem Try.pl13 : plOf Try.prog 13 = some [(0, 1), (1, 1)] := by kernel_rfl
@[go_sem] theorem Try.tsz14 : tszOf Try.prog 14 = some (2, true) := by kernel_rfl
@[go_sem] theorem Try.udef14 : (Try.prog.underlying 14).isSome = true := by kernel_rfl
@[go_sem] theorem Try.zero14 : zeroOf Try.prog 14 = some [.str ByteArray.empty, .int .u64 0] := by kernel_rfl
@[go_sem] theorem Try.pl14 : plOf Try.prog 14 = some [(0, 1), (1, 1)] := by kernel_rfl
@[go_sem] theorem Try.tsz15 : tszOf Try.prog 15 = some (1, false) := by kernel_rfl
@[go_sem] theorem Try.udef15 : (Try.prog.underlying 15).isSome = true := by kernel_rfl
@[go_sem] theorem Try.zero15 : zeroOf Try.prog 15 = some [.lit ((Go.Value.pointer none))] := by kernel_rfl
@[go_sem] theorem Try.tsz16 : tszOf Try.prog 16 = some (1, false) := by kernel_rfl
@[go_sem] theorem Try.udef16 : (Try.prog.underlying 16).isSome = true := by kernel_rfl
@[go_sem] theorem Try.zero16 : zeroOf Try.prog 16 = some [.lit ((Go.Value.pointer none))] := by kernel_rfl
@[go_sem] theorem Try.tsz17 : tszOf Try.prog 17 = some (1, false) := by kernel_rfl
@[go_sem] theorem Try.udef17 : (Try.prog.underlying 17).isSome = true := by kernel_rfl
@[go_sem] theorem Try.zero17 : zeroOf Try.prog 17 = some [.lit ((Go.Value.pointer none))] := by kernel_rfl
@[go_sem] theorem Try.tsz18 : tszOf Try.prog 18 = some (1, true) := by kernel_rfl
@[go_sem] theorem Try.udef18 : (Try.prog.underlying 18).isSome = true := by kernel_rfl
@[go_sem] theorem Try.zero18 : zeroOf Try.prog 18 = some [.lit ((Go.Value.pointer none))] := by kernel_rfl
@[go_sem] theorem Try.pl18 : plOf Try.prog 18 = some [(0, 1)] := by kernel_rfl
@[go_sem] theorem Try.tsz19 : tszOf Try.prog 19 = some (1, true) := by kernel_rfl
@[go_sem] theorem Try.udef19 : (Try.prog.underlying 19).isSome = true := by kernel_rfl
@[go_sem] theorem Try.zero19 : zeroOf Try.prog 19 = some [.lit ((Go.Value.pointer none))] := by kernel_rfl
@[go_sem] theorem Try.pl19 : plOf Try.prog 19 = some [(0, 1)] := by kernel_rfl
@[go_sem] theorem Try.tsz20 : tszOf Try.prog 20 = some (1, false) := by kernel_rfl
@[go_sem] theorem Try.udef20 : (Try.prog.underlying 20).isSome = true := by kernel_rfl
@[go_sem] theorem Try.zero20 : zeroOf Try.prog 20 = some [.lit ((Go.Value.nilIface))] := by kernel_rfl
@[go_sem] theorem Try.tsz21 : tszOf Try.prog 21 = some (1, false) := by kernel_rfl
@[go_sem] theorem Try.udef21 : (Try.prog.underlying 21).isSome = true := by kernel_rfl
@[go_sem] theorem Try.zero21 : zeroOf Try.prog 21 = some [.int .i32 0] := by kernel_rfl
@[go_sem] theorem Try.isInt21 : isIntT Try.prog 21 = some .i32 := by kernel_rfl
@[go_sem] theorem Try.tsz22 : tszOf Try.prog 22 = some (1, false) := by kernel_rfl
@[go_sem] theorem Try.udef22 : (Try.prog.underlying 22).isSome = true := by kernel_rfl
@[go_sem] theorem Try.zero22 : zeroOf Try.prog 22 = some [.nilsl] := by kernel_rfl
@[go_sem] theorem Try.el22 : elOf Try.prog 22 = some (56, 4, 56) := by kernel_rfl
@[go_sem] theorem Try.isSl22 : isSl Try.prog 22 = true := by kernel_rfl
@[go_sem] theorem Try.tsz23 : tszOf Try.prog 23 = some (1, false) := by kernel_rfl
@[go_sem] theorem Try.udef23 : (Try.prog.underlying 23).isSome = true := by kernel_rfl
@[go_sem] theorem Try.zero23 : zeroOf Try.prog 23 = some [.lit ((Go.Value.nilFunc))] := by kernel_rfl
@[go_sem] theorem Try.tsz24 : tszOf Try.prog 24 = some (1, false) := by kernel_rfl
@[go_sem] theorem Try.udef24 : (Try.prog.underlying 24).isSome = true := by kernel_rfl
@[go_sem] theorem Try.zero24 : zeroOf Try.prog 24 = some [.nilsl] := by kernel_rfl
@[go_sem] theorem Try.el24 : elOf Try.prog 24 = some (35, 4, 56) := by kernel_rfl
@[go_sem] theorem Try.isSl24 : isSl Try.prog 24 = true := by kernel_rfl
@[go_sem] theorem Try.tsz26 : tszOf Try.prog 26 = some (1, false) := by kernel_rfl
@[go_sem] theorem Try.udef26 : (Try.prog.underlying 26).isSome = true := by kernel_rfl
@[go_sem] theorem Try.zero26 : zeroOf Try.prog 26 = some [.lit ((Go.Value.nilFunc))] := by kernel_rfl
@[go_sem] theorem Try.tsz27 : tszOf Try.prog 27 = some (1, false) := by kernel_rfl
@[go_sem] theorem Try.udef27 : (Try.prog.underlying 27).isSome = true := by kernel_rfl
@[go_sem] theorem Try.zero27 : zeroOf Try.prog 27 = some [.lit ((Go.Value.nilFunc))] := by kernel_rfl
@[go_sem] theorem Try.tsz28 : tszOf Try.prog 28 = some (1, false) := by kernel_rfl
@[go_sem] theorem Try.udef28 : (Try.prog.underlying 28).isSome = true := by kernel_rfl
@[go_sem] theorem Try.zero28 : zeroOf Try.prog 28 = some [.lit ((Go.Value.nilFunc))] := by kernel_rfl
@[go_sem] theorem Try.tsz29 : tszOf Try.prog 29 = some (1, false) := by kernel_rfl
@[go_sem] theorem Try.udef29 : (Try.prog.underlying 29).isSome = true := by kernel_rfl
@[go_sem] theorem Try.zero29 : zeroOf Try.prog 29 = some [.lit ((Go.Value.nilFunc))] := by kernel_rfl
@[go_sem] theorem Try.tsz30 : tszOf Try.prog 30 = some (1, false) := by kernel_rfl
@[go_sem] theorem Try.udef30 : (Try.prog.underlying 30).isSome = true := by kernel_rfl
@[go_sem] theorem Try.zero30 : zeroOf Try.prog 30 = some [.lit ((Go.Value.nilFunc))] := by kernel_rfl
@[go_sem] theorem Try.tsz31 : tszOf Try.prog 31 = some (1, false) := by kernel_rfl
@[go_sem] theorem Try.udef31 : (Try.prog.underlying 31).isSome = true := by kernel_rfl
@[go_sem] theorem Try.zero31 : zeroOf Try.prog 31 = some [.nilsl] := by kernel_rfl
@[go_sem] theorem Try.el31 : elOf Try.prog 31 = some (5, 1, 1) := by kernel_rfl
@[go_sem] theorem Try.isSl31 : isSl Try.prog 31 = true := by kernel_rfl
@[go_sem] theorem Try.isU8S31 : isU8S Try.prog 31 = true := by kernel_rfl
@[go_sem] theorem Try.tsz32 : tszOf Try.prog 32 = some (1, false) := by kernel_rfl
@[go_sem] theorem Try.udef32 : (Try.prog.underlying 32).isSome = true := by kernel_rfl
@[go_sem] theorem Try.zero32 : zeroOf Try.prog 32 = some [.lit ((Go.Value.nilFunc))] := by kernel_rfl
@[go_sem] theorem Try.tsz33 : tszOf Try.prog 33 = some (1, false) := by kernel_rfl
@[go_sem] theorem Try.udef33 : (Try.prog.underlying 33).isSome = true := by kernel_rfl
@[go_sem] theorem Try.zero33 : zeroOf Try.prog 33 = some [.nilsl] := by kernel_rfl
@[go_sem] theorem Try.el33 : elOf Try.prog 33 = some (44, 2, 16) := by kernel_rfl
@[go_sem] theorem Try.isSl33 : isSl Try.prog 33 = true := by kernel_rfl
@[go_sem] theorem Try.tsz34 : tszOf Try.prog 34 = some (4, true) := by kernel_rfl
@[go_sem] theorem Try.udef34 : (Try.prog.underlying 34).isSome = true := by kernel_rfl
@[go_sem] theorem Try.zero34 : zeroOf Try.prog 34 = some [.int .i64 0, .str ByteArray.empty, .nilsl, .int .i64 0] := by kernel_rfl
@[go_sem] theorem Try.pl34 : plOf Try.prog 34 = some [(0, 1), (1, 1), (2, 1), (3, 1)] := by kernel_rfl
@[go_sem] theorem Try.tsz35 : tszOf Try.prog 35 = some (4, true) := by kernel_rfl
@[go_sem] theorem Try.udef35 : (Try.prog.underlying 35).isSome = true := by kernel_rfl
@[go_sem] theorem Try.zero35 : zeroOf Try.prog 35 = some [.int .i64 0, .str ByteArray.empty, .nilsl, .int .i64 0] := by kernel_rfl
@[go_sem] theorem Try.pl35 : plOf Try.prog 35 = some [(0, 1), (1, 1), (2, 1), (3, 1)] := by kernel_rfl
@[go_sem] theorem Try.fd35_0 : fdOf Try.prog 35 0 = some (0, 1, false) := by kernel_rfl
@[go_sem] theorem Try.fd35_1 : fdOf Try.prog 35 1 = some (1, 1, false) := by kernel_rfl
@[go_sem] theorem Try.fd35_2 : fdOf Try.prog 35 2 = some (2, 1, false) := by kernel_rfl
@[go_sem] theorem Try.fd35_3 : fdOf Try.prog 35 3 = some (3, 1, false) := by kernel_rfl
@[go_sem] theorem Try.tsz36 : tszOf Try.prog 36 = some (1, false) := by kernel_rfl
@[go_sem] theorem Try.udef36 : (Try.prog.underlying 36).isSome = true := by kernel_rfl
@[go_sem] theorem Try.zero36 : zeroOf Try.prog 36 = some [.lit ((Go.Value.nilFunc))] := by kernel_rfl
@[go_sem] theorem Try.tsz38 : tszOf Try.prog 38 = some (1, false) := by kernel_rfl
@[go_sem] theorem Try.udef38 : (Try.prog.underlying 38).isSome = true := by kernel_rfl
@[go_sem] theorem Try.zero38 : zeroOf Try.prog 38 = some [.lit ((Go.Value.nilFunc))] := by kernel_rfl
@[go_sem] theorem Try.tsz39 : tszOf Try.prog 39 = some (1, false) := by kernel_rfl
@[go_sem] theorem Try.udef39 : (Try.prog.underlying 39).isSome = true := by kernel_rfl
@[go_sem] theorem Try.zero39 : zeroOf Try.prog 39 = some [.lit ((Go.Value.nilFunc))] := by kernel_rfl
@[go_sem] theorem Try.tsz40 : tszOf Try.prog 40 = some (1, false) := by kernel_rfl
@[go_sem] theorem Try.udef40 : (Try.prog.underlying 40).isSome = true := by kernel_rfl
@[go_sem] theorem Try.zero40 : zeroOf Try.prog 40 = some [.lit ((Go.Value.nilFunc))] := by kernel_rfl
@[go_sem] theorem Try.tsz42 : tszOf Try.prog 42 = some (1, false) := by kernel_rfl
@[go_sem] theorem Try.udef42 : (Try.prog.underlying 42).isSome = true := by kernel_rfl
@[go_sem] theorem Try.zero42 : zeroOf Try.prog 42 = some [.lit ((Go.Value.nilFunc))] := by kernel_rfl
@[go_sem] theorem Try.tsz43 : tszOf Try.prog 43 = some (2, true) := by kernel_rfl
@[go_sem] theorem Try.udef43 : (Try.prog.underlying 43).isSome = true := by kernel_rfl
@[go_sem] theorem Try.zero43 : zeroOf Try.prog 43 = some [.int .i64 0, .int .i64 0] := by kernel_rfl
@[go_sem] theorem Try.pl43 : plOf Try.prog 43 = some [(0, 1), (1, 1)] := by kernel_rfl
@[go_sem] theorem Try.tsz44 : tszOf Try.prog 44 = some (2, true) := by kernel_rfl
@[go_sem] theorem Try.udef44 : (Try.prog.underlying 44).isSome = true := by kernel_rfl
@[go_sem] theorem Try.zero44 : zeroOf Try.prog 44 = some [.int .i64 0, .int .i64 0] := by kernel_rfl
@[go_sem] theorem Try.flatEq44 : flatEq Try.prog 44 = some [.int .i64, .int .i64] := by kernel_rfl
@[go_sem] theorem Try.pl44 : plOf Try.prog 44 = some [(0, 1), (1, 1)] := by kernel_rfl
@[go_sem] theorem Try.fd44_0 : fdOf Try.prog 44 0 = some (0, 1, false) := by kernel_rfl
@[go_sem] theorem Try.fd44_1 : fdOf Try.prog 44 1 = some (1, 1, false) := by kernel_rfl
@[go_sem] theorem Try.tsz46 : tszOf Try.prog 46 = some (1, false) := by kernel_rfl
@[go_sem] theorem Try.udef46 : (Try.prog.underlying 46).isSome = true := by kernel_rfl
@[go_sem] theorem Try.zero46 : zeroOf Try.prog 46 = some [.lit ((Go.Value.nilFunc))] := by kernel_rfl
@[go_sem] theorem Try.tsz47 : tszOf Try.prog 47 = some (1, false) := by kernel_rfl
@[go_sem] theorem Try.udef47 : (Try.prog.underlying 47).isSome = true := by kernel_rfl
@[go_sem] theorem Try.zero47 : zeroOf Try.prog 47 = some [.lit ((Go.Value.nilFunc))] := by kernel_rfl
@[go_sem] theorem Try.tsz49 : tszOf Try.prog 49 = some (1, false) := by kernel_rfl
@[go_sem] theorem Try.udef49 : (Try.prog.underlying 49).isSome = true := by kernel_rfl
@[go_sem] theorem Try.zero49 : zeroOf Try.prog 49 = some [.lit ((Go.Value.nilFunc))] := by kernel_rfl
@[go_sem] theorem Try.tsz51 : tszOf Try.prog 51 = some (1, false) := by kernel_rfl
@[go_sem] theorem Try.udef51 : (Try.prog.underlying 51).isSome = true := by kernel_rfl
@[go_sem] theorem Try.zero51 : zeroOf Try.prog 51 = some [.lit ((Go.Value.nilFunc))] := by kernel_rfl
@[go_sem] theorem Try.tsz52 : tszOf Try.prog 52 = some (1, false) := by kernel_rfl
@[go_sem] theorem Try.udef52 : (Try.prog.underlying 52).isSome = true := by kernel_rfl
@[go_sem] theorem Try.zero52 : zeroOf Try.prog 52 = some [.lit ((Go.Value.nilFunc))] := by kernel_rfl
@[go_sem] theorem Try.tsz53 : tszOf Try.prog 53 = some (1, false) := by kernel_rfl
@[go_sem] theorem Try.udef53 : (Try.prog.underlying 53).isSome = true := by kernel_rfl
@[go_sem] theorem Try.zero53 : zeroOf Try.prog 53 = some [.lit ((Go.Value.nilFunc))] := by kernel_rfl
@[go_sem] theorem Try.tsz54 : tszOf Try.prog 54 = some (1, false) := by kernel_rfl
@[go_sem] theorem Try.udef54 : (Try.prog.underlying 54).isSome = true := by kernel_rfl
@[go_sem] theorem Try.zero54 : zeroOf Try.prog 54 = some [.nilsl] := by kernel_rfl
@[go_sem] theorem Try.el54 : elOf Try.prog 54 = some (101, 2, 16) := by kernel_rfl
@[go_sem] theorem Try.isSl54 : isSl Try.prog 54 = true := by kernel_rfl
@[go_sem] theorem Try.tsz55 : tszOf Try.prog 55 = some (4, true) := by kernel_rfl
@[go_sem] theorem Try.udef55 : (Try.prog.underlying 55).isSome = true := by kernel_rfl
@[go_sem] theorem Try.zero55 : zeroOf Try.prog 55 = some [.int .i64 0, .str ByteArray.empty, .nilsl, .int .i64 0] := by kernel_rfl
@[go_sem] theorem Try.pl55 : plOf Try.prog 55 = some [(0, 1), (1, 1), (2, 1), (3, 1)] := by kernel_rfl
@[go_sem] theorem Try.tsz56 : tszOf Try.prog 56 = some (4, true) := by kernel_rfl
@[go_sem] theorem Try.udef56 : (Try.prog.underlying 56).isSome = true := by kernel_rfl
@[go_sem] theorem Try.zero56 : zeroOf Try.prog 56 = some [.int .i64 0, .str ByteArray.empty, .nilsl, .int .i64 0] := by kernel_rfl
@[go_sem] theorem Try.pl56 : plOf Try.prog 56 = some [(0, 1), (1, 1), (2, 1), (3, 1)] := by kernel_rfl
@[go_sem] theorem Try.fd56_0 : fdOf Try.prog 56 0 = some (0, 1, false) := by kernel_rfl
@[go_sem] theorem Try.fd56_1 : fdOf Try.prog 56 1 = some (1, 1, false) := by kernel_rfl
@[go_sem] theorem Try.fd56_2 : fdOf Try.prog 56 2 = some (2, 1, false) := by kernel_rfl
@[go_sem] theorem Try.fd56_3 : fdOf Try.prog 56 3 = some (3, 1, false) := by kernel_rfl
@[go_sem] theorem Try.tsz57 : tszOf Try.prog 57 = some (1, false) := by kernel_rfl
@[go_sem] theorem Try.udef57 : (Try.prog.underlying 57).isSome = true := by kernel_rfl
@[go_sem] theorem Try.zero57 : zeroOf Try.prog 57 = some [.lit ((Go.Value.nilFunc))] := by kernel_rfl
@[go_sem] theorem Try.tsz58 : tszOf Try.prog 58 = some (1, false) := by kernel_rfl
@[go_sem] theorem Try.udef58 : (Try.prog.underlying 58).isSome = true := by kernel_rfl
@[go_sem] theorem Try.zero58 : zeroOf Try.prog 58 = some [.lit ((Go.Value.nilFunc))] := by kernel_rfl
@[go_sem] theorem Try.tsz59 : tszOf Try.prog 59 = some (1, false) := by kernel_rfl
@[go_sem] theorem Try.udef59 : (Try.prog.underlying 59).isSome = true := by kernel_rfl
@[go_sem] theorem Try.zero59 : zeroOf Try.prog 59 = some [.lit ((Go.Value.nilFunc))] := by kernel_rfl
@[go_sem] theorem Try.tsz60 : tszOf Try.prog 60 = some (1, false) := by kernel_rfl
@[go_sem] theorem Try.udef60 : (Try.prog.underlying 60).isSome = true := by kernel_rfl
@[go_sem] theorem Try.zero60 : zeroOf Try.prog 60 = some [.lit ((Go.Value.nilFunc))] := by kernel_rfl
@[go_sem] theorem Try.tsz61 : tszOf Try.prog 61 = some (1, false) := by kernel_rfl
@[go_sem] theorem Try.udef61 : (Try.prog.underlying 61).isSome = true := by kernel_rfl
@[go_sem] theorem Try.zero61 : zeroOf Try.prog 61 = some [.lit ((Go.Value.nilFunc))] := by kernel_rfl
@[go_sem] theorem Try.tsz62 : tszOf Try.prog 62 = some (1, false) := by kernel_rfl
@[go_sem] theorem Try.udef62 : (Try.prog.underlying 62).isSome = true := by kernel_rfl
@[go_sem] theorem Try.zero62 : zeroOf Try.prog 62 = some [.lit ((Go.Value.nilFunc))] := by kernel_rfl
@[go_sem] theorem Try.tsz63 : tszOf Try.prog 63 = some (1, false) := by kernel_rfl
@[go_sem] theorem Try.udef63 : (Try.prog.underlying 63).isSome = true := by kernel_rfl
@[go_sem] theorem Try.zero63 : zeroOf Try.prog 63 = some [.lit ((Go.Value.nilFunc))] := by kernel_rfl
@[go_sem] theorem Try.tsz64 : tszOf Try.prog 64 = some (1, false) := by kernel_rfl
@[go_sem] theorem Try.udef64 : (Try.prog.underlying 64).isSome = true := by kernel_rfl
@[go_sem] theorem Try.zero64 : zeroOf Try.prog 64 = some [.lit ((Go.Value.nilFunc))] := by kernel_rfl
@[go_sem] theorem Try.tsz65 : tszOf Try.prog 65 = some (1, false) := by kernel_rfl
@[go_sem] theorem Try.udef65 : (Try.prog.underlying 65).isSome = true := by kernel_rfl
@[go_sem] theorem Try.zero65 : zeroOf Try.prog 65 = some [.lit ((Go.Value.nilFunc))] := by kernel_rfl
@[go_sem] theorem Try.tsz66 : tszOf Try.prog 66 = some (1, false) := by kernel_rfl
@[go_sem] theorem Try.udef66 : (Try.prog.underlying 66).isSome = true := by kernel_rfl
@[go_sem] theorem Try.zero66 : zeroOf Try.prog 66 = some [.lit ((Go.Value.nilFunc))] := by kernel_rfl
@[go_sem] theorem Try.tsz67 : tszOf Try.prog 67 = some (1, false) := by kernel_rfl
@[go_sem] theorem Try.udef67 : (Try.prog.underlying 67).isSome = true := by kernel_rfl
@[go_sem] theorem Try.zero67 : zeroOf Try.prog 67 = some [.lit ((Go.Value.nilFunc))] := by kernel_rfl
@[go_sem] theorem Try.tsz68 : tszOf Try.prog 68 = some (1, false) := by kernel_rfl
@[go_sem] theorem Try.udef68 : (Try.prog.underlying 68).isSome = true := by kernel_rfl
@[go_sem] theorem Try.zero68 : zeroOf Try.prog 68 = some [.lit ((Go.Value.nilFunc))] := by kernel_rfl
@[go_sem] theorem Try.tsz69 : tszOf Try.prog 69 = some (1, false) := by kernel_rfl
@[go_sem] theorem Try.udef69 : (Try.prog.underlying 69).isSome = true := by kernel_rfl
@[go_sem] theorem Try.zero69 : zeroOf Try.prog 69 = some [.lit ((Go.Value.nilFunc))] := by kernel_rfl
@[go_sem] theorem Try.tsz70 : tszOf Try.prog 70 = some (1, false) := by kernel_rfl
@[go_sem] theorem Try.udef70 : (Try.prog.underlying 70).isSome = true := by kernel_rfl
@[go_sem] theorem Try.zero70 : zeroOf Try.prog 70 = some [.lit ((Go.Value.nilFunc))] := by kernel_rfl
@[go_sem] theorem Try.tsz71 : tszOf Try.prog 71 = some (1, false) := by kernel_rfl
@[go_sem] theorem Try.udef71 : (Try.prog.underlying 71).isSome = true := by kernel_rfl
@[go_sem] theorem Try.zero71 : zeroOf Try.prog 71 = some [.lit ((Go.Value.nilFunc))] := by kernel_rfl
@[go_sem] theorem Try.tsz72 : tszOf Try.prog 72 = some (1, false) := by kernel_rfl
@[go_sem] theorem Try.udef72 : (Try.prog.underlying 72).isSome = true := by kernel_rfl
@[go_sem] theorem Try.zero72 : zeroOf Try.prog 72 = some [.lit ((Go.Value.nilFunc))] := by kernel_rfl
@[go_sem] theorem Try.tsz73 : tszOf Try.prog 73 = some (1, false) := by kernel_rfl
@[go_sem] theorem Try.udef73 : (Try.prog.underlying 73).isSome = true := by kernel_rfl
@[go_sem] theorem Try.zero73 : zeroOf Try.prog 73 = some [.lit ((Go.Value.pointer none))] := by kernel_rfl
@[go_sem] theorem Try.tsz74 : tszOf Try.prog 74 = some (1, false) := by kernel_rfl
@[go_sem] theorem Try.udef74 : (Try.prog.underlying 74).isSome = true := by kernel_rfl
@[go_sem] theorem Try.zero74 : zeroOf Try.prog 74 = some [.int .u64 0] := by kernel_rfl
@[go_sem] theorem Try.isInt74 : isIntT Try.prog 74 = some .u64 := by kernel_rfl
@[go_sem] theorem Try.tsz75 : tszOf Try.prog 75 = some (3, true) := by kernel_rfl
@[go_sem] theorem Try.udef75 : (Try.prog.underlying 75).isSome = true := by kernel_rfl
@[go_sem] theorem Try.zero75 : zeroOf Try.prog 75 = some [.nilsl, .int .i64 0, .int .u64 0] := by kernel_rfl
@[go_sem] theorem Try.pl75 : plOf Try.prog 75 = some [(0, 1), (1, 1), (2, 1)] := by kernel_rfl
@[go_sem] theorem Try.tsz76 : tszOf Try.prog 76 = some (3, true) := by kernel_rfl
@[go_sem] theorem Try.udef76 : (Try.prog.underlying 76).isSome = true := by kernel_rfl
@[go_sem] theorem Try.zero76 : zeroOf Try.prog 76 = some [.nilsl, .int .i64 0, .int .u64 0] := by kernel_rfl
@[go_sem] theorem Try.pl76 : plOf Try.prog 76 = some [(0, 1), (1, 1), (2, 1)] := by kernel_rfl
@[go_sem] theorem Try.fd76_0 : fdOf Try.prog 76 0 = some (0, 1, false) := by kernel_rfl
@[go_sem] theorem Try.fd76_1 : fdOf Try.prog 76 1 = some (1, 1, false) := by kernel_rfl
@[go_sem] theorem Try.fd76_2 : fdOf Try.prog 76 2 = some (2, 1, false) := by kernel_rfl
@[go_sem] theorem Try.tsz77 : tszOf Try.prog 77 = some (1, false) := by kernel_rfl
@[go_sem] theorem Try.udef77 : (Try.prog.underlying 77).isSome = true := by kernel_rfl
@[go_sem] theorem Try.zero77 : zeroOf Try.prog 77 = some [.lit ((Go.Value.nilFunc))] := by kernel_rfl
@[go_sem] theorem Try.tsz78 : tszOf Try.prog 78 = some (1, false) := by kernel_rfl
@[go_sem] theorem Try.udef78 : (Try.prog.underlying 78).isSome = true := by kernel_rfl
@[go_sem] theorem Try.zero78 : zeroOf Try.prog 78 = some [.lit ((Go.Value.nilFunc))] := by kernel_rfl
@[go_sem] theorem Try.tsz79 : tszOf Try.prog 79 = some (1, false) := by kernel_rfl
@[go_sem] theorem Try.udef79 : (Try.prog.underlying 79).isSome = true := by kernel_rfl
@[go_sem] theorem Try.zero79 : zeroOf Try.prog 79 = some [.lit ((Go.Value.nilFunc))] := by kernel_rfl
@[go_sem] theorem Try.tsz80 : tszOf Try.prog 80 = some (1, false) := by kernel_rfl
@[go_sem] theorem Try.udef80 : (Try.prog.underlying 80).isSome = true := by kernel_rfl
@[go_sem] theorem Try.zero80 : zeroOf Try.prog 80 = some [.lit ((Go.Value.nilFunc))] := by kernel_rfl
@[go_sem] theorem Try.tsz81 : tszOf Try.prog 81 = some (1, false) := by kernel_rfl
@[go_sem] theorem Try.udef81 : (Try.prog.underlying 81).isSome = true := by kernel_rfl
@[go_sem] theorem Try.zero81 : zeroOf Try.prog 81 = some [.lit ((Go.Value.nilFunc))] := by kernel_rfl
@[go_sem] theorem Try.tsz82 : tszOf Try.prog 82 = some (1, false) := by kernel_rfl
@[go_sem] theorem Try.udef82 : (Try.prog.underlying 82).isSome = true := by kernel_rfl
@[go_sem] theorem Try.zero82 : zeroOf Try.prog 82 = some [.lit ((Go.Value.nilFunc))] := by kernel_rfl
@[go_sem] theorem Try.tsz83 : tszOf Try.prog 83 = some (1, false) := by kernel_rfl
@[go_sem] theorem Try.udef83 : (Try.prog.underlying 83).isSome = true := by kernel_rfl
@[go_sem] theorem Try.zero83 : zeroOf Try.prog 83 = some [.lit ((Go.Value.nilFunc))] := by kernel_rfl
@[go_sem] theorem Try.tsz84 : tszOf Try.prog 84 = some (1, false) := by kernel_rfl
@[go_sem] theorem Try.udef84 : (Try.prog.underlying 84).isSome = true := by kernel_rfl
@[go_sem] theorem Try.zero84 : zeroOf Try.prog 84 = some [.lit ((Go.Value.nilFunc))] := by kernel_rfl
@[go_sem] theorem Try.tsz85 : tszOf Try.prog 85 = some (1, false) := by kernel_rfl
@[go_sem] theorem Try.udef85 : (Try.prog.underlying 85).isSome = true := by kernel_rfl
@[go_sem] theorem Try.zero85 : zeroOf Try.prog 85 = some [.nilsl] := by kernel_rfl
@[go_sem] theorem Try.el85 : elOf Try.prog 85 = some (3, 1, 8) := by kernel_rfl
@[go_sem] theorem Try.isSl85 : isSl Try.prog 85 = true := by kernel_rfl
@[go_sem] theorem Try.tsz86 : tszOf Try.prog 86 = some (1, false) := by kernel_rfl
@[go_sem] theorem Try.udef86 : (Try.prog.underlying 86).isSome = true := by kernel_rfl
@[go_sem] theorem Try.zero86 : zeroOf Try.prog 86 = some [.lit ((Go.Value.nilFunc))] := by kernel_rfl
@[go_sem] theorem Try.tsz87 : tszOf Try.prog 87 = some (1, false) := by kernel_rfl
@[go_sem] theorem Try.udef87 : (Try.prog.underlying 87).isSome = true := by kernel_rfl
@[go_sem] theorem Try.zero87 : zeroOf Try.prog 87 = some [.lit ((Go.Value.nilFunc))] := by kernel_rfl
@[go_sem] theorem Try.tsz88 : tszOf Try.prog 88 = some (1, false) := by kernel_rfl
@[go_sem] theorem Try.udef88 : (Try.prog.underlying 88).isSome = true := by kernel_rfl
@[go_sem] theorem Try.zero88 : zeroOf Try.prog 88 = some [.lit ((Go.Value.nilFunc))] := by kernel_rfl
@[go_sem] theorem Try.tsz89 : tszOf Try.prog 89 = some (1, false) := by kernel_rfl
@[go_sem] theorem Try.udef89 : (Try.prog.underlying 89).isSome = true := by kernel_rfl
@[go_sem] theorem Try.zero89 : zeroOf Try.prog 89 = some [.lit ((Go.Value.nilFunc))] := by kernel_rfl
@[go_sem] theorem Try.tsz90 : tszOf Try.prog 90 = some (1, false) := by kernel_rfl
@[go_sem] theorem Try.udef90 : (Try.prog.underlying 90).isSome = true := by kernel_rfl
@[go_sem] theorem Try.zero90 : zeroOf Try.prog 90 = some [.lit ((Go.Value.nilFunc))] := by kernel_rfl
@[go_sem] theorem Try.tsz91 : tszOf Try.prog 91 = some (1, false) := by kernel_rfl
@[go_sem] theorem Try.udef91 : (Try.prog.underlying 91).isSome = true := by kernel_rfl
@[go_sem] theorem Try.zero91 : zeroOf Try.prog 91 = some [.lit ((Go.Value.nilFunc))] := by kernel_rfl
@[go_sem] theorem Try.tsz92 : tszOf Try.prog 92 = some (1, false) := by kernel_rfl
@[go_sem] theorem Try.udef92 : (Try.prog.underlying 92).isSome = true := by kernel_rfl
@[go_sem] theorem Try.zero92 : zeroOf Try.prog 92 = some [.lit ((Go.Value.nilFunc))] := by kernel_rfl
@[go_sem] theorem Try.tsz93 : tszOf Try.prog 93 = some (1, false) := by kernel_rfl
@[go_sem] theorem Try.udef93 : (Try.prog.underlying 93).isSome = true := by kernel_rfl
@[go_sem] theorem Try.zero93 : zeroOf Try.prog 93 = some [.nilsl] := by kernel_rfl
@[go_sem] theorem Try.el93 : elOf Try.prog 93 = some (33, 1, 24) := by kernel_rfl
@[go_sem] theorem Try.isSl93 : isSl Try.prog 93 = true := by kernel_rfl
@[go_sem] theorem Try.tsz94 : tszOf Try.prog 94 = some (1, false) := by kernel_rfl
@[go_sem] theorem Try.udef94 : (Try.prog.underlying 94).isSome = true := by kernel_rfl
@[go_sem] theorem Try.zero94 : zeroOf Try.prog 94 = some [.lit ((Go.Value.nilFunc))] := by kernel_rfl
@[go_sem] theorem Try.tsz95 : tszOf Try.prog 95 = some (1, false) := by kernel_rfl
@[go_sem] theorem Try.udef95 : (Try.prog.underlying 95).isSome = true := by kernel_rfl
@[go_sem] theorem Try.zero95 : zeroOf Try.prog 95 = some [.lit ((Go.Value.nilFunc))] := by kernel_rfl
@[go_sem] theorem Try.tsz96 : tszOf Try.prog 96 = some (1, false) := by kernel_rfl
@[go_sem] theorem Try.udef96 : (Try.prog.underlying 96).isSome = true := by kernel_rfl
@[go_sem] theorem Try.zero96 : zeroOf Try.prog 96 = some [.lit ((Go.Value.nilFunc))] := by kernel_rfl
@[go_sem] theorem Try.tsz97 : tszOf Try.prog 97 = some (1, false) := by kernel_rfl
@[go_sem] theorem Try.udef97 : (Try.prog.underlying 97).isSome = true := by kernel_rfl
@[go_sem] theorem Try.zero97 : zeroOf Try.prog 97 = some [.lit ((Go.Value.nilFunc))] := by kernel_rfl
@[go_sem] theorem Try.tsz98 : tszOf Try.prog 98 = some (1, false) := by kernel_rfl
@[go_sem] theorem Try.udef98 : (Try.prog.underlying 98).isSome = true := by kernel_rfl
@[go_sem] theorem Try.zero98 : zeroOf Try.prog 98 = some [.lit ((Go.Value.nilFunc))] := by kernel_rfl
@[go_sem] theorem Try.tsz99 : tszOf Try.prog 99 = some (1, false) := by kernel_rfl
@[go_sem] theorem Try.udef99 : (Try.prog.underlying 99).isSome = true := by kernel_rfl
@[go_sem] theorem Try.zero99 : zeroOf Try.prog 99 = some [.nilsl] := by kernel_rfl
@[go_sem] theorem Try.el99 : elOf Try.prog 99 = some (9, 1, 16) := by kernel_rfl
@[go_sem] theorem Try.isSl99 : isSl Try.prog 99 = true := by kernel_rfl
@[go_sem] theorem Try.tsz100 : tszOf Try.prog 100 = some (1, false) := by kernel_rfl
@[go_sem] theorem Try.udef100 : (Try.prog.underlying 100).isSome = true := by kernel_rfl
@[go_sem] theorem Try.zero100 : zeroOf Try.prog 100 = some [.lit ((Go.Value.nilFunc))] := by kernel_rfl
@[go_sem] theorem Try.tsz101 : tszOf Try.prog 101 = some (2, true) := by kernel_rfl
@[go_sem] theorem Try.udef101 : (Try.prog.underlying 101).isSome = true := by kernel_rfl
@[go_sem] theorem Try.zero101 : zeroOf Try.prog 101 = some [.int .i64 0, .int .i64 0] := by kernel_rfl
@[go_sem] theorem Try.flatEq101 : flatEq Try.prog 101 = some [.int .i64, .int .i64] := by kernel_rfl
@[go_sem] theorem Try.pl101 : plOf Try.prog 101 = some [(0, 1), (1, 1)] := by kernel_rfl
@[go_sem] theorem Try.fd101_0 : fdOf Try.prog 101 0 = some (0, 1, false) := by kernel_rfl
@[go_sem] theorem Try.fd101_1 : fdOf Try.prog 101 1 = some (1, 1, false) := by kernel_rfl
@[go_sem] theorem Try.tsz102 : tszOf Try.prog 102 = some (1, false) := by kernel_rfl
@[go_sem] theorem Try.udef102 : (Try.prog.underlying 102).isSome = true := by kernel_rfl
@[go_sem] theorem Try.zero102 : zeroOf Try.prog 102 = some [.lit ((Go.Value.map none))] := by kernel_rfl
@[go_sem] theorem Try.mapOf102 : mapOf Try.prog 102 = some (.string, .bool false) := by kernel_rfl
@[go_sem] theorem Try.tsz103 : tszOf Try.prog 103 = some (1, false) := by kernel_rfl
@[go_sem] theorem Try.udef103 : (Try.prog.underlying 103).isSome = true := by kernel_rfl
@[go_sem] theorem Try.zero103 : zeroOf Try.prog 103 = some [.lit ((Go.Value.nilFunc))] := by kernel_rfl
@[go_sem] theorem Try.tsz104 : tszOf Try.prog 104 = some (1, false) := by kernel_rfl
@[go_sem] theorem Try.udef104 : (Try.prog.underlying 104).isSome = true := by kernel_rfl
@[go_sem] theorem Try.zero104 : zeroOf Try.prog 104 = some [.int .u64 0] := by kernel_rfl
@[go_sem] theorem Try.isInt104 : isIntT Try.prog 104 = some .u64 := by kernel_rfl
@[go_sem] theorem Try.tsz105 : tszOf Try.prog 105 = some (1, false) := by kernel_rfl
@[go_sem] theorem Try.udef105 : (Try.prog.underlying 105).isSome = true := by kernel_rfl
@[go_sem] theorem Try.zero105 : zeroOf Try.prog 105 = some [.lit ((Go.Value.nilFunc))] := by kernel_rfl
@[go_sem] theorem Try.tsz106 : tszOf Try.prog 106 = some (4, true) := by kernel_rfl
@[go_sem] theorem Try.udef106 : (Try.prog.underlying 106).isSome = true := by kernel_rfl
@[go_sem] theorem Try.zero106 : zeroOf Try.prog 106 = some [.lit ((Go.Value.pointer none)), .lit ((Go.Value.pointer none)), .lit ((Go.Value.pointer none)), .str ByteArray.empty] := by kernel_rfl
@[go_sem] theorem Try.pl106 : plOf Try.prog 106 = some [(0, 1), (1, 1), (2, 1), (3, 1)] := by kernel_rfl
@[go_sem] theorem Try.tsz107 : tszOf Try.prog 107 = some (4, true) := by kernel_rfl
@[go_sem] theorem Try.udef107 : (Try.prog.underlying 107).isSome = true := by kernel_rfl
@[go_sem] theorem Try.zero107 : zeroOf Try.prog 107 = some [.lit ((Go.Value.pointer none)), .lit ((Go.Value.pointer none)), .lit ((Go.Value.pointer none)), .str ByteArray.empty] := by kernel_rfl
@[go_sem] theorem Try.pl107 : plOf Try.prog 107 = some [(0, 1), (1, 1), (2, 1), (3, 1)] := by kernel_rfl
@[go_sem] theorem Try.tsz108 : tszOf Try.prog 108 = some (0, true) := by kernel_rfl
@[go_sem] theorem Try.udef108 : (Try.prog.underlying 108).isSome = true := by kernel_rfl
@[go_sem] theorem Try.zero108 : zeroOf Try.prog 108 = some [] := by kernel_rfl
@[go_sem] theorem Try.ar108 : arOf Try.prog 108 = some (0, 1, false) := by kernel_rfl
@[go_sem] theorem Try.pl108 : plOf Try.prog 108 = some [] := by kernel_rfl
@[go_sem] theorem Try.tsz109 : tszOf Try.prog 109 = some (0, true) := by kernel_rfl
@[go_sem] theorem Try.udef109 : (Try.prog.underlying 109).isSome = true := by kernel_rfl
@[go_sem] theorem Try.zero109 : zeroOf Try.prog 109 = some [] := by kernel_rfl
@[go_sem] theorem Try.pl109 : plOf Try.prog 109 = some [(0, 0)] := by kernel_rfl
@[go_sem] theorem Try.tsz110 : tszOf Try.prog 110 = some (0, true) := by kernel_rfl
@[go_sem] theorem Try.udef110 : (Try.prog.underlying 110).isSome = true := by kernel_rfl
@[go_sem] theorem Try.zero110 : zeroOf Try.prog 110 = some [] := by kernel_rfl
@[go_sem] theorem Try.pl110 : plOf Try.prog 110 = some [(0, 0)] := by kernel_rfl
@[go_sem] theorem Try.tsz111 : tszOf Try.prog 111 = some (1, false) := by kernel_rfl
@[go_sem] theorem Try.udef111 : (Try.prog.underlying 111).isSome = true := by kernel_rfl
@[go_sem] theorem Try.zero111 : zeroOf Try.prog 111 = some [.int .u32 0] := by kernel_rfl
@[go_sem] theorem Try.isInt111 : isIntT Try.prog 111 = some .u32 := by kernel_rfl
@[go_sem] theorem Try.tsz112 : tszOf Try.prog 112 = some (1, false) := by kernel_rfl
@[go_sem] theorem Try.udef112 : (Try.prog.underlying 112).isSome = true := by kernel_rfl
@[go_sem] theorem Try.zero112 : zeroOf Try.prog 112 = some [.int .u8 0] := by kernel_rfl
@[go_sem] theorem Try.isInt112 : isIntT Try.prog 112 = some .u8 := by kernel_rfl
@[go_sem] theorem Try.tsz113 : tszOf Try.prog 113 = some (1, false) := by kernel_rfl
@[go_sem] theorem Try.udef113 : (Try.prog.underlying 113).isSome = true := by kernel_rfl
@[go_sem] theorem Try.zero113 : zeroOf Try.prog 113 = some [.int .u8 0] := by kernel_rfl
@[go_sem] theorem Try.isInt113 : isIntT Try.prog 113 = some .u8 := by kernel_rfl
@[go_sem] theorem Try.tsz114 : tszOf Try.prog 114 = some (1, false) := by kernel_rfl
@[go_sem] theorem Try.udef114 : (Try.prog.underlying 114).isSome = true := by kernel_rfl
@[go_sem] theorem Try.zero114 : zeroOf Try.prog 114 = some [.lit ((Go.Value.nilFunc))] := by kernel_rfl
@[go_sem] theorem Try.tsz115 : tszOf Try.prog 115 = some (1, false) := by kernel_rfl
@[go_sem] theorem Try.udef115 : (Try.prog.underlying 115).isSome = true := by kernel_rfl
@[go_sem] theorem Try.zero115 : zeroOf Try.prog 115 = some [.lit ((Go.Value.pointer none))] := by kernel_rfl
@[go_sem] theorem Try.tsz116 : tszOf Try.prog 116 = some (1, false) := by kernel_rfl
@[go_sem] theorem Try.udef116 : (Try.prog.underlying 116).isSome = true := by kernel_rfl
@[go_sem] theorem Try.zero116 : zeroOf Try.prog 116 = some [.int .i32 0] := by kernel_rfl
@[go_sem] theorem Try.isInt116 : isIntT Try.prog 116 = some .i32 := by kernel_rfl
@[go_sem] theorem Try.tsz117 : tszOf Try.prog 117 = some (1, false) := by kernel_rfl
@[go_sem] theorem Try.udef117 : (Try.prog.underlying 117).isSome = true := by kernel_rfl
@[go_sem] theorem Try.zero117 : zeroOf Try.prog 117 = some [.int .i32 0] := by kernel_rfl
@[go_sem] theorem Try.isInt117 : isIntT Try.prog 117 = some .i32 := by kernel_rfl
@[go_sem] theorem Try.tsz118 : tszOf Try.prog 118 = some (11, true) := by kernel_rfl
@[go_sem] theorem Try.udef118 : (Try.prog.underlying 118).isSome = true := by kernel_rfl
@[go_sem] theorem Try.zero118 : zeroOf Try.prog 118 = some [.int .u64 0, .int .u64 0, .int .u32 0, .int .u8 0, .int .u8 0, .int .u8 0, .int .u8 0, .lit ((Go.Value.nilFunc)), .lit ((Go.Value.pointer none)), .int .i32 0, .int .i32 0] := by kernel_rfl
@[go_sem] theorem Try.pl118 : plOf Try.prog 118 = some [(0, 1), (1, 1), (2, 1), (3, 1), (4, 1), (5, 1), (6, 1), (7, 1), (8, 1), (9, 1), (10, 1)] := by kernel_rfl
@[go_sem] theorem Try.tsz119 : tszOf Try.prog 119 = some (11, true) := by kernel_rfl
@[go_sem] theorem Try.udef119 : (Try.prog.underlying 119).isSome = true := by kernel_rfl
@[go_sem] theorem Try.zero119 : zeroOf Try.prog 119 = some [.int .u64 0, .int .u64 0, .int .u32 0, .int .u8 0, .int .u8 0, .int .u8 0, .int .u8 0, .lit ((Go.Value.nilFunc)), .lit ((Go.Value.pointer none)), .int .i32 0, .int .i32 0] := by kernel_rfl
@[go_sem] theorem Try.pl119 : plOf Try.prog 119 = some [(0, 1), (1, 1), (2, 1), (3, 1), (4, 1), (5, 1), (6, 1), (7, 1), (8, 1), (9, 1), (10, 1)] := by kernel_rfl
@[go_sem] theorem Try.tsz120 : tszOf Try.prog 120 = some (1, false) := by kernel_rfl
@[go_sem] theorem Try.udef120 : (Try.prog.underlying 120).isSome = true := by kernel_rfl
@[go_sem] theorem Try.zero120 : zeroOf Try.prog 120 = some [.lit ((Go.Value.pointer none))] := by kernel_rfl
@[go_sem] theorem Try.isPt3 : isPt Try.prog 3 = false := by kernel_rfl
@[go_sem] theorem Try.isPt9 : isPt Try.prog 9 = false := by kernel_rfl
@[go_sem] theorem Try.isPt22 : isPt Try.prog 22 = false := by kernel_rfl
@[go_sem] theorem Try.isPt24 : isPt Try.prog 24 = false := by kernel_rfl
@[go_sem] theorem Try.isPt31 : isPt Try.prog 31 = false := by kernel_rfl
@[go_sem] theorem Try.isPt33 : isPt Try.prog 33 = false := by kernel_rfl
@[go_sem] theorem Try.isPt35 : isPt Try.prog 35 = false := by kernel_rfl
@[go_sem] theorem Try.isPt44 : isPt Try.prog 44 = false := by kernel_rfl
@[go_sem] theorem Try.isPt54 : isPt Try.prog 54 = false := by kernel_rfl
@[go_sem] theorem Try.isPt56 : isPt Try.prog 56 = false := by kernel_rfl
@[go_sem] theorem Try.isPt73 : isPt Try.prog 73 = true := by kernel_rfl
@[go_sem] theorem Try.isPt93 : isPt Try.prog 93 = false := by kernel_rfl
@[go_sem] theorem Try.isPt101 : isPt Try.prog 101 = false := by kernel_rfl
theorem Try.okF4 : okF Try.prog 4 = true := by kernel_rfl
theorem Try.okF6 : okF Try.prog 6 = true := by kernel_rfl
theorem Try.okF8 : okF Try.prog 8 = true := by kernel_rfl
theorem Try.okF12 : okF Try.prog 12 = true := by kernel_rfl
theorem Try.okF13 : okF Try.prog 13 = true := by kernel_rfl
theorem Try.okF14 : okF Try.prog 14 = true := by kernel_rfl
theorem Try.okF15 : okF Try.prog 15 = true := by kernel_rfl
theorem Try.okF16 : okF Try.prog 16 = true := by kernel_rfl
theorem Try.okF17 : okF Try.prog 17 = true := by kernel_rfl
theorem Try.okF18 : okF Try.prog 18 = true := by kernel_rfl
theorem Try.okF19 : okF Try.prog 19 = true := by kernel_rfl
theorem Try.okF20 : okF Try.prog 20 = true := by kernel_rfl
theorem Try.okF21 : okF Try.prog 21 = true := by kernel_rfl
theorem Try.okF22 : okF Try.prog 22 = true := by kernel_rfl
theorem Try.okF23 : okF Try.prog 23 = true := by kernel_rfl
theorem Try.okF24 : okF Try.prog 24 = true := by kernel_rfl
theorem Try.okF25 : okF Try.prog 25 = true := by kernel_rfl
theorem Try.okF26 : okF Try.prog 26 = true := by kernel_rfl
theorem Try.okF27 : okF Try.prog 27 = true := by kernel_rfl
theorem Try.okF29 : okF Try.prog 29 = true := by kernel_rfl
theorem Try.okF30 : okF Try.prog 30 = true := by kernel_rfl
theorem Try.okF31 : okF Try.prog 31 = true := by kernel_rfl
theorem Try.okF33 : okF Try.prog 33 = true := by kernel_rfl
theorem Try.okF34 : okF Try.prog 34 = true := by kernel_rfl
theorem Try.okF35 : okF Try.prog 35 = true := by kernel_rfl
theorem Try.okF36 : okF Try.prog 36 = true := by kernel_rfl
theorem Try.okF41 : okF Try.prog 41 = true := by kernel_rfl
theorem Try.okF42 : okF Try.prog 42 = true := by kernel_rfl
theorem Try.okF43 : okF Try.prog 43 = true := by kernel_rfl
theorem Try.okF44 : okF Try.prog 44 = true := by kernel_rfl
theorem Try.okF45 : okF Try.prog 45 = true := by kernel_rfl
theorem Try.okF46 : okF Try.prog 46 = true := by kernel_rfl
theorem Try.okF47 : okF Try.prog 47 = true := by kernel_rfl
theorem Try.okF48 : okF Try.prog 48 = true := by kernel_rfl
theorem Try.okF49 : okF Try.prog 49 = true := by kernel_rfl
theorem Try.okF50 : okF Try.prog 50 = true := by kernel_rfl
theorem Try.okF51 : okF Try.prog 51 = true := by kernel_rfl
theorem Try.okF52 : okF Try.prog 52 = true := by kernel_rfl
theorem Try.okF53 : okF Try.prog 53 = true := by kernel_rfl
theorem Try.okF54 : okF Try.prog 54 = true := by kernel_rfl
theorem Try.okF55 : okF Try.prog 55 = true := by kernel_rfl
theorem Try.okF56 : okF Try.prog 56 = true := by kernel_rfl
theorem Try.okF57 : okF Try.prog 57 = true := by kernel_rfl
theorem Try.okF58 : okF Try.prog 58 = true := by kernel_rfl
theorem Try.okF59 : okF Try.prog 59 = true := by kernel_rfl
theorem Try.okF60 : okF Try.prog 60 = true := by kernel_rfl
theorem Try.okF61 : okF Try.prog 61 = true := by kernel_rfl
theorem Try.okF62 : okF Try.prog 62 = true := by kernel_rfl
theorem Try.okF63 : okF Try.prog 63 = true := by kernel_rfl
theorem Try.okF64 : okF Try.prog 64 = true := by kernel_rfl
theorem Try.okF65 : okF Try.prog 65 = true := by kernel_rfl
theorem Try.okF68 : okF Try.prog 68 = true := by kernel_rfl
theorem Try.okF69 : okF Try.prog 69 = true := by kernel_rfl
theorem Try.okF70 : okF Try.prog 70 = true := by kernel_rfl
theorem Try.okF71 : okF Try.prog 71 = true := by kernel_rfl
theorem Try.okF72 : okF Try.prog 72 = true := by kernel_rfl
theorem Try.okF73 : okF Try.prog 73 = true := by kernel_rfl
theorem Try.okF75 : okF Try.prog 75 = true := by kernel_rfl
theorem Try.okF77 : okF Try.prog 77 = true := by kernel_rfl
theorem Try.okF78 : okF Try.prog 78 = true := by kernel_rfl
theorem Try.okF79 : okF Try.prog 79 = true := by kernel_rfl
theorem Try.okF80 : okF Try.prog 80 = true := by kernel_rfl
theorem Try.okF81 : okF Try.prog 81 = true := by kernel_rfl
theorem Try.okF82 : okF Try.prog 82 = true := by kernel_rfl
theorem Try.okF83 : okF Try.prog 83 = true := by kernel_rfl
theorem Try.okF84 : okF Try.prog 84 = true := by kernel_rfl
theorem Try.okF85 : okF Try.prog 85 = true := by kernel_rfl
theorem Try.okF88 : okF Try.prog 88 = true := by kernel_rfl
end Go.Proofs
end
section
namespace Go.Lv

def rows {α : Type} (cs : α → List V) (L : List α) : List V := L.flatMap cs

section
variable {α : Type} {cs : α → List V} {w : Nat}

theorem rows_len (h : ∀ a, (cs a).length = w) (L : List α) : (rows cs L).length = L.length * w := by
 induction L with
 | nil => simp [rows]
 | cons a L ih => simp [rows, h] at ih ⊢; rw [ih, Nat.succ_mul, Nat.add_comm]

theorem rowsOf_append (L K : List α) : rows cs (L ++ K) = rows cs L ++ rows cs K := by simp [rows]
theorem rows_cons (a : α) (L : List α) : rows cs (a :: L) = cs a ++ rows cs L := by simp [rows]
theorem rows_one (a : α) : rows cs [a] = cs a := by simp [rows]

theorem rows_drop (h : ∀ a, (cs a).length = w) (L : List α) (i : Nat) : (rows cs L).drop (i * w) = rows cs (L.drop i) := by
 induction i generalizing L with
 | zero => simp
 | succ i ih =>
   cases L with
   | nil => simp [rows]
   | cons a L =>
     rw [rows_cons, Nat.succ_mul, Nat.add_comm, ← List.drop_drop, List.drop_append, h a, Nat.sub_self, List.drop_zero]
     rw [show (cs a).drop w = [] by simp [h]]
     simpa using ih L

theorem rows_take (h : ∀ a, (cs a).length = w) (L : List α) (i : Nat) : (rows cs L).take (i * w) = rows cs (L.take i) := by
 induction i generalizing L with
 | zero => simp [rows]
 | succ i ih =>
   cases L with
   | nil => simp [rows]
   | cons a L =>
     rw [rows_cons, List.take_succ_cons, rows_cons, Nat.succ_mul, Nat.add_comm, List.take_append, h a, Nat.add_sub_cancel_left, ih]
     rw [List.take_of_length_le (by simp [h])]

theorem rows_at (h : ∀ a, (cs a).length = w) {L : List α} {i : Nat} (hi : i < L.length) : ((rows cs L).drop (i * w)).take w = cs L[i] := by
 rw [rows_drop h, List.drop_eq_getElem_cons hi, rows_cons, List.take_append, h, Nat.sub_self, List.take_zero, List.append_nil, List.take_of_length_le (by simp [h])]

theorem rows_all {p : V → Bool} (h : ∀ a, (cs a).all p = true) (L : List α) : (rows cs L).all p = true := by
 induction L with
 | nil => rfl
 | cons a L ih => rw [rows_cons, List.all_append, h a, ih]; rfl

theorem map_ren (f : Nat → R) {d : Nat} {l : List V} (h : l.all (noOwn d) = true) : l.map (ren f d) = l := by
 rw [List.map_congr_left (g := id) (fun x hx => ren_noOwn f d x (List.all_eq_true.1 h x hx)), List.map_id]

theorem wrap_i64 {n : Int} (h0 : -9223372036854775808 ≤ n) (h1 : n ≤ 9223372036854775807) : IntKind.i64.wrap n = n := by
 rw [IntKind.wrap_i64]; omega

def i64R (z : Int) : Prop := -9223372036854775808 ≤ z ∧ z ≤ 9223372036854775807
def strR (s : ByteArray) : Prop := s.size ≤ 9223372036854775807
def lstR (ok : α → Prop) (L : List α) : Prop := L.length ≤ 9223372036854775807 ∧ ∀ x ∈ L, ok x

class FlatP (cs : α → List V) (w : outParam Nat) : Prop where
 len : ∀ a, (cs a).length = w
 plain : ∀ a d, (cs a).all (noOwn d) = true
 cell : ∀ a, (cs a).all isCell = true
 noro : ∀ a, (cs a).all (noRoB 0) = true
class FlatQ (cs : α → List V) (w : outParam Nat) : Prop where
 len : ∀ a, (cs a).length = w
 plain : ∀ a d, (cs a).all (noOwn d) = true
 cell : ∀ a, (cs a).all isCell = true
instance {cs : α → List V} {w : Nat} [h : FlatP cs w] : FlatQ cs w := ⟨h.len, h.plain, h.cell⟩

theorem rows_length [FlatQ cs w] (L : List α) : (rows cs L).length = L.length * w := rows_len FlatQ.len L
theorem map_ren_rows [FlatQ cs w] (f : Nat → R) (d : Nat) (L : List α) : (rows cs L).map (ren f d) = rows cs L := map_ren f (rows_all (fun a => FlatQ.plain a d) L)
theorem rows_cell [FlatQ cs w] (L : List α) : (rows cs L).all isCell = true := rows_all FlatQ.cell L
theorem rows_noRo [FlatP cs w] (L : List α) : (rows cs L).all (noRoB 0) = true := rows_all FlatP.noro L
theorem rows_noOwn [FlatQ cs w] (L : List α) (d : Nat) : (rows cs L).all (noOwn d) = true := rows_all (fun a => FlatQ.plain a d) L
theorem rows_refV [FlatQ cs w] (p : Nat → Bool) (L : List α) (d : Nat) : (rows cs L).all (refV p d) = true := List.all_eq_true.2 fun x hx => refV_noOwn p d x (List.all_eq_true.1 (rows_noOwn (cs := cs) L d) x hx)
theorem noRoH_rows [FlatP cs w] (L : List α) : NoRoH [some (rows cs L)] := NoRoH.of (by simp only [hpNoRo, List.all_cons, List.all_nil, rows_noRo, Bool.and_self])
theorem take_rows [FlatQ cs w] (L : List α) : (rows cs L).take (L.length * w) = rows cs L := List.take_of_length_le (by rw [rows_length]; exact Nat.le_refl _)

theorem le_snap [FlatQ cs w] {h : Hp} {id : Nat} {L : List α} (hid : h[id]? = some (some (rows cs L))) : LeV (ren (snapR h 3) 3 (.osl id 0 L.length w)) (.sl L.length w (rows cs L)) := by
 refine .inl ?_
 simp only [ren, snapR, hid, map_ren_rows, List.drop_zero, take_rows]
theorem le_snap' [FlatQ cs w] {h : Hp} {id n : Nat} {L : List α} (hid : h[id]? = some (some (rows cs L))) (hn : n = L.length) : LeV (ren (snapR h 3) 3 (.osl id 0 n w)) (.sl L.length w (rows cs L)) := by
 subst hn; exact le_snap hid
theorem le_nil {h : Hp} {w : Nat} : LeV (ren (snapR h 3) 3 .nilsl) (.sl 0 w []) := .inr (.inr (.inl ⟨rfl, w, rfl⟩))
theorem LeV.aggR {f : Nat → R} {d : Nat} {cs cs' : List V} (h : LeA (cs.map (ren f d)) cs') : LeV (ren f (d + 1) (.agg cs)) (.agg cs') := LeV.agg h
theorem leE_snap [FlatQ cs w] {h : Hp} {id n n' : Nat} {L : List α} (hid : h[id]? = some (some (rows cs L))) (hn : n = L.length) (hn' : n' = L.length) : LeE (ren (snapR h 3) 2 (.osl id 0 n w)) (.sl n' w (rows cs L)) := by
 subst hn hn'
 refine .inl ?_
 simp only [ren, snapR, hid, map_ren_rows, List.drop_zero, take_rows]
theorem lend_one [FlatQ cs w] {h : Hp} {id : Nat} {fz : Bool} {L : List α} (hid : h[id]? = some (some (rows cs L))) : pickH [id] h fz = [some (rows cs L)] := by
 simp only [pickH, List.map_cons, List.map_nil, pickB, hid, map_ren_rows]
theorem isMb_cells {l : List V} (h : l.all isCell = true) : isMb l = false := by
 match l, h with
 | [], _ => rfl
 | _ :: _ :: _, _ => rfl
 | [x], h => cases x <;> first | rfl | (simp [isCell] at h)
theorem isMb_rows [FlatQ cs w] (L : List α) : isMb (rows cs L) = false := isMb_cells (rows_cell L)
theorem grown_one [FlatQ cs w] {L L' : List α} (h : L.length = L'.length) : grown [some (rows cs L)] [some (rows cs L')] := by
 simp [grown, rows_length, h, isMb_rows]

def optO (w : Nat) (R : Option (List α)) : V := match R with
 | some M => .tup [.osl 0 0 M.length w, .bool true]
 | none => .tup [.osl 0 0 0 w, .bool false]
def optOh (cs : α → List V) (R : Option (List α)) : Hp := match R with
 | some M => [some (rows cs M)]
 | none => [some []]
def optN (w : Nat) (R : Option (List α)) : V := match R with
 | some M => .tup [.osl 0 0 M.length w, .bool true]
 | none => .tup [.nilsl, .bool false]
def optNh (cs : α → List V) (R : Option (List α)) : Hp := match R with
 | some M => [some (rows cs M)]
 | none => []
theorem rows_snoc (L : List α) (a : α) : rows cs L ++ cs a = rows cs (L ++ [a]) := by rw [rowsOf_append, rows_one]

theorem LeL_same {f : V → V} : ∀ {l : List V}, l.map f = l → LeL (l.map f) l
 | [], _ => trivial
 | a :: l, h => by
   simp only [List.map_cons, List.cons.injEq] at h
   exact ⟨.inl h.1.symm, LeL_same h.2⟩

theorem splice_mid {A M ns : List V} {n j : Nat} (h : A.length = n) : splice (A ++ M) (n + j) ns = A ++ splice M j ns := by
 subst h
 unfold splice
 rw [List.take_append, List.drop_append, List.take_of_length_le (by omega), List.drop_of_length_le (by omega)]
 simp only [Nat.add_sub_cancel_left, List.nil_append, List.append_assoc]
 congr 3
 congr 1
 omega
theorem splice_mid0 {A M ns : List V} {n : Nat} (h : A.length = n) : splice (A ++ M) n ns = A ++ splice M 0 ns := by
 have := splice_mid (M := M) (ns := ns) (j := 0) h
 rwa [Nat.add_zero] at this

theorem apart {L : List α} {i : Nat} (hi : i < L.length) : ∃ A B, L = A ++ L[i] :: B ∧ A.length = i ∧ A = L.take i ∧ B = L.drop (i + 1) := by
 refine ⟨L.take i, L.drop (i + 1), ?_, by simp; omega, rfl, rfl⟩
 rw [← List.drop_eq_getElem_cons hi, List.take_append_drop]

def listedQ (p : α → Bool) (k : α → Int) (L : List α) (i : Nat) : Bool :=
 match L[i]? with
 | none => true
 | some x => p x && match i with
   | 0 => true
   | j + 1 => match L[j]? with
     | none => true
     | some y => decide (k y < k x)

def listedB (p : α → Bool) (k : α → Int) (m : Nat) (L : List α) : Bool := (List.range L.length).all (listedQ p k L) && decide (L.length ≤ m)

theorem range_all_false {q : Nat → Bool} {n i : Nat} (hi : i < n) (h : q i = false) : (List.range n).all q = false := by
 rw [List.all_eq_false]
 exact ⟨i, by simpa using hi, by simp [h]⟩
theorem range_all_succ {q : Nat → Bool} {i : Nat} (h : (List.range i).all q = true) (h1 : q i = true) : (List.range (i + 1)).all q = true := by
 rw [List.range_succ, List.all_append, h]
 simp [h1]
theorem listedB_false {p : α → Bool} {k : α → Int} {m : Nat} {L : List α} {i : Nat} (hi : i < L.length) (h : listedQ p k L i = false) : listedB p k m L = false := by
 rw [listedB, range_all_false hi h]
 rfl
theorem listedQ_zero {p : α → Bool} {k : α → Int} {L : List α} (h0 : 0 < L.length) : listedQ p k L 0 = p L[0] := by simp [listedQ, h0]
theorem listedQ_succ {p : α → Bool} {k : α → Int} {L : List α} {j : Nat} (h : j + 1 < L.length) : listedQ p k L (j + 1) = (p L[j + 1] && decide (k (L[j]'(by omega)) < k L[j + 1])) := by
 have : j < L.length := by omega
 simp [listedQ, h, this]
end

theorem leA {x y : V} (h : LeV x y := by first | exact le_snap rfl | exact .inl rfl | exact le_nil | exact le_snap' rfl (by simp) | exact LeV.aggR (by first | ((repeat' (first | exact True.intro | exact leE_snap rfl (by simp) (by simp) | exact LeE.nil | exact LeE.refl _ | refine And.intro ?_ ?_)); done) | fail)) : LeV x y := h
theorem callT.at {P : Program} {h : Hp} {g : FuncId} {a c args : List V} {K : V → Hp → Prop} {x : Tag K} {as' : List V} {r : V} {hout : Hp} (hs : Ctr P g as' [] r hout) (hle : LeL ((a ++ args ++ c).map (ren (snapR h 3) 3)) as') (hk : K r hout)
   (hro : (a ++ args ++ c).all (noOwn 3) = true ∨ NoRo r ∧ NoRoH hout := by first | exact .inl rfl | exact .inr ⟨noRo_ok 3 rfl, by first | exact NoRoH.nil | exact noRoH_rows _ | exact NoRoH.of (by simp only [hpNoRo, List.all_cons, List.all_nil, rows_noRo, Bool.and_self])⟩)
   (hrf : refOk h 4 (.fn (.func g) a c) = true ∧ args.all (refOk h 3) = true := by first | exact ⟨rfl, rfl⟩ | exact ⟨rfl, by simp [refOk, refV, refB, noOwn, rows_noOwn, rows_refV]⟩ | simp [refOk, refV, refB, noOwn, rows_noOwn, rows_refV]) : callT P h (.fn (.func g) a c) args K x :=
 callT.intro hs hle hro hrf hk
theorem callS.at {P : Program} {t : List V} {h : Hp} {k : Nat} {dst : Option Tmp} {g : FuncId} {a c args : List V} {K : St → Prop} {x : Tag K} {as' : List V} {r : V} {hout : Hp} (hs : Ctr P g as' [] r hout)
   (hle : LeL ((a ++ args ++ c).map (ren (snapR h 3) 3)) as') (hk : K (afterCall ⟨t, h, k⟩ dst r hout))
   (hro : (a ++ args ++ c).all (noOwn 3) = true ∨ NoRo r ∧ NoRoH hout := by first | exact .inl rfl | exact .inr ⟨noRo_ok 3 rfl, by first | exact NoRoH.nil | exact noRoH_rows _ | exact NoRoH.of (by simp only [hpNoRo, List.all_cons, List.all_nil, rows_noRo, Bool.and_self])⟩) : callS P ⟨t, h, k⟩ dst (.fn (.func g) a c) args K x :=
 callS.intro hs hle hro hk
theorem lendA {sel : List Nat} {h hin : Hp} {fz : Bool} (hh : pickH sel h fz = hin := by first | exact lend_one rfl | rfl | (simp only [pickH, List.map_cons, List.map_nil, pickB, List.getElem?_cons_zero, List.getElem?_cons_succ, map_ren_rows]; done)) : pickH sel h fz = hin := hh
theorem leO {x y : V} (h : LeV x y := by first | exact .inl rfl | exact LeV.aggR (by first | ((repeat' (first | exact True.intro | exact LeE.nil | exact LeE.refl _ | refine And.intro ?_ ?_)); done) | fail)) : LeV x y := h
theorem sideA {a b : Prop} (hb : b) (ha : a := by first | omega | with_reducible rfl | (show drawOk _ = true; kernel_rfl) | (simp only [rows_length, rows_cell, List.length_append, List.length_cons, List.length_nil, List.all_append, List.all_cons, List.all_nil, isCell, Nat.mul_one, Nat.one_mul, Bool.and_self]; first | done | omega)) : a ∧ b := ⟨ha, hb⟩
attribute [go_sem] Nat.le_refl Int.toNat_natCast beq_self_eq_true bne_self_eq_false decide_true decide_false eq_self ne_eq Option.some.injEq not_false_eq_true Option.map_some map_ren_rows
theorem Weak.pk {t t2 : List V} {h h2 : Hp} {k : Nat} (sel : List Nat) (ht : LeG (ren (pickF sel h true) 3) t t2) (hh : pickH sel h true = h2) (hn : sel.Nodup := by decide) (hk : ∀ j, j < k → sel[j]? = some j := by (intro j hj; cases j <;> simp_all)) : Weak ⟨t, h, k⟩ ⟨t2, h2, k⟩ := Weak.pick sel hn hk ht hh
attribute [go_sem] Nat.reduceSub Nat.reduceAdd Nat.reduceMul Nat.reduceLT Nat.reduceLeDiff Nat.reduceEqDiff Nat.reduceDiv Nat.reduceMod Int.reduceToNat Int.reduceLE Int.reduceLT Int.reduceBEq Int.reduceBNe Int.reduceNeg Int.reduceAdd Int.reduceSub Int.reduceMul reduceCtorEq
end Go.Lv
end
section
set_option maxRecDepth 100000
namespace Go.Proofs
open Go.Lv
def inB' (n a b : Int) : Bool := decide (a ≤ n) && decide (n ≤ b)
theorem inB'_iff {n a b : Int} : inB' n a b = true ↔ a ≤ n ∧ n ≤ b := by simp [inB']
theorem in_ok (n a b : Int) : Ctr Try.prog 45 [.int .i64 n, .int .i64 a, .int .i64 b] [] (.bool (inB' n a b)) [] := by
 refine Ctr.intro Try.mixed Try.func45 rfl Try.okF45 ?_
 simp -implicitDefEqProofs -dsimp only [go_sem, Try.ntmps45, Try.results45]
 refine guardT.splitT (fun h1 => ?_) (fun h1 => ?_) <;> simp -implicitDefEqProofs -dsimp only [go_sem, h1]
 · exact WeakR.of_eq (by simp [inB', h1])
 · exact WeakR.of_eq (by simp [inB', h1])
theorem l1In_ok (n a b : Int) : Ctr Try.prog 65 [.int .i64 n, .int .i64 a, .int .i64 b] [] (.bool (inB' n a b)) [] := by
 refine Ctr.intro Try.mixed Try.func65 rfl Try.okF65 ?_
 simp -implicitDefEqProofs -dsimp only [go_sem, Try.ntmps65, Try.results65]
 refine guardT.splitT (fun h1 => ?_) (fun h1 => ?_) <;> simp -implicitDefEqProofs -dsimp only [go_sem, h1]
 · exact WeakR.of_eq (by simp [inB', h1])
 · exact WeakR.of_eq (by simp [inB', h1])
theorem l1Most_ok (a b : Int) : Ctr Try.prog 31 [.int .i64 a, .int .i64 b] [] (.int .i64 (max a b)) [] := by
 refine Ctr.intro Try.mixed Try.func31 rfl Try.okF31 ?_
 simp -implicitDefEqProofs -dsimp only [go_sem, Try.ntmps31, Try.results31]
 refine condT.split (fun h1 => ?_) (fun h1 => ?_) <;> simp -implicitDefEqProofs -dsimp only [go_sem, h1]
 · exact WeakR.of_eq (by simp at h1; congr 1; omega)
 · exact WeakR.of_eq (by simp at h1; congr 1; omega)
theorem l1Least_ok (a b : Int) : Ctr Try.prog 83 [.int .i64 a, .int .i64 b] [] (.int .i64 (min a b)) [] := by
 refine Ctr.intro Try.mixed Try.func83 rfl Try.okF83 ?_
 simp -implicitDefEqProofs -dsimp only [go_sem, Try.ntmps83, Try.results83]
 refine condT.split (fun h1 => ?_) (fun h1 => ?_) <;> simp -implicitDefEqProofs -dsimp only [go_sem, h1]
 · exact WeakR.of_eq (by simp at h1; congr 1; omega)
 · exact WeakR.of_eq (by simp at h1; congr 1; omega)
theorem listedB_all {α : Type} {p : α → Bool} {k : α → Int} {m : Nat} {L : List α} (h : listedB p k m L = true) : (∀ x ∈ L, p x = true) ∧ L.length ≤ m := by
 simp only [listedB, Bool.and_eq_true, decide_eq_true_eq, List.all_eq_true, List.mem_range] at h
 refine ⟨fun x hx => ?_, h.2⟩
 obtain ⟨i, hi, rfl⟩ := List.getElem_of_mem hx
 have := h.1 i hi
 simp only [listedQ, List.getElem?_eq_getElem hi, Bool.and_eq_true] at this
 exact this.1
theorem nodup_get {α : Type} {L : List α} (h : L.Nodup) {i j : Nat} (hi : i < L.length) (hj : j < L.length) (e : L[i] = L[j]) : i = j := by
 have h2 := List.pairwise_iff_getElem.1 h
 rcases Nat.lt_trichotomy i j with h3 | h3 | h3
 · exact absurd e (h2 i j hi hj h3)
 · exact h3
 · exact absurd e.symm (h2 j i hj hi h3)
end Go.Proofs
end
section
set_option maxRecDepth 100000
namespace Go.Proofs
open Go.Lv
def placeB (x y : Int) : Bool := inB' x 0 999 && inB' y 0 999
theorem placeB_iff {x y : Int} : placeB x y = true ↔ (0 ≤ x ∧ x ≤ 999) ∧ 0 ≤ y ∧ y ≤ 999 := by simp [placeB, inB']
theorem mul_self_nonneg' (x : Int) : 0 ≤ x * x := by
 rcases Int.le_total 0 x with h | h
 · exact Int.mul_nonneg h h
 · exact Int.mul_nonneg_of_nonpos_of_nonpos h h
theorem sq_le {x : Int} {b : Int} (h : -b ≤ x ∧ x ≤ b) : x * x ≤ b * b := by
 have h1 := Int.mul_nonneg (show 0 ≤ b - x by omega) (show 0 ≤ b + x by omega)
 have e : (b - x) * (b + x) = b * b - x * x := by rw [Int.sub_mul, Int.mul_add, Int.mul_add, Int.mul_comm x b]; omega
 omega
theorem isPlace_ok (x y : Int) : Ctr Try.prog 80 [.int .i64 x, .int .i64 y] [] (.bool (placeB x y)) [] := by
 refine Ctr.intro Try.mixed Try.func80 rfl Try.okF80 ?_
 simp -implicitDefEqProofs -dsimp only [go_sem, Try.ntmps80, Try.results80]
 repeat' (first | (refine WeakR.drop' ?_ (by rfl); first | rfl | (simp [placeB, *]; done)) | ((first | refine callT.at (in_ok _ _ _) ⟨leA, leA, leA, trivial⟩ ?_ | refine callS.at (in_ok _ _ _) ⟨leA, leA, leA, trivial⟩ ?_); simp -implicitDefEqProofs -dsimp only [go_sem, *]) | (refine guardT.splitT (fun _ => ?_) (fun _ => ?_) <;> simp -implicitDefEqProofs -dsimp only [go_sem, *]) | (refine guardT.splitF (fun _ => ?_) (fun _ => ?_) <;> simp -implicitDefEqProofs -dsimp only [go_sem, *]) | (refine condT.split (fun _ => ?_) (fun _ => ?_) <;> simp -implicitDefEqProofs -dsimp only [go_sem, *]))
theorem l2Place_ok (x y : Int) : Ctr Try.prog 82 [.int .i64 x, .int .i64 y] [] (.bool (placeB x y)) [] := by
 refine Ctr.intro Try.mixed Try.func82 rfl Try.okF82 ?_
 simp -implicitDefEqProofs -dsimp only [go_sem, Try.ntmps82, Try.results82]
 repeat' (first | (refine WeakR.drop' ?_ (by rfl); first | rfl | (simp [placeB, *]; done)) | ((first | refine callT.at (l1In_ok _ _ _) ⟨leA, leA, leA, trivial⟩ ?_ | refine callS.at (l1In_ok _ _ _) ⟨leA, leA, leA, trivial⟩ ?_); simp -implicitDefEqProofs -dsimp only [go_sem, *]) | (refine guardT.splitT (fun _ => ?_) (fun _ => ?_) <;> simp -implicitDefEqProofs -dsimp only [go_sem, *]) | (refine guardT.splitF (fun _ => ?_) (fun _ => ?_) <;> simp -implicitDefEqProofs -dsimp only [go_sem, *]) | (refine condT.split (fun _ => ?_) (fun _ => ?_) <;> simp -implicitDefEqProofs -dsimp only [go_sem, *]))
theorem square_ok (x y : Int) (hx : -1000000 ≤ x ∧ x ≤ 1000000) (hy : -1000000 ≤ y ∧ y ≤ 1000000) : Ctr Try.prog 50 [.int .i64 x, .int .i64 y] [] (.int .i64 (x * x + y * y)) [] := by
 refine Ctr.intro Try.mixed Try.func50 rfl Try.okF50 ?_
 simp -implicitDefEqProofs -dsimp only [go_sem, Try.ntmps50, Try.results50]
 have h1 : 0 ≤ x * x ∧ x * x ≤ 1000000000000 := ⟨mul_self_nonneg' x, sq_le hx⟩
 have h2 : 0 ≤ y * y ∧ y * y ≤ 1000000000000 := ⟨mul_self_nonneg' y, sq_le hy⟩
 rw [wrap_i64 (n := x * x) (by omega) (by omega), wrap_i64 (n := y * y) (by omega) (by omega), wrap_i64 (by omega) (by omega)]
 exact WeakR.refl _ _ _
end Go.Proofs
end
section
set_option maxRecDepth 100000
namespace Go.Proofs
open Go.Lv
def letB (s : ByteArray) (i : Nat) : Bool := if h : i < s.size then inB' ((s[i]'h).toNat : Int) 97 122 else false
def wordB (s : ByteArray) : Bool := (List.range s.size).all (letB s) && inB' (s.size : Int) 1 10
theorem letB_at {s : ByteArray} {i : Nat} (h : i < s.size) : letB s i = inB' ((s[i]'h).toNat : Int) 97 122 := by simp [letB, h]
theorem wordB_false {s : ByteArray} {i : Nat} (h : i < s.size) (hb : letB s i = false) : wordB s = false := by
 have : (List.range s.size).all (letB s) = false := by
   rw [List.all_eq_false]
   exact ⟨i, List.mem_range.2 h, by simp [hb]⟩
 simp [wordB, this]
theorem isWord_ok (s : ByteArray) (hs : strR s) : Ctr Try.prog 46 [.str s] [] (.bool (wordB s)) [] := by
 simp only [strR] at hs
 refine Ctr.intro Try.mixed Try.func46 rfl Try.okF46 ?_
 simp -implicitDefEqProofs -dsimp only [go_sem, Try.ntmps46, Try.results46]
 refine LoopT.intro (fun i : Nat => i ≤ s.size ∧ (List.range i).all (letB s) = true) (fun i => ⟨[.str s, .undef, .undef, .undef, .undef, .int .i64 s.size, .int .i64 i, .undef, .undef, .undef, .undef, .undef, .undef, .undef, .undef, .undef, .undef, .undef, .undef, .undef, .undef, .undef, .undef], [], 0⟩) (fun i => s.size - i) 0 ⟨Nat.zero_le _, rfl⟩ ?_ (fun i hi => ?_)
 · refine Weak.cut (0) (by simp) (by simp) ?_ ?_
   · simp [LeC, LeV, ren, cutF]
   · rfl
 simp -implicitDefEqProofs -dsimp only [go_sem]
 refine condT.split (fun h1 => ?_) (fun h1 => ?_)
 · simp -implicitDefEqProofs -dsimp only [go_sem, h1]
   have hi' : i < s.size := by simpa using h1
   have hn : ((i : Int)).toNat < s.size := by simpa using hi'
   have fin : letB s i = false → V.bool false = V.bool (wordB s) := fun h => by rw [wordB_false hi' h]
   refine ⟨⟨by omega, hi'⟩, ?_⟩
   refine guardT.splitF (fun h2 => ?_) (fun h2 => ?_) <;> simp -implicitDefEqProofs -dsimp only [go_sem, h2]
   · refine ⟨⟨by omega, hi'⟩, ?_⟩
     try simp -implicitDefEqProofs -dsimp only [go_sem, h2]
     refine condT.split (fun h3 => ?_) (fun h3 => ?_) <;> simp -implicitDefEqProofs -dsimp only [go_sem, h2, h3]
     · exact WeakR.drop' (fin (by rw [letB_at hi']; simp at h2 h3; simp [inB']; omega)) (by rfl)
     · refine ⟨i + 1, ⟨hi', range_all_succ hi.2 (by rw [letB_at hi']; simp at h2 h3; simp [inB']; omega)⟩, ?_, by omega⟩
       refine Weak.cut (0) (by simp) (by simp) ?_ ?_
       · rw [wrap_i64 (by omega) (by omega)]
         simp [LeC, LeV, ren, cutF]
       · rfl
   · exact WeakR.drop' (fin (by rw [letB_at hi']; simp at h2; simp [inB']; omega)) (by rfl)
 · simp -implicitDefEqProofs -dsimp only [go_sem, h1]
   have hi' : i = s.size := by simp at h1; omega
   subst hi'
   (first | refine callT.at (in_ok _ _ _) ⟨leA, leA, leA, trivial⟩ ?_ | refine callS.at (in_ok _ _ _) ⟨leA, leA, leA, trivial⟩ ?_)
   simp -implicitDefEqProofs -dsimp only [go_sem]
   exact WeakR.drop' (by rw [wordB, hi.2]; rfl) (by rfl)
theorem l2Word_ok (s : ByteArray) (hs : strR s) : Ctr Try.prog 77 [.str s] [] (.bool (wordB s)) [] := by
 simp only [strR] at hs
 refine Ctr.intro Try.mixed Try.func77 rfl Try.okF77 ?_
 simp -implicitDefEqProofs -dsimp only [go_sem, Try.ntmps77, Try.results77]
 refine LoopT.intro (fun i : Nat => i ≤ s.size ∧ (List.range i).all (letB s) = true) (fun i => ⟨[.str s, .undef, .undef, .int .i64 i, .undef, .undef, .undef, .undef, .undef, .undef, .undef, .undef, .undef, .undef, .undef, .undef, .undef, .undef, .undef, .undef, .undef, .undef, .undef], [], 0⟩) (fun i => s.size - i) 0 ⟨Nat.zero_le _, rfl⟩ ?_ (fun i hi => ?_)
 · refine Weak.cut (0) (by simp) (by simp) ?_ ?_
   · simp [LeC, LeV, ren, cutF]
   · rfl
 simp -implicitDefEqProofs -dsimp only [go_sem]
 refine condT.split (fun h1 => ?_) (fun h1 => ?_)
 · simp -implicitDefEqProofs -dsimp only [go_sem, h1]
   have hi' : i < s.size := by simpa using h1
   have hn : ((i : Int)).toNat < s.size := by simpa using hi'
   have fin : letB s i = false → V.bool false = V.bool (wordB s) := fun h => by rw [wordB_false hi' h]
   refine ⟨⟨by omega, hi'⟩, ?_⟩
   refine guardT.splitF (fun h2 => ?_) (fun h2 => ?_) <;> simp -implicitDefEqProofs -dsimp only [go_sem, h2]
   · refine ⟨⟨by omega, hi'⟩, ?_⟩
     try simp -implicitDefEqProofs -dsimp only [go_sem, h2]
     refine condT.split (fun h3 => ?_) (fun h3 => ?_) <;> simp -implicitDefEqProofs -dsimp only [go_sem, h2, h3]
     · exact WeakR.drop' (fin (by rw [letB_at hi']; simp at h2 h3; simp [inB']; omega)) (by rfl)
     · refine ⟨i + 1, ⟨hi', range_all_succ hi.2 (by rw [letB_at hi']; simp at h2 h3; simp [inB']; omega)⟩, ?_, by omega⟩
       refine Weak.cut (0) (by simp) (by simp) ?_ ?_
       · rw [wrap_i64 (by omega) (by omega)]
         simp [LeC, LeV, ren, cutF]
       · rfl
   · exact WeakR.drop' (fin (by rw [letB_at hi']; simp at h2; simp [inB']; omega)) (by rfl)
 · simp -implicitDefEqProofs -dsimp only [go_sem, h1]
   have hi' : i = s.size := by simp at h1; omega
   subst hi'
   (first | refine callT.at (l1In_ok _ _ _) ⟨leA, leA, leA, trivial⟩ ?_ | refine callS.at (l1In_ok _ _ _) ⟨leA, leA, leA, trivial⟩ ?_)
   simp -implicitDefEqProofs -dsimp only [go_sem]
   exact WeakR.drop' (by rw [wordB, hi.2]; rfl) (by rfl)
end Go.Proofs
end
section
set_option maxRecDepth 100000
namespace Go.Proofs
open Go.Lv
structure Bend where
 X : Int
 Y : Int
def Bend.cs (r : Bend) : List V := [.int .i64 r.X, .int .i64 r.Y]
def Bend.v (r : Bend) : V := .agg [.int .i64 r.X, .int .i64 r.Y]
theorem Bend.csl (a : Bend) : a.cs.length = 2 := rfl
instance : FlatP Bend.cs 2 := ⟨fun _ => rfl, fun _ d => by cases d <;> rfl, fun _ => rfl, fun _ => rfl⟩
def Bend.ok (r : Bend) : Prop := i64R r.X ∧ i64R r.Y
abbrev Bend.rows (L : List Bend) : List V := Go.Lv.rows Bend.cs L
abbrev Bend.sl (L : List Bend) : V := .sl L.length 2 (Go.Lv.rows Bend.cs L)
abbrev Bend.zs : List V := [.int .i64 0, .int .i64 0]
def Bend.mk1 (k : Int) : Bend := ⟨k, k + 1⟩
def Bend.marks (k : Int) (n : Nat) : List Bend := (List.range n).map fun i : Nat => Bend.mk1 (k + 2 * (i : Int))
@[simp] theorem Bend.marks_len (k : Int) (n : Nat) : (Bend.marks k n).length = n := by simp [Bend.marks]
end Go.Proofs
end
section
set_option maxRecDepth 100000
namespace Go.Proofs
open Go.Lv
structure Fault where
 Id : Int
 Name : ByteArray
 Bends : List Bend
 Slip : Int
def Fault.cs (r : Fault) : List V := [.int .i64 r.Id, .str r.Name, .sl r.Bends.length 2 (Go.Lv.rows Bend.cs r.Bends), .int .i64 r.Slip]
def Fault.v (r : Fault) : V := .agg [.int .i64 r.Id, .str r.Name, .sl r.Bends.length 2 (Go.Lv.rows Bend.cs r.Bends), .int .i64 r.Slip]
def Fault.o (r : Fault) (i0 : Nat) : V := .agg [.int .i64 r.Id, .str r.Name, .osl i0 0 r.Bends.length 2, .int .i64 r.Slip]
theorem Fault.csl (a : Fault) : a.cs.length = 4 := rfl
def Fault.ok (r : Fault) : Prop := i64R r.Id ∧ strR r.Name ∧ lstR Bend.ok r.Bends ∧ i64R r.Slip
theorem Fault.le {h : Hp} {r : Fault} {i0 : Nat} (h0 : h[i0]? = some (some (rows Bend.cs r.Bends))) : LeV (ren (snapR h 3) 3 (r.o i0)) r.v := by
 refine .inl ?_
 simp only [Fault.o, Fault.v, ren, List.map_cons, List.map_nil, snapR, h0, map_ren_rows, List.drop_zero, take_rows]
end Go.Proofs
end
section
namespace Go.Lv
def idxI {α : Type} (p : α → Bool) (L : List α) : Int := match L.findIdx? p with
 | some i => i
 | none => -1
theorem idxI_found {α : Type} {p : α → Bool} {L : List α} {i : Nat} (h : i < L.length) (h0 : (L.take i).any p = false) (h1 : p L[i] = true) : idxI p L = i := by
 have : L.findIdx? p = some i := by
   rw [List.findIdx?_eq_some_iff_getElem]
   refine ⟨h, h1, fun j hj => ?_⟩
   have := List.any_eq_false.1 h0 L[j] (by rw [List.mem_take_iff_getElem]; exact ⟨j, by omega, rfl⟩)
   simpa using this
 simp [idxI, this]
theorem idxI_none {α : Type} {p : α → Bool} {L : List α} (h : L.any p = false) : idxI p L = -1 := by
 have : L.findIdx? p = none := by
   rw [List.findIdx?_eq_none_iff]
   intro x hx
   have := List.any_eq_false.1 h x hx
   simpa using this
 simp [idxI, this]
theorem idxI_any {α : Type} (p : α → Bool) (L : List α) : decide (0 ≤ idxI p L) = L.any p := by
 unfold idxI
 cases h : L.findIdx? p with
 | none =>
   rw [List.findIdx?_eq_none_iff] at h
   symm
   rw [show decide ((0 : Int) ≤ -1) = false from rfl, List.any_eq_false]
   intro x hx
   simp [h x hx]
 | some i =>
   rw [List.findIdx?_eq_some_iff_getElem] at h
   obtain ⟨hi, h1, _⟩ := h
   symm
   rw [show decide ((0 : Int) ≤ (i : Int)) = true from decide_eq_true (by omega), List.any_eq_true]
   exact ⟨_, List.getElem_mem hi, h1⟩
theorem all_any {α : Type} (p : α → Bool) (L : List α) : (!(L.any fun x => !(p x))) = L.all p := by
 induction L with
 | nil => rfl
 | cons x l ih => simp only [List.any_cons, List.all_cons, Bool.not_or, Bool.not_not, ih]
end Go.Lv
end
section
set_option maxRecDepth 100000
namespace Go.Proofs
open Go.Lv
theorem indexFuncBend_ok (L : List Bend) (p : Bend → Bool) (fv : Nat) (vc : List V) (hvc : ∀ d, vc.all (noOwn d) = true) (hv : ∀ x, Ctr Try.prog fv (Bend.v x :: vc) [] (.bool (p x)) []) (hl : L.length ≤ 281474976710656) :
   Ctr Try.prog 88 [Bend.sl L, .fn (.func fv) [] vc] [] (.int .i64 (idxI p L)) [] := by
 refine Ctr.intro Try.mixed Try.func88 rfl Try.okF88 ?_
 simp -implicitDefEqProofs -dsimp only [go_sem, Try.ntmps88, Try.results88]
 have hvc2 : ∀ f d, vc.map (ren f d) = vc := fun f d => map_ren f (hvc d)
 refine LoopT.intro (fun i : Nat => i ≤ L.length ∧ (L.take i).any p = false) (fun i => ⟨[Bend.sl L, .fn (.func fv) [] vc, .undef, .undef, .undef, .undef, .undef, .int .i64 L.length, .int .i64 i, .undef, .undef, .undef, .undef, .undef, .undef, .undef, .undef, .undef, .undef], [], 0⟩) (fun i => L.length - i) 0 ⟨Nat.zero_le _, rfl⟩ ?_ (fun i hi => ?_)
 · refine Weak.cut (0) (by simp) (by simp) ?_ ?_
   · simp [LeC, LeV, ren, cutF, hvc2]
   · rfl
 simp -implicitDefEqProofs -dsimp only [go_sem]
 refine condT.split (fun h1 => ?_) (fun h1 => ?_)
 · simp -implicitDefEqProofs -dsimp only [go_sem, h1]
   have hi' : i < L.length := by simpa using h1
   have h5 := Bend.csl L[i]
   have hr := rows_at Bend.csl hi'
   (repeat1' (first | simp -implicitDefEqProofs -dsimp only [go_sem, hr, Bend.cs] | simp -dsimp (disch := omega) only [wrap_i64]))
   repeat (with_reducible refine sideA ?_)
   refine callS.intro (hv L[i]) ⟨.inl rfl, LeL_same (hvc2 _ _)⟩ (.inl (by simp only [List.nil_append, List.cons_append, List.all_cons, hvc, Bool.and_true]; rfl)) ?_
   simp -implicitDefEqProofs -dsimp only [go_sem]
   refine condT.split (fun h2 => ?_) (fun h2 => ?_) <;> simp -implicitDefEqProofs -dsimp only [go_sem, h2]
   · exact WeakR.drop' (by rw [idxI_found hi' hi.2 h2]) (by rfl)
   · refine ⟨i + 1, ⟨hi', by rw [List.take_succ_eq_append_getElem hi']; simp only [List.any_append, hi.2, List.any_cons, h2, List.any_nil, Bool.or_self]⟩, ?_, by omega⟩
     refine Weak.cut (0) (by simp) (by simp) ?_ ?_
     · rw [wrap_i64 (by omega) (by omega)]
       simp [LeC, LeV, ren, cutF, hvc2]
     · rfl
 · simp -implicitDefEqProofs -dsimp only [go_sem, h1]
   have hi' : i = L.length := by simp at h1; omega
   subst hi'
   have h2 := hi.2
   rw [List.take_length] at h2
   exact WeakR.drop' (by rw [idxI_none h2]) (by rfl)
theorem containsFuncBend_ok (L : List Bend) (p : Bend → Bool) (fv : Nat) (vc : List V) (hvc : ∀ d, vc.all (noOwn d) = true) (hv : ∀ x, Ctr Try.prog fv (Bend.v x :: vc) [] (.bool (p x)) []) (hl : L.length ≤ 281474976710656) :
   Ctr Try.prog 78 [Bend.sl L, .fn (.func fv) [] vc] [] (.bool (L.any p)) [] := by
 refine Ctr.intro Try.mixed Try.func78 rfl Try.okF78 ?_
 simp -implicitDefEqProofs -dsimp only [go_sem, Try.ntmps78, Try.results78]
 have hvc2 : ∀ f d, vc.map (ren f d) = vc := fun f d => map_ren f (hvc d)
 refine callS.intro (indexFuncBend_ok L p fv vc hvc hv hl) ⟨.inl rfl, .inl (by simp [ren, hvc2]), trivial⟩ (.inl (by simp [noOwn, hvc])) ?_
 simp -implicitDefEqProofs -dsimp only [go_sem]
 exact WeakR.drop' (by rw [idxI_any]) (by rfl)
theorem allBend_ok (L : List Bend) (p : Bend → Bool) (fv : Nat) (hv : ∀ x, Ctr Try.prog fv [Bend.v x] [] (.bool (p x)) []) (hl : L.length ≤ 281474976710656) :
   Ctr Try.prog 47 [Bend.sl L, .fn (.func fv) [] []] [] (.bool (L.all p)) [] := by
 have hc : ∀ x, Ctr Try.prog 79 (Bend.v x :: [.pt [.fn (.func fv) [] []]]) [] (.bool (!(p x))) [] := by
   intro x
   refine Ctr.intro Try.mixed Try.func79 rfl Try.okF79 ?_
   simp -implicitDefEqProofs -dsimp only [go_sem, Try.ntmps79, Try.results79]
   simp -implicitDefEqProofs -dsimp only [go_sem, Bend.v]
   (first | refine callT.at (hv x) ⟨leA, trivial⟩ ?_ | refine callS.at (hv x) ⟨leA, trivial⟩ ?_)
   simp -implicitDefEqProofs -dsimp only [go_sem]
   exact WeakR.drop' rfl (by rfl)
 refine Ctr.intro Try.mixed Try.func47 rfl Try.okF47 ?_
 simp -implicitDefEqProofs -dsimp only [go_sem, Try.ntmps47, Try.results47]
 (first | refine callT.at (containsFuncBend_ok L (fun x => !(p x)) _ [.pt [.fn (.func fv) [] []]] (fun d => by cases d <;> rfl) hc hl) ⟨leA, leA, trivial⟩ ?_ | refine callS.at (containsFuncBend_ok L (fun x => !(p x)) _ [.pt [.fn (.func fv) [] []]] (fun d => by cases d <;> rfl) hc hl) ⟨leA, leA, trivial⟩ ?_)
 simp -implicitDefEqProofs -dsimp only [go_sem]
 exact WeakR.drop' (by rw [all_any]) (by rfl)
end Go.Proofs
end
section
set_option maxRecDepth 100000
namespace Go.Proofs
open Go.Lv
def bendB (b : Bend) : Bool := placeB b.X b.Y
def bendEq (a b : Bend) : Bool := (a.X == b.X) && (a.Y == b.Y)
def segB (a b : Bend) : Bool := bendB a && bendB b && !(bendEq a b)
theorem isBend_ok (b : Bend) : Ctr Try.prog 48 [b.v] [] (.bool (bendB b)) [] := by
 refine Ctr.intro Try.mixed Try.func48 rfl Try.okF48 ?_
 simp -implicitDefEqProofs -dsimp only [go_sem, Try.ntmps48, Try.results48]
 simp -implicitDefEqProofs -dsimp only [go_sem, Bend.v]
 (first | refine callT.at (isPlace_ok _ _) ⟨leA, leA, trivial⟩ ?_ | refine callS.at (isPlace_ok _ _) ⟨leA, leA, trivial⟩ ?_)
 simp -implicitDefEqProofs -dsimp only [go_sem]
 exact WeakR.drop' rfl (by rfl)
theorem l18Bend_ok (b : Bend) : Ctr Try.prog 57 [b.v] [] (.bool (bendB b)) [] := by
 refine Ctr.intro Try.mixed Try.func57 rfl Try.okF57 ?_
 simp -implicitDefEqProofs -dsimp only [go_sem, Try.ntmps57, Try.results57]
 simp -implicitDefEqProofs -dsimp only [go_sem, Bend.v]
 (first | refine callT.at (l2Place_ok _ _) ⟨leA, leA, trivial⟩ ?_ | refine callS.at (l2Place_ok _ _) ⟨leA, leA, trivial⟩ ?_)
 simp -implicitDefEqProofs -dsimp only [go_sem]
 exact WeakR.drop' rfl (by rfl)
theorem l18Segment_ok (a b : Bend) : Ctr Try.prog 56 [a.v, b.v] [] (.bool (segB a b)) [] := by
 refine Ctr.intro Try.mixed Try.func56 rfl Try.okF56 ?_
 simp -implicitDefEqProofs -dsimp only [go_sem, Try.ntmps56, Try.results56]
 simp -implicitDefEqProofs -dsimp only [go_sem, Bend.v]
 repeat' (first | (refine WeakR.drop' ?_ (by rfl); first | rfl | (simp [segB, bendEq, *]; done)) | ((first | refine callT.at (l18Bend_ok a) ⟨leA, trivial⟩ ?_ | refine callS.at (l18Bend_ok a) ⟨leA, trivial⟩ ?_); simp -implicitDefEqProofs -dsimp only [go_sem, *]) | ((first | refine callT.at (l18Bend_ok b) ⟨leA, trivial⟩ ?_ | refine callS.at (l18Bend_ok b) ⟨leA, trivial⟩ ?_); simp -implicitDefEqProofs -dsimp only [go_sem, *]) | (refine guardT.splitT (fun _ => ?_) (fun _ => ?_) <;> simp -implicitDefEqProofs -dsimp only [go_sem, *]) | (refine guardT.splitF (fun _ => ?_) (fun _ => ?_) <;> simp -implicitDefEqProofs -dsimp only [go_sem, *]) | (refine condT.split (fun _ => ?_) (fun _ => ?_) <;> simp -implicitDefEqProofs -dsimp only [go_sem, *]))
end Go.Proofs
end
section
set_option maxRecDepth 100000
namespace Go.Proofs
open Go.Lv
def adjQ (L : List Bend) (i : Nat) : Bool := if h : i + 1 < L.length then !(bendEq L[i + 1] L[i]) else true
def adj (L : List Bend) : Bool := (List.range L.length).all (adjQ L)
theorem adj_of {L : List Bend} {j : Nat} (h : (List.range j).all (adjQ L) = true) (h2 : L.length ≤ j + 1) : adj L = true := by
 rw [adj, List.all_eq_true]
 intro k hk
 by_cases hj : k < j
 · exact List.all_eq_true.1 h k (List.mem_range.2 hj)
 · rw [adjQ, dif_neg (by omega)]
theorem adj_false {L : List Bend} {j : Nat} (h : j + 1 < L.length) (h2 : bendEq L[j + 1] L[j] = true) : adj L = false := by
 rw [adj, List.all_eq_false]
 exact ⟨j, List.mem_range.2 (by omega), by simp [adjQ, h, h2]⟩
def faultB (f : Fault) : Bool := adj f.Bends && (inB' f.Id 1 99 && (wordB f.Name && (inB' f.Bends.length 2 8 && (f.Bends.all bendB && inB' f.Slip 0 1000))))
theorem iIsFault_ok (f : Fault) (hn : strR f.Name) (hl : f.Bends.length ≤ 281474976710656) : Ctr Try.prog 17 [f.v] [] (.bool (faultB f)) [] := by
 refine Ctr.intro Try.mixed Try.func17 rfl Try.okF17 ?_
 simp -implicitDefEqProofs -dsimp only [go_sem, Try.ntmps17, Try.results17]
 simp -implicitDefEqProofs -dsimp only [go_sem, Fault.v]
 refine LoopT.intro (fun j : Nat => j ≤ f.Bends.length ∧ (List.range j).all (adjQ f.Bends) = true) (fun j => ⟨[.undef, .ptr 0 0, .undef, .int .i64 ((j + 1 : Nat) : Int), .undef, .undef, .undef, .undef, .undef, .undef, .undef, .undef, .undef, .undef, .undef, .undef, .undef, .undef, .undef, .undef, .undef, .undef, .undef, .undef, .undef, .undef, .undef, .undef, .undef, .undef, .undef, .undef, .undef, .undef, .undef, .undef, .undef, .undef, .undef, .undef, .undef, .undef, .undef, .undef, .undef, .undef, .undef], [some f.cs], 0⟩) (fun j => f.Bends.length - j) 0 ⟨Nat.zero_le _, rfl⟩ ?_ (fun j hi => ?_)
 · refine Weak.cut (1) (by simp) (by simp) ?_ ?_
   · simp [LeC, LeV, ren, cutF]
   · simp [cutH, cutB, ren, map_ren_rows, Fault.cs]
 simp -implicitDefEqProofs -dsimp only [go_sem, Fault.cs]
 refine condT.split (fun h1 => ?_) (fun h1 => ?_)
 · simp -implicitDefEqProofs -dsimp only [go_sem, h1, Fault.cs]
   have hi' : j + 1 < f.Bends.length := by have := of_decide_eq_true h1; omega
   have hj : j < f.Bends.length := by omega
   have hw1 : IntKind.i64.wrap (((j + 1 : Nat) : Int) - 1) = (j : Int) := by rw [wrap_i64 (by omega) (by omega)]; omega
   have hr := rows_at Bend.csl hi'
   have hr2 := rows_at Bend.csl hj
   (repeat ((repeat1' (first | simp -implicitDefEqProofs -dsimp only [go_sem, hr, hr2, hw1, Bend.cs, Fault.cs] | simp -dsimp (disch := omega) only [wrap_i64])); repeat (with_reducible refine sideA ?_)))
   refine condT.split (fun h2 => ?_) (fun h2 => ?_) <;> simp -implicitDefEqProofs -dsimp only [go_sem, h2]
   · exact WeakR.drop' (by rw [faultB, adj_false hi' h2]; rfl) (by rfl)
   · refine ⟨j + 1, ⟨by omega, range_all_succ hi.2 (by simp only [adjQ, hi', dite_true]; rw [show bendEq f.Bends[j + 1] f.Bends[j] = false from h2]; rfl)⟩, ?_, by omega⟩
     refine Weak.cut (1) (by simp) (by simp) ?_ ?_
     · rw [wrap_i64 (by omega) (by omega)]
       simp [LeC, LeV, ren, cutF]
     · simp [cutH, cutB, ren, map_ren_rows, Fault.cs]
 · simp -implicitDefEqProofs -dsimp only [go_sem, h1, Fault.cs]
   have ha : adj f.Bends = true := adj_of hi.2 (by simp at h1; omega)
   repeat' (first | (refine WeakR.drop' ?_ (by rfl); first | rfl | (simp [faultB, ha, *]; done)) | ((first | refine callT.at (in_ok _ _ _) ⟨leA, leA, leA, trivial⟩ ?_ | refine callS.at (in_ok _ _ _) ⟨leA, leA, leA, trivial⟩ ?_); simp -implicitDefEqProofs -dsimp only [go_sem, *]) | ((first | refine callT.at (isWord_ok f.Name hn) ⟨leA, trivial⟩ ?_ | refine callS.at (isWord_ok f.Name hn) ⟨leA, trivial⟩ ?_); simp -implicitDefEqProofs -dsimp only [go_sem, *]) | ((first | refine callT.at (allBend_ok f.Bends bendB _ isBend_ok hl) ⟨leA, leA, trivial⟩ ?_ | refine callS.at (allBend_ok f.Bends bendB _ isBend_ok hl) ⟨leA, leA, trivial⟩ ?_); simp -implicitDefEqProofs -dsimp only [go_sem, *]) | (refine guardT.splitT (fun _ => ?_) (fun _ => ?_) <;> simp -implicitDefEqProofs -dsimp only [go_sem, *]) | (refine guardT.splitF (fun _ => ?_) (fun _ => ?_) <;> simp -implicitDefEqProofs -dsimp only [go_sem, *]) | (refine condT.split (fun _ => ?_) (fun _ => ?_) <;> simp -implicitDefEqProofs -dsimp only [go_sem, *]))
end Go.Proofs
end
section
set_option maxRecDepth 100000
namespace Go.Proofs
open Go.Lv
def segQ (L : List Bend) (i : Nat) : Bool := if h : i + 1 < L.length then segB L[i] L[i + 1] else true
def segs (L : List Bend) : Bool := (List.range L.length).all (segQ L)
theorem segs_of {L : List Bend} {j : Nat} (h : (List.range j).all (segQ L) = true) (h2 : L.length ≤ j + 1) : segs L = true := by
 rw [segs, List.all_eq_true]
 intro k hk
 by_cases hj : k < j
 · exact List.all_eq_true.1 h k (List.mem_range.2 hj)
 · rw [segQ, dif_neg (by omega)]
theorem segs_false {L : List Bend} {j : Nat} (h : j + 1 < L.length) (h2 : segB L[j] L[j + 1] = false) : segs L = false := by
 rw [segs, List.all_eq_false]
 exact ⟨j, List.mem_range.2 (by omega), by simp [segQ, h, h2]⟩
theorem bendEq_comm (a b : Bend) : bendEq a b = bendEq b a := by
 simp only [bendEq, BEq.comm (a := a.X), BEq.comm (a := a.Y)]
theorem segs_eq {L : List Bend} (h : 2 ≤ L.length) : segs L = (adj L && L.all bendB) := by
 cases hs : segs L
 · symm
   rw [segs, List.all_eq_false] at hs
   obtain ⟨i, hi, hq⟩ := hs
   have hi1 : i + 1 < L.length := by
     by_cases hc : i + 1 < L.length
     · exact hc
     · rw [segQ, dif_neg hc] at hq; exact absurd rfl hq
   rw [segQ, dif_pos hi1] at hq
   have hq' : segB L[i] L[i + 1] = false := by simpa using hq
   cases hb : L.all bendB
   · simp
   · have g1 := List.all_eq_true.1 hb L[i] (List.getElem_mem _)
     have g2 := List.all_eq_true.1 hb L[i + 1] (List.getElem_mem _)
     have : bendEq L[i + 1] L[i] = true := by
       rw [bendEq_comm]
       simpa [segB, g1, g2] using hq'
     rw [adj_false hi1 this]; rfl
 · have hall : ∀ i, (h : i + 1 < L.length) → segB L[i] L[i + 1] = true := fun i h => by
     have := List.all_eq_true.1 hs i (List.mem_range.2 (by omega))
     rw [segQ, dif_pos h] at this
     exact this
   have hb : L.all bendB = true := by
     rw [List.all_eq_true]
     intro x hx
     obtain ⟨i, hi, rfl⟩ := List.getElem_of_mem hx
     by_cases hc : i + 1 < L.length
     · have := hall i hc
       simp only [segB, Bool.and_eq_true] at this
       exact this.1.1
     · have := hall (i - 1) (by omega)
       simp only [segB, Bool.and_eq_true] at this
       have e : L[i - 1 + 1]'(by omega) = L[i] := by congr 1; omega
       rw [← e]
       exact this.1.2
   have ha : adj L = true := by
     rw [adj, List.all_eq_true]
     intro i _
     by_cases hc : i + 1 < L.length
     · have := hall i hc
       simp only [segB, Bool.and_eq_true] at this
       rw [adjQ, dif_pos hc, bendEq_comm]
       exact this.2
     · rw [adjQ, dif_neg hc]
   rw [ha, hb]; rfl
theorem faultB_segs (f : Fault) : faultB f = (segs f.Bends && (inB' f.Id 1 99 && (wordB f.Name && (inB' f.Bends.length 2 8 && inB' f.Slip 0 1000)))) := by
 cases h : inB' (f.Bends.length : Int) 2 8
 · simp [faultB, h]
 · have h2 : 2 ≤ f.Bends.length := by have := (inB'_iff.1 h).1; omega
   rw [segs_eq h2, faultB, h]
   cases adj f.Bends <;> cases f.Bends.all bendB <;> simp
theorem l18One_ok (f : Fault) (hn : strR f.Name) (hl : f.Bends.length ≤ 281474976710656) : Ctr Try.prog 43 [f.v] [] (.bool (faultB f)) [] := by
 refine Ctr.intro Try.mixed Try.func43 rfl Try.okF43 ?_
 simp -implicitDefEqProofs -dsimp only [go_sem, Try.ntmps43, Try.results43]
 simp -implicitDefEqProofs -dsimp only [go_sem, Fault.v]
 refine LoopT.intro (fun j : Nat => j ≤ f.Bends.length ∧ (List.range j).all (segQ f.Bends) = true) (fun j => ⟨[.undef, .ptr 0 0, .undef, .int .i64 ((j + 1 : Nat) : Int), .undef, .undef, .undef, .undef, .undef, .undef, .undef, .undef, .undef, .undef, .undef, .undef, .undef, .undef, .undef, .undef, .undef, .undef, .undef, .undef, .undef, .undef, .undef, .undef, .undef, .undef, .undef, .undef, .undef, .undef, .undef, .undef, .undef, .undef, .undef, .undef, .undef, .undef, .undef], [some f.cs], 0⟩) (fun j => f.Bends.length - j) 0 ⟨Nat.zero_le _, rfl⟩ ?_ (fun j hi => ?_)
 · refine Weak.cut (1) (by simp) (by simp) ?_ ?_
   · simp [LeC, LeV, ren, cutF]
   · simp [cutH, cutB, ren, map_ren_rows, Fault.cs]
 simp -implicitDefEqProofs -dsimp only [go_sem, Fault.cs]
 refine condT.split (fun h1 => ?_) (fun h1 => ?_)
 · simp -implicitDefEqProofs -dsimp only [go_sem, h1, Fault.cs]
   have hi' : j + 1 < f.Bends.length := by have := of_decide_eq_true h1; omega
   have hj : j < f.Bends.length := by omega
   have hw1 : IntKind.i64.wrap (((j + 1 : Nat) : Int) - 1) = (j : Int) := by rw [wrap_i64 (by omega) (by omega)]; omega
   have hr := rows_at Bend.csl hi'
   have hr2 := rows_at Bend.csl hj
   (repeat ((repeat1' (first | simp -implicitDefEqProofs -dsimp only [go_sem, hr, hr2, hw1, Bend.cs, Fault.cs] | simp -dsimp (disch := omega) only [wrap_i64])); repeat (with_reducible refine sideA ?_)))
   (first | refine callT.at (l18Segment_ok f.Bends[j] f.Bends[j + 1]) ⟨leA, leA, trivial⟩ ?_ | refine callS.at (l18Segment_ok f.Bends[j] f.Bends[j + 1]) ⟨leA, leA, trivial⟩ ?_)
   simp -implicitDefEqProofs -dsimp only [go_sem]
   refine condT.split (fun h2 => ?_) (fun h2 => ?_) <;> simp -implicitDefEqProofs -dsimp only [go_sem, h2]
   · exact WeakR.drop' (by rw [faultB_segs, segs_false hi' (by simpa using h2)]; rfl) (by rfl)
   · refine ⟨j + 1, ⟨by omega, range_all_succ hi.2 (by simp only [segQ, hi', dite_true]; simpa using h2)⟩, ?_, by omega⟩
     refine Weak.cut (1) (by simp) (by simp) ?_ ?_
     · rw [wrap_i64 (by omega) (by omega)]
       simp [LeC, LeV, ren, cutF]
     · simp [cutH, cutB, ren, map_ren_rows, Fault.cs]
 · simp -implicitDefEqProofs -dsimp only [go_sem, h1, Fault.cs]
   have ha : segs f.Bends = true := segs_of hi.2 (by simp at h1; omega)
   have hf := faultB_segs f
   repeat' (first | (refine WeakR.drop' ?_ (by rfl); first | rfl | (simp [hf, ha, *]; done)) | ((first | refine callT.at (l1In_ok _ _ _) ⟨leA, leA, leA, trivial⟩ ?_ | refine callS.at (l1In_ok _ _ _) ⟨leA, leA, leA, trivial⟩ ?_); simp -implicitDefEqProofs -dsimp only [go_sem, *]) | ((first | refine callT.at (l2Word_ok f.Name hn) ⟨leA, trivial⟩ ?_ | refine callS.at (l2Word_ok f.Name hn) ⟨leA, trivial⟩ ?_); simp -implicitDefEqProofs -dsimp only [go_sem, *]) | (refine guardT.splitT (fun _ => ?_) (fun _ => ?_) <;> simp -implicitDefEqProofs -dsimp only [go_sem, *]) | (refine guardT.splitF (fun _ => ?_) (fun _ => ?_) <;> simp -implicitDefEqProofs -dsimp only [go_sem, *]) | (refine condT.split (fun _ => ?_) (fun _ => ?_) <;> simp -implicitDefEqProofs -dsimp only [go_sem, *]))
end Go.Proofs
end
section
set_option maxRecDepth 100000
namespace Go.Proofs
open Go.Lv
theorem copyOfBend_ok (L : List Bend) (hl : L.length ≤ 16777216) : Ctr Try.prog 75 [Bend.sl L] [] (.osl 0 0 L.length 2) [some (rows Bend.cs L)] := by
 refine Ctr.intro Try.mixed Try.func75 rfl Try.okF75 ?_
 simp -implicitDefEqProofs -dsimp only [go_sem, Try.ntmps75, Try.results75]
 repeat (with_reducible refine sideA ?_)
 exact WeakR.refl _ _ _
theorem copiedFault_ok (f : Fault) (hl : f.Bends.length ≤ 16777216) : Ctr Try.prog 36 [f.v] [] (f.o 0) [some (rows Bend.cs f.Bends)] := by
 refine Ctr.intro Try.mixed Try.func36 rfl Try.okF36 ?_
 simp -implicitDefEqProofs -dsimp only [go_sem, Try.ntmps36, Try.results36]
 simp -implicitDefEqProofs -dsimp only [go_sem, Fault.v]
 repeat (with_reducible refine sideA ?_)
 (first | refine callT.at (copyOfBend_ok f.Bends hl) ⟨leA, trivial⟩ ?_ | refine callS.at (copyOfBend_ok f.Bends hl) ⟨leA, trivial⟩ ?_)
 simp -implicitDefEqProofs -dsimp only [go_sem]
 repeat (with_reducible refine sideA ?_)
 refine WeakR.pick [2] (by decide) (fun j hj => by omega) (.inl ?_) ?_
 · rfl
 · simp only [pickH, List.map_cons, List.map_nil, pickB, List.getElem?_cons_zero, List.getElem?_cons_succ, map_ren_rows]
end Go.Proofs
end
section
namespace Go.Lv
theorem splice_row {α : Type} {cs : α → List V} {w : Nat} (hw : ∀ a, (cs a).length = w) {L : List α} {i : Nat} (hi : i < L.length) (x : α) : splice (rows cs L) (i * w) (cs x) = rows cs (L.set i x) := by
 have e : L = L.take i ++ L[i] :: L.drop (i + 1) := by rw [← List.drop_eq_getElem_cons hi, List.take_append_drop]
 have e2 : L.set i x = L.take i ++ x :: L.drop (i + 1) := by rw [List.set_eq_take_append_cons_drop, if_pos hi]
 have hA : (rows cs (L.take i)).length = i * w := by rw [rows_len hw, List.length_take, Nat.min_eq_left (by omega)]
 rw [e2, rowsOf_append, rows_cons]
 conv => lhs; rw [e, rowsOf_append, rows_cons]
 rw [splice_mid0 hA, splice_zero]
 congr 2
 rw [List.drop_append_of_le_length (by rw [hw, hw]; exact Nat.le_refl _), List.drop_of_length_le (by rw [hw, hw]; exact Nat.le_refl _)]
 rfl
def revJ {α : Type} (L : List α) (j : Nat) : List α := (List.range L.length).pmap (fun k (h : k < L.length) => if k < j ∨ L.length - j ≤ k then L[L.length - 1 - k] else L[k]) (fun k hk => List.mem_range.1 hk)
theorem revJ_len {α : Type} (L : List α) (j : Nat) : (revJ L j).length = L.length := by simp [revJ]
theorem revJ_get {α : Type} (L : List α) (j k : Nat) (h : k < (revJ L j).length) : (revJ L j)[k] = if k < j ∨ L.length - j ≤ k then L[L.length - 1 - k]'(by rw [revJ_len] at h; omega) else L[k]'(by rw [revJ_len] at h; exact h) := by
 simp [revJ]
theorem revJ_zero {α : Type} (L : List α) : revJ L 0 = L := by
 apply List.ext_getElem (revJ_len L 0)
 intro k h1 h2
 rw [revJ_get, if_neg (by omega)]
theorem revJ_end {α : Type} (L : List α) (j : Nat) (h : L.length ≤ 2 * j + 1) : revJ L j = L.reverse := by
 apply List.ext_getElem (by rw [revJ_len, List.length_reverse])
 intro k h1 h2
 rw [revJ_len] at h1
 rw [revJ_get, List.getElem_reverse]
 split
 · rfl
 · congr 1; omega
theorem revJ_step {α : Type} (L : List α) (j : Nat) (h : 2 * j + 1 < L.length) : ((revJ L j).set j (L[L.length - 1 - j])).set (L.length - 1 - j) L[j] = revJ L (j + 1) := by
 apply List.ext_getElem (by simp [revJ_len])
 intro k h1 h2
 rw [revJ_len] at h2
 rw [List.getElem_set, List.getElem_set, revJ_get, revJ_get]
 by_cases e1 : L.length - 1 - j = k
 · subst e1
   rw [if_pos rfl, if_pos (by omega)]
   congr 1; omega
 · rw [if_neg e1]
   by_cases e2 : j = k
   · subst e2
     rw [if_pos rfl, if_pos (by omega)]
   · rw [if_neg e2]
     by_cases e3 : k < j ∨ L.length - j ≤ k
     · rw [if_pos e3, if_pos (by omega)]
     · rw [if_neg e3, if_neg (by omega)]
end Go.Lv
end
section
set_option maxRecDepth 100000
namespace Go.Proofs
open Go.Lv
theorem reverseBend_ok (L : List Bend) (hl : L.length ≤ 281474976710656) : Ctr Try.prog 42 [.osl 0 0 L.length 2] [some (rows Bend.cs L)] (.tup []) [some (rows Bend.cs L.reverse)] := by
 refine Ctr.intro Try.mixed Try.func42 rfl Try.okF42 ?_
 simp -implicitDefEqProofs -dsimp only [go_sem, Try.ntmps42, Try.results42]
 rw [wrap_i64 (by omega) (by omega)]
 refine LoopT.intro (fun j : Nat => 2 * j ≤ L.length + 1) (fun j => ⟨[.osl 0 0 L.length 2, .undef, .int .i64 j, .int .i64 ((L.length : Int) - 1 - j), .undef, .undef, .undef, .undef, .undef, .undef, .undef, .undef, .undef, .undef, .undef, .undef, .undef, .undef, .undef, .undef, .undef, .undef, .undef, .undef, .undef, .undef, .undef, .undef], [some (rows Bend.cs (revJ L j))], 1⟩) (fun j => L.length - j) 0 (by omega) ?_ (fun j hi => ?_)
 · refine Weak.cut (1) (by simp) (by simp) ?_ ?_
   · simp [LeC, LeV, ren, cutF]
   · rw [revJ_zero]; simp [cutH, cutB, ren, map_ren_rows]
 simp -implicitDefEqProofs -dsimp only [go_sem]
 refine condT.split (fun h1 => ?_) (fun h1 => ?_)
 · have h1' := of_decide_eq_true h1
   have hm : (L.length : Int) - 1 - j = ((L.length - 1 - j : Nat) : Int) := by omega
   rw [hm] at h1 ⊢
   have hj : j < (revJ L j).length := by rw [revJ_len]; omega
   have hk : L.length - 1 - j < (revJ L j).length := by rw [revJ_len]; omega
   have hr := rows_at Bend.csl hj
   have hr2 := rows_at Bend.csl hk
   have hlr := rows_len (w := 2) Bend.csl (revJ L j)
   rw [revJ_len] at hlr
   have g1 : (revJ L j)[j] = L[j] := by rw [revJ_get, if_neg (by omega)]
   have g2 : (revJ L j)[L.length - 1 - j] = L[L.length - 1 - j] := by rw [revJ_get, if_neg (by omega)]
   rw [g1] at hr
   rw [g2] at hr2
   have s1 := splice_row Bend.csl hj L[L.length - 1 - j]
   have s2 := splice_row (L := (revJ L j).set j L[L.length - 1 - j]) Bend.csl (by rw [List.length_set]; exact hk) L[j]
   rw [revJ_step L j (by omega)] at s2
   simp -implicitDefEqProofs -dsimp only [go_sem, h1]
   (repeat ((repeat1' (first | simp -implicitDefEqProofs -dsimp only [go_sem, hr, hr2, hlr, Bend.cs] | simp -dsimp (disch := omega) only [wrap_i64])); repeat (with_reducible refine sideA ?_)))
   simp only [Bend.cs] at s1 s2
   have hl2 : (rows Bend.cs ((revJ L j).set j L[L.length - 1 - j])).length = L.length * 2 := by rw [rows_len (w := 2) Bend.csl, List.length_set, revJ_len]
   rw [s1, s2]
   refine ⟨by rw [hl2]; omega, j + 1, by omega, ?_, by omega⟩
   refine Weak.cut (1) (by simp) (by simp) ?_ ?_
   · simp [LeC, LeV, ren, cutF]
     omega
   · simp [cutH, cutB, map_ren_rows]
 · simp -implicitDefEqProofs -dsimp only [go_sem, h1]
   have := of_decide_eq_false h1
   rw [revJ_end L j (by omega)]
   exact WeakR.refl _ _ _
end Go.Proofs
end
section
set_option maxRecDepth 100000
namespace Go.Proofs
open Go.Lv
def Fault.rev (f : Fault) : Fault := ⟨f.Id, f.Name, f.Bends.reverse, f.Slip⟩
def faultO (f : Fault) : V := .tup [.agg [.int .i64 f.Id, .str f.Name, .osl 0 0 f.Bends.length 2, .int .i64 f.Slip], .bool true]
def faultN : V := .tup [.agg [.int .i64 0, .str ByteArray.empty, .nilsl, .int .i64 0], .bool false]
theorem faultB_ok {f : Fault} (h : faultB f = true) : 2 ≤ f.Bends.length ∧ f.Bends.length ≤ 8 := by
 simp [faultB, inB'] at h; omega
theorem iReverseFault_no (f : Fault) (hn : strR f.Name) (hl : f.Bends.length ≤ 16777216) (h : faultB f = false) : Ctr Try.prog 14 [f.v] [] faultN [] := by
 refine Ctr.intro Try.mixed Try.func14 rfl Try.okF14 ?_
 simp -implicitDefEqProofs -dsimp only [go_sem, Try.ntmps14, Try.results14]
 simp -implicitDefEqProofs -dsimp only [go_sem, Fault.v]
 repeat' (first | exact WeakR.refl _ _ _ | (refine WeakR.drop' ?_ (by rfl); first | rfl | (simp [h, faultN, *]; done)) | ((first | refine callT.at (iIsFault_ok f hn (by omega)) ⟨leA, trivial⟩ ?_ | refine callS.at (iIsFault_ok f hn (by omega)) ⟨leA, trivial⟩ ?_); simp -implicitDefEqProofs -dsimp only [go_sem, h, faultN, *]) | (refine guardT.splitT (fun _ => ?_) (fun _ => ?_) <;> simp -implicitDefEqProofs -dsimp only [go_sem, h, faultN, *]) | (refine guardT.splitF (fun _ => ?_) (fun _ => ?_) <;> simp -implicitDefEqProofs -dsimp only [go_sem, h, faultN, *]) | (refine condT.split (fun _ => ?_) (fun _ => ?_) <;> simp -implicitDefEqProofs -dsimp only [go_sem, h, faultN, *]) | (exfalso; simp_all; done))
theorem iReverseFault_ok (f : Fault) (hn : strR f.Name) (hl : f.Bends.length ≤ 16777216) (h : faultB f = true) : Ctr Try.prog 14 [f.v] [] (faultO f.rev) [some (rows Bend.cs f.Bends.reverse)] := by
 refine Ctr.intro Try.mixed Try.func14 rfl Try.okF14 ?_
 simp -implicitDefEqProofs -dsimp only [go_sem, Try.ntmps14, Try.results14]
 simp -implicitDefEqProofs -dsimp only [go_sem, Fault.v]
 repeat (first | ((first | refine callT.at (iIsFault_ok f hn (by omega)) ⟨leA, trivial⟩ ?_ | refine callS.at (iIsFault_ok f hn (by omega)) ⟨leA, trivial⟩ ?_); simp -implicitDefEqProofs -dsimp only [go_sem, h, Fault.o]) | ((first | refine callT.at (copiedFault_ok f hl) ⟨leA, trivial⟩ ?_ | refine callS.at (copiedFault_ok f hl) ⟨leA, trivial⟩ ?_); simp -implicitDefEqProofs -dsimp only [go_sem, h, Fault.o]) | (refine callS.lend [2] false ( reverseBend_ok f.Bends (by omega)) (by decide) ⟨leO, trivial⟩ lendA ( grown_one (by simp)) (.inl rfl) ?_; simp -implicitDefEqProofs -dsimp only [go_sem, h, Fault.o]) | (with_reducible refine And.intro (by first | omega | (show drawOk _ = true; kernel_rfl)) ?_; try (repeat1' (first | simp -implicitDefEqProofs -dsimp only [go_sem, h, Fault.o] | simp -dsimp (disch := omega) only [wrap_i64]))))
 refine WeakR.pick [2] (by decide) (fun j hj => by omega) (.inl ?_) ?_
 · first | rfl | (simp [ren, pickF, posOf, faultO, Fault.rev]; done)
 · simp only [pickH, List.map_cons, List.map_nil, pickB, List.getElem?_cons_zero, List.getElem?_cons_succ, map_ren_rows]
theorem sReverseFault_no (f : Fault) (hn : strR f.Name) (hl : f.Bends.length ≤ 16777216) (h : faultB f = false) : Ctr Try.prog 15 [f.v] [] faultN [] := by
 refine Ctr.intro Try.mixed Try.func15 rfl Try.okF15 ?_
 simp -implicitDefEqProofs -dsimp only [go_sem, Try.ntmps15, Try.results15]
 simp -implicitDefEqProofs -dsimp only [go_sem, Fault.v]
 repeat' (first | exact WeakR.refl _ _ _ | (refine WeakR.drop' ?_ (by rfl); first | rfl | (simp [h, faultN, *]; done)) | ((first | refine callT.at (l18One_ok f hn (by omega)) ⟨leA, trivial⟩ ?_ | refine callS.at (l18One_ok f hn (by omega)) ⟨leA, trivial⟩ ?_); simp -implicitDefEqProofs -dsimp only [go_sem, h, faultN, *]) | (refine guardT.splitT (fun _ => ?_) (fun _ => ?_) <;> simp -implicitDefEqProofs -dsimp only [go_sem, h, faultN, *]) | (refine guardT.splitF (fun _ => ?_) (fun _ => ?_) <;> simp -implicitDefEqProofs -dsimp only [go_sem, h, faultN, *]) | (refine condT.split (fun _ => ?_) (fun _ => ?_) <;> simp -implicitDefEqProofs -dsimp only [go_sem, h, faultN, *]) | (exfalso; simp_all; done))
def revS (f : Fault) : Nat → Hp
 | 0 => [some [.int .i64 f.Id, .str f.Name, .nilsl, .int .i64 f.Slip]]
 | j + 1 => [some [.int .i64 f.Id, .str f.Name, .osl 3 0 (j + 1) 2, .int .i64 f.Slip], some (rows Bend.cs (f.Bends.reverse.take (j + 1)))]
theorem revS_0 (f : Fault) : revS f 0 = [some [.int .i64 f.Id, .str f.Name, .nilsl, .int .i64 f.Slip]] := rfl
theorem revS_1 (f : Fault) (j : Nat) : revS f (j + 1) = [some [.int .i64 f.Id, .str f.Name, .osl 3 0 (j + 1) 2, .int .i64 f.Slip], some (rows Bend.cs (f.Bends.reverse.take (j + 1)))] := rfl
theorem sReverseFault_ok (f : Fault) (hn : strR f.Name) (hl : f.Bends.length ≤ 16777216) (h : faultB f = true) : Ctr Try.prog 15 [f.v] [] (faultO f.rev) [some (rows Bend.cs f.Bends.reverse)] := by
 refine Ctr.intro Try.mixed Try.func15 rfl Try.okF15 ?_
 simp -implicitDefEqProofs -dsimp only [go_sem, Try.ntmps15, Try.results15]
 simp -implicitDefEqProofs -dsimp only [go_sem, Fault.v]
 repeat (first | ((first | refine callT.at (l18One_ok f hn (by omega)) ⟨leA, trivial⟩ ?_ | refine callS.at (l18One_ok f hn (by omega)) ⟨leA, trivial⟩ ?_); simp -implicitDefEqProofs -dsimp only [go_sem, h]) | (with_reducible refine And.intro (by first | omega | (show drawOk _ = true; kernel_rfl)) ?_; try (repeat1' (first | simp -implicitDefEqProofs -dsimp only [go_sem, h] | simp -dsimp (disch := omega) only [wrap_i64]))))
 have hlen := faultB_ok h
 rw [wrap_i64 (by omega) (by omega)]
 refine LoopT.intro (fun j : Nat => j ≤ f.Bends.length) (fun j => ⟨[.undef, .ptr 0 0, .ptr 1 0, .undef, .ptr 2 0, .int .i64 ((f.Bends.length : Int) - 1 - j), .undef, .undef, .undef, .undef, .undef, .undef, .undef, .undef, .undef, .undef, .undef, .undef, .undef, .undef, .undef, .undef, .undef, .undef, .undef, .undef, .undef, .undef, .undef, .undef, .undef, .undef, .undef, .undef, .undef, .undef], some f.cs :: some [.int .i64 0, .str ByteArray.empty, .nilsl, .int .i64 0] :: revS f j, 0⟩) (fun j => f.Bends.length - j) 0 (Nat.zero_le _) ?_ (fun j hi => ?_)
 · refine Weak.cut (3) (by simp) (by simp) ?_ ?_
   · simp [LeC, LeV, ren, cutF]
   · simp [cutH, cutB, ren, revS, Fault.cs]
 simp -implicitDefEqProofs -dsimp only [go_sem]
 refine condT.split (fun h1 => ?_) (fun h1 => ?_)
 · have h1' := of_decide_eq_true h1
   have hj : j < f.Bends.length := by omega
   have hm : (f.Bends.length : Int) - 1 - j = ((f.Bends.length - 1 - j : Nat) : Int) := by omega
   rw [hm] at h1 ⊢
   have hk : f.Bends.length - 1 - j < f.Bends.length := by omega
   have hr := rows_at Bend.csl hk
   have hx : f.Bends.reverse.take (j + 1) = f.Bends.reverse.take j ++ [f.Bends[f.Bends.length - 1 - j]] := by
     rw [List.take_succ_eq_append_getElem (by simpa using hj), List.getElem_reverse]
   cases j with
   | zero =>
     (repeat ((repeat1' (first | simp -implicitDefEqProofs -dsimp only [go_sem, h1, hr, revS_0, Fault.cs, Bend.cs] | simp -dsimp (disch := omega) only [wrap_i64])); repeat (with_reducible refine sideA ?_)))
     refine ⟨1, by omega, ?_, by omega⟩
     refine Weak.pick [0, 1, 2, 4] (by decide) (fun j hj => by omega) ?_ ?_
     · simp [LeG, LeV, ren, pickF, posOf]
       omega
     · rw [revS_1, hx]
       simp [pickH, pickB, ren, pickF, posOf, map_ren_rows, rows, Bend.cs]
   | succ j =>
     have ht : (f.Bends.reverse.take (j + 1)).length = j + 1 := by simp; omega
     (repeat ((repeat1' (first | simp -implicitDefEqProofs -dsimp only [go_sem, h1, hr, revS_1, Fault.cs, Bend.cs, rows_length, ht, rows_cell] | simp -dsimp (disch := omega) only [wrap_i64])); repeat (with_reducible refine sideA ?_)))
     refine ⟨j + 2, by omega, ?_, by omega⟩
     refine Weak.cut (4) (by simp) (by simp) ?_ ?_
     · simp [LeC, LeV, ren, cutF]
       omega
     · rw [revS_1, hx, ← rows_snoc]
       simp [cutH, cutB, ren, cutF, map_ren_rows, killC, Bend.cs]
 · simp -implicitDefEqProofs -dsimp only [go_sem, h1]
   have hj : j = f.Bends.length := by have := of_decide_eq_false h1; omega
   subst hj
   obtain ⟨n, hn⟩ : ∃ n, f.Bends.length = n + 1 := ⟨f.Bends.length - 1, by omega⟩
   have e : f.Bends.reverse.take (n + 1) = f.Bends.reverse := List.take_of_length_le (by simp; omega)
   rw [hn]
   simp -implicitDefEqProofs -dsimp only [go_sem, revS, e]
   rw [← hn]
   refine WeakR.pick [3] (by decide) (fun j hj => by omega) (.inl ?_) ?_
   · first | rfl | (simp [ren, pickF, posOf, faultO, Fault.rev]; done)
   · simp only [pickH, List.map_cons, List.map_nil, pickB, List.getElem?_cons_zero, List.getElem?_cons_succ, map_ren_rows]
end Go.Proofs
end
section
set_option maxRecDepth 100000
set_option maxHeartbeats 1000000
namespace Go.Lv
def strSet (ks : List ByteArray) : List (Value × Value) := ks.map fun k => (.string k, .bool true)
theorem bytesEq (a b : ByteArray) : (a == b) = decide (a = b) := by
 by_cases e : a = b
 · subst e; simp only [decide_true]; exact (Go.MapKept.bytes_beq a a).2 rfl
 · rw [decide_eq_false e]
   cases h : (a == b)
   · rfl
   · exact absurd ((Go.MapKept.bytes_beq a b).1 h) e
theorem str_inj {x y : ByteArray} : x.toList = y.toList ↔ x = y := by
 rw [ByteArray.toList_eq, ByteArray.toList_eq]
 exact ⟨fun h => ByteArray.ext (Array.toList_inj.mp h), fun h => by rw [h]⟩
theorem strSet_has {k : ByteArray} : ∀ {ks : List ByteArray} (i : Nat), k ∈ ks → ∃ j, mpFind .string (.string k) (strSet ks) i = some (some (j, .bool true))
 | x :: ks, i, h => by
   by_cases e : k = x
   · subst e
     exact ⟨i, by simp [strSet, mpFind, Instr.sameNow, bytesEq]⟩
   · obtain ⟨j, hj⟩ := strSet_has (i + 1) ((List.mem_cons.1 h).resolve_left e)
     have e' : (k == x) = false := by simp [bytesEq, e]
     exact ⟨j, by simpa [strSet, mpFind, Instr.sameNow, e'] using hj⟩
theorem strSet_not {k : ByteArray} : ∀ {ks : List ByteArray} (i : Nat), k ∉ ks → mpFind .string (.string k) (strSet ks) i = some none
 | [], i, _ => rfl
 | x :: ks, i, h => by
   simp at h
   have := strSet_not (i + 1) h.2
   have e' : (k == x) = false := by simp [bytesEq, h.1]
   simpa [strSet, mpFind, Instr.sameNow, e'] using this
theorem strSet_put {k : ByteArray} {ks : List ByteArray} : mpPut (.string k) (.bool true) none (strSet ks) = strSet (ks ++ [k]) := by simp [mpPut, strSet]
end Go.Lv
namespace Go.Proofs
open Go.Lv
instance : FlatQ Fault.cs 4 := ⟨fun _ => rfl, fun a d => by cases d <;> rfl, fun _ => rfl⟩
abbrev Fault.sl (L : List Fault) : V := .sl L.length 4 (rows Fault.cs L)
theorem areListedFault_ok (L : List Fault) (p : Fault → Bool) (key : Fault → Int) (most : Int) (fv fk : Nat) (vc kc : List V) (hvc : ∀ d, vc.all (noOwn d) = true) (hkc : ∀ d, kc.all (noOwn d) = true) (hv : ∀ x ∈ L, Ctr Try.prog fv (Fault.v x :: vc) [] (.bool (p x)) []) (hkey : ∀ x, Ctr Try.prog fk (Fault.v x :: kc) [] (.int .i64 (key x)) []) (m : Nat) (hm : most = m) (hl : L.length ≤ 281474976710656) :
   Ctr Try.prog 70 [Fault.sl L, .int .i64 most, .fn (.func fv) [] vc, .fn (.func fk) [] kc] [] (.bool (listedB p key m L)) [] := by
 subst hm
 refine Ctr.intro Try.mixed Try.func70 rfl Try.okF70 ?_
 simp -implicitDefEqProofs -dsimp only [go_sem, Try.ntmps70, Try.results70]
 have hvc2 : ∀ f d, vc.map (ren f d) = vc := fun f d => map_ren f (hvc d)
 have hkc2 : ∀ f d, kc.map (ren f d) = kc := fun f d => map_ren f (hkc d)
 refine LoopT.intro (fun i : Nat => i ≤ L.length ∧ (List.range i).all (listedQ p key L) = true) (fun i => ⟨[Fault.sl L, .int .i64 m, .fn (.func fv) [] vc, .fn (.func fk) [] kc, .undef, .undef, .undef, .undef, .undef, .undef, .undef, Fault.sl L, .int .i64 L.length, .int .i64 i, .undef, .undef, .undef, .undef, .undef, .undef, .undef, .undef, .undef, .undef, .undef, .undef, .undef, .undef, .undef, .undef, .undef, .undef, .undef, .undef, .undef, .undef, .undef, .undef, .undef, .undef, .undef, .undef, .undef, .undef], [], 0⟩) (fun i => L.length - i) 0 ⟨Nat.zero_le _, rfl⟩ ?_ (fun i hi => ?_)
 · refine Weak.cut (0) (by simp) (by simp) ?_ ?_
   · simp [LeC, LeV, ren, cutF, hvc2, hkc2]
   · rfl
 simp -implicitDefEqProofs -dsimp only [go_sem]
 refine condT.split (fun h1 => ?_) (fun h1 => ?_)
 · simp -implicitDefEqProofs -dsimp only [go_sem, h1]
   have hi' : i < L.length := by simpa using h1
   have h5 := Fault.csl L[i]
   have hr := rows_at Fault.csl hi'
   (repeat1' (first | simp -implicitDefEqProofs -dsimp only [go_sem, hr, Fault.cs] | simp -dsimp (disch := omega) only [wrap_i64]))
   repeat (with_reducible refine sideA ?_)
   refine callT.intro (hv L[i] (List.getElem_mem hi')) ⟨.inl rfl, LeL_same (hvc2 _ _)⟩ (.inl (by simp only [List.nil_append, List.cons_append, List.all_cons, hvc, Bool.and_true]; rfl)) ⟨refOk_fn (hvc 3), rfl⟩ ?_
   simp -implicitDefEqProofs -dsimp only [go_sem]
   refine guardT.splitF (fun h2 => ?_) (fun h2 => ?_) <;> simp -implicitDefEqProofs -dsimp only [go_sem, h2]
   · have hw : p L[i] = true := by simpa using h2
     refine guardT.splitT (fun h3 => ?_) (fun h3 => ?_) <;> simp -implicitDefEqProofs -dsimp only [go_sem, h3]
     · obtain ⟨j, rfl⟩ : ∃ j, i = j + 1 := ⟨i - 1, by simp at h3; omega⟩
       have hj : j < L.length := by omega
       refine callT.intro (hkey L[j + 1]) ⟨.inl rfl, LeL_same (hkc2 _ _)⟩ (.inl (by simp only [List.nil_append, List.cons_append, List.all_cons, hkc, Bool.and_true]; rfl)) ⟨refOk_fn (hkc 3), rfl⟩ ?_
       have hw1 : IntKind.i64.wrap (((j + 1 : Nat) : Int) - 1) = (j : Int) := by rw [wrap_i64 (by omega) (by omega)]; omega
       have hr2 := rows_at Fault.csl hj
       (repeat1' (first | simp -implicitDefEqProofs -dsimp only [go_sem, hw1, hr2, Fault.cs] | simp -dsimp (disch := omega) only [wrap_i64]))
       repeat (with_reducible refine sideA ?_)
       refine callT.intro (hkey L[j]) ⟨.inl rfl, LeL_same (hkc2 _ _)⟩ (.inl (by simp only [List.nil_append, List.cons_append, List.all_cons, hkc, Bool.and_true]; rfl)) ⟨refOk_fn (hkc 3), rfl⟩ ?_
       (repeat1' (first | simp -implicitDefEqProofs -dsimp only [go_sem] | simp -dsimp (disch := omega) only [wrap_i64]))
       refine condT.split (fun h4 => ?_) (fun h4 => ?_) <;> simp -implicitDefEqProofs -dsimp only [go_sem, h4]
       · refine WeakR.drop' ?_ rfl
         have hq : listedQ p key L (j + 1) = false := by
           rw [listedQ_succ hi', hw]
           simp at h4 ⊢
           omega
         rw [listedB_false hi' hq]
       · refine ⟨j + 1 + 1, ⟨hi', range_all_succ hi.2 (by rw [listedQ_succ hi', hw]; simp at h4 ⊢; omega)⟩, ?_, by omega⟩
         refine Weak.cut (0) (by simp) (by simp) ?_ ?_
         · rw [wrap_i64 (by omega) (by omega)]
           simp [LeC, LeV, ren, cutF, hvc2, hkc2]
         · rfl
     · have h0 : i = 0 := by simp at h3; omega
       refine ⟨i + 1, ⟨hi', range_all_succ hi.2 (by subst h0; rw [listedQ_zero hi', hw])⟩, ?_, by omega⟩
       refine Weak.cut (0) (by simp) (by simp) ?_ ?_
       · rw [wrap_i64 (by omega) (by omega)]
         simp [LeC, LeV, ren, cutF, hvc2, hkc2]
       · rfl
   · have hw : p L[i] = false := by simpa using h2
     refine WeakR.drop' ?_ rfl
     have hq : listedQ p key L i = false := by simp [listedQ, hi', hw]
     rw [listedB_false hi' hq]
 · simp -implicitDefEqProofs -dsimp only [go_sem, h1]
   refine WeakR.drop' ?_ rfl
   have : i = L.length := by simp at h1; omega
   subst this
   rw [listedB, hi.2]
   simp
   try omega
theorem differFault_ok (L : List Fault) (key : Fault → ByteArray) (fk : Nat) (hkey : ∀ x, Ctr Try.prog fk [Fault.v x] [] (.str (key x)) []) (hl : L.length ≤ 281474976710656) :
   Ctr Try.prog 72 [Fault.sl L, .fn (.func fk) [] []] [] (.bool (decide (L.map key).Nodup)) [] := by
 refine Ctr.intro Try.mixed Try.func72 rfl Try.okF72 ?_
 simp -implicitDefEqProofs -dsimp only [go_sem, Try.ntmps72, Try.results72]
 refine LoopT.intro (fun i : Nat => i ≤ L.length ∧ ((L.take i).map key).Nodup) (fun i => ⟨[.undef, .fn (.func fk) [] [], .undef, .undef, .undef, .mp 0, .undef, .undef, .undef, Fault.sl L, .int .i64 L.length, .int .i64 i, .undef, .undef, .undef, .undef, .undef, .undef, .undef, .undef, .undef, .undef, .undef, .undef, .undef], [some [.mb (strSet ((L.take i).map key))]], 0⟩) (fun i => L.length - i) 0 ⟨Nat.zero_le _, by simp⟩ ?_ (fun i hi => ?_)
 · refine Weak.cut (1) (by simp) (by simp) ?_ ?_
   · simp [LeC, LeV, ren, cutF]
   · simp [cutH, cutB, ren, strSet]
 simp -implicitDefEqProofs -dsimp only [go_sem]
 refine condT.split (fun h1 => ?_) (fun h1 => ?_)
 · simp -implicitDefEqProofs -dsimp only [go_sem, h1]
   have hi' : i < L.length := by simpa using h1
   have h5 := Fault.csl L[i]
   have hr := rows_at Fault.csl hi'
   have ht : (L.take (i + 1)).map key = (L.take i).map key ++ [key L[i]] := by rw [List.take_succ_eq_append_getElem hi', List.map_append]; rfl
   (repeat1' (first | simp -implicitDefEqProofs -dsimp only [go_sem, hr, Fault.cs] | simp -dsimp (disch := omega) only [wrap_i64]))
   repeat (with_reducible refine sideA ?_)
   (first | refine callT.at (hkey L[i]) ⟨.inl rfl, trivial⟩ ?_ | refine callS.at (hkey L[i]) ⟨.inl rfl, trivial⟩ ?_)
   simp -implicitDefEqProofs -dsimp only [go_sem]
   by_cases hm : key L[i] ∈ (L.take i).map key
   · obtain ⟨j, hj⟩ := strSet_has 0 hm
     simp -implicitDefEqProofs -dsimp only [go_sem, hj]
     refine WeakR.drop' ?_ (by rfl)
     have : ¬ (L.map key).Nodup := by
       intro hn
       have h2 : ((L.take (i + 1)).map key).Nodup := (List.map_take ▸ hn.sublist (List.take_sublist _ _))
       rw [ht] at h2
       have := (List.nodup_append.1 h2).2.2 _ hm (key L[i]) (by simp)
       exact this rfl
     rw [decide_eq_false this]
   · have hj := strSet_not 0 hm
     simp -implicitDefEqProofs -dsimp only [go_sem, hj]
     (first | refine callT.at (hkey L[i]) ⟨.inl rfl, trivial⟩ ?_ | refine callS.at (hkey L[i]) ⟨.inl rfl, trivial⟩ ?_)
     simp -implicitDefEqProofs -dsimp only [go_sem, hj, strSet_put]
     refine ⟨i + 1, ⟨hi', ?_⟩, ?_, by omega⟩
     · rw [ht, List.nodup_append]
       exact ⟨hi.2, by simp, fun a ha b hb => by simp at hb; subst hb; rintro rfl; exact hm ha⟩
     refine Weak.cut (1) (by simp) (by simp) ?_ ?_
     · rw [wrap_i64 (by omega) (by omega)]
       simp [LeC, LeV, ren, cutF]
     · rw [ht]
       simp [cutH, cutB, ren]
 · simp -implicitDefEqProofs -dsimp only [go_sem, h1]
   have hi' : i = L.length := by simp at h1; omega
   subst hi'
   have h2 := hi.2
   rw [List.take_length] at h2
   exact WeakR.drop' (by rw [decide_eq_true h2]) (by rfl)
theorem indexFuncFault_ok (L : List Fault) (p : Fault → Bool) (fv : Nat) (vc : List V) (hvc : ∀ d, vc.all (noOwn d) = true) (hv : ∀ x, Ctr Try.prog fv (Fault.v x :: vc) [] (.bool (p x)) []) (hl : L.length ≤ 281474976710656) :
   Ctr Try.prog 68 [Fault.sl L, .fn (.func fv) [] vc] [] (.int .i64 (idxI p L)) [] := by
 refine Ctr.intro Try.mixed Try.func68 rfl Try.okF68 ?_
 simp -implicitDefEqProofs -dsimp only [go_sem, Try.ntmps68, Try.results68]
 have hvc2 : ∀ f d, vc.map (ren f d) = vc := fun f d => map_ren f (hvc d)
 refine LoopT.intro (fun i : Nat => i ≤ L.length ∧ (L.take i).any p = false) (fun i => ⟨[Fault.sl L, .fn (.func fv) [] vc, .undef, .undef, .undef, .undef, .undef, .int .i64 L.length, .int .i64 i, .undef, .undef, .undef, .undef, .undef, .undef, .undef, .undef, .undef, .undef], [], 0⟩) (fun i => L.length - i) 0 ⟨Nat.zero_le _, rfl⟩ ?_ (fun i hi => ?_)
 · refine Weak.cut (0) (by simp) (by simp) ?_ ?_
   · simp [LeC, LeV, ren, cutF, hvc2]
   · rfl
 simp -implicitDefEqProofs -dsimp only [go_sem]
 refine condT.split (fun h1 => ?_) (fun h1 => ?_)
 · simp -implicitDefEqProofs -dsimp only [go_sem, h1]
   have hi' : i < L.length := by simpa using h1
   have h5 := Fault.csl L[i]
   have hr := rows_at Fault.csl hi'
   (repeat1' (first | simp -implicitDefEqProofs -dsimp only [go_sem, hr, Fault.cs] | simp -dsimp (disch := omega) only [wrap_i64]))
   repeat (with_reducible refine sideA ?_)
   refine callS.intro (hv L[i]) ⟨.inl rfl, LeL_same (hvc2 _ _)⟩ (.inl (by simp only [List.nil_append, List.cons_append, List.all_cons, hvc, Bool.and_true]; rfl)) ?_
   simp -implicitDefEqProofs -dsimp only [go_sem]
   refine condT.split (fun h2 => ?_) (fun h2 => ?_) <;> simp -implicitDefEqProofs -dsimp only [go_sem, h2]
   · exact WeakR.drop' (by rw [idxI_found hi' hi.2 h2]) (by rfl)
   · refine ⟨i + 1, ⟨hi', by rw [List.take_succ_eq_append_getElem hi']; simp only [List.any_append, hi.2, List.any_cons, h2, List.any_nil, Bool.or_self]⟩, ?_, by omega⟩
     refine Weak.cut (0) (by simp) (by simp) ?_ ?_
     · rw [wrap_i64 (by omega) (by omega)]
       simp [LeC, LeV, ren, cutF, hvc2]
     · rfl
 · simp -implicitDefEqProofs -dsimp only [go_sem, h1]
   have hi' : i = L.length := by simp at h1; omega
   subst hi'
   have h2 := hi.2
   rw [List.take_length] at h2
   exact WeakR.drop' (by rw [idxI_none h2]) (by rfl)
end Go.Proofs
end
section
set_option maxRecDepth 100000
set_option maxHeartbeats 2000000
namespace Go.Proofs
open Go.Lv
def faultsB (L : List Fault) : Bool := listedB faultB Fault.Id 6 L && decide (L.map Fault.Name).Nodup
def flsOk (L : List Fault) : Prop := ∀ x ∈ L, strR x.Name ∧ x.Bends.length ≤ 1048576
theorem faultId_ok (f : Fault) : Ctr Try.prog 71 [f.v] [] (.int .i64 f.Id) [] := by
 refine Ctr.intro Try.mixed Try.func71 rfl Try.okF71 ?_
 simp -implicitDefEqProofs -dsimp only [go_sem, Try.ntmps71, Try.results71]
 (repeat ((repeat1' (first | simp -implicitDefEqProofs -dsimp only [go_sem, Fault.v] | simp -dsimp (disch := omega) only [wrap_i64])); repeat (with_reducible refine sideA ?_)))
 exact WeakR.drop' rfl (by rfl)
theorem faultName_ok (f : Fault) : Ctr Try.prog 73 [f.v] [] (.str f.Name) [] := by
 refine Ctr.intro Try.mixed Try.func73 rfl Try.okF73 ?_
 simp -implicitDefEqProofs -dsimp only [go_sem, Try.ntmps73, Try.results73]
 (repeat ((repeat1' (first | simp -implicitDefEqProofs -dsimp only [go_sem, Fault.v] | simp -dsimp (disch := omega) only [wrap_i64])); repeat (with_reducible refine sideA ?_)))
 exact WeakR.drop' rfl (by rfl)
theorem iAreFaults_ok (L : List Fault) (hok : flsOk L) (hl : L.length ≤ 16777216) : Ctr Try.prog 34 [Fault.sl L] [] (.bool (faultsB L)) [] := by
 have hv := fun x (hx : x ∈ L) => iIsFault_ok x (hok x hx).1 (by have := (hok x hx).2; omega)
 refine Ctr.intro Try.mixed Try.func34 rfl Try.okF34 ?_
 simp -implicitDefEqProofs -dsimp only [go_sem, Try.ntmps34, Try.results34]
 (repeat ((repeat1' (first | simp -implicitDefEqProofs -dsimp only [go_sem] | simp -dsimp (disch := omega) only [wrap_i64])); repeat (with_reducible refine sideA ?_)))
 (first | refine callT.at (areListedFault_ok L faultB Fault.Id 6 _ _ [] [] (fun d => rfl) (fun d => rfl) hv faultId_ok 6 rfl (by omega)) ⟨leA, leA, leA, leA, trivial⟩ ?_ | refine callS.at (areListedFault_ok L faultB Fault.Id 6 _ _ [] [] (fun d => rfl) (fun d => rfl) hv faultId_ok 6 rfl (by omega)) ⟨leA, leA, leA, leA, trivial⟩ ?_)
 (repeat ((repeat1' (first | simp -implicitDefEqProofs -dsimp only [go_sem] | simp -dsimp (disch := omega) only [wrap_i64])); repeat (with_reducible refine sideA ?_)))
 refine guardT.splitT (fun h1 => ?_) (fun h1 => ?_)
 · (repeat ((repeat1' (first | simp -implicitDefEqProofs -dsimp only [go_sem, h1] | simp -dsimp (disch := omega) only [wrap_i64])); repeat (with_reducible refine sideA ?_)))
   (first | refine callT.at (differFault_ok L Fault.Name _ faultName_ok (by omega)) ⟨leA, leA, trivial⟩ ?_ | refine callS.at (differFault_ok L Fault.Name _ faultName_ok (by omega)) ⟨leA, leA, trivial⟩ ?_)
   (repeat ((repeat1' (first | simp -implicitDefEqProofs -dsimp only [go_sem] | simp -dsimp (disch := omega) only [wrap_i64])); repeat (with_reducible refine sideA ?_)))
   exact WeakR.drop' (by simp [faultsB, h1]) (by rfl)
 · (repeat ((repeat1' (first | simp -implicitDefEqProofs -dsimp only [go_sem, h1] | simp -dsimp (disch := omega) only [wrap_i64])); repeat (with_reducible refine sideA ?_)))
   exact WeakR.drop' (by simp [faultsB, h1]) (by rfl)
theorem fls_get {L : List Fault} (hok : flsOk L) {i : Nat} (hi : i < L.length) : strR L[i].Name ∧ L[i].Bends.length ≤ 281474976710656 := by
 have := hok L[i] (List.getElem_mem hi)
 exact ⟨this.1, by omega⟩
theorem fls_dup {L : List Fault} {i k : Nat} (hi : i < L.length) (hk : k < i) (e : L[k].Name = L[i].Name) : ¬ (L.map Fault.Name).Nodup := by
 intro hn
 have := nodup_get hn (i := k) (j := i) (by simp; omega) (by simp; omega) (by simpa using e)
 omega
theorem l18Good_ok (L : List Fault) (hok : flsOk L) (hl : L.length ≤ 16777216) : Ctr Try.prog 30 [Fault.sl L] [] (.bool (faultsB L)) [] := by
 refine Ctr.intro Try.mixed Try.func30 rfl Try.okF30 ?_
 simp -implicitDefEqProofs -dsimp only [go_sem, Try.ntmps30, Try.results30]
 refine LoopT.intro (fun i : Nat => i ≤ L.length ∧ i ≤ 7 ∧ (List.range i).all (listedQ faultB Fault.Id L) = true ∧ ((L.take i).map Fault.Name).Nodup) (fun i => ⟨[Fault.sl L, .undef, .undef, .int .i64 i, .undef, .undef, .undef, .undef, .undef, .undef, .undef, .undef, .undef, .undef, .undef, .undef, .undef, .undef, .undef, .undef, .undef, .undef, .undef, .undef, .undef, .undef, .undef, .undef, .undef, .undef, .undef, .undef, .undef, .undef, .undef, .undef, .undef, .undef, .undef, .undef, .undef, .undef, .undef, .undef, .undef, .undef, .undef, .undef, .undef, .undef, .undef, .undef, .undef, .undef, .undef, .undef, .undef, .undef], [], 0⟩) (fun i => L.length - i) 0 ⟨Nat.zero_le _, by omega, rfl, by simp⟩ ?_ (fun i hi => ?_)
 · refine Weak.cut (0) (by simp) (by simp) ?_ ?_
   · simp [LeC, LeV, ren, cutF]
   · rfl
 obtain ⟨hi0, hi7, hiq, hin⟩ := hi
 simp -implicitDefEqProofs -dsimp only [go_sem]
 refine guardT.splitT (fun h1 => ?_) (fun h1 => ?_) <;> simp -implicitDefEqProofs -dsimp only [go_sem, h1]
 · have hi' : i < L.length := by simpa using h1
   refine condT.split (fun h2 => ?_) (fun h2 => ?_) <;> simp -implicitDefEqProofs -dsimp only [go_sem, h2]
   · have hi6 : i ≤ 6 := by simp at h2; omega
     have h5 := Fault.csl L[i]
     have hr := rows_at Fault.csl hi'
     obtain ⟨o1, o2⟩ := fls_get hok hi'
     (repeat ((repeat1' (first | simp -implicitDefEqProofs -dsimp only [go_sem, hr, Fault.cs] | simp -dsimp (disch := omega) only [wrap_i64])); repeat (with_reducible refine sideA ?_)))
     (first | refine callT.at (l18One_ok L[i] o1 o2) ⟨.inl rfl, trivial⟩ ?_ | refine callS.at (l18One_ok L[i] o1 o2) ⟨.inl rfl, trivial⟩ ?_)
     (repeat ((repeat1' (first | simp -implicitDefEqProofs -dsimp only [go_sem] | simp -dsimp (disch := omega) only [wrap_i64])); repeat (with_reducible refine sideA ?_)))
     refine guardT.splitF (fun g1 => ?_) (fun g1 => ?_) <;> (repeat ((repeat1' (first | simp -implicitDefEqProofs -dsimp only [go_sem, g1] | simp -dsimp (disch := omega) only [wrap_i64])); repeat (with_reducible refine sideA ?_)))
     · have hw : faultB L[i] = true := by simpa using g1
       refine guardT.splitT (fun g2 => ?_) (fun g2 => ?_) <;> (repeat ((repeat1' (first | simp -implicitDefEqProofs -dsimp only [go_sem, g2] | simp -dsimp (disch := omega) only [wrap_i64])); repeat (with_reducible refine sideA ?_)))
       · have hj : i - 1 < L.length := by omega
         have hi1 : 0 < i := by simp at g2; omega
         have hw1 : (i : Int) - 1 = ((i - 1 : Nat) : Int) := by omega
         have hr2 := rows_at Fault.csl hj
         have hls := listedQ_succ (p := faultB) (k := Fault.Id) (L := L) (j := i - 1) (by omega)
         simp only [show i - 1 + 1 = i by omega] at hls
         (repeat ((repeat1' (first | simp -implicitDefEqProofs -dsimp only [go_sem, hw1, hr, hr2, Fault.cs] | simp -dsimp (disch := omega) only [wrap_i64])); repeat (with_reducible refine sideA ?_)))
         refine condT.split (fun g3 => ?_) (fun g3 => ?_) <;> (repeat ((repeat1' (first | simp -implicitDefEqProofs -dsimp only [go_sem, g3] | simp -dsimp (disch := omega) only [wrap_i64])); repeat (with_reducible refine sideA ?_)))
         · refine WeakR.drop' ?_ (by rfl)
           have hq : listedQ faultB Fault.Id L i = false := by
             rw [hls, hw]; simp at g3 ⊢; omega
           rw [faultsB, listedB_false hi' hq]
           rfl
         · have hq : listedQ faultB Fault.Id L i = true := by
             rw [hls, hw]; simp at g3 ⊢; omega
           refine LoopT.intro (fun k : Nat => k ≤ i ∧ L[i].Name ∉ (L.take k).map Fault.Name) (fun k => ⟨[Fault.sl L, .undef, .undef, .int .i64 i, .int .i64 k, .undef, .undef, .undef, .undef, .undef, .undef, .undef, .undef, .undef, .undef, .undef, .undef, .undef, .undef, .undef, .undef, .undef, .undef, .undef, .undef, .undef, .undef, .undef, .undef, .undef, .undef, .undef, .undef, .undef, .undef, .undef, .undef, .undef, .undef, .undef, .undef, .undef, .undef, .undef, .undef, .undef, .undef, .undef, .undef, .undef, .undef, .undef, .undef, .undef, .undef, .undef, .undef, .undef], [], 0⟩) (fun k => i - k) 0 ⟨Nat.zero_le _, by simp⟩ ?_ (fun k hk => ?_)
           · refine Weak.cut (0) (by simp) (by simp) ?_ ?_
             · simp [LeC, LeV, ren, cutF]
             · rfl
           obtain ⟨hk0, hkn⟩ := hk
           simp -implicitDefEqProofs -dsimp only [go_sem]
           refine condT.split (fun g4 => ?_) (fun g4 => ?_) <;> simp -implicitDefEqProofs -dsimp only [go_sem, g4]
           · have hki : k < i := by simpa using g4
             have hkL : k < L.length := by omega
             have hr3 := rows_at Fault.csl hkL
             have e1 : (L.take (k + 1)).map Fault.Name = (L.take k).map Fault.Name ++ [L[k].Name] := by rw [List.take_succ_eq_append_getElem hkL, List.map_append]; rfl
             (repeat ((repeat1' (first | simp -implicitDefEqProofs -dsimp only [go_sem, hr, hr3, Fault.cs] | simp -dsimp (disch := omega) only [wrap_i64])); repeat (with_reducible refine sideA ?_)))
             refine condT.split (fun g5 => ?_) (fun g5 => ?_) <;> (repeat ((repeat1' (first | simp -implicitDefEqProofs -dsimp only [go_sem, g5] | simp -dsimp (disch := omega) only [wrap_i64])); repeat (with_reducible refine sideA ?_)))
             · refine WeakR.drop' ?_ (by rfl)
               have := fls_dup hi' hki (str_inj.1 (by simpa using g5))
               rw [faultsB, decide_eq_false this, Bool.and_false]
             · refine ⟨k + 1, ⟨by omega, ?_⟩, ?_, by omega⟩
               · rw [e1]
                 simp at g5 ⊢
                 refine ⟨by simpa using hkn, fun e => g5 (str_inj.2 e.symm)⟩
               · refine Weak.cut (0) (by simp) (by simp) ?_ ?_
                 · simp [LeC, LeV, ren, cutF]
                   try omega
                 · rfl
           · have hki : k = i := by simp at g4; omega
             subst hki
             have e1 : (L.take (k + 1)).map Fault.Name = (L.take k).map Fault.Name ++ [L[k].Name] := by rw [List.take_succ_eq_append_getElem hi', List.map_append]; rfl
             (repeat ((repeat1' (first | simp -implicitDefEqProofs -dsimp only [go_sem] | simp -dsimp (disch := omega) only [wrap_i64])); repeat (with_reducible refine sideA ?_)))
             refine ⟨k + 1, ⟨by omega, by omega, range_all_succ hiq hq, ?_⟩, ?_, by omega⟩
             · rw [e1, List.nodup_append]
               exact ⟨hin, by simp, fun a ha b hb => by simp at hb; subst hb; rintro rfl; exact hkn ha⟩
             · refine Weak.cut (0) (by simp) (by simp) ?_ ?_
               · simp [LeC, LeV, ren, cutF]
                 try omega
               · rfl
       · have h0 : i = 0 := by simp at g2; omega
         have hq : listedQ faultB Fault.Id L i = true := by subst h0; rw [listedQ_zero hi', hw]
         refine LoopT.intro (fun k : Nat => k ≤ i ∧ L[i].Name ∉ (L.take k).map Fault.Name) (fun k => ⟨[Fault.sl L, .undef, .undef, .int .i64 i, .int .i64 k, .undef, .undef, .undef, .undef, .undef, .undef, .undef, .undef, .undef, .undef, .undef, .undef, .undef, .undef, .undef, .undef, .undef, .undef, .undef, .undef, .undef, .undef, .undef, .undef, .undef, .undef, .undef, .undef, .undef, .undef, .undef, .undef, .undef, .undef, .undef, .undef, .undef, .undef, .undef, .undef, .undef, .undef, .undef, .undef, .undef, .undef, .undef, .undef, .undef, .undef, .undef, .undef, .undef], [], 0⟩) (fun k => i - k) 0 ⟨Nat.zero_le _, by simp⟩ ?_ (fun k hk => ?_)
         · refine Weak.cut (0) (by simp) (by simp) ?_ ?_
           · simp [LeC, LeV, ren, cutF]
           · rfl
         obtain ⟨hk0, hkn⟩ := hk
         simp -implicitDefEqProofs -dsimp only [go_sem]
         refine condT.split (fun g4 => ?_) (fun g4 => ?_) <;> simp -implicitDefEqProofs -dsimp only [go_sem, g4]
         · have hki : k < i := by simpa using g4
           have hkL : k < L.length := by omega
           have hr3 := rows_at Fault.csl hkL
           have e1 : (L.take (k + 1)).map Fault.Name = (L.take k).map Fault.Name ++ [L[k].Name] := by rw [List.take_succ_eq_append_getElem hkL, List.map_append]; rfl
           (repeat ((repeat1' (first | simp -implicitDefEqProofs -dsimp only [go_sem, hr, hr3, Fault.cs] | simp -dsimp (disch := omega) only [wrap_i64])); repeat (with_reducible refine sideA ?_)))
           refine condT.split (fun g5 => ?_) (fun g5 => ?_) <;> (repeat ((repeat1' (first | simp -implicitDefEqProofs -dsimp only [go_sem, g5] | simp -dsimp (disch := omega) only [wrap_i64])); repeat (with_reducible refine sideA ?_)))
           · refine WeakR.drop' ?_ (by rfl)
             have := fls_dup hi' hki (str_inj.1 (by simpa using g5))
             rw [faultsB, decide_eq_false this, Bool.and_false]
           · refine ⟨k + 1, ⟨by omega, ?_⟩, ?_, by omega⟩
             · rw [e1]
               simp at g5 ⊢
               refine ⟨by simpa using hkn, fun e => g5 (str_inj.2 e.symm)⟩
             · refine Weak.cut (0) (by simp) (by simp) ?_ ?_
               · simp [LeC, LeV, ren, cutF]
                 try omega
               · rfl
         · have hki : k = i := by simp at g4; omega
           subst hki
           have e1 : (L.take (k + 1)).map Fault.Name = (L.take k).map Fault.Name ++ [L[k].Name] := by rw [List.take_succ_eq_append_getElem hi', List.map_append]; rfl
           (repeat ((repeat1' (first | simp -implicitDefEqProofs -dsimp only [go_sem] | simp -dsimp (disch := omega) only [wrap_i64])); repeat (with_reducible refine sideA ?_)))
           refine ⟨k + 1, ⟨by omega, by omega, range_all_succ hiq hq, ?_⟩, ?_, by omega⟩
           · rw [e1, List.nodup_append]
             exact ⟨hin, by simp, fun a ha b hb => by simp at hb; subst hb; rintro rfl; exact hkn ha⟩
           · refine Weak.cut (0) (by simp) (by simp) ?_ ?_
             · simp [LeC, LeV, ren, cutF]
               try omega
             · rfl
     · have hw : faultB L[i] = false := by simpa using g1
       refine WeakR.drop' ?_ (by rfl)
       have hq : listedQ faultB Fault.Id L i = false := by simp [listedQ, hi', hw]
       rw [faultsB, listedB_false hi' hq]
       rfl
   · have hi6 : i = 7 := by simp at h2; omega
     refine WeakR.drop' ?_ (by rfl)
     rw [decide_eq_false (show ¬ ((L.length : Int) ≤ 6) by omega), faultsB, listedB, decide_eq_false (show ¬ (L.length ≤ 6) by omega)]
     simp
 · have hi' : i = L.length := by simp at h1; omega
   subst hi'
   refine WeakR.drop' ?_ (by rfl)
   rw [List.take_length] at hin
   rw [faultsB, decide_eq_true hin, listedB, hiq]
   simp
   omega
end Go.Proofs
end
section
set_option maxRecDepth 100000
namespace Go.Proofs
open Go.Lv
structure Arrival where
 Id : Int
 X : Int
 Y : Int
 Tick : Int
 Error : Int
def Arrival.cs (r : Arrival) : List V := [.int .i64 r.Id, .int .i64 r.X, .int .i64 r.Y, .int .i64 r.Tick, .int .i64 r.Error]
def Arrival.v (r : Arrival) : V := .agg [.int .i64 r.Id, .int .i64 r.X, .int .i64 r.Y, .int .i64 r.Tick, .int .i64 r.Error]
theorem Arrival.csl (a : Arrival) : a.cs.length = 5 := rfl
instance : FlatP Arrival.cs 5 := ⟨fun _ => rfl, fun _ d => by cases d <;> rfl, fun _ => rfl, fun _ => rfl⟩
def Arrival.ok (r : Arrival) : Prop := i64R r.Id ∧ i64R r.X ∧ i64R r.Y ∧ i64R r.Tick ∧ i64R r.Error
abbrev Arrival.rows (L : List Arrival) : List V := Go.Lv.rows Arrival.cs L
abbrev Arrival.sl (L : List Arrival) : V := .sl L.length 5 (Go.Lv.rows Arrival.cs L)
abbrev Arrival.zs : List V := [.int .i64 0, .int .i64 0, .int .i64 0, .int .i64 0, .int .i64 0]
def Arrival.mk1 (k : Int) : Arrival := ⟨k, k + 1, k + 1 + 1, k + 1 + 1 + 1, k + 1 + 1 + 1 + 1⟩
def Arrival.marks (k : Int) (n : Nat) : List Arrival := (List.range n).map fun i : Nat => Arrival.mk1 (k + 5 * (i : Int))
@[simp] theorem Arrival.marks_len (k : Int) (n : Nat) : (Arrival.marks k n).length = n := by simp [Arrival.marks]
end Go.Proofs
end
section
set_option maxRecDepth 100000
namespace Go.Proofs
open Go.Lv
structure Origin where
 X : Int
 Y : Int
 Tick : Int
def Origin.cs (r : Origin) : List V := [.int .i64 r.X, .int .i64 r.Y, .int .i64 r.Tick]
def Origin.v (r : Origin) : V := .agg [.int .i64 r.X, .int .i64 r.Y, .int .i64 r.Tick]
theorem Origin.csl (a : Origin) : a.cs.length = 3 := rfl
instance : FlatP Origin.cs 3 := ⟨fun _ => rfl, fun _ d => by cases d <;> rfl, fun _ => rfl, fun _ => rfl⟩
def Origin.ok (r : Origin) : Prop := i64R r.X ∧ i64R r.Y ∧ i64R r.Tick
abbrev Origin.rows (L : List Origin) : List V := Go.Lv.rows Origin.cs L
abbrev Origin.sl (L : List Origin) : V := .sl L.length 3 (Go.Lv.rows Origin.cs L)
abbrev Origin.zs : List V := [.int .i64 0, .int .i64 0, .int .i64 0]
def Origin.mk1 (k : Int) : Origin := ⟨k, k + 1, k + 1 + 1⟩
def Origin.marks (k : Int) (n : Nat) : List Origin := (List.range n).map fun i : Nat => Origin.mk1 (k + 3 * (i : Int))
@[simp] theorem Origin.marks_len (k : Int) (n : Nat) : (Origin.marks k n).length = n := by simp [Origin.marks]
end Go.Proofs
end
section
namespace Go.Proofs
open Go.Lv
def isq : Nat → Nat
 | 0 => 0
 | n + 1 => if (isq n + 1) * (isq n + 1) ≤ n + 1 then isq n + 1 else isq n
theorem isq_spec : ∀ n, isq n * isq n ≤ n ∧ n < (isq n + 1) * (isq n + 1)
 | 0 => by simp [isq]
 | n + 1 => by
   have ih := isq_spec n
   unfold isq
   split
   · rename_i h
     refine ⟨h, ?_⟩
     have e : (isq n + 1 + 1) * (isq n + 1 + 1) = (isq n + 1) * (isq n + 1) + 2 * (isq n + 1) + 1 := by
       simp only [Nat.add_mul, Nat.mul_add]; omega
     omega
   · rename_i h
     omega
theorem isq_le {n m : Nat} : m ≤ isq n ↔ m * m ≤ n := by
 have h := isq_spec n
 constructor
 · intro g; exact Nat.le_trans (Nat.mul_self_le_mul_self g) h.1
 · intro g
   by_cases c : m ≤ isq n
   · exact c
   · have := Nat.mul_self_le_mul_self (show isq n + 1 ≤ m by omega)
     omega
end Go.Proofs
end
section
namespace Go.Proofs
open Go.Lv
def sqB (a b : Bend) : Int := (a.X - b.X) * (a.X - b.X) + (a.Y - b.Y) * (a.Y - b.Y)
def leg (a b : Bend) : Int := (isq (sqB a b).toNat : Int)
def lenB : List Bend → Int
 | a :: b :: l => leg a b + lenB (b :: l)
 | _ => 0
theorem lenB_two (a b : Bend) (l : List Bend) : lenB (a :: b :: l) = leg a b + lenB (b :: l) := rfl
theorem lenB_one (a : Bend) : lenB [a] = 0 := rfl
theorem lenB_app : ∀ (xs : List Bend) (y : Bend) (ys : List Bend), lenB (xs ++ y :: ys) = lenB (xs ++ [y]) + lenB (y :: ys)
 | [], y, ys => by rw [List.nil_append, List.nil_append, lenB_one]; omega
 | [x], y, ys => by
   show lenB (x :: y :: ys) = lenB (x :: y :: []) + _
   rw [lenB_two, lenB_two, lenB_one]; omega
 | x :: x' :: xs, y, ys => by
   have := lenB_app (x' :: xs) y ys
   simp only [List.cons_append] at this ⊢
   rw [lenB_two, lenB_two, this]; omega
theorem sqB_comm (a b : Bend) : sqB a b = sqB b a := by
 have h : ∀ x y : Int, (x - y) * (x - y) = (y - x) * (y - x) := fun x y => by rw [show x - y = -(y - x) by omega, Int.neg_mul_neg]
 rw [sqB, sqB, h a.X, h a.Y]
theorem leg_comm (a b : Bend) : leg a b = leg b a := by rw [leg, leg, sqB_comm]
theorem lenB_rev : ∀ L : List Bend, lenB L.reverse = lenB L
 | [] => rfl
 | [a] => rfl
 | a :: b :: l => by
   have := lenB_rev (b :: l)
   rw [List.reverse_cons, List.reverse_cons, List.append_assoc]
   rw [List.reverse_cons] at this
   show lenB (l.reverse ++ b :: [a]) = _
   rw [lenB_app, this, lenB_two, lenB_two, lenB_one, leg_comm b a]; omega
theorem lenB_step {L : List Bend} {i : Nat} (h : i + 1 < L.length) : lenB (L.take (i + 2)) = lenB (L.take (i + 1)) + leg L[i] L[i + 1] := by
 rw [List.take_succ_eq_append_getElem h, List.take_succ_eq_append_getElem (show i < L.length by omega), List.append_assoc]
 show lenB (L.take i ++ L[i] :: [L[i + 1]]) = _
 rw [lenB_app, lenB_two, lenB_one]; omega
theorem sqB_r {a b : Bend} (ha : bendB a = true) (hb : bendB b = true) : 0 ≤ sqB a b ∧ sqB a b ≤ 1996002 := by
 rw [bendB, placeB_iff] at ha hb
 have h1 := mul_self_nonneg' (a.X - b.X)
 have h2 := mul_self_nonneg' (a.Y - b.Y)
 have h3 := sq_le (x := a.X - b.X) (b := 999) (by omega)
 have h4 := sq_le (x := a.Y - b.Y) (b := 999) (by omega)
 rw [sqB]; omega
theorem leg_r {a b : Bend} (ha : bendB a = true) (hb : bendB b = true) : 0 ≤ leg a b ∧ leg a b ≤ 1500 := by
 have := sqB_r ha hb
 refine ⟨by rw [leg]; omega, ?_⟩
 by_cases c : 1501 ≤ isq (sqB a b).toNat
 · have := isq_le.1 c; omega
 · rw [leg]; omega
theorem lenB_r : ∀ {L : List Bend}, L.all bendB = true → 0 ≤ lenB L ∧ lenB L ≤ 1500 * L.length
 | [], _ => ⟨by decide, by decide⟩
 | [a], _ => ⟨by rw [lenB_one]; omega, by rw [lenB_one]; simp⟩
 | a :: b :: l, h => by
   simp only [List.all_cons, Bool.and_eq_true] at h
   have h1 := leg_r h.1 h.2.1
   have h2 := lenB_r (L := b :: l) (by simp [h.2])
   rw [lenB_two]
   simp only [List.length_cons] at h2 ⊢
   omega
theorem faultB_all {f : Fault} (h : faultB f = true) : f.Bends.all bendB = true := by
 simp only [faultB, Bool.and_eq_true] at h
 exact h.2.2.2.2.1
theorem all_take {p : Bend → Bool} {L : List Bend} (h : L.all p = true) (n : Nat) : (L.take n).all p = true := by
 rw [List.all_eq_true] at h ⊢
 exact fun x hx => h x (List.mem_of_mem_take hx)
theorem all_at {p : Bend → Bool} {L : List Bend} (h : L.all p = true) {i : Nat} (hi : i < L.length) : p L[i] = true := List.all_eq_true.1 h _ (List.getElem_mem hi)
def fLen (f : Fault) : Int := if faultB f = true then lenB f.Bends else 0
def crossI (a b p : Bend) : Int := (b.X - a.X) * (p.Y - a.Y) - (b.Y - a.Y) * (p.X - a.X)
def sgnI (n : Int) : Int := min 1 (max (-1) n)
def sideB (a b p : Bend) : Bool := segB a b && bendB p
def sideV (a b p : Bend) : Int := if sideB a b p = true then sgnI (crossI a b p) else 0
theorem crossI_swap (a b p : Bend) : crossI b a p = -(crossI a b p) := by
 have h1 := Int.mul_comm a.X b.Y
 have h2 := Int.mul_comm b.X a.Y
 have h3 := Int.mul_comm a.X a.Y
 have h4 := Int.mul_comm b.X b.Y
 simp only [crossI, Int.sub_mul, Int.mul_sub]
 omega
theorem segB_comm (a b : Bend) : segB a b = segB b a := by
 have := bendEq_comm a b
 rw [segB, segB, this, Bool.and_comm (bendB a)]
theorem sideV_swap (a b p : Bend) : sideV b a p = -(sideV a b p) := by
 rw [sideV, sideV, sideB, sideB, segB_comm b a, crossI_swap]
 split
 · simp only [sgnI]; omega
 · rfl
theorem mul_r {x y m n : Int} (hx : -m ≤ x ∧ x ≤ m) (hy : -n ≤ y ∧ y ≤ n) (hm : 0 ≤ m) : -(m * n) ≤ x * y ∧ x * y ≤ m * n := by
 have hn : 0 ≤ n := by omega
 have key : x.natAbs * y.natAbs ≤ m.toNat * n.toNat := Nat.mul_le_mul (by omega) (by omega)
 have e1 : (x * y).natAbs = x.natAbs * y.natAbs := Int.natAbs_mul x y
 have e2 : ((m.toNat * n.toNat : Nat) : Int) = m * n := by rw [Int.natCast_mul, Int.toNat_of_nonneg hm, Int.toNat_of_nonneg hn]
 omega
def yearsB (f : Fault) (m : Int) : Bool := (faultB f && inB' m 0 100) && (decide (f.Slip ≠ 0) || decide (m = 0))
def yearsV (f : Fault) (m : Int) : Int := if yearsB f m = true then (if m = 0 then 0 else (10000 * m + f.Slip - 1) / f.Slip) else 0
theorem faultB_slip {f : Fault} (h : faultB f = true) : 0 ≤ f.Slip ∧ f.Slip ≤ 1000 := by
 simp only [faultB, Bool.and_eq_true, inB'_iff] at h
 exact h.2.2.2.2.2
theorem years_ge {f : Fault} {m : Int} (h : yearsB f m = true) : 10000 * m ≤ yearsV f m * f.Slip ∧ yearsV f m * f.Slip ≤ 10000000 ∧ 0 ≤ yearsV f m ∧ yearsV f m ≤ 1001000 := by
 have hb := h
 simp only [yearsB, Bool.and_eq_true, Bool.or_eq_true, decide_eq_true_eq, inB'_iff] at hb
 have hs := faultB_slip hb.1.1
 rw [yearsV, if_pos h]
 split
 · rename_i e; subst e; omega
 · have h0 : 0 < f.Slip := by omega
   have h1 := Int.emod_add_mul_ediv (10000 * m + f.Slip - 1) f.Slip
   have h2 := Int.emod_lt_of_pos (10000 * m + f.Slip - 1) h0
   have h3 := Int.emod_nonneg (10000 * m + f.Slip - 1) (show f.Slip ≠ 0 by omega)
   have h4 := Int.mul_comm f.Slip ((10000 * m + f.Slip - 1) / f.Slip)
   have h5 : 0 ≤ (10000 * m + f.Slip - 1) / f.Slip := Int.ediv_nonneg (by omega) (by omega)
   have h6 : (10000 * m + f.Slip - 1) / f.Slip ≤ 10000 * m + f.Slip - 1 := Int.ediv_le_self _ (by omega)
   refine ⟨by omega, by omega, h5, by omega⟩
end Go.Proofs
end
section
set_option maxRecDepth 100000
set_option maxHeartbeats 1000000
namespace Go.Proofs
open Go.Lv
theorem root_ok (n : Int) (h0 : 0 ≤ n) (h1 : n ≤ 1000000000) : Ctr Try.prog 49 [.int .i64 n] [] (.tup [.int .i64 (isq n.toNat), .bool (decide ((isq n.toNat : Int) * (isq n.toNat : Int) = n))]) [] := by
 have hs := isq_spec n.toNat
 generalize isq n.toNat = r at *
 have e1 : ((r * r : Nat) : Int) = (r : Int) * (r : Int) := Int.natCast_mul r r
 have hr : r ≤ 40000 := by
   by_cases c : r ≤ 40000
   · exact c
   · have := Nat.mul_self_le_mul_self (show 40001 ≤ r by omega)
     omega
 have lo : ∀ m : Int, 0 ≤ m → (m * m ≤ n ↔ m ≤ r) := by
   intro m hm
   obtain ⟨k, rfl⟩ := Int.eq_ofNat_of_zero_le hm
   have e2 : ((k * k : Nat) : Int) = (k : Int) * (k : Int) := Int.natCast_mul k k
   constructor
   · intro g
     by_cases c : k ≤ r
     · omega
     · have := Nat.mul_self_le_mul_self (show r + 1 ≤ k by omega)
       omega
   · intro g
     have := Nat.mul_self_le_mul_self (show k ≤ r by omega)
     omega
 refine Ctr.intro Try.mixed Try.func49 rfl Try.okF49 ?_
 simp -implicitDefEqProofs -dsimp only [go_sem, Nat.reduceSub, Nat.reduceAdd, Nat.reduceMul, Nat.reduceLT, Nat.reduceLeDiff, Nat.reduceEqDiff, Nat.reduceDiv, Nat.reduceMod, Int.reduceToNat, Int.reduceLE, Int.reduceLT, Int.reduceBEq, Int.reduceBNe, Int.reduceNeg, Int.reduceAdd, Int.reduceSub, Int.reduceMul, reduceCtorEq, Try.ntmps49, Try.results49]
 rw [wrap_i64 (by omega) (by omega)]
 refine LoopT.intro (fun s : Int × Int => 0 ≤ s.1 ∧ s.1 ≤ r ∧ (r : Int) < s.2 ∧ s.2 ≤ n + 1) (fun s => ⟨[.int .i64 n, .undef, .undef, .undef, .int .i64 s.1, .int .i64 s.2, .undef, .undef, .undef, .undef, .undef, .undef, .undef, .undef, .undef, .undef, .undef, .undef, .undef, .undef, .undef, .undef, .undef, .undef, .undef, .undef, .undef, .undef, .undef, .undef], [], 0⟩) (fun s => (s.2 - s.1).toNat) (0, n + 1) ⟨by omega, by omega, ?_, by omega⟩ ?_ (fun s hi => ?_)
 · show (r : Int) < n + 1
   by_cases c : r = 0
   · omega
   · have := Nat.mul_le_mul_left r (show 1 ≤ r by omega)
     omega
 · refine Weak.cut (0) (by simp) (by simp) ?_ ?_
   · simp [LeC, LeV, ren, cutF]
   · rfl
 obtain ⟨low, high⟩ := s
 simp only at hi ⊢
 (repeat1' (first | simp -implicitDefEqProofs -dsimp only [go_sem, Nat.reduceSub, Nat.reduceAdd, Nat.reduceMul, Nat.reduceLT, Nat.reduceLeDiff, Nat.reduceEqDiff, Nat.reduceDiv, Nat.reduceMod, Int.reduceToNat, Int.reduceLE, Int.reduceLT, Int.reduceBEq, Int.reduceBNe, Int.reduceNeg, Int.reduceAdd, Int.reduceSub, Int.reduceMul, reduceCtorEq] | simp -dsimp (disch := omega) only [wrap_i64]))
 refine condT.split (fun g1 => ?_) (fun g1 => ?_)
 · have g1' := of_decide_eq_true g1
   have ht : (low + high).tdiv 2 = (low + high) / 2 := Int.tdiv_eq_ediv_of_nonneg (by omega)
   have hm1 : 0 < (low + high) / 2 := by omega
   obtain ⟨m, hm⟩ : ∃ m, m = (low + high) / 2 := ⟨_, rfl⟩
   have hb : low < m ∧ m < high := by omega
   have hmw : IntKind.i64.wrap ((IntKind.i64.wrap (low + high)).tdiv 2) = m := by rw [wrap_i64 (n := low + high) (by omega) (by omega), ht, wrap_i64 (by omega) (by omega), hm]
   (repeat1' (first | simp -implicitDefEqProofs -dsimp only [go_sem, Nat.reduceSub, Nat.reduceAdd, Nat.reduceMul, Nat.reduceLT, Nat.reduceLeDiff, Nat.reduceEqDiff, Nat.reduceDiv, Nat.reduceMod, Int.reduceToNat, Int.reduceLE, Int.reduceLT, Int.reduceBEq, Int.reduceBNe, Int.reduceNeg, Int.reduceAdd, Int.reduceSub, Int.reduceMul, reduceCtorEq, g1, ht, ← hm] | simp -dsimp (disch := omega) only [wrap_i64]))
   repeat (with_reducible refine sideA ?_)
   have hd : n.tdiv m = n / m := Int.tdiv_eq_ediv_of_nonneg h0
   have hd0 : 0 ≤ n / m := Int.ediv_nonneg h0 (by omega)
   have hd1 : n / m ≤ n := Int.ediv_le_self _ h0
   have hq : m ≤ n / m ↔ m * m ≤ n := Int.le_ediv_iff_mul_le (by omega)
   rw [hd, wrap_i64 (by omega) (by omega)]
   refine condT.split (fun g2 => ?_) (fun g2 => ?_) <;> simp -implicitDefEqProofs -dsimp only [go_sem, Nat.reduceSub, Nat.reduceAdd, Nat.reduceMul, Nat.reduceLT, Nat.reduceLeDiff, Nat.reduceEqDiff, Nat.reduceDiv, Nat.reduceMod, Int.reduceToNat, Int.reduceLE, Int.reduceLT, Int.reduceBEq, Int.reduceBNe, Int.reduceNeg, Int.reduceAdd, Int.reduceSub, Int.reduceMul, reduceCtorEq, g2]
   · have g2' := (lo m (by omega)).1 (hq.1 (of_decide_eq_true g2))
     refine ⟨(m, high), ⟨by omega, g2', hi.2.2.1, hi.2.2.2⟩, ?_, by simp only; omega⟩
     refine Weak.cut (0) (by simp) (by simp) ?_ ?_
     · simp [LeC, LeV, ren, cutF, hmw]
     · rfl
   · have g2' : ¬ m ≤ r := fun k => (of_decide_eq_false g2) (hq.2 ((lo m (by omega)).2 k))
     refine ⟨(low, m), ⟨hi.1, hi.2.1, by simp only; omega, by simp only; omega⟩, ?_, by simp only; omega⟩
     refine Weak.cut (0) (by simp) (by simp) ?_ ?_
     · simp [LeC, LeV, ren, cutF, hmw]
     · rfl
 · have g1' := of_decide_eq_false g1
   have : low = r := by omega
   subst this
   have hm0 := mul_self_nonneg' (r : Int)
   have hm1 := sq_le (x := (r : Int)) (b := 40000) (by omega)
   (repeat1' (first | simp -implicitDefEqProofs -dsimp only [go_sem, Nat.reduceSub, Nat.reduceAdd, Nat.reduceMul, Nat.reduceLT, Nat.reduceLeDiff, Nat.reduceEqDiff, Nat.reduceDiv, Nat.reduceMod, Int.reduceToNat, Int.reduceLE, Int.reduceLT, Int.reduceBEq, Int.reduceBNe, Int.reduceNeg, Int.reduceAdd, Int.reduceSub, Int.reduceMul, reduceCtorEq, g1] | simp -dsimp (disch := omega) only [wrap_i64]))
   exact WeakR.drop' rfl (by rfl)
end Go.Proofs
end
section
set_option maxRecDepth 100000
set_option maxHeartbeats 2000000
namespace Go.Proofs
open Go.Lv
theorem l18Root_ok (n : Int) (h0 : 0 ≤ n) (h1 : n ≤ 1000000000) : Ctr Try.prog 51 [.int .i64 n] [] (.int .i64 (isq n.toNat)) [] := by
 have hs := isq_spec n.toNat
 have hle := fun m => isq_le (n := n.toNat) (m := m)
 generalize isq n.toNat = r at *
 have hr : r ≤ 40000 := by
   by_cases c : r ≤ 40000
   · exact c
   · have := Nat.mul_self_le_mul_self (show 40001 ≤ r by omega)
     omega
 refine Ctr.intro Try.mixed Try.func51 rfl Try.okF51 ?_
 simp -implicitDefEqProofs -dsimp only [go_sem, Try.ntmps51, Try.results51]
 refine LoopT.intro (fun k : Nat => k ≤ r) (fun k => ⟨[.int .i64 n, .undef, .undef, .int .i64 k, .undef, .undef, .undef, .undef, .undef, .undef, .undef, .undef, .undef, .undef], [], 0⟩) (fun k => r - k) 0 (Nat.zero_le _) ?_ (fun k hk => ?_)
 · refine Weak.cut (0) (by simp) (by simp) ?_ ?_
   · simp [LeC, LeV, ren, cutF]
   · rfl
 have e1 : (((k + 1) * (k + 1) : Nat) : Int) = ((k : Int) + 1) * ((k : Int) + 1) := by rw [Int.natCast_mul]; rfl
 have e2 := Nat.mul_self_le_mul_self (show k + 1 ≤ 40001 by omega)
 (repeat1' (first | simp -implicitDefEqProofs -dsimp only [go_sem] | simp -dsimp (disch := omega) only [wrap_i64]))
 refine condT.split (fun g => ?_) (fun g => ?_) <;> (repeat1' (first | simp -implicitDefEqProofs -dsimp only [go_sem, g] | simp -dsimp (disch := omega) only [wrap_i64]))
 · have hk1 : k + 1 ≤ r := (hle (k + 1)).2 (by have := of_decide_eq_true g; omega)
   refine ⟨k + 1, hk1, ?_, by omega⟩
   refine Weak.cut (0) (by simp) (by simp) ?_ ?_
   · simp [LeC, LeV, ren, cutF]
   · rfl
 · have hk1 : ¬ (k + 1 ≤ r) := fun hc => by
     have := (hle (k + 1)).1 hc
     have := of_decide_eq_false g
     omega
   have : k = r := by omega
   subst this
   exact WeakR.drop' rfl (by rfl)
theorem l18Square_ok (a b : Bend) (ha : bendB a = true) (hb : bendB b = true) : Ctr Try.prog 52 [a.v, b.v] [] (.int .i64 (sqB a b)) [] := by
 have hr := sqB_r ha hb
 rw [bendB, placeB_iff] at ha hb
 have k1 := mul_self_nonneg' (a.X - b.X)
 have k2 := mul_self_nonneg' (a.Y - b.Y)
 have k3 := sq_le (x := a.X - b.X) (b := 999) (by omega)
 have k4 := sq_le (x := a.Y - b.Y) (b := 999) (by omega)
 refine Ctr.intro Try.mixed Try.func52 rfl Try.okF52 ?_
 simp -implicitDefEqProofs -dsimp only [go_sem, Try.ntmps52, Try.results52]
 (repeat1' (first | simp -implicitDefEqProofs -dsimp only [go_sem, Bend.v] | simp -dsimp (disch := omega) only [wrap_i64]))
 exact WeakR.drop' rfl (by rfl)
def fLenV (f : Fault) : V := .tup [.int .i64 (fLen f), .bool (faultB f)]
theorem iFaultLength_ok (f : Fault) (hn : strR f.Name) (hl : f.Bends.length ≤ 1048576) : Ctr Try.prog 18 [f.v] [] (fLenV f) [] := by
 refine Ctr.intro Try.mixed Try.func18 rfl Try.okF18 ?_
 simp -implicitDefEqProofs -dsimp only [go_sem, Try.ntmps18, Try.results18]
 (repeat ((repeat1' (first | simp -implicitDefEqProofs -dsimp only [go_sem, Fault.v] | simp -dsimp (disch := omega) only [wrap_i64])); repeat (with_reducible refine sideA ?_)))
 (first | refine callT.at (iIsFault_ok f hn (by omega)) ⟨leA, trivial⟩ ?_ | refine callS.at (iIsFault_ok f hn (by omega)) ⟨leA, trivial⟩ ?_)
 (repeat ((repeat1' (first | simp -implicitDefEqProofs -dsimp only [go_sem] | simp -dsimp (disch := omega) only [wrap_i64])); repeat (with_reducible refine sideA ?_)))
 refine condT.split (fun g => ?_) (fun g => ?_) <;> (repeat ((repeat1' (first | simp -implicitDefEqProofs -dsimp only [go_sem, g] | simp -dsimp (disch := omega) only [wrap_i64])); repeat (with_reducible refine sideA ?_)))
 · have hb : faultB f = false := by simpa using g
   exact WeakR.drop' (by simp [fLenV, fLen, hb]) (by rfl)
 have hb : faultB f = true := by simpa using g
 have hall := faultB_all hb
 have hlen := faultB_ok hb
 refine LoopT.intro (fun i : Nat => 1 ≤ i ∧ i ≤ f.Bends.length) (fun i => ⟨[.undef, .ptr 0 0, .undef, .undef, .int .i64 (lenB (f.Bends.take i)), .int .i64 i, .undef, .undef, .undef, .undef, .undef, .undef, .undef, .undef, .undef, .undef, .undef, .undef, .undef, .undef, .undef, .undef, .undef, .undef, .undef, .undef, .undef, .undef, .undef, .undef, .undef, .undef, .undef, .undef, .undef, .undef, .undef, .undef, .undef, .undef, .undef, .undef, .undef, .undef, .undef, .undef, .undef, .undef, .undef, .undef], [some f.cs], 0⟩) (fun i => f.Bends.length - i) 1 ⟨by omega, by omega⟩ ?_ (fun i hi => ?_)
 · refine Weak.cut (1) (by simp) (by simp) ?_ ?_
   · have e0 : lenB (f.Bends.take 1) = 0 := by
       match hB : f.Bends, hlen with
       | a :: l, _ => rfl
     simp [LeC, LeV, ren, cutF, e0]
   · simp [cutH, cutB, ren, Fault.cs, map_ren_rows]
 obtain ⟨hi1, hi2⟩ := hi
 (repeat ((repeat1' (first | simp -implicitDefEqProofs -dsimp only [go_sem, Fault.cs] | simp -dsimp (disch := omega) only [wrap_i64])); repeat (with_reducible refine sideA ?_)))
 refine condT.split (fun h1 => ?_) (fun h1 => ?_)
 · obtain ⟨j, rfl⟩ : ∃ j, i = j + 1 := ⟨i - 1, by omega⟩
   have hj' : j + 1 < f.Bends.length := by have := of_decide_eq_true h1; omega
   have hj : j < f.Bends.length := by omega
   have hw1 : ((j + 1 : Nat) : Int) - 1 = (j : Int) := by omega
   have hr := rows_at Bend.csl hj'
   have hr2 := rows_at Bend.csl hj
   have ba := all_at hall hj
   have bb := all_at hall hj'
   have hsq := sqB_r ba bb
   have hst := lenB_step hj'
   have hlr := lenB_r (all_take hall (j + 1))
   have hlg := leg_r ba bb
   have hpa := placeB_iff.1 (by rw [← bendB]; exact ba)
   have hpb := placeB_iff.1 (by rw [← bendB]; exact bb)
   have htl : (f.Bends.take (j + 1)).length ≤ 8 := by simp; omega
   have hw2 : IntKind.i64.wrap (lenB (f.Bends.take (j + 1)) + (isq (sqB f.Bends[j] f.Bends[j + 1]).toNat : Int)) = lenB (f.Bends.take (j + 2)) := by
     rw [leg] at hlg hst
     rw [wrap_i64 (by omega) (by omega), hst]
   (repeat ((repeat1' (first | simp -implicitDefEqProofs -dsimp only [go_sem, h1, hw1, hr, hr2, Bend.cs] | simp -dsimp (disch := omega) only [wrap_i64])); repeat (with_reducible refine sideA ?_)))
   refine lateT.path [true, true, true, true, true, true, true, true, true, true, true, true, true, false, false] [false, false, false, false, false, false, true, true, true, true, true, false, false, false, false] 1 [1] (by kernel_rfl) ?_
   (repeat ((repeat1' (first | simp -implicitDefEqProofs -dsimp only [go_sem, h1, hw1, hr, hr2, Bend.cs] | simp -dsimp (disch := omega) only [wrap_i64])); repeat (with_reducible refine sideA ?_)))
   (first | refine callT.at (square_ok (f.Bends[j].X - f.Bends[j + 1].X) (f.Bends[j].Y - f.Bends[j + 1].Y) (by omega) (by omega)) ⟨leA, leA, trivial⟩ ?_ | refine callS.at (square_ok (f.Bends[j].X - f.Bends[j + 1].X) (f.Bends[j].Y - f.Bends[j + 1].Y) (by omega) (by omega)) ⟨leA, leA, trivial⟩ ?_)
   (repeat ((repeat1' (first | simp -implicitDefEqProofs -dsimp only [go_sem] | simp -dsimp (disch := omega) only [wrap_i64])); repeat (with_reducible refine sideA ?_)))
   (first | refine callT.at (root_ok (sqB f.Bends[j] f.Bends[j + 1]) (by omega) (by omega)) ⟨leA, trivial⟩ ?_ | refine callS.at (root_ok (sqB f.Bends[j] f.Bends[j + 1]) (by omega) (by omega)) ⟨leA, trivial⟩ ?_)
   (repeat ((repeat1' (first | simp -implicitDefEqProofs -dsimp only [go_sem] | simp -dsimp (disch := omega) only [wrap_i64])); repeat (with_reducible refine sideA ?_)))
   refine ⟨j + 1 + 1, ⟨by omega, by omega⟩, ?_, by omega⟩
   refine Weak.cut (1) (by simp) (by simp) ?_ ?_
   · simp [LeC, LeV, ren, cutF, hw2]
   · simp [cutH, cutB, ren, Fault.cs, map_ren_rows]
 · have hi' : i = f.Bends.length := by have := of_decide_eq_false h1; omega
   subst hi'
   (repeat ((repeat1' (first | simp -implicitDefEqProofs -dsimp only [go_sem, h1] | simp -dsimp (disch := omega) only [wrap_i64])); repeat (with_reducible refine sideA ?_)))
   rw [List.take_length]
   exact WeakR.drop' (by simp [fLenV, fLen, hb]) (by rfl)
theorem sFaultLength_ok (f : Fault) (hn : strR f.Name) (hl : f.Bends.length ≤ 1048576) : Ctr Try.prog 19 [f.v] [] (fLenV f) [] := by
 refine Ctr.intro Try.mixed Try.func19 rfl Try.okF19 ?_
 simp -implicitDefEqProofs -dsimp only [go_sem, Try.ntmps19, Try.results19]
 (repeat ((repeat1' (first | simp -implicitDefEqProofs -dsimp only [go_sem, Fault.v] | simp -dsimp (disch := omega) only [wrap_i64])); repeat (with_reducible refine sideA ?_)))
 (first | refine callT.at (l18One_ok f hn (by omega)) ⟨leA, trivial⟩ ?_ | refine callS.at (l18One_ok f hn (by omega)) ⟨leA, trivial⟩ ?_)
 (repeat ((repeat1' (first | simp -implicitDefEqProofs -dsimp only [go_sem] | simp -dsimp (disch := omega) only [wrap_i64])); repeat (with_reducible refine sideA ?_)))
 refine condT.split (fun g => ?_) (fun g => ?_) <;> (repeat ((repeat1' (first | simp -implicitDefEqProofs -dsimp only [go_sem, g] | simp -dsimp (disch := omega) only [wrap_i64])); repeat (with_reducible refine sideA ?_)))
 · have hb : faultB f = false := by simpa using g
   exact WeakR.drop' (by simp [fLenV, fLen, hb]) (by rfl)
 have hb : faultB f = true := by simpa using g
 have hall := faultB_all hb
 have hlen := faultB_ok hb
 refine LoopT.intro (fun i : Nat => 1 ≤ i ∧ i ≤ f.Bends.length) (fun i => ⟨[.undef, .ptr 0 0, .undef, .undef, .int .i64 (lenB (f.Bends.take i)), .int .i64 i, .undef, .undef, .undef, .undef, .undef, .undef, .undef, .undef, .undef, .undef, .undef, .undef, .undef, .undef, .undef, .undef, .undef, .undef, .undef, .undef, .undef, .undef, .undef, .undef, .undef, .undef], [some f.cs], 0⟩) (fun i => f.Bends.length - i) 1 ⟨by omega, by omega⟩ ?_ (fun i hi => ?_)
 · refine Weak.cut (1) (by simp) (by simp) ?_ ?_
   · have e0 : lenB (f.Bends.take 1) = 0 := by
       match hB : f.Bends, hlen with
       | a :: l, _ => rfl
     simp [LeC, LeV, ren, cutF, e0]
   · simp [cutH, cutB, ren, Fault.cs, map_ren_rows]
 obtain ⟨hi1, hi2⟩ := hi
 (repeat ((repeat1' (first | simp -implicitDefEqProofs -dsimp only [go_sem, Fault.cs] | simp -dsimp (disch := omega) only [wrap_i64])); repeat (with_reducible refine sideA ?_)))
 refine condT.split (fun h1 => ?_) (fun h1 => ?_)
 · obtain ⟨j, rfl⟩ : ∃ j, i = j + 1 := ⟨i - 1, by omega⟩
   have hj' : j + 1 < f.Bends.length := by have := of_decide_eq_true h1; omega
   have hj : j < f.Bends.length := by omega
   have hw1 : ((j + 1 : Nat) : Int) - 1 = (j : Int) := by omega
   have hr := rows_at Bend.csl hj'
   have hr2 := rows_at Bend.csl hj
   have ba := all_at hall hj
   have bb := all_at hall hj'
   have hsq := sqB_r ba bb
   have hst := lenB_step hj'
   have hlr := lenB_r (all_take hall (j + 1))
   have hlg := leg_r ba bb
   have hpa := placeB_iff.1 (by rw [← bendB]; exact ba)
   have hpb := placeB_iff.1 (by rw [← bendB]; exact bb)
   have htl : (f.Bends.take (j + 1)).length ≤ 8 := by simp; omega
   have hw2 : IntKind.i64.wrap (lenB (f.Bends.take (j + 1)) + (isq (sqB f.Bends[j] f.Bends[j + 1]).toNat : Int)) = lenB (f.Bends.take (j + 2)) := by
     rw [leg] at hlg hst
     rw [wrap_i64 (by omega) (by omega), hst]
   (repeat ((repeat1' (first | simp -implicitDefEqProofs -dsimp only [go_sem, h1, hw1, hr, hr2, Bend.cs] | simp -dsimp (disch := omega) only [wrap_i64])); repeat (with_reducible refine sideA ?_)))
   (first | refine callT.at (l18Square_ok f.Bends[j] f.Bends[j + 1] ba bb) ⟨leA, leA, trivial⟩ ?_ | refine callS.at (l18Square_ok f.Bends[j] f.Bends[j + 1] ba bb) ⟨leA, leA, trivial⟩ ?_)
   (repeat ((repeat1' (first | simp -implicitDefEqProofs -dsimp only [go_sem] | simp -dsimp (disch := omega) only [wrap_i64])); repeat (with_reducible refine sideA ?_)))
   (first | refine callT.at (l18Root_ok (sqB f.Bends[j] f.Bends[j + 1]) (by omega) (by omega)) ⟨leA, trivial⟩ ?_ | refine callS.at (l18Root_ok (sqB f.Bends[j] f.Bends[j + 1]) (by omega) (by omega)) ⟨leA, trivial⟩ ?_)
   (repeat ((repeat1' (first | simp -implicitDefEqProofs -dsimp only [go_sem] | simp -dsimp (disch := omega) only [wrap_i64])); repeat (with_reducible refine sideA ?_)))
   refine ⟨j + 1 + 1, ⟨by omega, by omega⟩, ?_, by omega⟩
   refine Weak.cut (1) (by simp) (by simp) ?_ ?_
   · simp [LeC, LeV, ren, cutF, hw2]
   · simp [cutH, cutB, ren, Fault.cs, map_ren_rows]
 · have hi' : i = f.Bends.length := by have := of_decide_eq_false h1; omega
   subst hi'
   (repeat ((repeat1' (first | simp -implicitDefEqProofs -dsimp only [go_sem, h1] | simp -dsimp (disch := omega) only [wrap_i64])); repeat (with_reducible refine sideA ?_)))
   rw [List.take_length]
   exact WeakR.drop' (by simp [fLenV, fLen, hb]) (by rfl)
def sideR (a b p : Bend) : V := .tup [.int .i64 (sideV a b p), .bool (sideB a b p)]
theorem crossI_r {a b p : Bend} (ha : bendB a = true) (hb : bendB b = true) (hp : bendB p = true) : (-999000 ≤ (b.X - a.X) * (p.Y - a.Y) ∧ (b.X - a.X) * (p.Y - a.Y) ≤ 999000) ∧ -999000 ≤ (b.Y - a.Y) * (p.X - a.X) ∧ (b.Y - a.Y) * (p.X - a.X) ≤ 999000 := by
 rw [bendB, placeB_iff] at ha hb hp
 have h1 := mul_r (x := b.X - a.X) (y := p.Y - a.Y) (m := 999) (n := 999) (by omega) (by omega) (by omega)
 have h2 := mul_r (x := b.Y - a.Y) (y := p.X - a.X) (m := 999) (n := 999) (by omega) (by omega) (by omega)
 omega
theorem segB_bend {a b : Bend} (h : segB a b = true) : bendB a = true ∧ bendB b = true := by
 simp only [segB, Bool.and_eq_true] at h
 exact ⟨h.1.1, h.1.2⟩
theorem areSegment_ok (a b : Bend) : Ctr Try.prog 54 [a.v, b.v] [] (.bool (segB a b)) [] := by
 refine Ctr.intro Try.mixed Try.func54 rfl Try.okF54 ?_
 simp -implicitDefEqProofs -dsimp only [go_sem, Try.ntmps54, Try.results54]
 simp -implicitDefEqProofs -dsimp only [go_sem, Bend.v]
 repeat' (first | (refine WeakR.drop' ?_ (by rfl); first | rfl | (simp [segB, bendEq, *]; done)) | ((first | refine callT.at (isBend_ok a) ⟨leA, trivial⟩ ?_ | refine callS.at (isBend_ok a) ⟨leA, trivial⟩ ?_); simp -implicitDefEqProofs -dsimp only [go_sem, *]) | ((first | refine callT.at (isBend_ok b) ⟨leA, trivial⟩ ?_ | refine callS.at (isBend_ok b) ⟨leA, trivial⟩ ?_); simp -implicitDefEqProofs -dsimp only [go_sem, *]) | (refine guardT.splitT (fun _ => ?_) (fun _ => ?_) <;> simp -implicitDefEqProofs -dsimp only [go_sem, *]) | (refine guardT.splitF (fun _ => ?_) (fun _ => ?_) <;> simp -implicitDefEqProofs -dsimp only [go_sem, *]) | (refine condT.split (fun _ => ?_) (fun _ => ?_) <;> simp -implicitDefEqProofs -dsimp only [go_sem, *]))
theorem sign_ok (n : Int) : Ctr Try.prog 81 [.int .i64 n] [] (.int .i64 (sgnI n)) [] := by
 refine Ctr.intro Try.mixed Try.func81 rfl Try.okF81 ?_
 simp -implicitDefEqProofs -dsimp only [go_sem, Try.ntmps81, Try.results81]
 repeat' (first | (refine WeakR.drop' ?_ (by rfl); simp only [sgnI]; simp at *; congr 1; omega; done) | (refine condT.split (fun _ => ?_) (fun _ => ?_) <;> (repeat ((repeat1' (first | simp -implicitDefEqProofs -dsimp only [go_sem, *] | simp -dsimp (disch := omega) only [wrap_i64])); repeat (with_reducible refine sideA ?_)))))
theorem sideOf_ok (a b p : Bend) (ha : bendB a = true) (hb : bendB b = true) (hp : bendB p = true) : Ctr Try.prog 55 [a.v, b.v, p.v] [] (.int .i64 (sgnI (crossI a b p))) [] := by
 obtain ⟨k1, k2⟩ := crossI_r ha hb hp
 rw [bendB, placeB_iff] at ha hb hp
 refine Ctr.intro Try.mixed Try.func55 rfl Try.okF55 ?_
 simp -implicitDefEqProofs -dsimp only [go_sem, Try.ntmps55, Try.results55]
 (repeat ((repeat1' (first | simp -implicitDefEqProofs -dsimp only [go_sem, Bend.v] | simp -dsimp (disch := omega) only [wrap_i64])); repeat (with_reducible refine sideA ?_)))
 (first | refine callT.at (sign_ok (crossI a b p)) ⟨leA, trivial⟩ ?_ | refine callS.at (sign_ok (crossI a b p)) ⟨leA, trivial⟩ ?_)
 (repeat ((repeat1' (first | simp -implicitDefEqProofs -dsimp only [go_sem] | simp -dsimp (disch := omega) only [wrap_i64])); repeat (with_reducible refine sideA ?_)))
 exact WeakR.drop' rfl (by rfl)
theorem iSideOf_ok (a b p : Bend) : Ctr Try.prog 21 [a.v, b.v, p.v] [] (sideR a b p) [] := by
 refine Ctr.intro Try.mixed Try.func21 rfl Try.okF21 ?_
 simp -implicitDefEqProofs -dsimp only [go_sem, Try.ntmps21, Try.results21]
 (repeat ((repeat1' (first | simp -implicitDefEqProofs -dsimp only [go_sem, Bend.v] | simp -dsimp (disch := omega) only [wrap_i64])); repeat (with_reducible refine sideA ?_)))
 (first | refine callT.at (areSegment_ok a b) ⟨leA, leA, trivial⟩ ?_ | refine callS.at (areSegment_ok a b) ⟨leA, leA, trivial⟩ ?_)
 (repeat ((repeat1' (first | simp -implicitDefEqProofs -dsimp only [go_sem] | simp -dsimp (disch := omega) only [wrap_i64])); repeat (with_reducible refine sideA ?_)))
 refine guardT.splitF (fun g1 => ?_) (fun g1 => ?_) <;> (repeat ((repeat1' (first | simp -implicitDefEqProofs -dsimp only [go_sem, g1] | simp -dsimp (disch := omega) only [wrap_i64])); repeat (with_reducible refine sideA ?_)))
 · have h1 : segB a b = true := by simpa using g1
   (first | refine callT.at (isBend_ok p) ⟨leA, trivial⟩ ?_ | refine callS.at (isBend_ok p) ⟨leA, trivial⟩ ?_)
   (repeat ((repeat1' (first | simp -implicitDefEqProofs -dsimp only [go_sem] | simp -dsimp (disch := omega) only [wrap_i64])); repeat (with_reducible refine sideA ?_)))
   refine condT.split (fun g2 => ?_) (fun g2 => ?_) <;> (repeat ((repeat1' (first | simp -implicitDefEqProofs -dsimp only [go_sem, g2] | simp -dsimp (disch := omega) only [wrap_i64])); repeat (with_reducible refine sideA ?_)))
   · have h2 : bendB p = false := by simpa using g2
     exact WeakR.drop' (by simp [sideR, sideV, sideB, h2]) (by rfl)
   · have h2 : bendB p = true := by simpa using g2
     (first | refine callT.at (sideOf_ok a b p (segB_bend h1).1 (segB_bend h1).2 h2) ⟨leA, leA, leA, trivial⟩ ?_ | refine callS.at (sideOf_ok a b p (segB_bend h1).1 (segB_bend h1).2 h2) ⟨leA, leA, leA, trivial⟩ ?_)
     (repeat ((repeat1' (first | simp -implicitDefEqProofs -dsimp only [go_sem] | simp -dsimp (disch := omega) only [wrap_i64])); repeat (with_reducible refine sideA ?_)))
     exact WeakR.drop' (by simp [sideR, sideV, sideB, h1, h2]) (by rfl)
 · have h1 : segB a b = false := by simpa using g1
   exact WeakR.drop' (by simp [sideR, sideV, sideB, h1]) (by rfl)
theorem l18Side_ok (a b p : Bend) (ha : bendB a = true) (hb : bendB b = true) (hp : bendB p = true) : Ctr Try.prog 58 [a.v, b.v, p.v] [] (.int .i64 (sgnI (crossI a b p))) [] := by
 obtain ⟨k1, k2⟩ := crossI_r ha hb hp
 rw [bendB, placeB_iff] at ha hb hp
 refine Ctr.intro Try.mixed Try.func58 rfl Try.okF58 ?_
 simp -implicitDefEqProofs -dsimp only [go_sem, Try.ntmps58, Try.results58]
 (repeat ((repeat1' (first | simp -implicitDefEqProofs -dsimp only [go_sem, Bend.v] | simp -dsimp (disch := omega) only [wrap_i64])); repeat (with_reducible refine sideA ?_)))
 (first | refine callT.at (l1Most_ok (-1) (crossI a b p)) ⟨leA, leA, trivial⟩ ?_ | refine callS.at (l1Most_ok (-1) (crossI a b p)) ⟨leA, leA, trivial⟩ ?_)
 (repeat ((repeat1' (first | simp -implicitDefEqProofs -dsimp only [go_sem] | simp -dsimp (disch := omega) only [wrap_i64])); repeat (with_reducible refine sideA ?_)))
 (first | refine callT.at (l1Least_ok 1 _) ⟨leA, leA, trivial⟩ ?_ | refine callS.at (l1Least_ok 1 _) ⟨leA, leA, trivial⟩ ?_)
 (repeat ((repeat1' (first | simp -implicitDefEqProofs -dsimp only [go_sem] | simp -dsimp (disch := omega) only [wrap_i64])); repeat (with_reducible refine sideA ?_)))
 exact WeakR.drop' rfl (by rfl)
theorem sSideOf_ok (a b p : Bend) : Ctr Try.prog 22 [a.v, b.v, p.v] [] (sideR a b p) [] := by
 refine Ctr.intro Try.mixed Try.func22 rfl Try.okF22 ?_
 simp -implicitDefEqProofs -dsimp only [go_sem, Try.ntmps22, Try.results22]
 (repeat ((repeat1' (first | simp -implicitDefEqProofs -dsimp only [go_sem, Bend.v] | simp -dsimp (disch := omega) only [wrap_i64])); repeat (with_reducible refine sideA ?_)))
 (first | refine callT.at (l18Segment_ok a b) ⟨leA, leA, trivial⟩ ?_ | refine callS.at (l18Segment_ok a b) ⟨leA, leA, trivial⟩ ?_)
 (repeat ((repeat1' (first | simp -implicitDefEqProofs -dsimp only [go_sem] | simp -dsimp (disch := omega) only [wrap_i64])); repeat (with_reducible refine sideA ?_)))
 refine guardT.splitF (fun g1 => ?_) (fun g1 => ?_) <;> (repeat ((repeat1' (first | simp -implicitDefEqProofs -dsimp only [go_sem, g1] | simp -dsimp (disch := omega) only [wrap_i64])); repeat (with_reducible refine sideA ?_)))
 · have h1 : segB a b = true := by simpa using g1
   (first | refine callT.at (l18Bend_ok p) ⟨leA, trivial⟩ ?_ | refine callS.at (l18Bend_ok p) ⟨leA, trivial⟩ ?_)
   (repeat ((repeat1' (first | simp -implicitDefEqProofs -dsimp only [go_sem] | simp -dsimp (disch := omega) only [wrap_i64])); repeat (with_reducible refine sideA ?_)))
   refine condT.split (fun g2 => ?_) (fun g2 => ?_) <;> (repeat ((repeat1' (first | simp -implicitDefEqProofs -dsimp only [go_sem, g2] | simp -dsimp (disch := omega) only [wrap_i64])); repeat (with_reducible refine sideA ?_)))
   · have h2 : bendB p = false := by simpa using g2
     exact WeakR.drop' (by simp [sideR, sideV, sideB, h2]) (by rfl)
   · have h2 : bendB p = true := by simpa using g2
     (first | refine callT.at (l18Side_ok a b p (segB_bend h1).1 (segB_bend h1).2 h2) ⟨leA, leA, leA, trivial⟩ ?_ | refine callS.at (l18Side_ok a b p (segB_bend h1).1 (segB_bend h1).2 h2) ⟨leA, leA, leA, trivial⟩ ?_)
     (repeat ((repeat1' (first | simp -implicitDefEqProofs -dsimp only [go_sem] | simp -dsimp (disch := omega) only [wrap_i64])); repeat (with_reducible refine sideA ?_)))
     exact WeakR.drop' (by simp [sideR, sideV, sideB, h1, h2]) (by rfl)
 · have h1 : segB a b = false := by simpa using g1
   exact WeakR.drop' (by simp [sideR, sideV, sideB, h1]) (by rfl)
end Go.Proofs
end
section
set_option maxRecDepth 100000
namespace Go.Proofs
open Go.Lv
theorem Ctr.raw {P : Program} {f : FuncId} {args : List V} {hin : Hp} {r : V} {hout : Hp} (hok : okF P f = true)
   (h : ∀ (w : World) (vs : Array Value) (m : Nat → Nat) (av : Nat → Prop), Inv w m hin av ⟨args, hin, hin.length⟩ { tmps := vs, defers := [] } w m → vs.size = args.length →
     Calls P f vs w fun e w' => ∃ v m' s a, e = .returned v ∧ s.h = hout ∧ Inv w m hin av s a w' m' ∧ RV w' m' hout (avm av m' hout) true v r) : Ctr P f args hin r hout := by
 refine ⟨hok, fun w vs m av hH hav hgl hs ha => ?_⟩
 have hav' : ∀ b, avm av m hin b → av b := fun b hb => by
   rcases hb with hb | ⟨id, cs, h1, rfl⟩
   · exact hb
   · exact hH.avd id cs h1
 have hstep : ∀ {o : Bool} {v : Value} {x : V}, RV w m hin av o v x → RV w m hin (avm av m hin) o v x :=
   fun {o v x} hx => RV.step (w := w) (w' := w) (m := m) (m' := m) (h := hin) (h' := hin) (av := av) (av' := avm av m hin) (fun b off v hb hc => ⟨fun h => hb (hav' b h), hc⟩) (fun id c hid => ⟨c, hid, Nat.le_refl _, rfl, Nat.le_refl _, rfl⟩) hx
 have I : Inv w m hin av ⟨args, hin, hin.length⟩ { tmps := vs, defers := [] } w m := by
   refine ⟨⟨hH.inj, fun id cs h => .inr ⟨id, cs, h, rfl⟩, fun id cs h => ?_⟩, hs, fun i hi => hstep (ha i hi), rfl, Ext.refl _ _, fun id cs h => .inl ⟨id_lt h, cs, h, Nat.le_refl _, .inl rfl⟩, hav, fun b ⟨id, cs, h1, h2⟩ => h2 ▸ hH.avd id cs h1, hgl, rfl, Nat.le_refl _⟩
   exact (hH.blk id cs h).step rfl (fun v x => hstep)
 refine (h w vs m av I hs).mono ?_
 rintro e w' ⟨v, m', s, a, rfl, rfl, I', hv⟩
 exact ⟨v, m', rfl, I'.ext, I'.rh, hv, I'.ids⟩
end Go.Proofs
end
