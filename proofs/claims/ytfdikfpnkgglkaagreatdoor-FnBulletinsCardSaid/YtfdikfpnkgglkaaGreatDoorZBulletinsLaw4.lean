/-
  A part of the proof: texts put together by a program of the prover. Conditions: none.
-/
import Derived.Test.YtfdikfpnkgglkaaGreatDoorZBulletinsLaw2
import Derived.Test.YtfdikfpnkgglkaaGreatDoorZBulletinsLaw3
import Derived.Test.YtfdikfpnkgglkaaGreatDoorProg
import Derived.KernelRfl
import Derived.Lib.ItoaNum
import Derived.Lib.ItoaLen
set_option linter.unusedSimpArgs false
set_option linter.unusedVariables false
section
namespace Go.Proofs
open Go.Lv

theorem Tryz.mixed : Tryz.prog.follows .mixedOrders = true := by kernel_rfl
@[go_sem] theorem Tryz.tsz1 : tszOf Tryz.prog 1 = some (1, false) := by kernel_rfl
@[go_sem] theorem Tryz.udef1 : (Tryz.prog.underlying 1).isSome = true := by kernel_rfl
@[go_sem] theorem Tryz.zero1 : zeroOf Tryz.prog 1 = some [.lit ((Go.Value.nilFunc))] := by kernel_rfl
@[go_sem] theorem Tryz.tsz2 : tszOf Tryz.prog 2 = some (1, false) := by kernel_rfl
@[go_sem] theorem Tryz.udef2 : (Tryz.prog.underlying 2).isSome = true := by kernel_rfl
@[go_sem] theorem Tryz.zero2 : zeroOf Tryz.prog 2 = some [.int .i64 0] := by kernel_rfl
@[go_sem] theorem Tryz.isInt2 : isIntT Tryz.prog 2 = some .i64 := by kernel_rfl
@[go_sem] theorem Tryz.tsz3 : tszOf Tryz.prog 3 = some (1, false) := by kernel_rfl
@[go_sem] theorem Tryz.udef3 : (Tryz.prog.underlying 3).isSome = true := by kernel_rfl
@[go_sem] theorem Tryz.zero3 : zeroOf Tryz.prog 3 = some [.int .i64 0] := by kernel_rfl
@[go_sem] theorem Tryz.isInt3 : isIntT Tryz.prog 3 = some .i64 := by kernel_rfl
@[go_sem] theorem Tryz.tsz4 : tszOf Tryz.prog 4 = some (1, false) := by kernel_rfl
@[go_sem] theorem Tryz.udef4 : (Tryz.prog.underlying 4).isSome = true := by kernel_rfl
@[go_sem] theorem Tryz.zero4 : zeroOf Tryz.prog 4 = some [.bool false] := by kernel_rfl
@[go_sem] theorem Tryz.isBool4 : isBoolT Tryz.prog 4 = true := by kernel_rfl
@[go_sem] theorem Tryz.tsz5 : tszOf Tryz.prog 5 = some (1, false) := by kernel_rfl
theorem Tryz.cz5 : Tryz.prog.cellsOf 5 = 1 := by kernel_rfl
@[go_sem] theorem Tryz.udef5 : (Tryz.prog.underlying 5).isSome = true := by kernel_rfl
@[go_sem] theorem Tryz.zero5 : zeroOf Tryz.prog 5 = some [.int .u8 0] := by kernel_rfl
@[go_sem] theorem Tryz.isInt5 : isIntT Tryz.prog 5 = some .u8 := by kernel_rfl
@[go_sem] theorem Tryz.tsz6 : tszOf Tryz.prog 6 = some (1, false) := by kernel_rfl
@[go_sem] theorem Tryz.udef6 : (Tryz.prog.underlying 6).isSome = true := by kernel_rfl
@[go_sem] theorem Tryz.zero6 : zeroOf Tryz.prog 6 = some [.int .u8 0] := by kernel_rfl
@[go_sem] theorem Tryz.isInt6 : isIntT Tryz.prog 6 = some .u8 := by kernel_rfl
@[go_sem] theorem Tryz.tsz7 : tszOf Tryz.prog 7 = some (4, true) := by kernel_rfl
@[go_sem] theorem Tryz.udef7 : (Tryz.prog.underlying 7).isSome = true := by kernel_rfl
@[go_sem] theorem Tryz.zero7 : zeroOf Tryz.prog 7 = some [.int .i64 0, .int .i64 0, .bool false, .int .u8 0] := by kernel_rfl
@[go_sem] theorem Tryz.pl7 : plOf Tryz.prog 7 = some [(0, 1), (1, 1), (2, 1), (3, 1)] := by kernel_rfl
@[go_sem] theorem Tryz.tsz8 : tszOf Tryz.prog 8 = some (4, true) := by kernel_rfl
@[go_sem] theorem Tryz.udef8 : (Tryz.prog.underlying 8).isSome = true := by kernel_rfl
@[go_sem] theorem Tryz.zero8 : zeroOf Tryz.prog 8 = some [.int .i64 0, .int .i64 0, .bool false, .int .u8 0] := by kernel_rfl
@[go_sem] theorem Tryz.pl8 : plOf Tryz.prog 8 = some [(0, 1), (1, 1), (2, 1), (3, 1)] := by kernel_rfl
@[go_sem] theorem Tryz.tsz9 : tszOf Tryz.prog 9 = some (1, false) := by kernel_rfl
@[go_sem] theorem Tryz.udef9 : (Tryz.prog.underlying 9).isSome = true := by kernel_rfl
@[go_sem] theorem Tryz.zero9 : zeroOf Tryz.prog 9 = some [.str ByteArray.empty] := by kernel_rfl
@[go_sem] theorem Tryz.isU8S9 : isU8S Tryz.prog 9 = false := by kernel_rfl
@[go_sem] theorem Tryz.isIntN9 : isIntT Tryz.prog 9 = none := by kernel_rfl
@[go_sem] theorem Tryz.isStr9 : isStr Tryz.prog 9 = true := by kernel_rfl
@[go_sem] theorem Tryz.tsz10 : tszOf Tryz.prog 10 = some (1, false) := by kernel_rfl
@[go_sem] theorem Tryz.udef10 : (Tryz.prog.underlying 10).isSome = true := by kernel_rfl
@[go_sem] theorem Tryz.zero10 : zeroOf Tryz.prog 10 = some [.str ByteArray.empty] := by kernel_rfl
@[go_sem] theorem Tryz.isU8S10 : isU8S Tryz.prog 10 = false := by kernel_rfl
@[go_sem] theorem Tryz.isIntN10 : isIntT Tryz.prog 10 = none := by kernel_rfl
@[go_sem] theorem Tryz.isStr10 : isStr Tryz.prog 10 = true := by kernel_rfl
@[go_sem] theorem Tryz.tsz11 : tszOf Tryz.prog 11 = some (1, false) := by kernel_rfl
@[go_sem] theorem Tryz.udef11 : (Tryz.prog.underlying 11).isSome = true := by kernel_rfl
@[go_sem] theorem Tryz.zero11 : zeroOf Tryz.prog 11 = some [.str ByteArray.empty] := by kernel_rfl
@[go_sem] theorem Tryz.isU8S11 : isU8S Tryz.prog 11 = false := by kernel_rfl
@[go_sem] theorem Tryz.isIntN11 : isIntT Tryz.prog 11 = none := by kernel_rfl
@[go_sem] theorem Tryz.isStr11 : isStr Tryz.prog 11 = true := by kernel_rfl
@[go_sem] theorem Tryz.tsz12 : tszOf Tryz.prog 12 = some (1, false) := by kernel_rfl
@[go_sem] theorem Tryz.udef12 : (Tryz.prog.underlying 12).isSome = true := by kernel_rfl
@[go_sem] theorem Tryz.zero12 : zeroOf Tryz.prog 12 = some [.int .u64 0] := by kernel_rfl
@[go_sem] theorem Tryz.isInt12 : isIntT Tryz.prog 12 = some .u64 := by kernel_rfl
@[go_sem] theorem Tryz.tsz16 : tszOf Tryz.prog 16 = some (1, false) := by kernel_rfl
@[go_sem] theorem Tryz.udef16 : (Tryz.prog.underlying 16).isSome = true := by kernel_rfl
@[go_sem] theorem Tryz.zero16 : zeroOf Tryz.prog 16 = some [.lit ((Go.Value.pointer none))] := by kernel_rfl
@[go_sem] theorem Tryz.tsz17 : tszOf Tryz.prog 17 = some (1, false) := by kernel_rfl
@[go_sem] theorem Tryz.udef17 : (Tryz.prog.underlying 17).isSome = true := by kernel_rfl
@[go_sem] theorem Tryz.zero17 : zeroOf Tryz.prog 17 = some [.lit ((Go.Value.pointer none))] := by kernel_rfl
@[go_sem] theorem Tryz.tsz20 : tszOf Tryz.prog 20 = some (1, false) := by kernel_rfl
@[go_sem] theorem Tryz.udef20 : (Tryz.prog.underlying 20).isSome = true := by kernel_rfl
@[go_sem] theorem Tryz.zero20 : zeroOf Tryz.prog 20 = some [.lit ((Go.Value.nilIface))] := by kernel_rfl
@[go_sem] theorem Tryz.isIf20 : isIfT Tryz.prog 20 = true := by kernel_rfl
@[go_sem] theorem Tryz.tsz21 : tszOf Tryz.prog 21 = some (1, false) := by kernel_rfl
@[go_sem] theorem Tryz.udef21 : (Tryz.prog.underlying 21).isSome = true := by kernel_rfl
@[go_sem] theorem Tryz.zero21 : zeroOf Tryz.prog 21 = some [.int .i32 0] := by kernel_rfl
@[go_sem] theorem Tryz.isInt21 : isIntT Tryz.prog 21 = some .i32 := by kernel_rfl
@[go_sem] theorem Tryz.tsz22 : tszOf Tryz.prog 22 = some (1, false) := by kernel_rfl
@[go_sem] theorem Tryz.udef22 : (Tryz.prog.underlying 22).isSome = true := by kernel_rfl
@[go_sem] theorem Tryz.zero22 : zeroOf Tryz.prog 22 = some [.nilsl] := by kernel_rfl
@[go_sem] theorem Tryz.el22 : elOf Tryz.prog 22 = some (5, 1, 1) := by kernel_rfl
@[go_sem] theorem Tryz.isSl22 : isSl Tryz.prog 22 = true := by kernel_rfl
@[go_sem] theorem Tryz.isU8S22 : isU8S Tryz.prog 22 = true := by kernel_rfl
@[go_sem] theorem Tryz.tsz23 : tszOf Tryz.prog 23 = some (1, false) := by kernel_rfl
@[go_sem] theorem Tryz.udef23 : (Tryz.prog.underlying 23).isSome = true := by kernel_rfl
@[go_sem] theorem Tryz.zero23 : zeroOf Tryz.prog 23 = some [.lit ((Go.Value.nilFunc))] := by kernel_rfl
@[go_sem] theorem Tryz.tsz24 : tszOf Tryz.prog 24 = some (7, true) := by kernel_rfl
@[go_sem] theorem Tryz.udef24 : (Tryz.prog.underlying 24).isSome = true := by kernel_rfl
@[go_sem] theorem Tryz.zero24 : zeroOf Tryz.prog 24 = some [.int .i64 0, .int .i64 0, .int .i64 0, .int .i64 0, .int .i64 0, .int .i64 0, .int .i64 0] := by kernel_rfl
@[go_sem] theorem Tryz.pl24 : plOf Tryz.prog 24 = some [(0, 1), (1, 1), (2, 1), (3, 1), (4, 1), (5, 1), (6, 1)] := by kernel_rfl
@[go_sem] theorem Tryz.tsz25 : tszOf Tryz.prog 25 = some (7, true) := by kernel_rfl
@[go_sem] theorem Tryz.udef25 : (Tryz.prog.underlying 25).isSome = true := by kernel_rfl
@[go_sem] theorem Tryz.zero25 : zeroOf Tryz.prog 25 = some [.int .i64 0, .int .i64 0, .int .i64 0, .int .i64 0, .int .i64 0, .int .i64 0, .int .i64 0] := by kernel_rfl
@[go_sem] theorem Tryz.flatEq25 : flatEq Tryz.prog 25 = some [.int .i64, .int .i64, .int .i64, .int .i64, .int .i64, .int .i64, .int .i64] := by kernel_rfl
@[go_sem] theorem Tryz.pl25 : plOf Tryz.prog 25 = some [(0, 1), (1, 1), (2, 1), (3, 1), (4, 1), (5, 1), (6, 1)] := by kernel_rfl
@[go_sem] theorem Tryz.fd25_0 : fdOf Tryz.prog 25 0 = some (0, 1, false) := by kernel_rfl
@[go_sem] theorem Tryz.fd25_1 : fdOf Tryz.prog 25 1 = some (1, 1, false) := by kernel_rfl
@[go_sem] theorem Tryz.fd25_2 : fdOf Tryz.prog 25 2 = some (2, 1, false) := by kernel_rfl
@[go_sem] theorem Tryz.fd25_3 : fdOf Tryz.prog 25 3 = some (3, 1, false) := by kernel_rfl
@[go_sem] theorem Tryz.fd25_4 : fdOf Tryz.prog 25 4 = some (4, 1, false) := by kernel_rfl
@[go_sem] theorem Tryz.fd25_5 : fdOf Tryz.prog 25 5 = some (5, 1, false) := by kernel_rfl
@[go_sem] theorem Tryz.fd25_6 : fdOf Tryz.prog 25 6 = some (6, 1, false) := by kernel_rfl
@[go_sem] theorem Tryz.tsz29 : tszOf Tryz.prog 29 = some (1, false) := by kernel_rfl
@[go_sem] theorem Tryz.udef29 : (Tryz.prog.underlying 29).isSome = true := by kernel_rfl
@[go_sem] theorem Tryz.zero29 : zeroOf Tryz.prog 29 = some [.lit ((Go.Value.nilFunc))] := by kernel_rfl
@[go_sem] theorem Tryz.tsz32 : tszOf Tryz.prog 32 = some (1, false) := by kernel_rfl
@[go_sem] theorem Tryz.udef32 : (Tryz.prog.underlying 32).isSome = true := by kernel_rfl
@[go_sem] theorem Tryz.zero32 : zeroOf Tryz.prog 32 = some [.lit ((Go.Value.nilFunc))] := by kernel_rfl
@[go_sem] theorem Tryz.tsz33 : tszOf Tryz.prog 33 = some (1, false) := by kernel_rfl
@[go_sem] theorem Tryz.udef33 : (Tryz.prog.underlying 33).isSome = true := by kernel_rfl
@[go_sem] theorem Tryz.zero33 : zeroOf Tryz.prog 33 = some [.nilsl] := by kernel_rfl
@[go_sem] theorem Tryz.el33 : elOf Tryz.prog 33 = some (25, 7, 56) := by kernel_rfl
@[go_sem] theorem Tryz.isSl33 : isSl Tryz.prog 33 = true := by kernel_rfl
@[go_sem] theorem Tryz.tsz40 : tszOf Tryz.prog 40 = some (1, false) := by kernel_rfl
@[go_sem] theorem Tryz.udef40 : (Tryz.prog.underlying 40).isSome = true := by kernel_rfl
@[go_sem] theorem Tryz.zero40 : zeroOf Tryz.prog 40 = some [.lit ((Go.Value.nilFunc))] := by kernel_rfl
@[go_sem] theorem Tryz.tsz41 : tszOf Tryz.prog 41 = some (1, false) := by kernel_rfl
@[go_sem] theorem Tryz.udef41 : (Tryz.prog.underlying 41).isSome = true := by kernel_rfl
@[go_sem] theorem Tryz.zero41 : zeroOf Tryz.prog 41 = some [.lit ((Go.Value.nilFunc))] := by kernel_rfl
@[go_sem] theorem Tryz.tsz44 : tszOf Tryz.prog 44 = some (1, false) := by kernel_rfl
@[go_sem] theorem Tryz.udef44 : (Tryz.prog.underlying 44).isSome = true := by kernel_rfl
@[go_sem] theorem Tryz.zero44 : zeroOf Tryz.prog 44 = some [.lit ((Go.Value.nilFunc))] := by kernel_rfl
@[go_sem] theorem Tryz.tsz46 : tszOf Tryz.prog 46 = some (1, false) := by kernel_rfl
@[go_sem] theorem Tryz.udef46 : (Tryz.prog.underlying 46).isSome = true := by kernel_rfl
@[go_sem] theorem Tryz.zero46 : zeroOf Tryz.prog 46 = some [.nilsl] := by kernel_rfl
@[go_sem] theorem Tryz.el46 : elOf Tryz.prog 46 = some (9, 1, 16) := by kernel_rfl
@[go_sem] theorem Tryz.isSl46 : isSl Tryz.prog 46 = true := by kernel_rfl
@[go_sem] theorem Tryz.tsz52 : tszOf Tryz.prog 52 = some (1, false) := by kernel_rfl
@[go_sem] theorem Tryz.udef52 : (Tryz.prog.underlying 52).isSome = true := by kernel_rfl
@[go_sem] theorem Tryz.zero52 : zeroOf Tryz.prog 52 = some [.nilsl] := by kernel_rfl
@[go_sem] theorem Tryz.el52 : elOf Tryz.prog 52 = some (3, 1, 8) := by kernel_rfl
@[go_sem] theorem Tryz.isSl52 : isSl Tryz.prog 52 = true := by kernel_rfl
@[go_sem] theorem Tryz.tsz54 : tszOf Tryz.prog 54 = some (1, false) := by kernel_rfl
@[go_sem] theorem Tryz.udef54 : (Tryz.prog.underlying 54).isSome = true := by kernel_rfl
@[go_sem] theorem Tryz.zero54 : zeroOf Tryz.prog 54 = some [.lit ((Go.Value.pointer none))] := by kernel_rfl
@[go_sem] theorem Tryz.tsz55 : tszOf Tryz.prog 55 = some (1, false) := by kernel_rfl
@[go_sem] theorem Tryz.udef55 : (Tryz.prog.underlying 55).isSome = true := by kernel_rfl
@[go_sem] theorem Tryz.zero55 : zeroOf Tryz.prog 55 = some [.int .u64 0] := by kernel_rfl
@[go_sem] theorem Tryz.isInt55 : isIntT Tryz.prog 55 = some .u64 := by kernel_rfl
@[go_sem] theorem Tryz.tsz56 : tszOf Tryz.prog 56 = some (3, true) := by kernel_rfl
@[go_sem] theorem Tryz.udef56 : (Tryz.prog.underlying 56).isSome = true := by kernel_rfl
@[go_sem] theorem Tryz.zero56 : zeroOf Tryz.prog 56 = some [.nilsl, .int .i64 0, .int .u64 0] := by kernel_rfl
@[go_sem] theorem Tryz.pl56 : plOf Tryz.prog 56 = some [(0, 1), (1, 1), (2, 1)] := by kernel_rfl
@[go_sem] theorem Tryz.tsz57 : tszOf Tryz.prog 57 = some (3, true) := by kernel_rfl
@[go_sem] theorem Tryz.udef57 : (Tryz.prog.underlying 57).isSome = true := by kernel_rfl
@[go_sem] theorem Tryz.zero57 : zeroOf Tryz.prog 57 = some [.nilsl, .int .i64 0, .int .u64 0] := by kernel_rfl
@[go_sem] theorem Tryz.pl57 : plOf Tryz.prog 57 = some [(0, 1), (1, 1), (2, 1)] := by kernel_rfl
@[go_sem] theorem Tryz.fd57_0 : fdOf Tryz.prog 57 0 = some (0, 1, false) := by kernel_rfl
@[go_sem] theorem Tryz.fd57_1 : fdOf Tryz.prog 57 1 = some (1, 1, false) := by kernel_rfl
@[go_sem] theorem Tryz.fd57_2 : fdOf Tryz.prog 57 2 = some (2, 1, false) := by kernel_rfl
@[go_sem] theorem Tryz.tsz64 : tszOf Tryz.prog 64 = some (1, false) := by kernel_rfl
@[go_sem] theorem Tryz.udef64 : (Tryz.prog.underlying 64).isSome = true := by kernel_rfl
@[go_sem] theorem Tryz.zero64 : zeroOf Tryz.prog 64 = some [.lit ((Go.Value.nilFunc))] := by kernel_rfl
@[go_sem] theorem Tryz.tsz65 : tszOf Tryz.prog 65 = some (1, false) := by kernel_rfl
@[go_sem] theorem Tryz.udef65 : (Tryz.prog.underlying 65).isSome = true := by kernel_rfl
@[go_sem] theorem Tryz.zero65 : zeroOf Tryz.prog 65 = some [.lit ((Go.Value.nilFunc))] := by kernel_rfl
@[go_sem] theorem Tryz.tsz70 : tszOf Tryz.prog 70 = some (1, false) := by kernel_rfl
@[go_sem] theorem Tryz.udef70 : (Tryz.prog.underlying 70).isSome = true := by kernel_rfl
@[go_sem] theorem Tryz.zero70 : zeroOf Tryz.prog 70 = some [.lit ((Go.Value.pointer none))] := by kernel_rfl
@[go_sem] theorem Tryz.tsz71 : tszOf Tryz.prog 71 = some (2, true) := by kernel_rfl
@[go_sem] theorem Tryz.udef71 : (Tryz.prog.underlying 71).isSome = true := by kernel_rfl
@[go_sem] theorem Tryz.zero71 : zeroOf Tryz.prog 71 = some [.lit ((Go.Value.pointer none)), .nilsl] := by kernel_rfl
@[go_sem] theorem Tryz.pl71 : plOf Tryz.prog 71 = some [(0, 1), (1, 1)] := by kernel_rfl
@[go_sem] theorem Tryz.tsz72 : tszOf Tryz.prog 72 = some (2, true) := by kernel_rfl
@[go_sem] theorem Tryz.udef72 : (Tryz.prog.underlying 72).isSome = true := by kernel_rfl
@[go_sem] theorem Tryz.zero72 : zeroOf Tryz.prog 72 = some [.lit ((Go.Value.pointer none)), .nilsl] := by kernel_rfl
@[go_sem] theorem Tryz.pl72 : plOf Tryz.prog 72 = some [(0, 1), (1, 1)] := by kernel_rfl
@[go_sem] theorem Tryz.fd72_0 : fdOf Tryz.prog 72 0 = some (0, 1, false) := by kernel_rfl
@[go_sem] theorem Tryz.fd72_1 : fdOf Tryz.prog 72 1 = some (1, 1, false) := by kernel_rfl
@[go_sem] theorem Tryz.tsz74 : tszOf Tryz.prog 74 = some (1, false) := by kernel_rfl
@[go_sem] theorem Tryz.udef74 : (Tryz.prog.underlying 74).isSome = true := by kernel_rfl
@[go_sem] theorem Tryz.zero74 : zeroOf Tryz.prog 74 = some [.lit ((Go.Value.nilIface))] := by kernel_rfl
@[go_sem] theorem Tryz.isIf74 : isIfT Tryz.prog 74 = true := by kernel_rfl
@[go_sem] theorem Tryz.tsz75 : tszOf Tryz.prog 75 = some (1, false) := by kernel_rfl
@[go_sem] theorem Tryz.udef75 : (Tryz.prog.underlying 75).isSome = true := by kernel_rfl
@[go_sem] theorem Tryz.zero75 : zeroOf Tryz.prog 75 = some [.lit ((Go.Value.nilIface))] := by kernel_rfl
@[go_sem] theorem Tryz.isIf75 : isIfT Tryz.prog 75 = true := by kernel_rfl
@[go_sem] theorem Tryz.tsz81 : tszOf Tryz.prog 81 = some (1, false) := by kernel_rfl
@[go_sem] theorem Tryz.udef81 : (Tryz.prog.underlying 81).isSome = true := by kernel_rfl
@[go_sem] theorem Tryz.zero81 : zeroOf Tryz.prog 81 = some [.lit ((Go.Value.map none))] := by kernel_rfl
@[go_sem] theorem Tryz.mapOf81 : mapOf Tryz.prog 81 = some (.int .i64, .bool false) := by kernel_rfl
@[go_sem] theorem Tryz.tsz86 : tszOf Tryz.prog 86 = some (1, false) := by kernel_rfl
@[go_sem] theorem Tryz.udef86 : (Tryz.prog.underlying 86).isSome = true := by kernel_rfl
@[go_sem] theorem Tryz.zero86 : zeroOf Tryz.prog 86 = some [.lit ((Go.Value.pointer none))] := by kernel_rfl
@[go_sem] theorem Tryz.tsz89 : tszOf Tryz.prog 89 = some (1, false) := by kernel_rfl
@[go_sem] theorem Tryz.udef89 : (Tryz.prog.underlying 89).isSome = true := by kernel_rfl
@[go_sem] theorem Tryz.zero89 : zeroOf Tryz.prog 89 = some [.int .u64 0] := by kernel_rfl
@[go_sem] theorem Tryz.isInt89 : isIntT Tryz.prog 89 = some .u64 := by kernel_rfl
@[go_sem] theorem Tryz.tsz90 : tszOf Tryz.prog 90 = some (1, false) := by kernel_rfl
@[go_sem] theorem Tryz.udef90 : (Tryz.prog.underlying 90).isSome = true := by kernel_rfl
@[go_sem] theorem Tryz.zero90 : zeroOf Tryz.prog 90 = some [.lit ((Go.Value.pointer none))] := by kernel_rfl
@[go_sem] theorem Tryz.tsz93 : tszOf Tryz.prog 93 = some (256, true) := by kernel_rfl
@[go_sem] theorem Tryz.udef93 : (Tryz.prog.underlying 93).isSome = true := by kernel_rfl
@[go_sem] theorem Tryz.ar93 : arOf Tryz.prog 93 = some (256, 1, false) := by kernel_rfl
@[go_sem] theorem Tryz.pl93 : plOf Tryz.prog 93 = some [(0, 1), (1, 1), (2, 1), (3, 1), (4, 1), (5, 1), (6, 1), (7, 1), (8, 1), (9, 1), (10, 1), (11, 1), (12, 1), (13, 1), (14, 1), (15, 1), (16, 1), (17, 1), (18, 1), (19, 1), (20, 1), (21, 1), (22, 1), (23, 1), (24, 1), (25, 1), (26, 1), (27, 1), (28, 1), (29, 1), (30, 1), (31, 1), (32, 1), (33, 1), (34, 1), (35, 1), (36, 1), (37, 1), (38, 1), (39, 1), (40, 1), (41, 1), (42, 1), (43, 1), (44, 1), (45, 1), (46, 1), (47, 1), (48, 1), (49, 1), (50, 1), (51, 1), (52, 1), (53, 1), (54, 1), (55, 1), (56, 1), (57, 1), (58, 1), (59, 1), (60, 1), (61, 1), (62, 1), (63, 1), (64, 1), (65, 1), (66, 1), (67, 1), (68, 1), (69, 1), (70, 1), (71, 1), (72, 1), (73, 1), (74, 1), (75, 1), (76, 1), (77, 1), (78, 1), (79, 1), (80, 1), (81, 1), (82, 1), (83, 1), (84, 1), (85, 1), (86, 1), (87, 1), (88, 1), (89, 1), (90, 1), (91, 1), (92, 1), (93, 1), (94, 1), (95, 1), (96, 1), (97, 1), (98, 1), (99, 1), (100, 1), (101, 1), (102, 1), (103, 1), (104, 1), (105, 1), (106, 1), (107, 1), (108, 1), (109, 1), (110, 1), (111, 1), (112, 1), (113, 1), (114, 1), (115, 1), (116, 1), (117, 1), (118, 1), (119, 1), (120, 1), (121, 1), (122, 1), (123, 1), (124, 1), (125, 1), (126, 1), (127, 1), (128, 1), (129, 1), (130, 1), (131, 1), (132, 1), (133, 1), (134, 1), (135, 1), (136, 1), (137, 1), (138, 1), (139, 1), (140, 1), (141, 1), (142, 1), (143, 1), (144, 1), (145, 1), (146, 1), (147, 1), (148, 1), (149, 1), (150, 1), (151, 1), (152, 1), (153, 1), (154, 1), (155, 1), (156, 1), (157, 1), (158, 1), (159, 1), (160, 1), (161, 1), (162, 1), (163, 1), (164, 1), (165, 1), (166, 1), (167, 1), (168, 1), (169, 1), (170, 1), (171, 1), (172, 1), (173, 1), (174, 1), (175, 1), (176, 1), (177, 1), (178, 1), (179, 1), (180, 1), (181, 1), (182, 1), (183, 1), (184, 1), (185, 1), (186, 1), (187, 1), (188, 1), (189, 1), (190, 1), (191, 1), (192, 1), (193, 1), (194, 1), (195, 1), (196, 1), (197, 1), (198, 1), (199, 1), (200, 1), (201, 1), (202, 1), (203, 1), (204, 1), (205, 1), (206, 1), (207, 1), (208, 1), (209, 1), (210, 1), (211, 1), (212, 1), (213, 1), (214, 1), (215, 1), (216, 1), (217, 1), (218, 1), (219, 1), (220, 1), (221, 1), (222, 1), (223, 1), (224, 1), (225, 1), (226, 1), (227, 1), (228, 1), (229, 1), (230, 1), (231, 1), (232, 1), (233, 1), (234, 1), (235, 1), (236, 1), (237, 1), (238, 1), (239, 1), (240, 1), (241, 1), (242, 1), (243, 1), (244, 1), (245, 1), (246, 1), (247, 1), (248, 1), (249, 1), (250, 1), (251, 1), (252, 1), (253, 1), (254, 1), (255, 1)] := by kernel_rfl
@[go_sem] theorem Tryz.tsz94 : tszOf Tryz.prog 94 = some (2, true) := by kernel_rfl
@[go_sem] theorem Tryz.udef94 : (Tryz.prog.underlying 94).isSome = true := by kernel_rfl
@[go_sem] theorem Tryz.zero94 : zeroOf Tryz.prog 94 = some [.int .u8 0, .int .u8 0] := by kernel_rfl
@[go_sem] theorem Tryz.pl94 : plOf Tryz.prog 94 = some [(0, 1), (1, 1)] := by kernel_rfl
@[go_sem] theorem Tryz.tsz95 : tszOf Tryz.prog 95 = some (2, true) := by kernel_rfl
@[go_sem] theorem Tryz.udef95 : (Tryz.prog.underlying 95).isSome = true := by kernel_rfl
@[go_sem] theorem Tryz.zero95 : zeroOf Tryz.prog 95 = some [.int .u8 0, .int .u8 0] := by kernel_rfl
@[go_sem] theorem Tryz.pl95 : plOf Tryz.prog 95 = some [(0, 1), (1, 1)] := by kernel_rfl
@[go_sem] theorem Tryz.fd95_0 : fdOf Tryz.prog 95 0 = some (0, 1, false) := by kernel_rfl
@[go_sem] theorem Tryz.fd95_1 : fdOf Tryz.prog 95 1 = some (1, 1, false) := by kernel_rfl
@[go_sem] theorem Tryz.tsz96 : tszOf Tryz.prog 96 = some (32, true) := by kernel_rfl
@[go_sem] theorem Tryz.udef96 : (Tryz.prog.underlying 96).isSome = true := by kernel_rfl
@[go_sem] theorem Tryz.zero96 : zeroOf Tryz.prog 96 = some [.int .u8 0, .int .u8 0, .int .u8 0, .int .u8 0, .int .u8 0, .int .u8 0, .int .u8 0, .int .u8 0, .int .u8 0, .int .u8 0, .int .u8 0, .int .u8 0, .int .u8 0, .int .u8 0, .int .u8 0, .int .u8 0, .int .u8 0, .int .u8 0, .int .u8 0, .int .u8 0, .int .u8 0, .int .u8 0, .int .u8 0, .int .u8 0, .int .u8 0, .int .u8 0, .int .u8 0, .int .u8 0, .int .u8 0, .int .u8 0, .int .u8 0, .int .u8 0] := by kernel_rfl
@[go_sem] theorem Tryz.ar96 : arOf Tryz.prog 96 = some (16, 2, true) := by kernel_rfl
@[go_sem] theorem Tryz.pl96 : plOf Tryz.prog 96 = some [(0, 2), (2, 2), (4, 2), (6, 2), (8, 2), (10, 2), (12, 2), (14, 2), (16, 2), (18, 2), (20, 2), (22, 2), (24, 2), (26, 2), (28, 2), (30, 2)] := by kernel_rfl
@[go_sem] theorem Tryz.tsz97 : tszOf Tryz.prog 97 = some (1, false) := by kernel_rfl
@[go_sem] theorem Tryz.udef97 : (Tryz.prog.underlying 97).isSome = true := by kernel_rfl
@[go_sem] theorem Tryz.zero97 : zeroOf Tryz.prog 97 = some [.int .i64 0] := by kernel_rfl
@[go_sem] theorem Tryz.isInt97 : isIntT Tryz.prog 97 = some .i64 := by kernel_rfl
@[go_sem] theorem Tryz.tsz100 : tszOf Tryz.prog 100 = some (1, false) := by kernel_rfl
@[go_sem] theorem Tryz.udef100 : (Tryz.prog.underlying 100).isSome = true := by kernel_rfl
@[go_sem] theorem Tryz.zero100 : zeroOf Tryz.prog 100 = some [.lit ((Go.Value.pointer none))] := by kernel_rfl
@[go_sem] theorem Tryz.tsz104 : tszOf Tryz.prog 104 = some (1, false) := by kernel_rfl
@[go_sem] theorem Tryz.udef104 : (Tryz.prog.underlying 104).isSome = true := by kernel_rfl
@[go_sem] theorem Tryz.zero104 : zeroOf Tryz.prog 104 = some [.int .u32 0] := by kernel_rfl
@[go_sem] theorem Tryz.isInt104 : isIntT Tryz.prog 104 = some .u32 := by kernel_rfl
@[go_sem] theorem Tryz.tsz110 : tszOf Tryz.prog 110 = some (3, true) := by kernel_rfl
@[go_sem] theorem Tryz.udef110 : (Tryz.prog.underlying 110).isSome = true := by kernel_rfl
@[go_sem] theorem Tryz.zero110 : zeroOf Tryz.prog 110 = some [.str ByteArray.empty, .str ByteArray.empty, .lit ((Go.Value.nilIface))] := by kernel_rfl
@[go_sem] theorem Tryz.pl110 : plOf Tryz.prog 110 = some [(0, 1), (1, 1), (2, 1)] := by kernel_rfl
@[go_sem] theorem Tryz.tsz111 : tszOf Tryz.prog 111 = some (3, true) := by kernel_rfl
@[go_sem] theorem Tryz.udef111 : (Tryz.prog.underlying 111).isSome = true := by kernel_rfl
@[go_sem] theorem Tryz.zero111 : zeroOf Tryz.prog 111 = some [.str ByteArray.empty, .str ByteArray.empty, .lit ((Go.Value.nilIface))] := by kernel_rfl
@[go_sem] theorem Tryz.pl111 : plOf Tryz.prog 111 = some [(0, 1), (1, 1), (2, 1)] := by kernel_rfl
@[go_sem] theorem Tryz.tsz113 : tszOf Tryz.prog 113 = some (24, true) := by kernel_rfl
@[go_sem] theorem Tryz.udef113 : (Tryz.prog.underlying 113).isSome = true := by kernel_rfl
@[go_sem] theorem Tryz.zero113 : zeroOf Tryz.prog 113 = some [.int .u8 0, .int .u8 0, .int .u8 0, .int .u8 0, .int .u8 0, .int .u8 0, .int .u8 0, .int .u8 0, .int .u8 0, .int .u8 0, .int .u8 0, .int .u8 0, .int .u8 0, .int .u8 0, .int .u8 0, .int .u8 0, .int .u8 0, .int .u8 0, .int .u8 0, .int .u8 0, .int .u8 0, .int .u8 0, .int .u8 0, .int .u8 0] := by kernel_rfl
@[go_sem] theorem Tryz.ar113 : arOf Tryz.prog 113 = some (24, 1, false) := by kernel_rfl
@[go_sem] theorem Tryz.pl113 : plOf Tryz.prog 113 = some [(0, 1), (1, 1), (2, 1), (3, 1), (4, 1), (5, 1), (6, 1), (7, 1), (8, 1), (9, 1), (10, 1), (11, 1), (12, 1), (13, 1), (14, 1), (15, 1), (16, 1), (17, 1), (18, 1), (19, 1), (20, 1), (21, 1), (22, 1), (23, 1)] := by kernel_rfl
@[go_sem] theorem Tryz.tsz120 : tszOf Tryz.prog 120 = some (1, false) := by kernel_rfl
@[go_sem] theorem Tryz.udef120 : (Tryz.prog.underlying 120).isSome = true := by kernel_rfl
@[go_sem] theorem Tryz.zero120 : zeroOf Tryz.prog 120 = some [.lit ((Go.Value.pointer none))] := by kernel_rfl
@[go_sem] theorem Tryz.tsz121 : tszOf Tryz.prog 121 = some (1, true) := by kernel_rfl
@[go_sem] theorem Tryz.udef121 : (Tryz.prog.underlying 121).isSome = true := by kernel_rfl
@[go_sem] theorem Tryz.zero121 : zeroOf Tryz.prog 121 = some [.str ByteArray.empty] := by kernel_rfl
@[go_sem] theorem Tryz.pl121 : plOf Tryz.prog 121 = some [(0, 1)] := by kernel_rfl
@[go_sem] theorem Tryz.tsz122 : tszOf Tryz.prog 122 = some (1, true) := by kernel_rfl
@[go_sem] theorem Tryz.udef122 : (Tryz.prog.underlying 122).isSome = true := by kernel_rfl
@[go_sem] theorem Tryz.zero122 : zeroOf Tryz.prog 122 = some [.str ByteArray.empty] := by kernel_rfl
@[go_sem] theorem Tryz.pl122 : plOf Tryz.prog 122 = some [(0, 1)] := by kernel_rfl
@[go_sem] theorem Tryz.tsz124 : tszOf Tryz.prog 124 = some (20, true) := by kernel_rfl
@[go_sem] theorem Tryz.udef124 : (Tryz.prog.underlying 124).isSome = true := by kernel_rfl
@[go_sem] theorem Tryz.zero124 : zeroOf Tryz.prog 124 = some [.int .u64 0, .int .u64 0, .int .u64 0, .int .u64 0, .int .u64 0, .int .u64 0, .int .u64 0, .int .u64 0, .int .u64 0, .int .u64 0, .int .u64 0, .int .u64 0, .int .u64 0, .int .u64 0, .int .u64 0, .int .u64 0, .int .u64 0, .int .u64 0, .int .u64 0, .int .u64 0] := by kernel_rfl
@[go_sem] theorem Tryz.ar124 : arOf Tryz.prog 124 = some (20, 1, false) := by kernel_rfl
@[go_sem] theorem Tryz.pl124 : plOf Tryz.prog 124 = some [(0, 1), (1, 1), (2, 1), (3, 1), (4, 1), (5, 1), (6, 1), (7, 1), (8, 1), (9, 1), (10, 1), (11, 1), (12, 1), (13, 1), (14, 1), (15, 1), (16, 1), (17, 1), (18, 1), (19, 1)] := by kernel_rfl
@[go_sem] theorem Tryz.tsz125 : tszOf Tryz.prog 125 = some (65, true) := by kernel_rfl
@[go_sem] theorem Tryz.udef125 : (Tryz.prog.underlying 125).isSome = true := by kernel_rfl
@[go_sem] theorem Tryz.ar125 : arOf Tryz.prog 125 = some (65, 1, false) := by kernel_rfl
@[go_sem] theorem Tryz.pl125 : plOf Tryz.prog 125 = some [(0, 1), (1, 1), (2, 1), (3, 1), (4, 1), (5, 1), (6, 1), (7, 1), (8, 1), (9, 1), (10, 1), (11, 1), (12, 1), (13, 1), (14, 1), (15, 1), (16, 1), (17, 1), (18, 1), (19, 1), (20, 1), (21, 1), (22, 1), (23, 1), (24, 1), (25, 1), (26, 1), (27, 1), (28, 1), (29, 1), (30, 1), (31, 1), (32, 1), (33, 1), (34, 1), (35, 1), (36, 1), (37, 1), (38, 1), (39, 1), (40, 1), (41, 1), (42, 1), (43, 1), (44, 1), (45, 1), (46, 1), (47, 1), (48, 1), (49, 1), (50, 1), (51, 1), (52, 1), (53, 1), (54, 1), (55, 1), (56, 1), (57, 1), (58, 1), (59, 1), (60, 1), (61, 1), (62, 1), (63, 1), (64, 1)] := by kernel_rfl
@[go_sem] theorem Tryz.tsz128 : tszOf Tryz.prog 128 = some (32, true) := by kernel_rfl
@[go_sem] theorem Tryz.udef128 : (Tryz.prog.underlying 128).isSome = true := by kernel_rfl
@[go_sem] theorem Tryz.zero128 : zeroOf Tryz.prog 128 = some [.int .u8 0, .int .u8 0, .int .u8 0, .int .u8 0, .int .u8 0, .int .u8 0, .int .u8 0, .int .u8 0, .int .u8 0, .int .u8 0, .int .u8 0, .int .u8 0, .int .u8 0, .int .u8 0, .int .u8 0, .int .u8 0, .int .u8 0, .int .u8 0, .int .u8 0, .int .u8 0, .int .u8 0, .int .u8 0, .int .u8 0, .int .u8 0, .int .u8 0, .int .u8 0, .int .u8 0, .int .u8 0, .int .u8 0, .int .u8 0, .int .u8 0, .int .u8 0] := by kernel_rfl
@[go_sem] theorem Tryz.ar128 : arOf Tryz.prog 128 = some (32, 1, false) := by kernel_rfl
@[go_sem] theorem Tryz.pl128 : plOf Tryz.prog 128 = some [(0, 1), (1, 1), (2, 1), (3, 1), (4, 1), (5, 1), (6, 1), (7, 1), (8, 1), (9, 1), (10, 1), (11, 1), (12, 1), (13, 1), (14, 1), (15, 1), (16, 1), (17, 1), (18, 1), (19, 1), (20, 1), (21, 1), (22, 1), (23, 1), (24, 1), (25, 1), (26, 1), (27, 1), (28, 1), (29, 1), (30, 1), (31, 1)] := by kernel_rfl
@[go_sem] theorem Tryz.tsz129 : tszOf Tryz.prog 129 = some (64, true) := by kernel_rfl
@[go_sem] theorem Tryz.udef129 : (Tryz.prog.underlying 129).isSome = true := by kernel_rfl
@[go_sem] theorem Tryz.zero129 : zeroOf Tryz.prog 129 = some [.int .u8 0, .int .u8 0, .int .u8 0, .int .u8 0, .int .u8 0, .int .u8 0, .int .u8 0, .int .u8 0, .int .u8 0, .int .u8 0, .int .u8 0, .int .u8 0, .int .u8 0, .int .u8 0, .int .u8 0, .int .u8 0, .int .u8 0, .int .u8 0, .int .u8 0, .int .u8 0, .int .u8 0, .int .u8 0, .int .u8 0, .int .u8 0, .int .u8 0, .int .u8 0, .int .u8 0, .int .u8 0, .int .u8 0, .int .u8 0, .int .u8 0, .int .u8 0, .int .u8 0, .int .u8 0, .int .u8 0, .int .u8 0, .int .u8 0, .int .u8 0, .int .u8 0, .int .u8 0, .int .u8 0, .int .u8 0, .int .u8 0, .int .u8 0, .int .u8 0, .int .u8 0, .int .u8 0, .int .u8 0, .int .u8 0, .int .u8 0, .int .u8 0, .int .u8 0, .int .u8 0, .int .u8 0, .int .u8 0, .int .u8 0, .int .u8 0, .int .u8 0, .int .u8 0, .int .u8 0, .int .u8 0, .int .u8 0, .int .u8 0, .int .u8 0] := by kernel_rfl
@[go_sem] theorem Tryz.ar129 : arOf Tryz.prog 129 = some (64, 1, false) := by kernel_rfl
@[go_sem] theorem Tryz.pl129 : plOf Tryz.prog 129 = some [(0, 1), (1, 1), (2, 1), (3, 1), (4, 1), (5, 1), (6, 1), (7, 1), (8, 1), (9, 1), (10, 1), (11, 1), (12, 1), (13, 1), (14, 1), (15, 1), (16, 1), (17, 1), (18, 1), (19, 1), (20, 1), (21, 1), (22, 1), (23, 1), (24, 1), (25, 1), (26, 1), (27, 1), (28, 1), (29, 1), (30, 1), (31, 1), (32, 1), (33, 1), (34, 1), (35, 1), (36, 1), (37, 1), (38, 1), (39, 1), (40, 1), (41, 1), (42, 1), (43, 1), (44, 1), (45, 1), (46, 1), (47, 1), (48, 1), (49, 1), (50, 1), (51, 1), (52, 1), (53, 1), (54, 1), (55, 1), (56, 1), (57, 1), (58, 1), (59, 1), (60, 1), (61, 1), (62, 1), (63, 1)] := by kernel_rfl
@[go_sem] theorem Tryz.tsz132 : tszOf Tryz.prog 132 = some (0, true) := by kernel_rfl
@[go_sem] theorem Tryz.udef132 : (Tryz.prog.underlying 132).isSome = true := by kernel_rfl
@[go_sem] theorem Tryz.zero132 : zeroOf Tryz.prog 132 = some [] := by kernel_rfl
@[go_sem] theorem Tryz.ar132 : arOf Tryz.prog 132 = some (0, 1, false) := by kernel_rfl
@[go_sem] theorem Tryz.pl132 : plOf Tryz.prog 132 = some [] := by kernel_rfl
@[go_sem] theorem Tryz.tsz133 : tszOf Tryz.prog 133 = some (0, true) := by kernel_rfl
@[go_sem] theorem Tryz.udef133 : (Tryz.prog.underlying 133).isSome = true := by kernel_rfl
@[go_sem] theorem Tryz.zero133 : zeroOf Tryz.prog 133 = some [] := by kernel_rfl
@[go_sem] theorem Tryz.pl133 : plOf Tryz.prog 133 = some [(0, 0)] := by kernel_rfl
@[go_sem] theorem Tryz.tsz134 : tszOf Tryz.prog 134 = some (0, true) := by kernel_rfl
@[go_sem] theorem Tryz.udef134 : (Tryz.prog.underlying 134).isSome = true := by kernel_rfl
@[go_sem] theorem Tryz.zero134 : zeroOf Tryz.prog 134 = some [] := by kernel_rfl
@[go_sem] theorem Tryz.pl134 : plOf Tryz.prog 134 = some [(0, 0)] := by kernel_rfl
@[go_sem] theorem Tryz.tsz135 : tszOf Tryz.prog 135 = some (1, false) := by kernel_rfl
@[go_sem] theorem Tryz.udef135 : (Tryz.prog.underlying 135).isSome = true := by kernel_rfl
@[go_sem] theorem Tryz.zero135 : zeroOf Tryz.prog 135 = some [.int .u8 0] := by kernel_rfl
@[go_sem] theorem Tryz.isInt135 : isIntT Tryz.prog 135 = some .u8 := by kernel_rfl
@[go_sem] theorem Tryz.tsz136 : tszOf Tryz.prog 136 = some (1, false) := by kernel_rfl
@[go_sem] theorem Tryz.udef136 : (Tryz.prog.underlying 136).isSome = true := by kernel_rfl
@[go_sem] theorem Tryz.zero136 : zeroOf Tryz.prog 136 = some [.int .u8 0] := by kernel_rfl
@[go_sem] theorem Tryz.isInt136 : isIntT Tryz.prog 136 = some .u8 := by kernel_rfl
@[go_sem] theorem Tryz.tsz137 : tszOf Tryz.prog 137 = some (1, false) := by kernel_rfl
@[go_sem] theorem Tryz.udef137 : (Tryz.prog.underlying 137).isSome = true := by kernel_rfl
@[go_sem] theorem Tryz.zero137 : zeroOf Tryz.prog 137 = some [.lit ((Go.Value.nilFunc))] := by kernel_rfl
@[go_sem] theorem Tryz.tsz138 : tszOf Tryz.prog 138 = some (1, false) := by kernel_rfl
@[go_sem] theorem Tryz.udef138 : (Tryz.prog.underlying 138).isSome = true := by kernel_rfl
@[go_sem] theorem Tryz.zero138 : zeroOf Tryz.prog 138 = some [.int .i32 0] := by kernel_rfl
@[go_sem] theorem Tryz.isInt138 : isIntT Tryz.prog 138 = some .i32 := by kernel_rfl
@[go_sem] theorem Tryz.tsz139 : tszOf Tryz.prog 139 = some (1, false) := by kernel_rfl
@[go_sem] theorem Tryz.udef139 : (Tryz.prog.underlying 139).isSome = true := by kernel_rfl
@[go_sem] theorem Tryz.zero139 : zeroOf Tryz.prog 139 = some [.int .i32 0] := by kernel_rfl
@[go_sem] theorem Tryz.isInt139 : isIntT Tryz.prog 139 = some .i32 := by kernel_rfl
@[go_sem] theorem Tryz.tsz140 : tszOf Tryz.prog 140 = some (11, true) := by kernel_rfl
@[go_sem] theorem Tryz.udef140 : (Tryz.prog.underlying 140).isSome = true := by kernel_rfl
@[go_sem] theorem Tryz.zero140 : zeroOf Tryz.prog 140 = some [.int .u64 0, .int .u64 0, .int .u32 0, .int .u8 0, .int .u8 0, .int .u8 0, .int .u8 0, .lit ((Go.Value.nilFunc)), .lit ((Go.Value.pointer none)), .int .i32 0, .int .i32 0] := by kernel_rfl
@[go_sem] theorem Tryz.pl140 : plOf Tryz.prog 140 = some [(0, 1), (1, 1), (2, 1), (3, 1), (4, 1), (5, 1), (6, 1), (7, 1), (8, 1), (9, 1), (10, 1)] := by kernel_rfl
@[go_sem] theorem Tryz.tsz141 : tszOf Tryz.prog 141 = some (11, true) := by kernel_rfl
@[go_sem] theorem Tryz.udef141 : (Tryz.prog.underlying 141).isSome = true := by kernel_rfl
@[go_sem] theorem Tryz.zero141 : zeroOf Tryz.prog 141 = some [.int .u64 0, .int .u64 0, .int .u32 0, .int .u8 0, .int .u8 0, .int .u8 0, .int .u8 0, .lit ((Go.Value.nilFunc)), .lit ((Go.Value.pointer none)), .int .i32 0, .int .i32 0] := by kernel_rfl
@[go_sem] theorem Tryz.pl141 : plOf Tryz.prog 141 = some [(0, 1), (1, 1), (2, 1), (3, 1), (4, 1), (5, 1), (6, 1), (7, 1), (8, 1), (9, 1), (10, 1)] := by kernel_rfl
@[go_sem] theorem Tryz.isPt2 : isPt Tryz.prog 2 = false := by kernel_rfl
@[go_sem] theorem Tryz.isPt3 : isPt Tryz.prog 3 = false := by kernel_rfl
@[go_sem] theorem Tryz.isPt4 : isPt Tryz.prog 4 = false := by kernel_rfl
@[go_sem] theorem Tryz.isPt5 : isPt Tryz.prog 5 = false := by kernel_rfl
@[go_sem] theorem Tryz.isPt9 : isPt Tryz.prog 9 = false := by kernel_rfl
@[go_sem] theorem Tryz.isPt22 : isPt Tryz.prog 22 = false := by kernel_rfl
@[go_sem] theorem Tryz.isPt25 : isPt Tryz.prog 25 = false := by kernel_rfl
@[go_sem] theorem Tryz.isPt33 : isPt Tryz.prog 33 = false := by kernel_rfl
@[go_sem] theorem Tryz.isPt46 : isPt Tryz.prog 46 = false := by kernel_rfl
@[go_sem] theorem Tryz.isPt54 : isPt Tryz.prog 54 = true := by kernel_rfl
@[go_sem] theorem Tryz.isPt55 : isPt Tryz.prog 55 = false := by kernel_rfl
@[go_sem] theorem Tryz.isPt70 : isPt Tryz.prog 70 = true := by kernel_rfl
@[go_sem] theorem Tryz.isPt72 : isPt Tryz.prog 72 = false := by kernel_rfl
@[go_sem] theorem Tryz.isPt89 : isPt Tryz.prog 89 = false := by kernel_rfl
@[go_sem] theorem Tryz.isPt90 : isPt Tryz.prog 90 = false := by kernel_rfl
@[go_sem] theorem Tryz.isPt104 : isPt Tryz.prog 104 = false := by kernel_rfl
theorem Tryz.okF3 : okF Tryz.prog 3 = true := by kernel_rfl
theorem Tryz.okF4 : okF Tryz.prog 4 = true := by kernel_rfl
theorem Tryz.okF5 : okF Tryz.prog 5 = true := by kernel_rfl
theorem Tryz.okF6 : okF Tryz.prog 6 = true := by kernel_rfl
theorem Tryz.okF7 : okF Tryz.prog 7 = true := by kernel_rfl
theorem Tryz.okF8 : okF Tryz.prog 8 = true := by kernel_rfl
theorem Tryz.okF9 : okF Tryz.prog 9 = true := by kernel_rfl
theorem Tryz.okF10 : okF Tryz.prog 10 = true := by kernel_rfl
theorem Tryz.okF11 : okF Tryz.prog 11 = true := by kernel_rfl
theorem Tryz.okF12 : okF Tryz.prog 12 = true := by kernel_rfl
theorem Tryz.okF13 : okF Tryz.prog 13 = true := by kernel_rfl
theorem Tryz.okF14 : okF Tryz.prog 14 = true := by kernel_rfl
theorem Tryz.okF15 : okF Tryz.prog 15 = true := by kernel_rfl
theorem Tryz.okF16 : okF Tryz.prog 16 = true := by kernel_rfl
theorem Tryz.okF17 : okF Tryz.prog 17 = true := by kernel_rfl
theorem Tryz.okF18 : okF Tryz.prog 18 = true := by kernel_rfl
theorem Tryz.okF19 : okF Tryz.prog 19 = true := by kernel_rfl
theorem Tryz.okF20 : okF Tryz.prog 20 = true := by kernel_rfl
theorem Tryz.okF21 : okF Tryz.prog 21 = true := by kernel_rfl
theorem Tryz.okF22 : okF Tryz.prog 22 = true := by kernel_rfl
theorem Tryz.okF23 : okF Tryz.prog 23 = true := by kernel_rfl
theorem Tryz.okF24 : okF Tryz.prog 24 = true := by kernel_rfl
theorem Tryz.okF25 : okF Tryz.prog 25 = true := by kernel_rfl
theorem Tryz.okF26 : okF Tryz.prog 26 = true := by kernel_rfl
theorem Tryz.okF27 : okF Tryz.prog 27 = true := by kernel_rfl
theorem Tryz.okF28 : okF Tryz.prog 28 = true := by kernel_rfl
theorem Tryz.okF29 : okF Tryz.prog 29 = true := by kernel_rfl
theorem Tryz.okF30 : okF Tryz.prog 30 = true := by kernel_rfl
theorem Tryz.okF31 : okF Tryz.prog 31 = true := by kernel_rfl
theorem Tryz.okF32 : okF Tryz.prog 32 = true := by kernel_rfl
theorem Tryz.okF33 : okF Tryz.prog 33 = true := by kernel_rfl
theorem Tryz.okF34 : okF Tryz.prog 34 = true := by kernel_rfl
theorem Tryz.okF35 : okF Tryz.prog 35 = true := by kernel_rfl
theorem Tryz.okF36 : okF Tryz.prog 36 = true := by kernel_rfl
theorem Tryz.okF37 : okF Tryz.prog 37 = true := by kernel_rfl
theorem Tryz.okF38 : okF Tryz.prog 38 = true := by kernel_rfl
theorem Tryz.okF39 : okF Tryz.prog 39 = true := by kernel_rfl
theorem Tryz.okF40 : okF Tryz.prog 40 = true := by kernel_rfl
theorem Tryz.okF41 : okF Tryz.prog 41 = true := by kernel_rfl
theorem Tryz.okF42 : okF Tryz.prog 42 = true := by kernel_rfl
theorem Tryz.okF43 : okF Tryz.prog 43 = true := by kernel_rfl
theorem Tryz.okF44 : okF Tryz.prog 44 = true := by kernel_rfl
theorem Tryz.okF45 : okF Tryz.prog 45 = true := by kernel_rfl
theorem Tryz.okF46 : okF Tryz.prog 46 = true := by kernel_rfl
theorem Tryz.okF47 : okF Tryz.prog 47 = true := by kernel_rfl
theorem Tryz.okF48 : okF Tryz.prog 48 = true := by kernel_rfl
theorem Tryz.okF49 : okF Tryz.prog 49 = true := by kernel_rfl
theorem Tryz.okF50 : okF Tryz.prog 50 = true := by kernel_rfl
theorem Tryz.okF51 : okF Tryz.prog 51 = true := by kernel_rfl
theorem Tryz.okF52 : okF Tryz.prog 52 = true := by kernel_rfl
theorem Tryz.okF54 : okF Tryz.prog 54 = true := by kernel_rfl
theorem Tryz.okF62 : okF Tryz.prog 62 = true := by kernel_rfl
theorem Tryz.okF63 : okF Tryz.prog 63 = true := by kernel_rfl
theorem Tryz.okF64 : okF Tryz.prog 64 = true := by kernel_rfl
theorem Tryz.okF65 : okF Tryz.prog 65 = true := by kernel_rfl
theorem Tryz.okF67 : okF Tryz.prog 67 = true := by kernel_rfl
end Go.Proofs
end
section
namespace Go.Lv

def rows {α : Type} (cs : α → List V) (L : List α) : List V := L.flatMap cs

section
variable {α : Type} {cs : α → List V} {w : Nat}

theorem rows_len (h : ∀ a, (cs a).length = w) (L : List α) : (rows cs L).length = L.length * w := by
 induction L with
 | nil => simp [rows]
 | cons a L ih => simp [rows, h] at ih ⊢; rw [ih, Nat.succ_mul, Nat.add_comm]

theorem rowsOf_append (L K : List α) : rows cs (L ++ K) = rows cs L ++ rows cs K := by simp [rows]
theorem rows_cons (a : α) (L : List α) : rows cs (a :: L) = cs a ++ rows cs L := by simp [rows]
theorem rows_one (a : α) : rows cs [a] = cs a := by simp [rows]

theorem rows_drop (h : ∀ a, (cs a).length = w) (L : List α) (i : Nat) : (rows cs L).drop (i * w) = rows cs (L.drop i) := by
 induction i generalizing L with
 | zero => simp
 | succ i ih =>
   cases L with
   | nil => simp [rows]
   | cons a L =>
     rw [rows_cons, Nat.succ_mul, Nat.add_comm, ← List.drop_drop, List.drop_append, h a, Nat.sub_self, List.drop_zero]
     rw [show (cs a).drop w = [] by simp [h]]
     simpa using ih L

theorem rows_at (h : ∀ a, (cs a).length = w) {L : List α} {i : Nat} (hi : i < L.length) : ((rows cs L).drop (i * w)).take w = cs L[i] := by
 rw [rows_drop h, List.drop_eq_getElem_cons hi, rows_cons, List.take_append, h, Nat.sub_self, List.take_zero, List.append_nil, List.take_of_length_le (by simp [h])]

theorem rows_all {p : V → Bool} (h : ∀ a, (cs a).all p = true) (L : List α) : (rows cs L).all p = true := by
 induction L with
 | nil => rfl
 | cons a L ih => rw [rows_cons, List.all_append, h a, ih]; rfl

theorem map_ren (f : Nat → R) {d : Nat} {l : List V} (h : l.all (noOwn d) = true) : l.map (ren f d) = l := by
 rw [List.map_congr_left (g := id) (fun x hx => ren_noOwn f d x (List.all_eq_true.1 h x hx)), List.map_id]

theorem wrap_i64 {n : Int} (h0 : -9223372036854775808 ≤ n) (h1 : n ≤ 9223372036854775807) : IntKind.i64.wrap n = n := by
 rw [IntKind.wrap_i64]; omega

def i64R (z : Int) : Prop := -9223372036854775808 ≤ z ∧ z ≤ 9223372036854775807
def strR (s : ByteArray) : Prop := s.size ≤ 9223372036854775807
def lstR (ok : α → Prop) (L : List α) : Prop := L.length ≤ 9223372036854775807 ∧ ∀ x ∈ L, ok x

class FlatP (cs : α → List V) (w : outParam Nat) : Prop where
 len : ∀ a, (cs a).length = w
 plain : ∀ a d, (cs a).all (noOwn d) = true
 cell : ∀ a, (cs a).all isCell = true
 noro : ∀ a, (cs a).all (noRoB 0) = true
class FlatQ (cs : α → List V) (w : outParam Nat) : Prop where
 len : ∀ a, (cs a).length = w
 plain : ∀ a d, (cs a).all (noOwn d) = true
 cell : ∀ a, (cs a).all isCell = true
instance {cs : α → List V} {w : Nat} [h : FlatP cs w] : FlatQ cs w := ⟨h.len, h.plain, h.cell⟩

theorem rows_length [FlatQ cs w] (L : List α) : (rows cs L).length = L.length * w := rows_len FlatQ.len L
theorem map_ren_rows [FlatQ cs w] (f : Nat → R) (d : Nat) (L : List α) : (rows cs L).map (ren f d) = rows cs L := map_ren f (rows_all (fun a => FlatQ.plain a d) L)
theorem rows_cell [FlatQ cs w] (L : List α) : (rows cs L).all isCell = true := rows_all FlatQ.cell L
theorem rows_noRo [FlatP cs w] (L : List α) : (rows cs L).all (noRoB 0) = true := rows_all FlatP.noro L
theorem rows_noOwn [FlatQ cs w] (L : List α) (d : Nat) : (rows cs L).all (noOwn d) = true := rows_all (fun a => FlatQ.plain a d) L
theorem rows_refV [FlatQ cs w] (p : Nat → Bool) (L : List α) (d : Nat) : (rows cs L).all (refV p d) = true := List.all_eq_true.2 fun x hx => refV_noOwn p d x (List.all_eq_true.1 (rows_noOwn (cs := cs) L d) x hx)
theorem noRoH_rows [FlatP cs w] (L : List α) : NoRoH [some (rows cs L)] := NoRoH.of (by simp only [hpNoRo, List.all_cons, List.all_nil, rows_noRo, Bool.and_self])
theorem take_rows [FlatQ cs w] (L : List α) : (rows cs L).take (L.length * w) = rows cs L := List.take_of_length_le (by rw [rows_length]; exact Nat.le_refl _)

theorem le_snap [FlatQ cs w] {h : Hp} {id : Nat} {L : List α} (hid : h[id]? = some (some (rows cs L))) : LeV (ren (snapR h 3) 3 (.osl id 0 L.length w)) (.sl L.length w (rows cs L)) := by
 refine .inl ?_
 simp only [ren, snapR, hid, map_ren_rows, List.drop_zero, take_rows]
theorem le_snap' [FlatQ cs w] {h : Hp} {id n : Nat} {L : List α} (hid : h[id]? = some (some (rows cs L))) (hn : n = L.length) : LeV (ren (snapR h 3) 3 (.osl id 0 n w)) (.sl L.length w (rows cs L)) := by
 subst hn; exact le_snap hid
theorem le_nil {h : Hp} {w : Nat} : LeV (ren (snapR h 3) 3 .nilsl) (.sl 0 w []) := .inr (.inr (.inl ⟨rfl, w, rfl⟩))
theorem LeV.aggR {f : Nat → R} {d : Nat} {cs cs' : List V} (h : LeA (cs.map (ren f d)) cs') : LeV (ren f (d + 1) (.agg cs)) (.agg cs') := LeV.agg h
theorem leE_snap [FlatQ cs w] {h : Hp} {id n n' : Nat} {L : List α} (hid : h[id]? = some (some (rows cs L))) (hn : n = L.length) (hn' : n' = L.length) : LeE (ren (snapR h 3) 2 (.osl id 0 n w)) (.sl n' w (rows cs L)) := by
 subst hn hn'
 refine .inl ?_
 simp only [ren, snapR, hid, map_ren_rows, List.drop_zero, take_rows]
theorem isMb_cells {l : List V} (h : l.all isCell = true) : isMb l = false := by
 match l, h with
 | [], _ => rfl
 | _ :: _ :: _, _ => rfl
 | [x], h => cases x <;> first | rfl | (simp [isCell] at h)
theorem isMb_rows [FlatQ cs w] (L : List α) : isMb (rows cs L) = false := isMb_cells (rows_cell L)
theorem rows_snoc (L : List α) (a : α) : rows cs L ++ cs a = rows cs (L ++ [a]) := by rw [rowsOf_append, rows_one]

theorem LeL_same {f : V → V} : ∀ {l : List V}, l.map f = l → LeL (l.map f) l
 | [], _ => trivial
 | a :: l, h => by
   simp only [List.map_cons, List.cons.injEq] at h
   exact ⟨.inl h.1.symm, LeL_same h.2⟩

def intSet (ks : List Int) : List (Value × Value) := ks.map fun k => (.int .i64 k, .bool true)
theorem intSet_has {k : Int} : ∀ {ks : List Int} (i : Nat), k ∈ ks → ∃ j, mpFind (.int .i64) (.int .i64 k) (intSet ks) i = some (some (j, .bool true))
 | x :: ks, i, h => by
   by_cases e : k = x
   · subst e
     exact ⟨i, by simp [intSet, mpFind, Instr.sameNow]⟩
   · obtain ⟨j, hj⟩ := intSet_has (i + 1) ((List.mem_cons.1 h).resolve_left e)
     have e' : (k == x) = false := by simp [e]
     exact ⟨j, by simpa [intSet, mpFind, Instr.sameNow, e'] using hj⟩
theorem intSet_not {k : Int} : ∀ {ks : List Int} (i : Nat), k ∉ ks → mpFind (.int .i64) (.int .i64 k) (intSet ks) i = some none
 | [], i, _ => rfl
 | x :: ks, i, h => by
   simp at h
   have := intSet_not (i + 1) h.2
   have e' : (k == x) = false := by simp [h.1]
   simpa [intSet, mpFind, Instr.sameNow, e'] using this
theorem intSet_put {k : Int} {ks : List Int} : mpPut (.int .i64 k) (.bool true) none (intSet ks) = intSet (ks ++ [k]) := by simp [mpPut, intSet]

theorem apart {L : List α} {i : Nat} (hi : i < L.length) : ∃ A B, L = A ++ L[i] :: B ∧ A.length = i ∧ A = L.take i ∧ B = L.drop (i + 1) := by
 refine ⟨L.take i, L.drop (i + 1), ?_, by simp; omega, rfl, rfl⟩
 rw [← List.drop_eq_getElem_cons hi, List.take_append_drop]

def listedQ (p : α → Bool) (k : α → Int) (L : List α) (i : Nat) : Bool :=
 match L[i]? with
 | none => true
 | some x => p x && match i with
   | 0 => true
   | j + 1 => match L[j]? with
     | none => true
     | some y => decide (k y < k x)

def listedB (p : α → Bool) (k : α → Int) (m : Nat) (L : List α) : Bool := (List.range L.length).all (listedQ p k L) && decide (L.length ≤ m)

theorem range_all_false {q : Nat → Bool} {n i : Nat} (hi : i < n) (h : q i = false) : (List.range n).all q = false := by
 rw [List.all_eq_false]
 exact ⟨i, by simpa using hi, by simp [h]⟩
theorem range_all_succ {q : Nat → Bool} {i : Nat} (h : (List.range i).all q = true) (h1 : q i = true) : (List.range (i + 1)).all q = true := by
 rw [List.range_succ, List.all_append, h]
 simp [h1]
theorem listedB_false {p : α → Bool} {k : α → Int} {m : Nat} {L : List α} {i : Nat} (hi : i < L.length) (h : listedQ p k L i = false) : listedB p k m L = false := by
 rw [listedB, range_all_false hi h]
 rfl
theorem listedQ_zero {p : α → Bool} {k : α → Int} {L : List α} (h0 : 0 < L.length) : listedQ p k L 0 = p L[0] := by simp [listedQ, h0]
theorem listedQ_succ {p : α → Bool} {k : α → Int} {L : List α} {j : Nat} (h : j + 1 < L.length) : listedQ p k L (j + 1) = (p L[j + 1] && decide (k (L[j]'(by omega)) < k L[j + 1])) := by
 have : j < L.length := by omega
 simp [listedQ, h, this]
end

theorem leA {x y : V} (h : LeV x y := by first | exact le_snap rfl | exact .inl rfl | exact le_nil | exact le_snap' rfl (by simp) | exact LeV.aggR (by first | ((repeat' (first | exact True.intro | exact leE_snap rfl (by simp) (by simp) | exact LeE.nil | exact LeE.refl _ | refine And.intro ?_ ?_)); done) | fail)) : LeV x y := h
theorem callT.at {P : Program} {h : Hp} {g : FuncId} {a c args : List V} {K : V → Hp → Prop} {x : Tag K} {as' : List V} {r : V} {hout : Hp} (hs : Ctr P g as' [] r hout) (hle : LeL ((a ++ args ++ c).map (ren (snapR h 3) 3)) as') (hk : K r hout)
   (hro : (a ++ args ++ c).all (noOwn 3) = true ∨ NoRo r ∧ NoRoH hout := by first | exact .inl rfl | exact .inr ⟨noRo_ok 3 rfl, by first | exact NoRoH.nil | exact noRoH_rows _ | exact NoRoH.of (by simp only [hpNoRo, List.all_cons, List.all_nil, rows_noRo, Bool.and_self])⟩)
   (hrf : refOk h 4 (.fn (.func g) a c) = true ∧ args.all (refOk h 3) = true := by first | exact ⟨rfl, rfl⟩ | exact ⟨rfl, by simp [refOk, refV, refB, noOwn, rows_noOwn, rows_refV]⟩ | simp [refOk, refV, refB, noOwn, rows_noOwn, rows_refV]) : callT P h (.fn (.func g) a c) args K x :=
 callT.intro hs hle hro hrf hk
theorem callS.at {P : Program} {t : List V} {h : Hp} {k : Nat} {dst : Option Tmp} {g : FuncId} {a c args : List V} {K : St → Prop} {x : Tag K} {as' : List V} {r : V} {hout : Hp} (hs : Ctr P g as' [] r hout)
   (hle : LeL ((a ++ args ++ c).map (ren (snapR h 3) 3)) as') (hk : K (afterCall ⟨t, h, k⟩ dst r hout))
   (hro : (a ++ args ++ c).all (noOwn 3) = true ∨ NoRo r ∧ NoRoH hout := by first | exact .inl rfl | exact .inr ⟨noRo_ok 3 rfl, by first | exact NoRoH.nil | exact noRoH_rows _ | exact NoRoH.of (by simp only [hpNoRo, List.all_cons, List.all_nil, rows_noRo, Bool.and_self])⟩) : callS P ⟨t, h, k⟩ dst (.fn (.func g) a c) args K x :=
 callS.intro hs hle hro hk
theorem leO {x y : V} (h : LeV x y := by first | exact .inl rfl | exact LeV.aggR (by first | ((repeat' (first | exact True.intro | exact LeE.nil | exact LeE.refl _ | refine And.intro ?_ ?_)); done) | fail)) : LeV x y := h
theorem sideA {a b : Prop} (hb : b) (ha : a := by first | omega | with_reducible rfl | (show drawOk _ = true; kernel_rfl) | (simp only [rows_length, rows_cell, List.length_append, List.length_cons, List.length_nil, List.all_append, List.all_cons, List.all_nil, isCell, Nat.mul_one, Nat.one_mul, Bool.and_self]; first | done | omega)) : a ∧ b := ⟨ha, hb⟩
attribute [go_sem] Nat.le_refl Int.toNat_natCast beq_self_eq_true bne_self_eq_false decide_true decide_false eq_self ne_eq Option.some.injEq not_false_eq_true Option.map_some map_ren_rows
attribute [go_sem] Nat.reduceSub Nat.reduceAdd Nat.reduceMul Nat.reduceLT Nat.reduceLeDiff Nat.reduceEqDiff Nat.reduceDiv Nat.reduceMod Int.reduceToNat Int.reduceLE Int.reduceLT Int.reduceBEq Int.reduceBNe Int.reduceNeg Int.reduceAdd Int.reduceSub Int.reduceMul reduceCtorEq
end Go.Lv
end
section
set_option maxRecDepth 100000
namespace Go.Proofs
open Go.Lv
def inB' (n a b : Int) : Bool := decide (a ≤ n) && decide (n ≤ b)
theorem in_ok (n a b : Int) : Ctr Tryz.prog 25 [.int .i64 n, .int .i64 a, .int .i64 b] [] (.bool (inB' n a b)) [] := by
 refine Ctr.intro Tryz.mixed Tryz.func25 rfl Tryz.okF25 ?_
 simp -implicitDefEqProofs -dsimp only [go_sem, Tryz.ntmps25, Tryz.results25]
 refine guardT.splitT (fun h1 => ?_) (fun h1 => ?_) <;> simp -implicitDefEqProofs -dsimp only [go_sem, h1]
 · exact WeakR.of_eq (by simp [inB', h1])
 · exact WeakR.of_eq (by simp [inB', h1])
theorem l1In_ok (n a b : Int) : Ctr Tryz.prog 50 [.int .i64 n, .int .i64 a, .int .i64 b] [] (.bool (inB' n a b)) [] := by
 refine Ctr.intro Tryz.mixed Tryz.func50 rfl Tryz.okF50 ?_
 simp -implicitDefEqProofs -dsimp only [go_sem, Tryz.ntmps50, Tryz.results50]
 refine guardT.splitT (fun h1 => ?_) (fun h1 => ?_) <;> simp -implicitDefEqProofs -dsimp only [go_sem, h1]
 · exact WeakR.of_eq (by simp [inB', h1])
 · exact WeakR.of_eq (by simp [inB', h1])
theorem abs_ok (n : Int) (h0 : -4611686018427387904 ≤ n) (h1 : n ≤ 4611686018427387904) : Ctr Tryz.prog 49 [.int .i64 n] [] (.int .i64 (n.natAbs)) [] := by
 refine Ctr.intro Tryz.mixed Tryz.func49 rfl Tryz.okF49 ?_
 simp -implicitDefEqProofs -dsimp only [go_sem, Tryz.ntmps49, Tryz.results49]
 rw [wrap_i64 (by omega) (by omega)]
 exact WeakR.of_eq (by congr 1; split <;> omega)
theorem listedB_all {α : Type} {p : α → Bool} {k : α → Int} {m : Nat} {L : List α} (h : listedB p k m L = true) : (∀ x ∈ L, p x = true) ∧ L.length ≤ m := by
 simp only [listedB, Bool.and_eq_true, decide_eq_true_eq, List.all_eq_true, List.mem_range] at h
 refine ⟨fun x hx => ?_, h.2⟩
 obtain ⟨i, hi, rfl⟩ := List.getElem_of_mem hx
 have := h.1 i hi
 simp only [listedQ, List.getElem?_eq_getElem hi, Bool.and_eq_true] at this
 exact this.1
theorem nodup_get {α : Type} {L : List α} (h : L.Nodup) {i j : Nat} (hi : i < L.length) (hj : j < L.length) (e : L[i] = L[j]) : i = j := by
 have h2 := List.pairwise_iff_getElem.1 h
 rcases Nat.lt_trichotomy i j with h3 | h3 | h3
 · exact absurd e (h2 i j hi hj h3)
 · exact h3
 · exact absurd e.symm (h2 j i hj hi h3)
end Go.Proofs
end
section
set_option maxRecDepth 100000
namespace Go.Proofs
open Go.Lv
def placeB (x y : Int) : Bool := inB' x 0 999 && inB' y 0 999
theorem isTick_ok (n : Int) : Ctr Tryz.prog 23 [.int .i64 n] [] (.bool (inB' n 0 1000000)) [] := by
 refine Ctr.intro Tryz.mixed Tryz.func23 rfl Tryz.okF23 ?_
 simp -implicitDefEqProofs -dsimp only [go_sem, Tryz.ntmps23, Tryz.results23]
 repeat' (first | (refine WeakR.drop' ?_ (by rfl); first | rfl | (simp [placeB, *]; done)) | ((first | refine callT.at (in_ok _ _ _) ⟨leA, leA, leA, trivial⟩ ?_ | refine callS.at (in_ok _ _ _) ⟨leA, leA, leA, trivial⟩ ?_); simp -implicitDefEqProofs -dsimp only [go_sem, *]) | (refine guardT.splitT (fun _ => ?_) (fun _ => ?_) <;> simp -implicitDefEqProofs -dsimp only [go_sem, *]) | (refine guardT.splitF (fun _ => ?_) (fun _ => ?_) <;> simp -implicitDefEqProofs -dsimp only [go_sem, *]) | (refine condT.split (fun _ => ?_) (fun _ => ?_) <;> simp -implicitDefEqProofs -dsimp only [go_sem, *]))
theorem l2Tick_ok (n : Int) : Ctr Tryz.prog 40 [.int .i64 n] [] (.bool (inB' n 0 1000000)) [] := by
 refine Ctr.intro Tryz.mixed Tryz.func40 rfl Tryz.okF40 ?_
 simp -implicitDefEqProofs -dsimp only [go_sem, Tryz.ntmps40, Tryz.results40]
 repeat' (first | (refine WeakR.drop' ?_ (by rfl); first | rfl | (simp [placeB, *]; done)) | ((first | refine callT.at (l1In_ok _ _ _) ⟨leA, leA, leA, trivial⟩ ?_ | refine callS.at (l1In_ok _ _ _) ⟨leA, leA, leA, trivial⟩ ?_); simp -implicitDefEqProofs -dsimp only [go_sem, *]) | (refine guardT.splitT (fun _ => ?_) (fun _ => ?_) <;> simp -implicitDefEqProofs -dsimp only [go_sem, *]) | (refine guardT.splitF (fun _ => ?_) (fun _ => ?_) <;> simp -implicitDefEqProofs -dsimp only [go_sem, *]) | (refine condT.split (fun _ => ?_) (fun _ => ?_) <;> simp -implicitDefEqProofs -dsimp only [go_sem, *]))
theorem isPlace_ok (x y : Int) : Ctr Tryz.prog 24 [.int .i64 x, .int .i64 y] [] (.bool (placeB x y)) [] := by
 refine Ctr.intro Tryz.mixed Tryz.func24 rfl Tryz.okF24 ?_
 simp -implicitDefEqProofs -dsimp only [go_sem, Tryz.ntmps24, Tryz.results24]
 repeat' (first | (refine WeakR.drop' ?_ (by rfl); first | rfl | (simp [placeB, *]; done)) | ((first | refine callT.at (in_ok _ _ _) ⟨leA, leA, leA, trivial⟩ ?_ | refine callS.at (in_ok _ _ _) ⟨leA, leA, leA, trivial⟩ ?_); simp -implicitDefEqProofs -dsimp only [go_sem, *]) | (refine guardT.splitT (fun _ => ?_) (fun _ => ?_) <;> simp -implicitDefEqProofs -dsimp only [go_sem, *]) | (refine guardT.splitF (fun _ => ?_) (fun _ => ?_) <;> simp -implicitDefEqProofs -dsimp only [go_sem, *]) | (refine condT.split (fun _ => ?_) (fun _ => ?_) <;> simp -implicitDefEqProofs -dsimp only [go_sem, *]))
theorem l2Place_ok (x y : Int) : Ctr Tryz.prog 51 [.int .i64 x, .int .i64 y] [] (.bool (placeB x y)) [] := by
 refine Ctr.intro Tryz.mixed Tryz.func51 rfl Tryz.okF51 ?_
 simp -implicitDefEqProofs -dsimp only [go_sem, Tryz.ntmps51, Tryz.results51]
 repeat' (first | (refine WeakR.drop' ?_ (by rfl); first | rfl | (simp [placeB, *]; done)) | ((first | refine callT.at (l1In_ok _ _ _) ⟨leA, leA, leA, trivial⟩ ?_ | refine callS.at (l1In_ok _ _ _) ⟨leA, leA, leA, trivial⟩ ?_); simp -implicitDefEqProofs -dsimp only [go_sem, *]) | (refine guardT.splitT (fun _ => ?_) (fun _ => ?_) <;> simp -implicitDefEqProofs -dsimp only [go_sem, *]) | (refine guardT.splitF (fun _ => ?_) (fun _ => ?_) <;> simp -implicitDefEqProofs -dsimp only [go_sem, *]) | (refine condT.split (fun _ => ?_) (fun _ => ?_) <;> simp -implicitDefEqProofs -dsimp only [go_sem, *]))
theorem isRowSize_ok (n : Int) : Ctr Tryz.prog 26 [.int .i64 n] [] (.bool (inB' n (-100) 1000)) [] := by
 refine Ctr.intro Tryz.mixed Tryz.func26 rfl Tryz.okF26 ?_
 simp -implicitDefEqProofs -dsimp only [go_sem, Tryz.ntmps26, Tryz.results26]
 repeat' (first | (refine WeakR.drop' ?_ (by rfl); first | rfl | (simp [placeB, *]; done)) | ((first | refine callT.at (in_ok _ _ _) ⟨leA, leA, leA, trivial⟩ ?_ | refine callS.at (in_ok _ _ _) ⟨leA, leA, leA, trivial⟩ ?_); simp -implicitDefEqProofs -dsimp only [go_sem, *]) | (refine guardT.splitT (fun _ => ?_) (fun _ => ?_) <;> simp -implicitDefEqProofs -dsimp only [go_sem, *]) | (refine guardT.splitF (fun _ => ?_) (fun _ => ?_) <;> simp -implicitDefEqProofs -dsimp only [go_sem, *]) | (refine condT.split (fun _ => ?_) (fun _ => ?_) <;> simp -implicitDefEqProofs -dsimp only [go_sem, *]))
theorem l24Size_ok (n : Int) : Ctr Tryz.prog 52 [.int .i64 n] [] (.bool (inB' n (-100) 1000)) [] := by
 refine Ctr.intro Tryz.mixed Tryz.func52 rfl Tryz.okF52 ?_
 simp -implicitDefEqProofs -dsimp only [go_sem, Tryz.ntmps52, Tryz.results52]
 repeat' (first | (refine WeakR.drop' ?_ (by rfl); first | rfl | (simp [placeB, *]; done)) | ((first | refine callT.at (l1In_ok _ _ _) ⟨leA, leA, leA, trivial⟩ ?_ | refine callS.at (l1In_ok _ _ _) ⟨leA, leA, leA, trivial⟩ ?_); simp -implicitDefEqProofs -dsimp only [go_sem, *]) | (refine guardT.splitT (fun _ => ?_) (fun _ => ?_) <;> simp -implicitDefEqProofs -dsimp only [go_sem, *]) | (refine guardT.splitF (fun _ => ?_) (fun _ => ?_) <;> simp -implicitDefEqProofs -dsimp only [go_sem, *]) | (refine condT.split (fun _ => ?_) (fun _ => ?_) <;> simp -implicitDefEqProofs -dsimp only [go_sem, *]))
end Go.Proofs
end
section
set_option maxRecDepth 100000
namespace Go.Proofs
open Go.Lv
structure QuakeRow where
 Id : Int
 Tick : Int
 X : Int
 Y : Int
 Deep : Int
 Size : Int
 Grade : Int
def QuakeRow.cs (r : QuakeRow) : List V := [.int .i64 r.Id, .int .i64 r.Tick, .int .i64 r.X, .int .i64 r.Y, .int .i64 r.Deep, .int .i64 r.Size, .int .i64 r.Grade]
def QuakeRow.v (r : QuakeRow) : V := .agg [.int .i64 r.Id, .int .i64 r.Tick, .int .i64 r.X, .int .i64 r.Y, .int .i64 r.Deep, .int .i64 r.Size, .int .i64 r.Grade]
theorem QuakeRow.csl (a : QuakeRow) : a.cs.length = 7 := rfl
instance : FlatP QuakeRow.cs 7 := ⟨fun _ => rfl, fun _ d => by cases d <;> rfl, fun _ => rfl, fun _ => rfl⟩
def QuakeRow.ok (r : QuakeRow) : Prop := i64R r.Id ∧ i64R r.Tick ∧ i64R r.X ∧ i64R r.Y ∧ i64R r.Deep ∧ i64R r.Size ∧ i64R r.Grade
abbrev QuakeRow.rows (L : List QuakeRow) : List V := Go.Lv.rows QuakeRow.cs L
abbrev QuakeRow.sl (L : List QuakeRow) : V := .sl L.length 7 (Go.Lv.rows QuakeRow.cs L)
abbrev QuakeRow.zs : List V := [.int .i64 0, .int .i64 0, .int .i64 0, .int .i64 0, .int .i64 0, .int .i64 0, .int .i64 0]
def QuakeRow.mk1 (k : Int) : QuakeRow := ⟨k, k + 1, k + 1 + 1, k + 1 + 1 + 1, k + 1 + 1 + 1 + 1, k + 1 + 1 + 1 + 1 + 1, k + 1 + 1 + 1 + 1 + 1 + 1⟩
def QuakeRow.marks (k : Int) (n : Nat) : List QuakeRow := (List.range n).map fun i : Nat => QuakeRow.mk1 (k + 7 * (i : Int))
@[simp] theorem QuakeRow.marks_len (k : Int) (n : Nat) : (QuakeRow.marks k n).length = n := by simp [QuakeRow.marks]
theorem areListedQuakeRow_ok (L : List QuakeRow) (p : QuakeRow → Bool) (key : QuakeRow → Int) (most : Int) (fv fk : Nat) (vc kc : List V) (hvc : ∀ d, vc.all (noOwn d) = true) (hkc : ∀ d, kc.all (noOwn d) = true) (hv : ∀ x, Ctr Tryz.prog fv (QuakeRow.v x :: vc) [] (.bool (p x)) []) (hkey : ∀ x, Ctr Tryz.prog fk (QuakeRow.v x :: kc) [] (.int .i64 (key x)) []) (m : Nat) (hm : most = m) (hl : L.length ≤ 281474976710656) :
   Ctr Tryz.prog 44 [QuakeRow.sl L, .int .i64 most, .fn (.func fv) [] vc, .fn (.func fk) [] kc] [] (.bool (listedB p key m L)) [] := by
 subst hm
 refine Ctr.intro Tryz.mixed Tryz.func44 rfl Tryz.okF44 ?_
 simp -implicitDefEqProofs -dsimp only [go_sem, Tryz.ntmps44, Tryz.results44]
 have hvc2 : ∀ f d, vc.map (ren f d) = vc := fun f d => map_ren f (hvc d)
 have hkc2 : ∀ f d, kc.map (ren f d) = kc := fun f d => map_ren f (hkc d)
 refine LoopT.intro (fun i : Nat => i ≤ L.length ∧ (List.range i).all (listedQ p key L) = true) (fun i => ⟨[QuakeRow.sl L, .int .i64 m, .fn (.func fv) [] vc, .fn (.func fk) [] kc, .undef, .undef, .undef, .undef, .undef, .undef, .undef, QuakeRow.sl L, .int .i64 L.length, .int .i64 i, .undef, .undef, .undef, .undef, .undef, .undef, .undef, .undef, .undef, .undef, .undef, .undef, .undef, .undef, .undef, .undef, .undef, .undef, .undef, .undef, .undef, .undef, .undef, .undef, .undef, .undef, .undef, .undef, .undef, .undef], [], 0⟩) (fun i => L.length - i) 0 ⟨Nat.zero_le _, rfl⟩ ?_ (fun i hi => ?_)
 · refine Weak.cut (0) (by simp) (by simp) ?_ ?_
   · simp [LeC, LeV, ren, cutF, hvc2, hkc2]
   · rfl
 simp -implicitDefEqProofs -dsimp only [go_sem]
 refine condT.split (fun h1 => ?_) (fun h1 => ?_)
 · simp -implicitDefEqProofs -dsimp only [go_sem, h1]
   have hi' : i < L.length := by simpa using h1
   have h5 := QuakeRow.csl L[i]
   have hr := rows_at QuakeRow.csl hi'
   (repeat1' (first | simp -implicitDefEqProofs -dsimp only [go_sem, hr, QuakeRow.cs] | simp -dsimp (disch := omega) only [wrap_i64]))
   repeat (with_reducible refine sideA ?_)
   refine callT.intro (hv L[i]) ⟨.inl rfl, LeL_same (hvc2 _ _)⟩ (.inl (by simp only [List.nil_append, List.cons_append, List.all_cons, hvc, Bool.and_true]; rfl)) ⟨refOk_fn (hvc 3), rfl⟩ ?_
   simp -implicitDefEqProofs -dsimp only [go_sem]
   refine guardT.splitF (fun h2 => ?_) (fun h2 => ?_) <;> simp -implicitDefEqProofs -dsimp only [go_sem, h2]
   · have hw : p L[i] = true := by simpa using h2
     refine guardT.splitT (fun h3 => ?_) (fun h3 => ?_) <;> simp -implicitDefEqProofs -dsimp only [go_sem, h3]
     · obtain ⟨j, rfl⟩ : ∃ j, i = j + 1 := ⟨i - 1, by simp at h3; omega⟩
       have hj : j < L.length := by omega
       refine callT.intro (hkey L[j + 1]) ⟨.inl rfl, LeL_same (hkc2 _ _)⟩ (.inl (by simp only [List.nil_append, List.cons_append, List.all_cons, hkc, Bool.and_true]; rfl)) ⟨refOk_fn (hkc 3), rfl⟩ ?_
       have hw1 : IntKind.i64.wrap (((j + 1 : Nat) : Int) - 1) = (j : Int) := by rw [wrap_i64 (by omega) (by omega)]; omega
       have hr2 := rows_at QuakeRow.csl hj
       (repeat1' (first | simp -implicitDefEqProofs -dsimp only [go_sem, hw1, hr2, QuakeRow.cs] | simp -dsimp (disch := omega) only [wrap_i64]))
       repeat (with_reducible refine sideA ?_)
       refine callT.intro (hkey L[j]) ⟨.inl rfl, LeL_same (hkc2 _ _)⟩ (.inl (by simp only [List.nil_append, List.cons_append, List.all_cons, hkc, Bool.and_true]; rfl)) ⟨refOk_fn (hkc 3), rfl⟩ ?_
       (repeat1' (first | simp -implicitDefEqProofs -dsimp only [go_sem] | simp -dsimp (disch := omega) only [wrap_i64]))
       refine condT.split (fun h4 => ?_) (fun h4 => ?_) <;> simp -implicitDefEqProofs -dsimp only [go_sem, h4]
       · refine WeakR.drop' ?_ rfl
         have hq : listedQ p key L (j + 1) = false := by
           rw [listedQ_succ hi', hw]
           simp at h4 ⊢
           omega
         rw [listedB_false hi' hq]
       · refine ⟨j + 1 + 1, ⟨hi', range_all_succ hi.2 (by rw [listedQ_succ hi', hw]; simp at h4 ⊢; omega)⟩, ?_, by omega⟩
         refine Weak.cut (0) (by simp) (by simp) ?_ ?_
         · rw [wrap_i64 (by omega) (by omega)]
           simp [LeC, LeV, ren, cutF, hvc2, hkc2]
         · rfl
     · have h0 : i = 0 := by simp at h3; omega
       refine ⟨i + 1, ⟨hi', range_all_succ hi.2 (by subst h0; rw [listedQ_zero hi', hw])⟩, ?_, by omega⟩
       refine Weak.cut (0) (by simp) (by simp) ?_ ?_
       · rw [wrap_i64 (by omega) (by omega)]
         simp [LeC, LeV, ren, cutF, hvc2, hkc2]
       · rfl
   · have hw : p L[i] = false := by simpa using h2
     refine WeakR.drop' ?_ rfl
     have hq : listedQ p key L i = false := by simp [listedQ, hi', hw]
     rw [listedB_false hi' hq]
 · simp -implicitDefEqProofs -dsimp only [go_sem, h1]
   refine WeakR.drop' ?_ rfl
   have : i = L.length := by simp at h1; omega
   subst this
   rw [listedB, hi.2]
   simp
   try omega
theorem differQuakeRow_ok (L : List QuakeRow) (key : QuakeRow → Int) (fk : Nat) (hkey : ∀ x, Ctr Tryz.prog fk [QuakeRow.v x] [] (.int .i64 (key x)) []) (hl : L.length ≤ 281474976710656) :
   Ctr Tryz.prog 46 [QuakeRow.sl L, .fn (.func fk) [] []] [] (.bool (decide (L.map key).Nodup)) [] := by
 refine Ctr.intro Tryz.mixed Tryz.func46 rfl Tryz.okF46 ?_
 simp -implicitDefEqProofs -dsimp only [go_sem, Tryz.ntmps46, Tryz.results46]
 refine LoopT.intro (fun i : Nat => i ≤ L.length ∧ ((L.take i).map key).Nodup) (fun i => ⟨[.undef, .fn (.func fk) [] [], .undef, .undef, .undef, .mp 0, .undef, .undef, .undef, QuakeRow.sl L, .int .i64 L.length, .int .i64 i, .undef, .undef, .undef, .undef, .undef, .undef, .undef, .undef, .undef, .undef, .undef, .undef, .undef], [some [.mb (intSet ((L.take i).map key))]], 0⟩) (fun i => L.length - i) 0 ⟨Nat.zero_le _, by simp⟩ ?_ (fun i hi => ?_)
 · refine Weak.cut (1) (by simp) (by simp) ?_ ?_
   · simp [LeC, LeV, ren, cutF]
   · simp [cutH, cutB, ren, intSet]
 simp -implicitDefEqProofs -dsimp only [go_sem]
 refine condT.split (fun h1 => ?_) (fun h1 => ?_)
 · simp -implicitDefEqProofs -dsimp only [go_sem, h1]
   have hi' : i < L.length := by simpa using h1
   have h5 := QuakeRow.csl L[i]
   have hr := rows_at QuakeRow.csl hi'
   have ht : (L.take (i + 1)).map key = (L.take i).map key ++ [key L[i]] := by rw [List.take_succ_eq_append_getElem hi', List.map_append]; rfl
   (repeat1' (first | simp -implicitDefEqProofs -dsimp only [go_sem, hr, QuakeRow.cs] | simp -dsimp (disch := omega) only [wrap_i64]))
   repeat (with_reducible refine sideA ?_)
   (first | refine callT.at (hkey L[i]) ⟨.inl rfl, trivial⟩ ?_ | refine callS.at (hkey L[i]) ⟨.inl rfl, trivial⟩ ?_)
   simp -implicitDefEqProofs -dsimp only [go_sem]
   by_cases hm : key L[i] ∈ (L.take i).map key
   · obtain ⟨j, hj⟩ := intSet_has 0 hm
     simp -implicitDefEqProofs -dsimp only [go_sem, hj]
     refine WeakR.drop' ?_ (by rfl)
     have : ¬ (L.map key).Nodup := by
       intro hn
       have h2 : ((L.take (i + 1)).map key).Nodup := (List.map_take ▸ hn.sublist (List.take_sublist _ _))
       rw [ht] at h2
       have := (List.nodup_append.1 h2).2.2 _ hm (key L[i]) (by simp)
       exact this rfl
     rw [decide_eq_false this]
   · have hj := intSet_not 0 hm
     simp -implicitDefEqProofs -dsimp only [go_sem, hj]
     (first | refine callT.at (hkey L[i]) ⟨.inl rfl, trivial⟩ ?_ | refine callS.at (hkey L[i]) ⟨.inl rfl, trivial⟩ ?_)
     simp -implicitDefEqProofs -dsimp only [go_sem, hj, intSet_put]
     refine ⟨i + 1, ⟨hi', ?_⟩, ?_, by omega⟩
     · rw [ht, List.nodup_append]
       exact ⟨hi.2, by simp, fun a ha b hb => by simp at hb; subst hb; rintro rfl; exact hm ha⟩
     refine Weak.cut (1) (by simp) (by simp) ?_ ?_
     · rw [wrap_i64 (by omega) (by omega)]
       simp [LeC, LeV, ren, cutF]
     · rw [ht]
       simp [cutH, cutB, ren]
 · simp -implicitDefEqProofs -dsimp only [go_sem, h1]
   have hi' : i = L.length := by simp at h1; omega
   subst hi'
   have h2 := hi.2
   rw [List.take_length] at h2
   exact WeakR.drop' (by rw [decide_eq_true h2]) (by rfl)
end Go.Proofs
end
section
set_option maxRecDepth 100000
namespace Go.Proofs
open Go.Lv
def qrB (r : QuakeRow) : Bool := inB' r.Id 1 9999 && inB' r.Tick 0 1000000 && placeB r.X r.Y && inB' r.Deep 0 700 && inB' r.Size (-100) 1000 && inB' r.Grade 1 4
theorem qrB_iff {r : QuakeRow} : qrB r = true ↔ (1 ≤ r.Id ∧ r.Id ≤ 9999) ∧ (0 ≤ r.Tick ∧ r.Tick ≤ 1000000) ∧ ((0 ≤ r.X ∧ r.X ≤ 999) ∧ 0 ≤ r.Y ∧ r.Y ≤ 999) ∧ (0 ≤ r.Deep ∧ r.Deep ≤ 700) ∧ (-100 ≤ r.Size ∧ r.Size ≤ 1000) ∧ 1 ≤ r.Grade ∧ r.Grade ≤ 4 := by
 simp [qrB, placeB, inB', and_assoc]
theorem l24One_ok (r : QuakeRow) : Ctr Tryz.prog 21 [r.v] [] (.bool (qrB r)) [] := by
 refine Ctr.intro Tryz.mixed Tryz.func21 rfl Tryz.okF21 ?_
 simp -implicitDefEqProofs -dsimp only [go_sem, Tryz.ntmps21, Tryz.results21]
 simp -implicitDefEqProofs -dsimp only [go_sem, QuakeRow.v]
 repeat' (first | (refine WeakR.drop' ?_ (by rfl); first | rfl | (simp [qrB, *]; done)) | ((first | refine callT.at (l1In_ok _ _ _) ⟨leA, leA, leA, trivial⟩ ?_ | refine callS.at (l1In_ok _ _ _) ⟨leA, leA, leA, trivial⟩ ?_); simp -implicitDefEqProofs -dsimp only [go_sem, *]) | ((first | refine callT.at (l2Tick_ok _) ⟨leA, trivial⟩ ?_ | refine callS.at (l2Tick_ok _) ⟨leA, trivial⟩ ?_); simp -implicitDefEqProofs -dsimp only [go_sem, *]) | ((first | refine callT.at (l2Place_ok _ _) ⟨leA, leA, trivial⟩ ?_ | refine callS.at (l2Place_ok _ _) ⟨leA, leA, trivial⟩ ?_); simp -implicitDefEqProofs -dsimp only [go_sem, *]) | ((first | refine callT.at (l24Size_ok _) ⟨leA, trivial⟩ ?_ | refine callS.at (l24Size_ok _) ⟨leA, trivial⟩ ?_); simp -implicitDefEqProofs -dsimp only [go_sem, *]) | (refine guardT.splitT (fun _ => ?_) (fun _ => ?_) <;> simp -implicitDefEqProofs -dsimp only [go_sem, *]) | (refine guardT.splitF (fun _ => ?_) (fun _ => ?_) <;> simp -implicitDefEqProofs -dsimp only [go_sem, *]) | (refine condT.split (fun _ => ?_) (fun _ => ?_) <;> simp -implicitDefEqProofs -dsimp only [go_sem, *]))
theorem iIsQuakeRow_ok (r : QuakeRow) : Ctr Tryz.prog 8 [r.v] [] (.bool (qrB r)) [] := by
 refine Ctr.intro Tryz.mixed Tryz.func8 rfl Tryz.okF8 ?_
 simp -implicitDefEqProofs -dsimp only [go_sem, Tryz.ntmps8, Tryz.results8]
 simp -implicitDefEqProofs -dsimp only [go_sem, QuakeRow.v]
 repeat' (first | (refine WeakR.drop' ?_ (by rfl); first | rfl | (simp [qrB, *]; done)) | ((first | refine callT.at (in_ok _ _ _) ⟨leA, leA, leA, trivial⟩ ?_ | refine callS.at (in_ok _ _ _) ⟨leA, leA, leA, trivial⟩ ?_); simp -implicitDefEqProofs -dsimp only [go_sem, *]) | ((first | refine callT.at (isTick_ok _) ⟨leA, trivial⟩ ?_ | refine callS.at (isTick_ok _) ⟨leA, trivial⟩ ?_); simp -implicitDefEqProofs -dsimp only [go_sem, *]) | ((first | refine callT.at (isPlace_ok _ _) ⟨leA, leA, trivial⟩ ?_ | refine callS.at (isPlace_ok _ _) ⟨leA, leA, trivial⟩ ?_); simp -implicitDefEqProofs -dsimp only [go_sem, *]) | ((first | refine callT.at (isRowSize_ok _) ⟨leA, trivial⟩ ?_ | refine callS.at (isRowSize_ok _) ⟨leA, trivial⟩ ?_); simp -implicitDefEqProofs -dsimp only [go_sem, *]) | (refine guardT.splitT (fun _ => ?_) (fun _ => ?_) <;> simp -implicitDefEqProofs -dsimp only [go_sem, *]) | (refine guardT.splitF (fun _ => ?_) (fun _ => ?_) <;> simp -implicitDefEqProofs -dsimp only [go_sem, *]) | (refine condT.split (fun _ => ?_) (fun _ => ?_) <;> simp -implicitDefEqProofs -dsimp only [go_sem, *]))
theorem tickOf_ok (r : QuakeRow) : Ctr Tryz.prog 45 [r.v] [] (.int .i64 r.Tick) [] := by
 refine Ctr.intro Tryz.mixed Tryz.func45 rfl Tryz.okF45 ?_
 simp -implicitDefEqProofs -dsimp only [go_sem, Tryz.ntmps45, Tryz.results45]
 simp -implicitDefEqProofs -dsimp only [go_sem, QuakeRow.v]
 exact WeakR.drop' rfl rfl
theorem idOf_ok (r : QuakeRow) : Ctr Tryz.prog 47 [r.v] [] (.int .i64 r.Id) [] := by
 refine Ctr.intro Tryz.mixed Tryz.func47 rfl Tryz.okF47 ?_
 simp -implicitDefEqProofs -dsimp only [go_sem, Tryz.ntmps47, Tryz.results47]
 simp -implicitDefEqProofs -dsimp only [go_sem, QuakeRow.v]
 exact WeakR.drop' rfl rfl
def bulB (L : List QuakeRow) : Bool := listedB qrB QuakeRow.Tick 12 L && decide (L.map QuakeRow.Id).Nodup
theorem bulB_all {L : List QuakeRow} (h : bulB L = true) : (∀ x ∈ L, qrB x = true) ∧ L.length ≤ 12 := by
 simp only [bulB, Bool.and_eq_true] at h
 exact listedB_all h.1
theorem iIsBulletin_ok (L : List QuakeRow) (hl : L.length ≤ 281474976710656) : Ctr Tryz.prog 18 [QuakeRow.sl L] [] (.bool (bulB L)) [] := by
 refine Ctr.intro Tryz.mixed Tryz.func18 rfl Tryz.okF18 ?_
 simp -implicitDefEqProofs -dsimp only [go_sem, Tryz.ntmps18, Tryz.results18]
 refine callS.intro (areListedQuakeRow_ok L qrB QuakeRow.Tick 12 _ _ [] [] (fun _ => rfl) (fun _ => rfl) iIsQuakeRow_ok tickOf_ok 12 rfl hl) ⟨.inl rfl, .inl rfl, .inl rfl, .inl rfl, trivial⟩ (.inl rfl) ?_
 simp -implicitDefEqProofs -dsimp only [go_sem]
 refine guardT.splitT (fun h1 => ?_) (fun h1 => ?_) <;> simp -implicitDefEqProofs -dsimp only [go_sem, h1]
 · (first | refine callT.at (differQuakeRow_ok L QuakeRow.Id _ idOf_ok hl) ⟨leA, leA, trivial⟩ ?_ | refine callS.at (differQuakeRow_ok L QuakeRow.Id _ idOf_ok hl) ⟨leA, leA, trivial⟩ ?_)
   simp -implicitDefEqProofs -dsimp only [go_sem, h1]
   exact WeakR.drop' (by simp [bulB, h1]) (by rfl)
 · exact WeakR.drop' (by simp [bulB, h1]) (by rfl)
theorem l24Good_ok (L : List QuakeRow) (hl : L.length ≤ 281474976710656) : Ctr Tryz.prog 39 [QuakeRow.sl L] [] (.bool (bulB L)) [] := by
 refine Ctr.intro Tryz.mixed Tryz.func39 rfl Tryz.okF39 ?_
 simp -implicitDefEqProofs -dsimp only [go_sem, Tryz.ntmps39, Tryz.results39]
 refine LoopT.intro (fun i : Nat => i ≤ L.length ∧ i ≤ 13 ∧ (List.range i).all (listedQ qrB QuakeRow.Tick L) = true ∧ ((L.take i).map QuakeRow.Id).Nodup) (fun i => ⟨[QuakeRow.sl L, .undef, .undef, .int .i64 i, .undef, .undef, .undef, .undef, .undef, .undef, .undef, .undef, .undef, .undef, .undef, .undef, .undef, .undef, .undef, .undef, .undef, .undef, .undef, .undef, .undef, .undef, .undef, .undef, .undef, .undef, .undef, .undef, .undef, .undef, .undef, .undef, .undef, .undef, .undef, .undef, .undef, .undef, .undef, .undef, .undef, .undef, .undef, .undef, .undef, .undef, .undef, .undef, .undef, .undef, .undef, .undef, .undef, .undef], [], 0⟩) (fun i => L.length - i) 0 ⟨Nat.zero_le _, by omega, rfl, by simp⟩ ?_ (fun i hi => ?_)
 · refine Weak.cut (0) (by simp) (by simp) ?_ ?_
   · simp [LeC, LeV, ren, cutF]
   · rfl
 obtain ⟨hi0, hi1, hi2, hi3⟩ := hi
 have hend : ∀ b : Bool, (i = L.length ∨ i = 13) → b = decide ((L.length : Int) ≤ 12) → b = bulB L := by
   intro b h1 h2
   subst h2
   rcases h1 with h1 | h1
   · subst h1
     rw [List.take_length] at hi3
     rw [bulB, listedB, hi2, decide_eq_true hi3]
     simp
     omega
   · have : ¬ L.length ≤ 12 := by omega
     rw [bulB, listedB, decide_eq_false this, decide_eq_false (by omega)]
     simp
 simp -implicitDefEqProofs -dsimp only [go_sem]
 refine guardT.splitT (fun h1 => ?_) (fun h1 => ?_) <;> simp -implicitDefEqProofs -dsimp only [go_sem, h1]
 · have hi' : i < L.length := by simpa using h1
   refine condT.split (fun h2 => ?_) (fun h2 => ?_) <;> simp -implicitDefEqProofs -dsimp only [go_sem, h2]
   · have hi12 : i ≤ 12 := by simp at h2; omega
     have h5 := QuakeRow.csl L[i]
     have hr := rows_at QuakeRow.csl hi'
     have hbad : listedQ qrB QuakeRow.Tick L i = false → V.bool false = V.bool (bulB L) := by
       intro hq
       rw [bulB, listedB_false hi' hq, Bool.false_and]
     simp -implicitDefEqProofs -dsimp only [go_sem, hr]
     repeat (with_reducible refine sideA ?_)
     (first | refine callT.at (l24One_ok L[i]) ⟨.inl rfl, trivial⟩ ?_ | refine callS.at (l24One_ok L[i]) ⟨.inl rfl, trivial⟩ ?_)
     simp -implicitDefEqProofs -dsimp only [go_sem]
     -- the inner loop
     have inner : ∀ (t : List V), listedQ qrB QuakeRow.Tick L i = true → True := fun _ _ => trivial
     refine guardT.splitF (fun h3 => ?_) (fun h3 => ?_) <;> simp -implicitDefEqProofs -dsimp only [go_sem, h3]
     · have hw : qrB L[i] = true := by simpa using h3
       refine guardT.splitT (fun h4 => ?_) (fun h4 => ?_) <;> simp -implicitDefEqProofs -dsimp only [go_sem, h4]
       · obtain ⟨j, rfl⟩ : ∃ j, i = j + 1 := ⟨i - 1, by simp at h4; omega⟩
         have hj : j < L.length := by omega
         have hw1 : IntKind.i64.wrap (((j + 1 : Nat) : Int) - 1) = (j : Int) := by rw [wrap_i64 (by omega) (by omega)]; omega
         have hr2 := rows_at QuakeRow.csl hj
         simp -implicitDefEqProofs -dsimp only [go_sem, hw1, hr, hr2, QuakeRow.cs]
         repeat (with_reducible refine sideA ?_)
         refine condT.split (fun h6 => ?_) (fun h6 => ?_) <;> simp -implicitDefEqProofs -dsimp only [go_sem, h6]
         · exact WeakR.drop' (hbad (by rw [listedQ_succ hi', hw]; simp at h6 ⊢; omega)) (by rfl)
         · have hq : listedQ qrB QuakeRow.Tick L (j + 1) = true := by rw [listedQ_succ hi', hw]; simp at h6 ⊢; omega
           refine LoopT.intro (fun k : Nat => k ≤ (j + 1) ∧ ∀ q, q < k → ∀ hq : q < L.length, (L[q]).Id ≠ (L[(j + 1)]).Id) (fun k => ⟨[QuakeRow.sl L, .undef, .undef, .int .i64 ((j + 1) : Nat), .int .i64 k, .undef, .undef, .undef, .undef, .undef, .undef, .undef, .undef, .undef, .undef, .undef, .undef, .undef, .undef, .undef, .undef, .undef, .undef, .undef, .undef, .undef, .undef, .undef, .undef, .undef, .undef, .undef, .undef, .undef, .undef, .undef, .undef, .undef, .undef, .undef, .undef, .undef, .undef, .undef, .undef, .undef, .undef, .undef, .undef, .undef, .undef, .undef, .undef, .undef, .undef, .undef, .undef, .undef], [], 0⟩) (fun k => (j + 1) - k) 0 ⟨Nat.zero_le _, fun q hq => by omega⟩ ?_ (fun k hk => ?_)
           · refine Weak.cut (0) (by simp) (by simp) ?_ ?_
             · simp [LeC, LeV, ren, cutF]
             · rfl
           simp -implicitDefEqProofs -dsimp only [go_sem]
           refine condT.split (fun h7 => ?_) (fun h7 => ?_) <;> simp -implicitDefEqProofs -dsimp only [go_sem, h7]
           · have hk' : k < (j + 1) := by simp at h7; omega
             have hkl : k < L.length := by omega
             have hr3 := rows_at QuakeRow.csl hkl
             have hr4 := rows_at QuakeRow.csl hi'
             simp -implicitDefEqProofs -dsimp only [go_sem, hr3, hr4, QuakeRow.cs]
             repeat (with_reducible refine sideA ?_)
             refine condT.split (fun h8 => ?_) (fun h8 => ?_) <;> simp -implicitDefEqProofs -dsimp only [go_sem, h8]
             · refine WeakR.drop' ?_ (by rfl)
               have hid : (L[k]).Id = (L[(j + 1)]).Id := by simpa using h8
               have : ¬ (L.map QuakeRow.Id).Nodup := by
                 intro hn
                 have h9 := nodup_get hn (i := k) (j := (j + 1)) (by simp; omega) (by simp; omega) (by simpa using hid)
                 omega
               rw [bulB, decide_eq_false this, Bool.and_false]
             · refine ⟨k + 1, ⟨hk', fun q hq hql => ?_⟩, ?_, by omega⟩
               · rcases Nat.lt_succ_iff_lt_or_eq.1 hq with h | rfl
                 · exact hk.2 q h hql
                 · simpa using h8
               refine Weak.cut (0) (by simp) (by simp) ?_ ?_
               · rw [wrap_i64 (by omega) (by omega)]
                 simp [LeC, LeV, ren, cutF]
               · rfl
           · have hk' : k = (j + 1) := by simp at h7; omega
             refine ⟨(j + 1) + 1, ⟨hi', by omega, range_all_succ hi2 hq, ?_⟩, ?_, by omega⟩
             · rw [List.take_succ_eq_append_getElem hi', List.map_append, List.nodup_append]
               refine ⟨hi3, by simp, fun a ha b hb => ?_⟩
               simp at hb; subst hb
               obtain ⟨x, hx, rfl⟩ := List.mem_map.1 ha
               obtain ⟨q, hq1, rfl⟩ := List.getElem_of_mem hx
               simp only [List.getElem_take]
               simp at hq1
               exact hk.2 q (by omega) (by omega)
             refine Weak.cut (0) (by simp) (by simp) ?_ ?_
             · rw [wrap_i64 (by omega) (by omega)]
               simp [LeC, LeV, ren, cutF]
             · rfl
       · have h0 : i = 0 := by simp at h4; omega
         have hq : listedQ qrB QuakeRow.Tick L i = true := by subst h0; rw [listedQ_zero hi', hw]
         refine LoopT.intro (fun k : Nat => k ≤ i ∧ ∀ q, q < k → ∀ hq : q < L.length, (L[q]).Id ≠ (L[i]).Id) (fun k => ⟨[QuakeRow.sl L, .undef, .undef, .int .i64 (i : Nat), .int .i64 k, .undef, .undef, .undef, .undef, .undef, .undef, .undef, .undef, .undef, .undef, .undef, .undef, .undef, .undef, .undef, .undef, .undef, .undef, .undef, .undef, .undef, .undef, .undef, .undef, .undef, .undef, .undef, .undef, .undef, .undef, .undef, .undef, .undef, .undef, .undef, .undef, .undef, .undef, .undef, .undef, .undef, .undef, .undef, .undef, .undef, .undef, .undef, .undef, .undef, .undef, .undef, .undef, .undef], [], 0⟩) (fun k => i - k) 0 ⟨Nat.zero_le _, fun q hq => by omega⟩ ?_ (fun k hk => ?_)
         · refine Weak.cut (0) (by simp) (by simp) ?_ ?_
           · simp [LeC, LeV, ren, cutF]
           · rfl
         simp -implicitDefEqProofs -dsimp only [go_sem]
         refine condT.split (fun h7 => ?_) (fun h7 => ?_) <;> simp -implicitDefEqProofs -dsimp only [go_sem, h7]
         · have hk' : k < i := by simp at h7; omega
           have hkl : k < L.length := by omega
           have hr3 := rows_at QuakeRow.csl hkl
           have hr4 := rows_at QuakeRow.csl hi'
           simp -implicitDefEqProofs -dsimp only [go_sem, hr3, hr4, QuakeRow.cs]
           repeat (with_reducible refine sideA ?_)
           refine condT.split (fun h8 => ?_) (fun h8 => ?_) <;> simp -implicitDefEqProofs -dsimp only [go_sem, h8]
           · refine WeakR.drop' ?_ (by rfl)
             have hid : (L[k]).Id = (L[i]).Id := by simpa using h8
             have : ¬ (L.map QuakeRow.Id).Nodup := by
               intro hn
               have h9 := nodup_get hn (i := k) (j := i) (by simp; omega) (by simp; omega) (by simpa using hid)
               omega
             rw [bulB, decide_eq_false this, Bool.and_false]
           · refine ⟨k + 1, ⟨hk', fun q hq hql => ?_⟩, ?_, by omega⟩
             · rcases Nat.lt_succ_iff_lt_or_eq.1 hq with h | rfl
               · exact hk.2 q h hql
               · simpa using h8
             refine Weak.cut (0) (by simp) (by simp) ?_ ?_
             · rw [wrap_i64 (by omega) (by omega)]
               simp [LeC, LeV, ren, cutF]
             · rfl
         · have hk' : k = i := by simp at h7; omega
           refine ⟨i + 1, ⟨hi', by omega, range_all_succ hi2 hq, ?_⟩, ?_, by omega⟩
           · rw [List.take_succ_eq_append_getElem hi', List.map_append, List.nodup_append]
             refine ⟨hi3, by simp, fun a ha b hb => ?_⟩
             simp at hb; subst hb
             obtain ⟨x, hx, rfl⟩ := List.mem_map.1 ha
             obtain ⟨q, hq1, rfl⟩ := List.getElem_of_mem hx
             simp only [List.getElem_take]
             simp at hq1
             exact hk.2 q (by omega) (by omega)
           refine Weak.cut (0) (by simp) (by simp) ?_ ?_
           · rw [wrap_i64 (by omega) (by omega)]
             simp [LeC, LeV, ren, cutF]
           · rfl
     · have hw : qrB L[i] = false := by simpa using h3
       exact WeakR.drop' (hbad (by simp [listedQ, hi', hw])) (by rfl)
   · have : i = 13 := by simp at h2; omega
     exact WeakR.drop' (by rw [hend _ (.inr this) rfl]) (by rfl)
 · have : i = L.length := by simp at h1; omega
   exact WeakR.drop' (by rw [hend _ (.inl this) rfl]) (by rfl)
end Go.Proofs
end
section
namespace Go.Lv

def num (n : Int) : ByteArray := ⟨(Lib.itoa n).toArray⟩
theorem num_size {n : Int} (h : i64R n) : (num n).size ≤ 21 := by
 have := Lib.itoa_length_le n h.1 h.2
 simpa [num, ByteArray.size] using this
theorem num_size' {n : Int} (h0 : -9223372036854775808 ≤ n) (h1 : n ≤ 9223372036854775807) : (num n).size ≤ 21 := num_size ⟨h0, h1⟩
theorem ba_size (l : Array UInt8) : (ByteArray.mk l).size = l.size := rfl
theorem ba_add (x y : Array UInt8) : (ByteArray.mk x ++ ByteArray.mk y) = ByteArray.mk (x ++ y) := by
 apply ByteArray.ext
 simp
def digits : ByteArray := ⟨#[48, 49, 50, 51, 52, 53, 54, 55, 56, 57]⟩
theorem digit_at (d : Nat) (h : d < 10) : digits.extract d (d + 1) = ⟨#[UInt8.ofNat (48 + d)]⟩ := by
 apply ByteArray.ext
 rw [ByteArray.data_extract]
 match d, h with
 | 0, _ => decide
 | 1, _ => decide
 | 2, _ => decide
 | 3, _ => decide
 | 4, _ => decide
 | 5, _ => decide
 | 6, _ => decide
 | 7, _ => decide
 | 8, _ => decide
 | 9, _ => decide
theorem itoa_nat (u : Nat) : Lib.itoa (u : Int) = Lib.decDigits u := by unfold Lib.itoa; rw [if_neg (by omega)]; simp
theorem num_neg {u : Nat} (h : 1 ≤ u) : num (-(u : Int)) = ⟨#[45]⟩ ++ num u := by
 have e : Lib.itoa (-(u : Int)) = 45 :: Lib.decDigits u := by unfold Lib.itoa; rw [if_pos (by omega)]; simp
 unfold num
 rw [e, itoa_nat, ba_add]
 simp
theorem num_one {u : Nat} (h : u < 10) : num u = digits.extract u (u + 1) := by
 rw [digit_at u h]
 unfold num
 rw [itoa_nat, Lib.decDigits, dif_pos h]
theorem num_more {u : Nat} (h : ¬ u < 10) : num u = num ((u / 10 : Nat) : Int) ++ digits.extract (u % 10) (u % 10 + 1) := by
 rw [digit_at (u % 10) (by omega)]
 unfold num
 rw [itoa_nat, itoa_nat, Lib.decDigits, dif_neg h, ba_add]
 simp

end Go.Lv
end
