/-
  A part of the proof: texts put together by a program of the prover. Conditions: none.
-/
import Derived.Test.YtfnlgojocgdmcaaZAlarmsLaw3
import Derived.Test.YtfnlgojocgdmcaaProg
import Derived.KernelRfl
set_option linter.unusedSimpArgs false
set_option linter.unusedVariables false
section
namespace Go.Proofs
open Go.Lv

theorem Try.mixed : Try.prog.follows .mixedOrders = true := by kernel_rfl
@[go_sem] theorem Try.tsz1 : tszOf Try.prog 1 = some (1, false) := by kernel_rfl
@[go_sem] theorem Try.udef1 : (Try.prog.underlying 1).isSome = true := by kernel_rfl
@[go_sem] theorem Try.zero1 : zeroOf Try.prog 1 = some [.lit ((Go.Value.nilFunc))] := by kernel_rfl
@[go_sem] theorem Try.tsz2 : tszOf Try.prog 2 = some (1, false) := by kernel_rfl
@[go_sem] theorem Try.udef2 : (Try.prog.underlying 2).isSome = true := by kernel_rfl
@[go_sem] theorem Try.zero2 : zeroOf Try.prog 2 = some [.int .i64 0] := by kernel_rfl
@[go_sem] theorem Try.isInt2 : isIntT Try.prog 2 = some .i64 := by kernel_rfl
@[go_sem] theorem Try.tsz3 : tszOf Try.prog 3 = some (1, false) := by kernel_rfl
@[go_sem] theorem Try.udef3 : (Try.prog.underlying 3).isSome = true := by kernel_rfl
@[go_sem] theorem Try.zero3 : zeroOf Try.prog 3 = some [.int .i64 0] := by kernel_rfl
@[go_sem] theorem Try.isInt3 : isIntT Try.prog 3 = some .i64 := by kernel_rfl
@[go_sem] theorem Try.tsz4 : tszOf Try.prog 4 = some (1, false) := by kernel_rfl
@[go_sem] theorem Try.udef4 : (Try.prog.underlying 4).isSome = true := by kernel_rfl
@[go_sem] theorem Try.zero4 : zeroOf Try.prog 4 = some [.bool false] := by kernel_rfl
@[go_sem] theorem Try.isBool4 : isBoolT Try.prog 4 = true := by kernel_rfl
@[go_sem] theorem Try.tsz5 : tszOf Try.prog 5 = some (1, false) := by kernel_rfl
theorem Try.cz5 : Try.prog.cellsOf 5 = 1 := by kernel_rfl
@[go_sem] theorem Try.udef5 : (Try.prog.underlying 5).isSome = true := by kernel_rfl
@[go_sem] theorem Try.zero5 : zeroOf Try.prog 5 = some [.int .u8 0] := by kernel_rfl
@[go_sem] theorem Try.isInt5 : isIntT Try.prog 5 = some .u8 := by kernel_rfl
@[go_sem] theorem Try.tsz6 : tszOf Try.prog 6 = some (1, false) := by kernel_rfl
@[go_sem] theorem Try.udef6 : (Try.prog.underlying 6).isSome = true := by kernel_rfl
@[go_sem] theorem Try.zero6 : zeroOf Try.prog 6 = some [.int .u8 0] := by kernel_rfl
@[go_sem] theorem Try.isInt6 : isIntT Try.prog 6 = some .u8 := by kernel_rfl
@[go_sem] theorem Try.tsz7 : tszOf Try.prog 7 = some (4, true) := by kernel_rfl
@[go_sem] theorem Try.udef7 : (Try.prog.underlying 7).isSome = true := by kernel_rfl
@[go_sem] theorem Try.zero7 : zeroOf Try.prog 7 = some [.int .i64 0, .int .i64 0, .bool false, .int .u8 0] := by kernel_rfl
@[go_sem] theorem Try.pl7 : plOf Try.prog 7 = some [(0, 1), (1, 1), (2, 1), (3, 1)] := by kernel_rfl
@[go_sem] theorem Try.tsz8 : tszOf Try.prog 8 = some (4, true) := by kernel_rfl
@[go_sem] theorem Try.udef8 : (Try.prog.underlying 8).isSome = true := by kernel_rfl
@[go_sem] theorem Try.zero8 : zeroOf Try.prog 8 = some [.int .i64 0, .int .i64 0, .bool false, .int .u8 0] := by kernel_rfl
@[go_sem] theorem Try.pl8 : plOf Try.prog 8 = some [(0, 1), (1, 1), (2, 1), (3, 1)] := by kernel_rfl
@[go_sem] theorem Try.tsz9 : tszOf Try.prog 9 = some (1, false) := by kernel_rfl
@[go_sem] theorem Try.udef9 : (Try.prog.underlying 9).isSome = true := by kernel_rfl
@[go_sem] theorem Try.zero9 : zeroOf Try.prog 9 = some [.str ByteArray.empty] := by kernel_rfl
@[go_sem] theorem Try.isU8S9 : isU8S Try.prog 9 = false := by kernel_rfl
@[go_sem] theorem Try.isIntN9 : isIntT Try.prog 9 = none := by kernel_rfl
@[go_sem] theorem Try.isStr9 : isStr Try.prog 9 = true := by kernel_rfl
@[go_sem] theorem Try.tsz10 : tszOf Try.prog 10 = some (1, false) := by kernel_rfl
@[go_sem] theorem Try.udef10 : (Try.prog.underlying 10).isSome = true := by kernel_rfl
@[go_sem] theorem Try.zero10 : zeroOf Try.prog 10 = some [.str ByteArray.empty] := by kernel_rfl
@[go_sem] theorem Try.isU8S10 : isU8S Try.prog 10 = false := by kernel_rfl
@[go_sem] theorem Try.isIntN10 : isIntT Try.prog 10 = none := by kernel_rfl
@[go_sem] theorem Try.isStr10 : isStr Try.prog 10 = true := by kernel_rfl
@[go_sem] theorem Try.tsz11 : tszOf Try.prog 11 = some (1, false) := by kernel_rfl
@[go_sem] theorem Try.udef11 : (Try.prog.underlying 11).isSome = true := by kernel_rfl
@[go_sem] theorem Try.zero11 : zeroOf Try.prog 11 = some [.str ByteArray.empty] := by kernel_rfl
@[go_sem] theorem Try.isU8S11 : isU8S Try.prog 11 = false := by kernel_rfl
@[go_sem] theorem Try.isIntN11 : isIntT Try.prog 11 = none := by kernel_rfl
@[go_sem] theorem Try.isStr11 : isStr Try.prog 11 = true := by kernel_rfl
@[go_sem] theorem Try.tsz12 : tszOf Try.prog 12 = some (1, false) := by kernel_rfl
@[go_sem] theorem Try.udef12 : (Try.prog.underlying 12).isSome = true := by kernel_rfl
@[go_sem] theorem Try.zero12 : zeroOf Try.prog 12 = some [.int .u64 0] := by kernel_rfl
@[go_sem] theorem Try.isInt12 : isIntT Try.prog 12 = some .u64 := by kernel_rfl
@[go_sem] theorem Try.tsz13 : tszOf Try.prog 13 = some (2, true) := by kernel_rfl
@[go_sem] theorem Try.udef13 : (Try.prog.underlying 13).isSome = true := by kernel_rfl
@[go_sem] theorem Try.zero13 : zeroOf Try.prog 13 = some [.str ByteArray.empty, .int .u64 0] := by kernel_rfl
@[go_sem] theorem Try.pl13 : plOf Try.prog 13 = some [(0, 1), (1, 1)] := by kernel_rfl
@[go_sem] theorem Try.tsz14 : tszOf Try.prog 14 = some (2, true) := by kernel_rfl
@[go_sem] theorem Try.udef14 : (Try.prog.underlying 14).isSome = true := by kernel_rfl
@[go_sem] theorem Try.zero14 : zeroOf Try.prog 14 = some [.str ByteArray.empty, .int .u64 0] := by kernel_rfl
@[go_sem] theorem Try.pl14 : plOf Try.prog 14 = some [(0, 1), (1, 1)] := by kernel_rfl
@[go_sem] theorem Try.tsz15 : tszOf Try.prog 15 = some (1, false) := by kernel_rfl
@[go_sem] theorem Try.udef15 : (Try.prog.underlying 15).isSome = true := by kernel_rfl
@[go_sem] theorem Try.zero15 : zeroOf Try.prog 15 = some [.lit ((Go.Value.pointer none))] := by kernel_rfl
@[go_sem] theorem Try.tsz16 : tszOf Try.prog 16 = some (1, false) := by kernel_rfl
@[go_sem] theorem Try.udef16 : (Try.prog.underlying 16).isSome = true := by kernel_rfl
@[go_sem] theorem Try.zero16 : zeroOf Try.prog 16 = some [.lit ((Go.Value.pointer none))] := by kernel_rfl
@[go_sem] theorem Try.tsz17 : tszOf Try.prog 17 = some (1, false) := by kernel_rfl
@[go_sem] theorem Try.udef17 : (Try.prog.underlying 17).isSome = true := by kernel_rfl
@[go_sem] theorem Try.zero17 : zeroOf Try.prog 17 = some [.lit ((Go.Value.pointer none))] := by kernel_rfl
@[go_sem] theorem Try.tsz18 : tszOf Try.prog 18 = some (1, true) := by kernel_rfl
@[go_sem] theorem Try.udef18 : (Try.prog.underlying 18).isSome = true := by kernel_rfl
@[go_sem] theorem Try.zero18 : zeroOf Try.prog 18 = some [.lit ((Go.Value.pointer none))] := by kernel_rfl
@[go_sem] theorem Try.pl18 : plOf Try.prog 18 = some [(0, 1)] := by kernel_rfl
@[go_sem] theorem Try.tsz19 : tszOf Try.prog 19 = some (1, true) := by kernel_rfl
@[go_sem] theorem Try.udef19 : (Try.prog.underlying 19).isSome = true := by kernel_rfl
@[go_sem] theorem Try.zero19 : zeroOf Try.prog 19 = some [.lit ((Go.Value.pointer none))] := by kernel_rfl
@[go_sem] theorem Try.pl19 : plOf Try.prog 19 = some [(0, 1)] := by kernel_rfl
@[go_sem] theorem Try.tsz20 : tszOf Try.prog 20 = some (1, false) := by kernel_rfl
@[go_sem] theorem Try.udef20 : (Try.prog.underlying 20).isSome = true := by kernel_rfl
@[go_sem] theorem Try.zero20 : zeroOf Try.prog 20 = some [.lit ((Go.Value.nilIface))] := by kernel_rfl
@[go_sem] theorem Try.tsz21 : tszOf Try.prog 21 = some (1, false) := by kernel_rfl
@[go_sem] theorem Try.udef21 : (Try.prog.underlying 21).isSome = true := by kernel_rfl
@[go_sem] theorem Try.zero21 : zeroOf Try.prog 21 = some [.int .i32 0] := by kernel_rfl
@[go_sem] theorem Try.isInt21 : isIntT Try.prog 21 = some .i32 := by kernel_rfl
@[go_sem] theorem Try.tsz22 : tszOf Try.prog 22 = some (1, false) := by kernel_rfl
@[go_sem] theorem Try.udef22 : (Try.prog.underlying 22).isSome = true := by kernel_rfl
@[go_sem] theorem Try.zero22 : zeroOf Try.prog 22 = some [.nilsl] := by kernel_rfl
@[go_sem] theorem Try.el22 : elOf Try.prog 22 = some (110, 5, 40) := by kernel_rfl
@[go_sem] theorem Try.isSl22 : isSl Try.prog 22 = true := by kernel_rfl
@[go_sem] theorem Try.tsz23 : tszOf Try.prog 23 = some (1, false) := by kernel_rfl
@[go_sem] theorem Try.udef23 : (Try.prog.underlying 23).isSome = true := by kernel_rfl
@[go_sem] theorem Try.zero23 : zeroOf Try.prog 23 = some [.lit ((Go.Value.nilFunc))] := by kernel_rfl
@[go_sem] theorem Try.tsz24 : tszOf Try.prog 24 = some (1, false) := by kernel_rfl
@[go_sem] theorem Try.udef24 : (Try.prog.underlying 24).isSome = true := by kernel_rfl
@[go_sem] theorem Try.zero24 : zeroOf Try.prog 24 = some [.nilsl] := by kernel_rfl
@[go_sem] theorem Try.el24 : elOf Try.prog 24 = some (55, 1, 24) := by kernel_rfl
@[go_sem] theorem Try.isSl24 : isSl Try.prog 24 = true := by kernel_rfl
@[go_sem] theorem Try.tsz26 : tszOf Try.prog 26 = some (1, false) := by kernel_rfl
@[go_sem] theorem Try.udef26 : (Try.prog.underlying 26).isSome = true := by kernel_rfl
@[go_sem] theorem Try.zero26 : zeroOf Try.prog 26 = some [.lit ((Go.Value.nilFunc))] := by kernel_rfl
@[go_sem] theorem Try.tsz27 : tszOf Try.prog 27 = some (1, false) := by kernel_rfl
@[go_sem] theorem Try.udef27 : (Try.prog.underlying 27).isSome = true := by kernel_rfl
@[go_sem] theorem Try.zero27 : zeroOf Try.prog 27 = some [.nilsl] := by kernel_rfl
@[go_sem] theorem Try.el27 : elOf Try.prog 27 = some (108, 5, 40) := by kernel_rfl
@[go_sem] theorem Try.isSl27 : isSl Try.prog 27 = true := by kernel_rfl
@[go_sem] theorem Try.tsz28 : tszOf Try.prog 28 = some (1, false) := by kernel_rfl
@[go_sem] theorem Try.udef28 : (Try.prog.underlying 28).isSome = true := by kernel_rfl
@[go_sem] theorem Try.zero28 : zeroOf Try.prog 28 = some [.lit ((Go.Value.nilFunc))] := by kernel_rfl
@[go_sem] theorem Try.tsz29 : tszOf Try.prog 29 = some (1, false) := by kernel_rfl
@[go_sem] theorem Try.udef29 : (Try.prog.underlying 29).isSome = true := by kernel_rfl
@[go_sem] theorem Try.zero29 : zeroOf Try.prog 29 = some [.lit ((Go.Value.nilFunc))] := by kernel_rfl
@[go_sem] theorem Try.tsz30 : tszOf Try.prog 30 = some (1, false) := by kernel_rfl
@[go_sem] theorem Try.udef30 : (Try.prog.underlying 30).isSome = true := by kernel_rfl
@[go_sem] theorem Try.zero30 : zeroOf Try.prog 30 = some [.lit ((Go.Value.nilFunc))] := by kernel_rfl
@[go_sem] theorem Try.tsz31 : tszOf Try.prog 31 = some (1, false) := by kernel_rfl
@[go_sem] theorem Try.udef31 : (Try.prog.underlying 31).isSome = true := by kernel_rfl
@[go_sem] theorem Try.zero31 : zeroOf Try.prog 31 = some [.lit ((Go.Value.nilFunc))] := by kernel_rfl
@[go_sem] theorem Try.tsz32 : tszOf Try.prog 32 = some (1, false) := by kernel_rfl
@[go_sem] theorem Try.udef32 : (Try.prog.underlying 32).isSome = true := by kernel_rfl
@[go_sem] theorem Try.zero32 : zeroOf Try.prog 32 = some [.lit ((Go.Value.nilFunc))] := by kernel_rfl
@[go_sem] theorem Try.tsz33 : tszOf Try.prog 33 = some (1, false) := by kernel_rfl
@[go_sem] theorem Try.udef33 : (Try.prog.underlying 33).isSome = true := by kernel_rfl
@[go_sem] theorem Try.zero33 : zeroOf Try.prog 33 = some [.lit ((Go.Value.nilFunc))] := by kernel_rfl
@[go_sem] theorem Try.tsz34 : tszOf Try.prog 34 = some (1, false) := by kernel_rfl
@[go_sem] theorem Try.udef34 : (Try.prog.underlying 34).isSome = true := by kernel_rfl
@[go_sem] theorem Try.zero34 : zeroOf Try.prog 34 = some [.nilsl] := by kernel_rfl
@[go_sem] theorem Try.el34 : elOf Try.prog 34 = some (5, 1, 1) := by kernel_rfl
@[go_sem] theorem Try.isSl34 : isSl Try.prog 34 = true := by kernel_rfl
@[go_sem] theorem Try.isU8S34 : isU8S Try.prog 34 = true := by kernel_rfl
@[go_sem] theorem Try.tsz35 : tszOf Try.prog 35 = some (1, false) := by kernel_rfl
@[go_sem] theorem Try.udef35 : (Try.prog.underlying 35).isSome = true := by kernel_rfl
@[go_sem] theorem Try.zero35 : zeroOf Try.prog 35 = some [.lit ((Go.Value.nilFunc))] := by kernel_rfl
@[go_sem] theorem Try.tsz36 : tszOf Try.prog 36 = some (1, false) := by kernel_rfl
@[go_sem] theorem Try.udef36 : (Try.prog.underlying 36).isSome = true := by kernel_rfl
@[go_sem] theorem Try.zero36 : zeroOf Try.prog 36 = some [.nilsl] := by kernel_rfl
@[go_sem] theorem Try.el36 : elOf Try.prog 36 = some (125, 3, 24) := by kernel_rfl
@[go_sem] theorem Try.isSl36 : isSl Try.prog 36 = true := by kernel_rfl
@[go_sem] theorem Try.tsz37 : tszOf Try.prog 37 = some (1, false) := by kernel_rfl
@[go_sem] theorem Try.udef37 : (Try.prog.underlying 37).isSome = true := by kernel_rfl
@[go_sem] theorem Try.zero37 : zeroOf Try.prog 37 = some [.nilsl] := by kernel_rfl
@[go_sem] theorem Try.el37 : elOf Try.prog 37 = some (49, 5, 40) := by kernel_rfl
@[go_sem] theorem Try.isSl37 : isSl Try.prog 37 = true := by kernel_rfl
@[go_sem] theorem Try.tsz38 : tszOf Try.prog 38 = some (5, true) := by kernel_rfl
@[go_sem] theorem Try.udef38 : (Try.prog.underlying 38).isSome = true := by kernel_rfl
@[go_sem] theorem Try.zero38 : zeroOf Try.prog 38 = some [.int .i64 0, .nilsl, .nilsl, .int .i64 0, .int .i64 0] := by kernel_rfl
@[go_sem] theorem Try.pl38 : plOf Try.prog 38 = some [(0, 1), (1, 1), (2, 1), (3, 1), (4, 1)] := by kernel_rfl
@[go_sem] theorem Try.tsz39 : tszOf Try.prog 39 = some (5, true) := by kernel_rfl
@[go_sem] theorem Try.udef39 : (Try.prog.underlying 39).isSome = true := by kernel_rfl
@[go_sem] theorem Try.zero39 : zeroOf Try.prog 39 = some [.int .i64 0, .nilsl, .nilsl, .int .i64 0, .int .i64 0] := by kernel_rfl
@[go_sem] theorem Try.pl39 : plOf Try.prog 39 = some [(0, 1), (1, 1), (2, 1), (3, 1), (4, 1)] := by kernel_rfl
@[go_sem] theorem Try.fd39_0 : fdOf Try.prog 39 0 = some (0, 1, false) := by kernel_rfl
@[go_sem] theorem Try.fd39_1 : fdOf Try.prog 39 1 = some (1, 1, false) := by kernel_rfl
@[go_sem] theorem Try.fd39_2 : fdOf Try.prog 39 2 = some (2, 1, false) := by kernel_rfl
@[go_sem] theorem Try.fd39_3 : fdOf Try.prog 39 3 = some (3, 1, false) := by kernel_rfl
@[go_sem] theorem Try.fd39_4 : fdOf Try.prog 39 4 = some (4, 1, false) := by kernel_rfl
@[go_sem] theorem Try.tsz40 : tszOf Try.prog 40 = some (3, true) := by kernel_rfl
@[go_sem] theorem Try.udef40 : (Try.prog.underlying 40).isSome = true := by kernel_rfl
@[go_sem] theorem Try.zero40 : zeroOf Try.prog 40 = some [.int .i64 0, .int .i64 0, .int .i64 0] := by kernel_rfl
@[go_sem] theorem Try.pl40 : plOf Try.prog 40 = some [(0, 1), (1, 1), (2, 1)] := by kernel_rfl
@[go_sem] theorem Try.tsz41 : tszOf Try.prog 41 = some (3, true) := by kernel_rfl
@[go_sem] theorem Try.udef41 : (Try.prog.underlying 41).isSome = true := by kernel_rfl
@[go_sem] theorem Try.zero41 : zeroOf Try.prog 41 = some [.int .i64 0, .int .i64 0, .int .i64 0] := by kernel_rfl
@[go_sem] theorem Try.flatEq41 : flatEq Try.prog 41 = some [.int .i64, .int .i64, .int .i64] := by kernel_rfl
@[go_sem] theorem Try.pl41 : plOf Try.prog 41 = some [(0, 1), (1, 1), (2, 1)] := by kernel_rfl
@[go_sem] theorem Try.fd41_0 : fdOf Try.prog 41 0 = some (0, 1, false) := by kernel_rfl
@[go_sem] theorem Try.fd41_1 : fdOf Try.prog 41 1 = some (1, 1, false) := by kernel_rfl
@[go_sem] theorem Try.fd41_2 : fdOf Try.prog 41 2 = some (2, 1, false) := by kernel_rfl
@[go_sem] theorem Try.tsz43 : tszOf Try.prog 43 = some (1, false) := by kernel_rfl
@[go_sem] theorem Try.udef43 : (Try.prog.underlying 43).isSome = true := by kernel_rfl
@[go_sem] theorem Try.zero43 : zeroOf Try.prog 43 = some [.lit ((Go.Value.nilFunc))] := by kernel_rfl
@[go_sem] theorem Try.tsz45 : tszOf Try.prog 45 = some (1, false) := by kernel_rfl
@[go_sem] theorem Try.udef45 : (Try.prog.underlying 45).isSome = true := by kernel_rfl
@[go_sem] theorem Try.zero45 : zeroOf Try.prog 45 = some [.lit ((Go.Value.nilFunc))] := by kernel_rfl
@[go_sem] theorem Try.tsz46 : tszOf Try.prog 46 = some (1, false) := by kernel_rfl
@[go_sem] theorem Try.udef46 : (Try.prog.underlying 46).isSome = true := by kernel_rfl
@[go_sem] theorem Try.zero46 : zeroOf Try.prog 46 = some [.lit ((Go.Value.nilFunc))] := by kernel_rfl
@[go_sem] theorem Try.tsz47 : tszOf Try.prog 47 = some (1, false) := by kernel_rfl
@[go_sem] theorem Try.udef47 : (Try.prog.underlying 47).isSome = true := by kernel_rfl
@[go_sem] theorem Try.zero47 : zeroOf Try.prog 47 = some [.lit ((Go.Value.nilFunc))] := by kernel_rfl
@[go_sem] theorem Try.tsz48 : tszOf Try.prog 48 = some (5, true) := by kernel_rfl
@[go_sem] theorem Try.udef48 : (Try.prog.underlying 48).isSome = true := by kernel_rfl
@[go_sem] theorem Try.zero48 : zeroOf Try.prog 48 = some [.int .i64 0, .int .i64 0, .int .i64 0, .int .i64 0, .int .i64 0] := by kernel_rfl
@[go_sem] theorem Try.pl48 : plOf Try.prog 48 = some [(0, 1), (1, 1), (2, 1), (3, 1), (4, 1)] := by kernel_rfl
@[go_sem] theorem Try.tsz49 : tszOf Try.prog 49 = some (5, true) := by kernel_rfl
@[go_sem] theorem Try.udef49 : (Try.prog.underlying 49).isSome = true := by kernel_rfl
@[go_sem] theorem Try.zero49 : zeroOf Try.prog 49 = some [.int .i64 0, .int .i64 0, .int .i64 0, .int .i64 0, .int .i64 0] := by kernel_rfl
@[go_sem] theorem Try.flatEq49 : flatEq Try.prog 49 = some [.int .i64, .int .i64, .int .i64, .int .i64, .int .i64] := by kernel_rfl
@[go_sem] theorem Try.pl49 : plOf Try.prog 49 = some [(0, 1), (1, 1), (2, 1), (3, 1), (4, 1)] := by kernel_rfl
@[go_sem] theorem Try.fd49_0 : fdOf Try.prog 49 0 = some (0, 1, false) := by kernel_rfl
@[go_sem] theorem Try.fd49_1 : fdOf Try.prog 49 1 = some (1, 1, false) := by kernel_rfl
@[go_sem] theorem Try.fd49_2 : fdOf Try.prog 49 2 = some (2, 1, false) := by kernel_rfl
@[go_sem] theorem Try.fd49_3 : fdOf Try.prog 49 3 = some (3, 1, false) := by kernel_rfl
@[go_sem] theorem Try.fd49_4 : fdOf Try.prog 49 4 = some (4, 1, false) := by kernel_rfl
@[go_sem] theorem Try.tsz50 : tszOf Try.prog 50 = some (1, false) := by kernel_rfl
@[go_sem] theorem Try.udef50 : (Try.prog.underlying 50).isSome = true := by kernel_rfl
@[go_sem] theorem Try.zero50 : zeroOf Try.prog 50 = some [.nilsl] := by kernel_rfl
@[go_sem] theorem Try.el50 : elOf Try.prog 50 = some (41, 3, 24) := by kernel_rfl
@[go_sem] theorem Try.isSl50 : isSl Try.prog 50 = true := by kernel_rfl
@[go_sem] theorem Try.tsz52 : tszOf Try.prog 52 = some (1, false) := by kernel_rfl
@[go_sem] theorem Try.udef52 : (Try.prog.underlying 52).isSome = true := by kernel_rfl
@[go_sem] theorem Try.zero52 : zeroOf Try.prog 52 = some [.lit ((Go.Value.nilFunc))] := by kernel_rfl
@[go_sem] theorem Try.tsz54 : tszOf Try.prog 54 = some (1, false) := by kernel_rfl
@[go_sem] theorem Try.udef54 : (Try.prog.underlying 54).isSome = true := by kernel_rfl
@[go_sem] theorem Try.zero54 : zeroOf Try.prog 54 = some [.lit ((Go.Value.nilFunc))] := by kernel_rfl
@[go_sem] theorem Try.tsz55 : tszOf Try.prog 55 = some (1, false) := by kernel_rfl
@[go_sem] theorem Try.udef55 : (Try.prog.underlying 55).isSome = true := by kernel_rfl
@[go_sem] theorem Try.zero55 : zeroOf Try.prog 55 = some [.nilsl] := by kernel_rfl
@[go_sem] theorem Try.el55 : elOf Try.prog 55 = some (3, 1, 8) := by kernel_rfl
@[go_sem] theorem Try.isSl55 : isSl Try.prog 55 = true := by kernel_rfl
@[go_sem] theorem Try.tsz56 : tszOf Try.prog 56 = some (1, false) := by kernel_rfl
@[go_sem] theorem Try.udef56 : (Try.prog.underlying 56).isSome = true := by kernel_rfl
@[go_sem] theorem Try.zero56 : zeroOf Try.prog 56 = some [.lit ((Go.Value.nilFunc))] := by kernel_rfl
@[go_sem] theorem Try.tsz57 : tszOf Try.prog 57 = some (1, false) := by kernel_rfl
@[go_sem] theorem Try.udef57 : (Try.prog.underlying 57).isSome = true := by kernel_rfl
@[go_sem] theorem Try.zero57 : zeroOf Try.prog 57 = some [.lit ((Go.Value.nilFunc))] := by kernel_rfl
@[go_sem] theorem Try.tsz58 : tszOf Try.prog 58 = some (1, false) := by kernel_rfl
@[go_sem] theorem Try.udef58 : (Try.prog.underlying 58).isSome = true := by kernel_rfl
@[go_sem] theorem Try.zero58 : zeroOf Try.prog 58 = some [.nilsl] := by kernel_rfl
@[go_sem] theorem Try.el58 : elOf Try.prog 58 = some (65, 7, 56) := by kernel_rfl
@[go_sem] theorem Try.isSl58 : isSl Try.prog 58 = true := by kernel_rfl
@[go_sem] theorem Try.tsz60 : tszOf Try.prog 60 = some (1, false) := by kernel_rfl
@[go_sem] theorem Try.udef60 : (Try.prog.underlying 60).isSome = true := by kernel_rfl
@[go_sem] theorem Try.zero60 : zeroOf Try.prog 60 = some [.lit ((Go.Value.nilFunc))] := by kernel_rfl
@[go_sem] theorem Try.tsz62 : tszOf Try.prog 62 = some (1, false) := by kernel_rfl
@[go_sem] theorem Try.udef62 : (Try.prog.underlying 62).isSome = true := by kernel_rfl
@[go_sem] theorem Try.zero62 : zeroOf Try.prog 62 = some [.lit ((Go.Value.nilFunc))] := by kernel_rfl
@[go_sem] theorem Try.tsz63 : tszOf Try.prog 63 = some (1, false) := by kernel_rfl
@[go_sem] theorem Try.udef63 : (Try.prog.underlying 63).isSome = true := by kernel_rfl
@[go_sem] theorem Try.zero63 : zeroOf Try.prog 63 = some [.lit ((Go.Value.nilFunc))] := by kernel_rfl
@[go_sem] theorem Try.tsz64 : tszOf Try.prog 64 = some (7, true) := by kernel_rfl
@[go_sem] theorem Try.udef64 : (Try.prog.underlying 64).isSome = true := by kernel_rfl
@[go_sem] theorem Try.zero64 : zeroOf Try.prog 64 = some [.int .i64 0, .int .i64 0, .int .i64 0, .int .i64 0, .int .i64 0, .int .i64 0, .int .i64 0] := by kernel_rfl
@[go_sem] theorem Try.pl64 : plOf Try.prog 64 = some [(0, 1), (1, 1), (2, 1), (3, 1), (4, 1), (5, 1), (6, 1)] := by kernel_rfl
@[go_sem] theorem Try.tsz65 : tszOf Try.prog 65 = some (7, true) := by kernel_rfl
@[go_sem] theorem Try.udef65 : (Try.prog.underlying 65).isSome = true := by kernel_rfl
@[go_sem] theorem Try.zero65 : zeroOf Try.prog 65 = some [.int .i64 0, .int .i64 0, .int .i64 0, .int .i64 0, .int .i64 0, .int .i64 0, .int .i64 0] := by kernel_rfl
@[go_sem] theorem Try.flatEq65 : flatEq Try.prog 65 = some [.int .i64, .int .i64, .int .i64, .int .i64, .int .i64, .int .i64, .int .i64] := by kernel_rfl
@[go_sem] theorem Try.pl65 : plOf Try.prog 65 = some [(0, 1), (1, 1), (2, 1), (3, 1), (4, 1), (5, 1), (6, 1)] := by kernel_rfl
@[go_sem] theorem Try.fd65_0 : fdOf Try.prog 65 0 = some (0, 1, false) := by kernel_rfl
@[go_sem] theorem Try.fd65_1 : fdOf Try.prog 65 1 = some (1, 1, false) := by kernel_rfl
@[go_sem] theorem Try.fd65_2 : fdOf Try.prog 65 2 = some (2, 1, false) := by kernel_rfl
@[go_sem] theorem Try.fd65_3 : fdOf Try.prog 65 3 = some (3, 1, false) := by kernel_rfl
@[go_sem] theorem Try.fd65_4 : fdOf Try.prog 65 4 = some (4, 1, false) := by kernel_rfl
@[go_sem] theorem Try.fd65_5 : fdOf Try.prog 65 5 = some (5, 1, false) := by kernel_rfl
@[go_sem] theorem Try.fd65_6 : fdOf Try.prog 65 6 = some (6, 1, false) := by kernel_rfl
@[go_sem] theorem Try.tsz67 : tszOf Try.prog 67 = some (1, false) := by kernel_rfl
@[go_sem] theorem Try.udef67 : (Try.prog.underlying 67).isSome = true := by kernel_rfl
@[go_sem] theorem Try.zero67 : zeroOf Try.prog 67 = some [.lit ((Go.Value.nilFunc))] := by kernel_rfl
@[go_sem] theorem Try.tsz69 : tszOf Try.prog 69 = some (1, false) := by kernel_rfl
@[go_sem] theorem Try.udef69 : (Try.prog.underlying 69).isSome = true := by kernel_rfl
@[go_sem] theorem Try.zero69 : zeroOf Try.prog 69 = some [.lit ((Go.Value.nilFunc))] := by kernel_rfl
@[go_sem] theorem Try.tsz70 : tszOf Try.prog 70 = some (1, false) := by kernel_rfl
@[go_sem] theorem Try.udef70 : (Try.prog.underlying 70).isSome = true := by kernel_rfl
@[go_sem] theorem Try.zero70 : zeroOf Try.prog 70 = some [.lit ((Go.Value.nilFunc))] := by kernel_rfl
@[go_sem] theorem Try.tsz71 : tszOf Try.prog 71 = some (1, false) := by kernel_rfl
@[go_sem] theorem Try.udef71 : (Try.prog.underlying 71).isSome = true := by kernel_rfl
@[go_sem] theorem Try.zero71 : zeroOf Try.prog 71 = some [.lit ((Go.Value.nilFunc))] := by kernel_rfl
@[go_sem] theorem Try.tsz73 : tszOf Try.prog 73 = some (1, false) := by kernel_rfl
@[go_sem] theorem Try.udef73 : (Try.prog.underlying 73).isSome = true := by kernel_rfl
@[go_sem] theorem Try.zero73 : zeroOf Try.prog 73 = some [.lit ((Go.Value.nilFunc))] := by kernel_rfl
@[go_sem] theorem Try.tsz75 : tszOf Try.prog 75 = some (1, false) := by kernel_rfl
@[go_sem] theorem Try.udef75 : (Try.prog.underlying 75).isSome = true := by kernel_rfl
@[go_sem] theorem Try.zero75 : zeroOf Try.prog 75 = some [.lit ((Go.Value.nilFunc))] := by kernel_rfl
@[go_sem] theorem Try.tsz77 : tszOf Try.prog 77 = some (1, false) := by kernel_rfl
@[go_sem] theorem Try.udef77 : (Try.prog.underlying 77).isSome = true := by kernel_rfl
@[go_sem] theorem Try.zero77 : zeroOf Try.prog 77 = some [.lit ((Go.Value.nilFunc))] := by kernel_rfl
@[go_sem] theorem Try.tsz78 : tszOf Try.prog 78 = some (1, false) := by kernel_rfl
@[go_sem] theorem Try.udef78 : (Try.prog.underlying 78).isSome = true := by kernel_rfl
@[go_sem] theorem Try.zero78 : zeroOf Try.prog 78 = some [.lit ((Go.Value.nilFunc))] := by kernel_rfl
@[go_sem] theorem Try.tsz80 : tszOf Try.prog 80 = some (1, false) := by kernel_rfl
@[go_sem] theorem Try.udef80 : (Try.prog.underlying 80).isSome = true := by kernel_rfl
@[go_sem] theorem Try.zero80 : zeroOf Try.prog 80 = some [.lit ((Go.Value.nilFunc))] := by kernel_rfl
@[go_sem] theorem Try.tsz81 : tszOf Try.prog 81 = some (1, false) := by kernel_rfl
@[go_sem] theorem Try.udef81 : (Try.prog.underlying 81).isSome = true := by kernel_rfl
@[go_sem] theorem Try.zero81 : zeroOf Try.prog 81 = some [.lit ((Go.Value.nilFunc))] := by kernel_rfl
@[go_sem] theorem Try.tsz82 : tszOf Try.prog 82 = some (1, false) := by kernel_rfl
@[go_sem] theorem Try.udef82 : (Try.prog.underlying 82).isSome = true := by kernel_rfl
@[go_sem] theorem Try.zero82 : zeroOf Try.prog 82 = some [.nilsl] := by kernel_rfl
@[go_sem] theorem Try.el82 : elOf Try.prog 82 = some (97, 2, 16) := by kernel_rfl
@[go_sem] theorem Try.isSl82 : isSl Try.prog 82 = true := by kernel_rfl
@[go_sem] theorem Try.tsz83 : tszOf Try.prog 83 = some (5, true) := by kernel_rfl
@[go_sem] theorem Try.udef83 : (Try.prog.underlying 83).isSome = true := by kernel_rfl
@[go_sem] theorem Try.zero83 : zeroOf Try.prog 83 = some [.int .i64 0, .int .i64 0, .nilsl, .int .i64 0, .int .i64 0] := by kernel_rfl
@[go_sem] theorem Try.pl83 : plOf Try.prog 83 = some [(0, 1), (1, 1), (2, 1), (3, 1), (4, 1)] := by kernel_rfl
@[go_sem] theorem Try.tsz84 : tszOf Try.prog 84 = some (5, true) := by kernel_rfl
@[go_sem] theorem Try.udef84 : (Try.prog.underlying 84).isSome = true := by kernel_rfl
@[go_sem] theorem Try.zero84 : zeroOf Try.prog 84 = some [.int .i64 0, .int .i64 0, .nilsl, .int .i64 0, .int .i64 0] := by kernel_rfl
@[go_sem] theorem Try.pl84 : plOf Try.prog 84 = some [(0, 1), (1, 1), (2, 1), (3, 1), (4, 1)] := by kernel_rfl
@[go_sem] theorem Try.fd84_0 : fdOf Try.prog 84 0 = some (0, 1, false) := by kernel_rfl
@[go_sem] theorem Try.fd84_1 : fdOf Try.prog 84 1 = some (1, 1, false) := by kernel_rfl
@[go_sem] theorem Try.fd84_2 : fdOf Try.prog 84 2 = some (2, 1, false) := by kernel_rfl
@[go_sem] theorem Try.fd84_3 : fdOf Try.prog 84 3 = some (3, 1, false) := by kernel_rfl
@[go_sem] theorem Try.fd84_4 : fdOf Try.prog 84 4 = some (4, 1, false) := by kernel_rfl
@[go_sem] theorem Try.tsz85 : tszOf Try.prog 85 = some (2, true) := by kernel_rfl
@[go_sem] theorem Try.udef85 : (Try.prog.underlying 85).isSome = true := by kernel_rfl
@[go_sem] theorem Try.zero85 : zeroOf Try.prog 85 = some [.int .i64 0, .int .i64 0] := by kernel_rfl
@[go_sem] theorem Try.pl85 : plOf Try.prog 85 = some [(0, 1), (1, 1)] := by kernel_rfl
@[go_sem] theorem Try.tsz86 : tszOf Try.prog 86 = some (2, true) := by kernel_rfl
@[go_sem] theorem Try.udef86 : (Try.prog.underlying 86).isSome = true := by kernel_rfl
@[go_sem] theorem Try.zero86 : zeroOf Try.prog 86 = some [.int .i64 0, .int .i64 0] := by kernel_rfl
@[go_sem] theorem Try.flatEq86 : flatEq Try.prog 86 = some [.int .i64, .int .i64] := by kernel_rfl
@[go_sem] theorem Try.pl86 : plOf Try.prog 86 = some [(0, 1), (1, 1)] := by kernel_rfl
@[go_sem] theorem Try.fd86_0 : fdOf Try.prog 86 0 = some (0, 1, false) := by kernel_rfl
@[go_sem] theorem Try.fd86_1 : fdOf Try.prog 86 1 = some (1, 1, false) := by kernel_rfl
@[go_sem] theorem Try.tsz88 : tszOf Try.prog 88 = some (1, false) := by kernel_rfl
@[go_sem] theorem Try.udef88 : (Try.prog.underlying 88).isSome = true := by kernel_rfl
@[go_sem] theorem Try.zero88 : zeroOf Try.prog 88 = some [.lit ((Go.Value.nilFunc))] := by kernel_rfl
@[go_sem] theorem Try.tsz90 : tszOf Try.prog 90 = some (1, false) := by kernel_rfl
@[go_sem] theorem Try.udef90 : (Try.prog.underlying 90).isSome = true := by kernel_rfl
@[go_sem] theorem Try.zero90 : zeroOf Try.prog 90 = some [.lit ((Go.Value.nilFunc))] := by kernel_rfl
@[go_sem] theorem Try.tsz91 : tszOf Try.prog 91 = some (1, false) := by kernel_rfl
@[go_sem] theorem Try.udef91 : (Try.prog.underlying 91).isSome = true := by kernel_rfl
@[go_sem] theorem Try.zero91 : zeroOf Try.prog 91 = some [.lit ((Go.Value.nilFunc))] := by kernel_rfl
@[go_sem] theorem Try.tsz92 : tszOf Try.prog 92 = some (1, false) := by kernel_rfl
@[go_sem] theorem Try.udef92 : (Try.prog.underlying 92).isSome = true := by kernel_rfl
@[go_sem] theorem Try.zero92 : zeroOf Try.prog 92 = some [.lit ((Go.Value.nilFunc))] := by kernel_rfl
@[go_sem] theorem Try.tsz93 : tszOf Try.prog 93 = some (1, false) := by kernel_rfl
@[go_sem] theorem Try.udef93 : (Try.prog.underlying 93).isSome = true := by kernel_rfl
@[go_sem] theorem Try.zero93 : zeroOf Try.prog 93 = some [.lit ((Go.Value.nilFunc))] := by kernel_rfl
@[go_sem] theorem Try.tsz95 : tszOf Try.prog 95 = some (1, false) := by kernel_rfl
@[go_sem] theorem Try.udef95 : (Try.prog.underlying 95).isSome = true := by kernel_rfl
@[go_sem] theorem Try.zero95 : zeroOf Try.prog 95 = some [.lit ((Go.Value.nilFunc))] := by kernel_rfl
@[go_sem] theorem Try.tsz96 : tszOf Try.prog 96 = some (2, true) := by kernel_rfl
@[go_sem] theorem Try.udef96 : (Try.prog.underlying 96).isSome = true := by kernel_rfl
@[go_sem] theorem Try.zero96 : zeroOf Try.prog 96 = some [.int .i64 0, .int .i64 0] := by kernel_rfl
@[go_sem] theorem Try.pl96 : plOf Try.prog 96 = some [(0, 1), (1, 1)] := by kernel_rfl
@[go_sem] theorem Try.tsz97 : tszOf Try.prog 97 = some (2, true) := by kernel_rfl
@[go_sem] theorem Try.udef97 : (Try.prog.underlying 97).isSome = true := by kernel_rfl
@[go_sem] theorem Try.zero97 : zeroOf Try.prog 97 = some [.int .i64 0, .int .i64 0] := by kernel_rfl
@[go_sem] theorem Try.flatEq97 : flatEq Try.prog 97 = some [.int .i64, .int .i64] := by kernel_rfl
@[go_sem] theorem Try.pl97 : plOf Try.prog 97 = some [(0, 1), (1, 1)] := by kernel_rfl
@[go_sem] theorem Try.fd97_0 : fdOf Try.prog 97 0 = some (0, 1, false) := by kernel_rfl
@[go_sem] theorem Try.fd97_1 : fdOf Try.prog 97 1 = some (1, 1, false) := by kernel_rfl
@[go_sem] theorem Try.tsz98 : tszOf Try.prog 98 = some (1, false) := by kernel_rfl
@[go_sem] theorem Try.udef98 : (Try.prog.underlying 98).isSome = true := by kernel_rfl
@[go_sem] theorem Try.zero98 : zeroOf Try.prog 98 = some [.nilsl] := by kernel_rfl
@[go_sem] theorem Try.el98 : elOf Try.prog 98 = some (86, 2, 16) := by kernel_rfl
@[go_sem] theorem Try.isSl98 : isSl Try.prog 98 = true := by kernel_rfl
@[go_sem] theorem Try.tsz100 : tszOf Try.prog 100 = some (1, false) := by kernel_rfl
@[go_sem] theorem Try.udef100 : (Try.prog.underlying 100).isSome = true := by kernel_rfl
@[go_sem] theorem Try.zero100 : zeroOf Try.prog 100 = some [.lit ((Go.Value.nilFunc))] := by kernel_rfl
@[go_sem] theorem Try.tsz102 : tszOf Try.prog 102 = some (1, false) := by kernel_rfl
@[go_sem] theorem Try.udef102 : (Try.prog.underlying 102).isSome = true := by kernel_rfl
@[go_sem] theorem Try.zero102 : zeroOf Try.prog 102 = some [.lit ((Go.Value.nilFunc))] := by kernel_rfl
@[go_sem] theorem Try.tsz103 : tszOf Try.prog 103 = some (1, false) := by kernel_rfl
@[go_sem] theorem Try.udef103 : (Try.prog.underlying 103).isSome = true := by kernel_rfl
@[go_sem] theorem Try.zero103 : zeroOf Try.prog 103 = some [.lit ((Go.Value.nilFunc))] := by kernel_rfl
@[go_sem] theorem Try.tsz104 : tszOf Try.prog 104 = some (1, false) := by kernel_rfl
@[go_sem] theorem Try.udef104 : (Try.prog.underlying 104).isSome = true := by kernel_rfl
@[go_sem] theorem Try.zero104 : zeroOf Try.prog 104 = some [.lit ((Go.Value.nilFunc))] := by kernel_rfl
@[go_sem] theorem Try.tsz105 : tszOf Try.prog 105 = some (1, false) := by kernel_rfl
@[go_sem] theorem Try.udef105 : (Try.prog.underlying 105).isSome = true := by kernel_rfl
@[go_sem] theorem Try.zero105 : zeroOf Try.prog 105 = some [.lit ((Go.Value.nilFunc))] := by kernel_rfl
@[go_sem] theorem Try.tsz106 : tszOf Try.prog 106 = some (1, false) := by kernel_rfl
@[go_sem] theorem Try.udef106 : (Try.prog.underlying 106).isSome = true := by kernel_rfl
@[go_sem] theorem Try.zero106 : zeroOf Try.prog 106 = some [.lit ((Go.Value.nilFunc))] := by kernel_rfl
@[go_sem] theorem Try.tsz107 : tszOf Try.prog 107 = some (5, true) := by kernel_rfl
@[go_sem] theorem Try.udef107 : (Try.prog.underlying 107).isSome = true := by kernel_rfl
@[go_sem] theorem Try.zero107 : zeroOf Try.prog 107 = some [.int .i64 0, .int .i64 0, .int .i64 0, .int .i64 0, .int .i64 0] := by kernel_rfl
@[go_sem] theorem Try.pl107 : plOf Try.prog 107 = some [(0, 1), (1, 1), (2, 1), (3, 1), (4, 1)] := by kernel_rfl
@[go_sem] theorem Try.tsz108 : tszOf Try.prog 108 = some (5, true) := by kernel_rfl
@[go_sem] theorem Try.udef108 : (Try.prog.underlying 108).isSome = true := by kernel_rfl
@[go_sem] theorem Try.zero108 : zeroOf Try.prog 108 = some [.int .i64 0, .int .i64 0, .int .i64 0, .int .i64 0, .int .i64 0] := by kernel_rfl
@[go_sem] theorem Try.flatEq108 : flatEq Try.prog 108 = some [.int .i64, .int .i64, .int .i64, .int .i64, .int .i64] := by kernel_rfl
@[go_sem] theorem Try.pl108 : plOf Try.prog 108 = some [(0, 1), (1, 1), (2, 1), (3, 1), (4, 1)] := by kernel_rfl
@[go_sem] theorem Try.fd108_0 : fdOf Try.prog 108 0 = some (0, 1, false) := by kernel_rfl
@[go_sem] theorem Try.fd108_1 : fdOf Try.prog 108 1 = some (1, 1, false) := by kernel_rfl
@[go_sem] theorem Try.fd108_2 : fdOf Try.prog 108 2 = some (2, 1, false) := by kernel_rfl
@[go_sem] theorem Try.fd108_3 : fdOf Try.prog 108 3 = some (3, 1, false) := by kernel_rfl
@[go_sem] theorem Try.fd108_4 : fdOf Try.prog 108 4 = some (4, 1, false) := by kernel_rfl
@[go_sem] theorem Try.tsz109 : tszOf Try.prog 109 = some (1, false) := by kernel_rfl
@[go_sem] theorem Try.udef109 : (Try.prog.underlying 109).isSome = true := by kernel_rfl
@[go_sem] theorem Try.zero109 : zeroOf Try.prog 109 = some [.lit ((Go.Value.nilFunc))] := by kernel_rfl
@[go_sem] theorem Try.tsz110 : tszOf Try.prog 110 = some (5, true) := by kernel_rfl
@[go_sem] theorem Try.udef110 : (Try.prog.underlying 110).isSome = true := by kernel_rfl
@[go_sem] theorem Try.zero110 : zeroOf Try.prog 110 = some [.int .i64 0, .int .i64 0, .int .i64 0, .int .i64 0, .int .i64 0] := by kernel_rfl
@[go_sem] theorem Try.flatEq110 : flatEq Try.prog 110 = some [.int .i64, .int .i64, .int .i64, .int .i64, .int .i64] := by kernel_rfl
@[go_sem] theorem Try.pl110 : plOf Try.prog 110 = some [(0, 1), (1, 1), (2, 1), (3, 1), (4, 1)] := by kernel_rfl
@[go_sem] theorem Try.fd110_0 : fdOf Try.prog 110 0 = some (0, 1, false) := by kernel_rfl
@[go_sem] theorem Try.fd110_1 : fdOf Try.prog 110 1 = some (1, 1, false) := by kernel_rfl
@[go_sem] theorem Try.fd110_2 : fdOf Try.prog 110 2 = some (2, 1, false) := by kernel_rfl
@[go_sem] theorem Try.fd110_3 : fdOf Try.prog 110 3 = some (3, 1, false) := by kernel_rfl
@[go_sem] theorem Try.fd110_4 : fdOf Try.prog 110 4 = some (4, 1, false) := by kernel_rfl
@[go_sem] theorem Try.tsz111 : tszOf Try.prog 111 = some (1, false) := by kernel_rfl
@[go_sem] theorem Try.udef111 : (Try.prog.underlying 111).isSome = true := by kernel_rfl
@[go_sem] theorem Try.zero111 : zeroOf Try.prog 111 = some [.lit ((Go.Value.nilFunc))] := by kernel_rfl
@[go_sem] theorem Try.tsz112 : tszOf Try.prog 112 = some (1, false) := by kernel_rfl
@[go_sem] theorem Try.udef112 : (Try.prog.underlying 112).isSome = true := by kernel_rfl
@[go_sem] theorem Try.zero112 : zeroOf Try.prog 112 = some [.lit ((Go.Value.nilFunc))] := by kernel_rfl
@[go_sem] theorem Try.tsz113 : tszOf Try.prog 113 = some (1, false) := by kernel_rfl
@[go_sem] theorem Try.udef113 : (Try.prog.underlying 113).isSome = true := by kernel_rfl
@[go_sem] theorem Try.zero113 : zeroOf Try.prog 113 = some [.lit ((Go.Value.pointer none))] := by kernel_rfl
@[go_sem] theorem Try.tsz114 : tszOf Try.prog 114 = some (1, false) := by kernel_rfl
@[go_sem] theorem Try.udef114 : (Try.prog.underlying 114).isSome = true := by kernel_rfl
@[go_sem] theorem Try.zero114 : zeroOf Try.prog 114 = some [.int .u64 0] := by kernel_rfl
@[go_sem] theorem Try.isInt114 : isIntT Try.prog 114 = some .u64 := by kernel_rfl
@[go_sem] theorem Try.tsz115 : tszOf Try.prog 115 = some (3, true) := by kernel_rfl
@[go_sem] theorem Try.udef115 : (Try.prog.underlying 115).isSome = true := by kernel_rfl
@[go_sem] theorem Try.zero115 : zeroOf Try.prog 115 = some [.nilsl, .int .i64 0, .int .u64 0] := by kernel_rfl
@[go_sem] theorem Try.pl115 : plOf Try.prog 115 = some [(0, 1), (1, 1), (2, 1)] := by kernel_rfl
@[go_sem] theorem Try.tsz116 : tszOf Try.prog 116 = some (3, true) := by kernel_rfl
@[go_sem] theorem Try.udef116 : (Try.prog.underlying 116).isSome = true := by kernel_rfl
@[go_sem] theorem Try.zero116 : zeroOf Try.prog 116 = some [.nilsl, .int .i64 0, .int .u64 0] := by kernel_rfl
@[go_sem] theorem Try.pl116 : plOf Try.prog 116 = some [(0, 1), (1, 1), (2, 1)] := by kernel_rfl
@[go_sem] theorem Try.fd116_0 : fdOf Try.prog 116 0 = some (0, 1, false) := by kernel_rfl
@[go_sem] theorem Try.fd116_1 : fdOf Try.prog 116 1 = some (1, 1, false) := by kernel_rfl
@[go_sem] theorem Try.fd116_2 : fdOf Try.prog 116 2 = some (2, 1, false) := by kernel_rfl
@[go_sem] theorem Try.tsz117 : tszOf Try.prog 117 = some (1, false) := by kernel_rfl
@[go_sem] theorem Try.udef117 : (Try.prog.underlying 117).isSome = true := by kernel_rfl
@[go_sem] theorem Try.zero117 : zeroOf Try.prog 117 = some [.lit ((Go.Value.nilFunc))] := by kernel_rfl
@[go_sem] theorem Try.tsz118 : tszOf Try.prog 118 = some (1, false) := by kernel_rfl
@[go_sem] theorem Try.udef118 : (Try.prog.underlying 118).isSome = true := by kernel_rfl
@[go_sem] theorem Try.zero118 : zeroOf Try.prog 118 = some [.lit ((Go.Value.nilFunc))] := by kernel_rfl
@[go_sem] theorem Try.tsz119 : tszOf Try.prog 119 = some (1, false) := by kernel_rfl
@[go_sem] theorem Try.udef119 : (Try.prog.underlying 119).isSome = true := by kernel_rfl
@[go_sem] theorem Try.zero119 : zeroOf Try.prog 119 = some [.lit ((Go.Value.nilFunc))] := by kernel_rfl
@[go_sem] theorem Try.tsz120 : tszOf Try.prog 120 = some (1, false) := by kernel_rfl
@[go_sem] theorem Try.udef120 : (Try.prog.underlying 120).isSome = true := by kernel_rfl
@[go_sem] theorem Try.zero120 : zeroOf Try.prog 120 = some [.lit ((Go.Value.nilFunc))] := by kernel_rfl
@[go_sem] theorem Try.tsz121 : tszOf Try.prog 121 = some (1, false) := by kernel_rfl
@[go_sem] theorem Try.udef121 : (Try.prog.underlying 121).isSome = true := by kernel_rfl
@[go_sem] theorem Try.zero121 : zeroOf Try.prog 121 = some [.lit ((Go.Value.nilFunc))] := by kernel_rfl
@[go_sem] theorem Try.tsz122 : tszOf Try.prog 122 = some (1, false) := by kernel_rfl
@[go_sem] theorem Try.udef122 : (Try.prog.underlying 122).isSome = true := by kernel_rfl
@[go_sem] theorem Try.zero122 : zeroOf Try.prog 122 = some [.lit ((Go.Value.nilFunc))] := by kernel_rfl
@[go_sem] theorem Try.tsz123 : tszOf Try.prog 123 = some (1, false) := by kernel_rfl
@[go_sem] theorem Try.udef123 : (Try.prog.underlying 123).isSome = true := by kernel_rfl
@[go_sem] theorem Try.zero123 : zeroOf Try.prog 123 = some [.lit ((Go.Value.nilFunc))] := by kernel_rfl
@[go_sem] theorem Try.tsz124 : tszOf Try.prog 124 = some (3, true) := by kernel_rfl
@[go_sem] theorem Try.udef124 : (Try.prog.underlying 124).isSome = true := by kernel_rfl
@[go_sem] theorem Try.zero124 : zeroOf Try.prog 124 = some [.int .i64 0, .bool false, .int .i64 0] := by kernel_rfl
@[go_sem] theorem Try.pl124 : plOf Try.prog 124 = some [(0, 1), (1, 1), (2, 1)] := by kernel_rfl
@[go_sem] theorem Try.tsz125 : tszOf Try.prog 125 = some (3, true) := by kernel_rfl
@[go_sem] theorem Try.udef125 : (Try.prog.underlying 125).isSome = true := by kernel_rfl
@[go_sem] theorem Try.zero125 : zeroOf Try.prog 125 = some [.int .i64 0, .bool false, .int .i64 0] := by kernel_rfl
@[go_sem] theorem Try.flatEq125 : flatEq Try.prog 125 = some [.int .i64, .bool, .int .i64] := by kernel_rfl
@[go_sem] theorem Try.pl125 : plOf Try.prog 125 = some [(0, 1), (1, 1), (2, 1)] := by kernel_rfl
@[go_sem] theorem Try.fd125_0 : fdOf Try.prog 125 0 = some (0, 1, false) := by kernel_rfl
@[go_sem] theorem Try.fd125_1 : fdOf Try.prog 125 1 = some (1, 1, false) := by kernel_rfl
@[go_sem] theorem Try.fd125_2 : fdOf Try.prog 125 2 = some (2, 1, false) := by kernel_rfl
@[go_sem] theorem Try.tsz126 : tszOf Try.prog 126 = some (1, false) := by kernel_rfl
@[go_sem] theorem Try.udef126 : (Try.prog.underlying 126).isSome = true := by kernel_rfl
@[go_sem] theorem Try.zero126 : zeroOf Try.prog 126 = some [.lit ((Go.Value.nilFunc))] := by kernel_rfl
@[go_sem] theorem Try.tsz127 : tszOf Try.prog 127 = some (1, false) := by kernel_rfl
@[go_sem] theorem Try.udef127 : (Try.prog.underlying 127).isSome = true := by kernel_rfl
@[go_sem] theorem Try.zero127 : zeroOf Try.prog 127 = some [.lit ((Go.Value.nilFunc))] := by kernel_rfl
@[go_sem] theorem Try.tsz128 : tszOf Try.prog 128 = some (1, false) := by kernel_rfl
@[go_sem] theorem Try.udef128 : (Try.prog.underlying 128).isSome = true := by kernel_rfl
@[go_sem] theorem Try.zero128 : zeroOf Try.prog 128 = some [.lit ((Go.Value.nilFunc))] := by kernel_rfl
@[go_sem] theorem Try.tsz129 : tszOf Try.prog 129 = some (1, false) := by kernel_rfl
@[go_sem] theorem Try.udef129 : (Try.prog.underlying 129).isSome = true := by kernel_rfl
@[go_sem] theorem Try.zero129 : zeroOf Try.prog 129 = some [.lit ((Go.Value.nilFunc))] := by kernel_rfl
@[go_sem] theorem Try.tsz130 : tszOf Try.prog 130 = some (1, false) := by kernel_rfl
@[go_sem] theorem Try.udef130 : (Try.prog.underlying 130).isSome = true := by kernel_rfl
@[go_sem] theorem Try.zero130 : zeroOf Try.prog 130 = some [.lit ((Go.Value.nilFunc))] := by kernel_rfl
@[go_sem] theorem Try.tsz131 : tszOf Try.prog 131 = some (1, false) := by kernel_rfl
@[go_sem] theorem Try.udef131 : (Try.prog.underlying 131).isSome = true := by kernel_rfl
@[go_sem] theorem Try.zero131 : zeroOf Try.prog 131 = some [.lit ((Go.Value.nilFunc))] := by kernel_rfl
@[go_sem] theorem Try.tsz132 : tszOf Try.prog 132 = some (1, false) := by kernel_rfl
@[go_sem] theorem Try.udef132 : (Try.prog.underlying 132).isSome = true := by kernel_rfl
@[go_sem] theorem Try.zero132 : zeroOf Try.prog 132 = some [.lit ((Go.Value.nilFunc))] := by kernel_rfl
@[go_sem] theorem Try.tsz133 : tszOf Try.prog 133 = some (1, false) := by kernel_rfl
@[go_sem] theorem Try.udef133 : (Try.prog.underlying 133).isSome = true := by kernel_rfl
@[go_sem] theorem Try.zero133 : zeroOf Try.prog 133 = some [.lit ((Go.Value.nilFunc))] := by kernel_rfl
@[go_sem] theorem Try.tsz134 : tszOf Try.prog 134 = some (1, false) := by kernel_rfl
@[go_sem] theorem Try.udef134 : (Try.prog.underlying 134).isSome = true := by kernel_rfl
@[go_sem] theorem Try.zero134 : zeroOf Try.prog 134 = some [.lit ((Go.Value.nilFunc))] := by kernel_rfl
@[go_sem] theorem Try.tsz135 : tszOf Try.prog 135 = some (1, false) := by kernel_rfl
@[go_sem] theorem Try.udef135 : (Try.prog.underlying 135).isSome = true := by kernel_rfl
@[go_sem] theorem Try.zero135 : zeroOf Try.prog 135 = some [.lit ((Go.Value.nilFunc))] := by kernel_rfl
@[go_sem] theorem Try.tsz136 : tszOf Try.prog 136 = some (1, false) := by kernel_rfl
@[go_sem] theorem Try.udef136 : (Try.prog.underlying 136).isSome = true := by kernel_rfl
@[go_sem] theorem Try.zero136 : zeroOf Try.prog 136 = some [.lit ((Go.Value.nilFunc))] := by kernel_rfl
@[go_sem] theorem Try.tsz137 : tszOf Try.prog 137 = some (1, false) := by kernel_rfl
@[go_sem] theorem Try.udef137 : (Try.prog.underlying 137).isSome = true := by kernel_rfl
@[go_sem] theorem Try.zero137 : zeroOf Try.prog 137 = some [.lit ((Go.Value.nilFunc))] := by kernel_rfl
@[go_sem] theorem Try.tsz138 : tszOf Try.prog 138 = some (1, false) := by kernel_rfl
@[go_sem] theorem Try.udef138 : (Try.prog.underlying 138).isSome = true := by kernel_rfl
@[go_sem] theorem Try.zero138 : zeroOf Try.prog 138 = some [.lit ((Go.Value.nilFunc))] := by kernel_rfl
@[go_sem] theorem Try.tsz139 : tszOf Try.prog 139 = some (1, false) := by kernel_rfl
@[go_sem] theorem Try.udef139 : (Try.prog.underlying 139).isSome = true := by kernel_rfl
@[go_sem] theorem Try.zero139 : zeroOf Try.prog 139 = some [.lit ((Go.Value.nilFunc))] := by kernel_rfl
@[go_sem] theorem Try.tsz140 : tszOf Try.prog 140 = some (1, false) := by kernel_rfl
@[go_sem] theorem Try.udef140 : (Try.prog.underlying 140).isSome = true := by kernel_rfl
@[go_sem] theorem Try.zero140 : zeroOf Try.prog 140 = some [.lit ((Go.Value.nilFunc))] := by kernel_rfl
@[go_sem] theorem Try.tsz141 : tszOf Try.prog 141 = some (1, false) := by kernel_rfl
@[go_sem] theorem Try.udef141 : (Try.prog.underlying 141).isSome = true := by kernel_rfl
@[go_sem] theorem Try.zero141 : zeroOf Try.prog 141 = some [.lit ((Go.Value.nilFunc))] := by kernel_rfl
@[go_sem] theorem Try.tsz142 : tszOf Try.prog 142 = some (1, false) := by kernel_rfl
@[go_sem] theorem Try.udef142 : (Try.prog.underlying 142).isSome = true := by kernel_rfl
@[go_sem] theorem Try.zero142 : zeroOf Try.prog 142 = some [.lit ((Go.Value.nilFunc))] := by kernel_rfl
@[go_sem] theorem Try.tsz143 : tszOf Try.prog 143 = some (1, false) := by kernel_rfl
@[go_sem] theorem Try.udef143 : (Try.prog.underlying 143).isSome = true := by kernel_rfl
@[go_sem] theorem Try.zero143 : zeroOf Try.prog 143 = some [.lit ((Go.Value.nilFunc))] := by kernel_rfl
@[go_sem] theorem Try.tsz144 : tszOf Try.prog 144 = some (1, false) := by kernel_rfl
@[go_sem] theorem Try.udef144 : (Try.prog.underlying 144).isSome = true := by kernel_rfl
@[go_sem] theorem Try.zero144 : zeroOf Try.prog 144 = some [.lit ((Go.Value.nilFunc))] := by kernel_rfl
@[go_sem] theorem Try.tsz145 : tszOf Try.prog 145 = some (1, false) := by kernel_rfl
@[go_sem] theorem Try.udef145 : (Try.prog.underlying 145).isSome = true := by kernel_rfl
@[go_sem] theorem Try.zero145 : zeroOf Try.prog 145 = some [.lit ((Go.Value.nilFunc))] := by kernel_rfl
@[go_sem] theorem Try.tsz146 : tszOf Try.prog 146 = some (1, false) := by kernel_rfl
@[go_sem] theorem Try.udef146 : (Try.prog.underlying 146).isSome = true := by kernel_rfl
@[go_sem] theorem Try.zero146 : zeroOf Try.prog 146 = some [.lit ((Go.Value.nilFunc))] := by kernel_rfl
@[go_sem] theorem Try.tsz147 : tszOf Try.prog 147 = some (1, false) := by kernel_rfl
@[go_sem] theorem Try.udef147 : (Try.prog.underlying 147).isSome = true := by kernel_rfl
@[go_sem] theorem Try.zero147 : zeroOf Try.prog 147 = some [.lit ((Go.Value.nilFunc))] := by kernel_rfl
@[go_sem] theorem Try.tsz149 : tszOf Try.prog 149 = some (1, false) := by kernel_rfl
@[go_sem] theorem Try.udef149 : (Try.prog.underlying 149).isSome = true := by kernel_rfl
@[go_sem] theorem Try.zero149 : zeroOf Try.prog 149 = some [.lit ((Go.Value.nilFunc))] := by kernel_rfl
@[go_sem] theorem Try.tsz150 : tszOf Try.prog 150 = some (1, false) := by kernel_rfl
@[go_sem] theorem Try.udef150 : (Try.prog.underlying 150).isSome = true := by kernel_rfl
@[go_sem] theorem Try.zero150 : zeroOf Try.prog 150 = some [.lit ((Go.Value.nilFunc))] := by kernel_rfl
@[go_sem] theorem Try.tsz151 : tszOf Try.prog 151 = some (1, false) := by kernel_rfl
@[go_sem] theorem Try.udef151 : (Try.prog.underlying 151).isSome = true := by kernel_rfl
@[go_sem] theorem Try.zero151 : zeroOf Try.prog 151 = some [.lit ((Go.Value.nilFunc))] := by kernel_rfl
@[go_sem] theorem Try.tsz152 : tszOf Try.prog 152 = some (1, false) := by kernel_rfl
@[go_sem] theorem Try.udef152 : (Try.prog.underlying 152).isSome = true := by kernel_rfl
@[go_sem] theorem Try.zero152 : zeroOf Try.prog 152 = some [.lit ((Go.Value.nilFunc))] := by kernel_rfl
@[go_sem] theorem Try.tsz153 : tszOf Try.prog 153 = some (1, false) := by kernel_rfl
@[go_sem] theorem Try.udef153 : (Try.prog.underlying 153).isSome = true := by kernel_rfl
@[go_sem] theorem Try.zero153 : zeroOf Try.prog 153 = some [.lit ((Go.Value.nilFunc))] := by kernel_rfl
@[go_sem] theorem Try.tsz154 : tszOf Try.prog 154 = some (1, false) := by kernel_rfl
@[go_sem] theorem Try.udef154 : (Try.prog.underlying 154).isSome = true := by kernel_rfl
@[go_sem] theorem Try.zero154 : zeroOf Try.prog 154 = some [.lit ((Go.Value.nilFunc))] := by kernel_rfl
@[go_sem] theorem Try.tsz155 : tszOf Try.prog 155 = some (1, false) := by kernel_rfl
@[go_sem] theorem Try.udef155 : (Try.prog.underlying 155).isSome = true := by kernel_rfl
@[go_sem] theorem Try.zero155 : zeroOf Try.prog 155 = some [.lit ((Go.Value.nilFunc))] := by kernel_rfl
@[go_sem] theorem Try.tsz156 : tszOf Try.prog 156 = some (1, false) := by kernel_rfl
@[go_sem] theorem Try.udef156 : (Try.prog.underlying 156).isSome = true := by kernel_rfl
@[go_sem] theorem Try.zero156 : zeroOf Try.prog 156 = some [.lit ((Go.Value.nilFunc))] := by kernel_rfl
@[go_sem] theorem Try.tsz157 : tszOf Try.prog 157 = some (1, false) := by kernel_rfl
@[go_sem] theorem Try.udef157 : (Try.prog.underlying 157).isSome = true := by kernel_rfl
@[go_sem] theorem Try.zero157 : zeroOf Try.prog 157 = some [.lit ((Go.Value.nilFunc))] := by kernel_rfl
@[go_sem] theorem Try.tsz158 : tszOf Try.prog 158 = some (1, false) := by kernel_rfl
@[go_sem] theorem Try.udef158 : (Try.prog.underlying 158).isSome = true := by kernel_rfl
@[go_sem] theorem Try.zero158 : zeroOf Try.prog 158 = some [.lit ((Go.Value.nilFunc))] := by kernel_rfl
@[go_sem] theorem Try.tsz159 : tszOf Try.prog 159 = some (1, false) := by kernel_rfl
@[go_sem] theorem Try.udef159 : (Try.prog.underlying 159).isSome = true := by kernel_rfl
@[go_sem] theorem Try.zero159 : zeroOf Try.prog 159 = some [.lit ((Go.Value.nilFunc))] := by kernel_rfl
@[go_sem] theorem Try.tsz160 : tszOf Try.prog 160 = some (1, false) := by kernel_rfl
@[go_sem] theorem Try.udef160 : (Try.prog.underlying 160).isSome = true := by kernel_rfl
@[go_sem] theorem Try.zero160 : zeroOf Try.prog 160 = some [.lit ((Go.Value.nilFunc))] := by kernel_rfl
@[go_sem] theorem Try.tsz161 : tszOf Try.prog 161 = some (1, false) := by kernel_rfl
@[go_sem] theorem Try.udef161 : (Try.prog.underlying 161).isSome = true := by kernel_rfl
@[go_sem] theorem Try.zero161 : zeroOf Try.prog 161 = some [.lit ((Go.Value.nilFunc))] := by kernel_rfl
@[go_sem] theorem Try.tsz162 : tszOf Try.prog 162 = some (1, false) := by kernel_rfl
@[go_sem] theorem Try.udef162 : (Try.prog.underlying 162).isSome = true := by kernel_rfl
@[go_sem] theorem Try.zero162 : zeroOf Try.prog 162 = some [.lit ((Go.Value.nilFunc))] := by kernel_rfl
@[go_sem] theorem Try.tsz163 : tszOf Try.prog 163 = some (1, false) := by kernel_rfl
@[go_sem] theorem Try.udef163 : (Try.prog.underlying 163).isSome = true := by kernel_rfl
@[go_sem] theorem Try.zero163 : zeroOf Try.prog 163 = some [.lit ((Go.Value.nilFunc))] := by kernel_rfl
@[go_sem] theorem Try.tsz164 : tszOf Try.prog 164 = some (1, false) := by kernel_rfl
@[go_sem] theorem Try.udef164 : (Try.prog.underlying 164).isSome = true := by kernel_rfl
@[go_sem] theorem Try.zero164 : zeroOf Try.prog 164 = some [.lit ((Go.Value.nilFunc))] := by kernel_rfl
@[go_sem] theorem Try.tsz165 : tszOf Try.prog 165 = some (1, false) := by kernel_rfl
@[go_sem] theorem Try.udef165 : (Try.prog.underlying 165).isSome = true := by kernel_rfl
@[go_sem] theorem Try.zero165 : zeroOf Try.prog 165 = some [.lit ((Go.Value.nilFunc))] := by kernel_rfl
@[go_sem] theorem Try.tsz166 : tszOf Try.prog 166 = some (1, false) := by kernel_rfl
@[go_sem] theorem Try.udef166 : (Try.prog.underlying 166).isSome = true := by kernel_rfl
@[go_sem] theorem Try.zero166 : zeroOf Try.prog 166 = some [.lit ((Go.Value.nilFunc))] := by kernel_rfl
@[go_sem] theorem Try.tsz167 : tszOf Try.prog 167 = some (1, false) := by kernel_rfl
@[go_sem] theorem Try.udef167 : (Try.prog.underlying 167).isSome = true := by kernel_rfl
@[go_sem] theorem Try.zero167 : zeroOf Try.prog 167 = some [.lit ((Go.Value.nilFunc))] := by kernel_rfl
@[go_sem] theorem Try.tsz168 : tszOf Try.prog 168 = some (1, false) := by kernel_rfl
@[go_sem] theorem Try.udef168 : (Try.prog.underlying 168).isSome = true := by kernel_rfl
@[go_sem] theorem Try.zero168 : zeroOf Try.prog 168 = some [.lit ((Go.Value.nilFunc))] := by kernel_rfl
@[go_sem] theorem Try.tsz169 : tszOf Try.prog 169 = some (1, false) := by kernel_rfl
@[go_sem] theorem Try.udef169 : (Try.prog.underlying 169).isSome = true := by kernel_rfl
@[go_sem] theorem Try.zero169 : zeroOf Try.prog 169 = some [.lit ((Go.Value.nilFunc))] := by kernel_rfl
@[go_sem] theorem Try.tsz170 : tszOf Try.prog 170 = some (1, false) := by kernel_rfl
@[go_sem] theorem Try.udef170 : (Try.prog.underlying 170).isSome = true := by kernel_rfl
@[go_sem] theorem Try.zero170 : zeroOf Try.prog 170 = some [.lit ((Go.Value.nilFunc))] := by kernel_rfl
@[go_sem] theorem Try.tsz171 : tszOf Try.prog 171 = some (1, false) := by kernel_rfl
@[go_sem] theorem Try.udef171 : (Try.prog.underlying 171).isSome = true := by kernel_rfl
@[go_sem] theorem Try.zero171 : zeroOf Try.prog 171 = some [.lit ((Go.Value.nilFunc))] := by kernel_rfl
@[go_sem] theorem Try.tsz172 : tszOf Try.prog 172 = some (1, false) := by kernel_rfl
@[go_sem] theorem Try.udef172 : (Try.prog.underlying 172).isSome = true := by kernel_rfl
@[go_sem] theorem Try.zero172 : zeroOf Try.prog 172 = some [.lit ((Go.Value.nilFunc))] := by kernel_rfl
@[go_sem] theorem Try.tsz173 : tszOf Try.prog 173 = some (1, false) := by kernel_rfl
@[go_sem] theorem Try.udef173 : (Try.prog.underlying 173).isSome = true := by kernel_rfl
@[go_sem] theorem Try.zero173 : zeroOf Try.prog 173 = some [.lit ((Go.Value.nilFunc))] := by kernel_rfl
@[go_sem] theorem Try.tsz174 : tszOf Try.prog 174 = some (1, false) := by kernel_rfl
@[go_sem] theorem Try.udef174 : (Try.prog.underlying 174).isSome = true := by kernel_rfl
@[go_sem] theorem Try.zero174 : zeroOf Try.prog 174 = some [.lit ((Go.Value.nilFunc))] := by kernel_rfl
@[go_sem] theorem Try.tsz175 : tszOf Try.prog 175 = some (1, false) := by kernel_rfl
@[go_sem] theorem Try.udef175 : (Try.prog.underlying 175).isSome = true := by kernel_rfl
@[go_sem] theorem Try.zero175 : zeroOf Try.prog 175 = some [.lit ((Go.Value.nilFunc))] := by kernel_rfl
@[go_sem] theorem Try.tsz176 : tszOf Try.prog 176 = some (1, false) := by kernel_rfl
@[go_sem] theorem Try.udef176 : (Try.prog.underlying 176).isSome = true := by kernel_rfl
@[go_sem] theorem Try.zero176 : zeroOf Try.prog 176 = some [.lit ((Go.Value.nilFunc))] := by kernel_rfl
@[go_sem] theorem Try.tsz178 : tszOf Try.prog 178 = some (1, false) := by kernel_rfl
@[go_sem] theorem Try.udef178 : (Try.prog.underlying 178).isSome = true := by kernel_rfl
@[go_sem] theorem Try.zero178 : zeroOf Try.prog 178 = some [.lit ((Go.Value.nilFunc))] := by kernel_rfl
@[go_sem] theorem Try.tsz179 : tszOf Try.prog 179 = some (1, false) := by kernel_rfl
@[go_sem] theorem Try.udef179 : (Try.prog.underlying 179).isSome = true := by kernel_rfl
@[go_sem] theorem Try.zero179 : zeroOf Try.prog 179 = some [.lit ((Go.Value.nilFunc))] := by kernel_rfl
@[go_sem] theorem Try.tsz180 : tszOf Try.prog 180 = some (1, false) := by kernel_rfl
@[go_sem] theorem Try.udef180 : (Try.prog.underlying 180).isSome = true := by kernel_rfl
@[go_sem] theorem Try.zero180 : zeroOf Try.prog 180 = some [.lit ((Go.Value.nilFunc))] := by kernel_rfl
@[go_sem] theorem Try.tsz181 : tszOf Try.prog 181 = some (1, false) := by kernel_rfl
@[go_sem] theorem Try.udef181 : (Try.prog.underlying 181).isSome = true := by kernel_rfl
@[go_sem] theorem Try.zero181 : zeroOf Try.prog 181 = some [.lit ((Go.Value.nilFunc))] := by kernel_rfl
@[go_sem] theorem Try.tsz182 : tszOf Try.prog 182 = some (1, false) := by kernel_rfl
@[go_sem] theorem Try.udef182 : (Try.prog.underlying 182).isSome = true := by kernel_rfl
@[go_sem] theorem Try.zero182 : zeroOf Try.prog 182 = some [.lit ((Go.Value.nilFunc))] := by kernel_rfl
@[go_sem] theorem Try.tsz183 : tszOf Try.prog 183 = some (1, false) := by kernel_rfl
@[go_sem] theorem Try.udef183 : (Try.prog.underlying 183).isSome = true := by kernel_rfl
@[go_sem] theorem Try.zero183 : zeroOf Try.prog 183 = some [.lit ((Go.Value.nilFunc))] := by kernel_rfl
@[go_sem] theorem Try.tsz184 : tszOf Try.prog 184 = some (1, false) := by kernel_rfl
@[go_sem] theorem Try.udef184 : (Try.prog.underlying 184).isSome = true := by kernel_rfl
@[go_sem] theorem Try.zero184 : zeroOf Try.prog 184 = some [.lit ((Go.Value.nilFunc))] := by kernel_rfl
@[go_sem] theorem Try.tsz185 : tszOf Try.prog 185 = some (1, false) := by kernel_rfl
@[go_sem] theorem Try.udef185 : (Try.prog.underlying 185).isSome = true := by kernel_rfl
@[go_sem] theorem Try.zero185 : zeroOf Try.prog 185 = some [.lit ((Go.Value.nilFunc))] := by kernel_rfl
@[go_sem] theorem Try.tsz186 : tszOf Try.prog 186 = some (1, false) := by kernel_rfl
@[go_sem] theorem Try.udef186 : (Try.prog.underlying 186).isSome = true := by kernel_rfl
@[go_sem] theorem Try.zero186 : zeroOf Try.prog 186 = some [.lit ((Go.Value.nilFunc))] := by kernel_rfl
@[go_sem] theorem Try.tsz187 : tszOf Try.prog 187 = some (1, false) := by kernel_rfl
@[go_sem] theorem Try.udef187 : (Try.prog.underlying 187).isSome = true := by kernel_rfl
@[go_sem] theorem Try.zero187 : zeroOf Try.prog 187 = some [.lit ((Go.Value.nilFunc))] := by kernel_rfl
@[go_sem] theorem Try.tsz188 : tszOf Try.prog 188 = some (1, false) := by kernel_rfl
@[go_sem] theorem Try.udef188 : (Try.prog.underlying 188).isSome = true := by kernel_rfl
@[go_sem] theorem Try.zero188 : zeroOf Try.prog 188 = some [.int .u64 0] := by kernel_rfl
@[go_sem] theorem Try.isInt188 : isIntT Try.prog 188 = some .u64 := by kernel_rfl
@[go_sem] theorem Try.tsz189 : tszOf Try.prog 189 = some (1, false) := by kernel_rfl
@[go_sem] theorem Try.udef189 : (Try.prog.underlying 189).isSome = true := by kernel_rfl
@[go_sem] theorem Try.zero189 : zeroOf Try.prog 189 = some [.lit ((Go.Value.nilFunc))] := by kernel_rfl
@[go_sem] theorem Try.tsz190 : tszOf Try.prog 190 = some (1, false) := by kernel_rfl
@[go_sem] theorem Try.udef190 : (Try.prog.underlying 190).isSome = true := by kernel_rfl
@[go_sem] theorem Try.zero190 : zeroOf Try.prog 190 = some [.lit ((Go.Value.nilFunc))] := by kernel_rfl
@[go_sem] theorem Try.tsz191 : tszOf Try.prog 191 = some (1, false) := by kernel_rfl
@[go_sem] theorem Try.udef191 : (Try.prog.underlying 191).isSome = true := by kernel_rfl
@[go_sem] theorem Try.zero191 : zeroOf Try.prog 191 = some [.lit ((Go.Value.nilFunc))] := by kernel_rfl
@[go_sem] theorem Try.tsz192 : tszOf Try.prog 192 = some (1, false) := by kernel_rfl
@[go_sem] theorem Try.udef192 : (Try.prog.underlying 192).isSome = true := by kernel_rfl
@[go_sem] theorem Try.zero192 : zeroOf Try.prog 192 = some [.lit ((Go.Value.map none))] := by kernel_rfl
@[go_sem] theorem Try.mapOf192 : mapOf Try.prog 192 = some (.int .i64, .bool false) := by kernel_rfl
@[go_sem] theorem Try.tsz193 : tszOf Try.prog 193 = some (1, false) := by kernel_rfl
@[go_sem] theorem Try.udef193 : (Try.prog.underlying 193).isSome = true := by kernel_rfl
@[go_sem] theorem Try.zero193 : zeroOf Try.prog 193 = some [.lit ((Go.Value.nilFunc))] := by kernel_rfl
@[go_sem] theorem Try.tsz194 : tszOf Try.prog 194 = some (1, false) := by kernel_rfl
@[go_sem] theorem Try.udef194 : (Try.prog.underlying 194).isSome = true := by kernel_rfl
@[go_sem] theorem Try.zero194 : zeroOf Try.prog 194 = some [.lit ((Go.Value.nilFunc))] := by kernel_rfl
@[go_sem] theorem Try.tsz195 : tszOf Try.prog 195 = some (1, false) := by kernel_rfl
@[go_sem] theorem Try.udef195 : (Try.prog.underlying 195).isSome = true := by kernel_rfl
@[go_sem] theorem Try.zero195 : zeroOf Try.prog 195 = some [.lit ((Go.Value.nilFunc))] := by kernel_rfl
@[go_sem] theorem Try.tsz196 : tszOf Try.prog 196 = some (1, false) := by kernel_rfl
@[go_sem] theorem Try.udef196 : (Try.prog.underlying 196).isSome = true := by kernel_rfl
@[go_sem] theorem Try.zero196 : zeroOf Try.prog 196 = some [.lit ((Go.Value.nilFunc))] := by kernel_rfl
@[go_sem] theorem Try.tsz197 : tszOf Try.prog 197 = some (1, false) := by kernel_rfl
@[go_sem] theorem Try.udef197 : (Try.prog.underlying 197).isSome = true := by kernel_rfl
@[go_sem] theorem Try.zero197 : zeroOf Try.prog 197 = some [.lit ((Go.Value.nilFunc))] := by kernel_rfl
@[go_sem] theorem Try.tsz198 : tszOf Try.prog 198 = some (1, false) := by kernel_rfl
@[go_sem] theorem Try.udef198 : (Try.prog.underlying 198).isSome = true := by kernel_rfl
@[go_sem] theorem Try.zero198 : zeroOf Try.prog 198 = some [.lit ((Go.Value.pointer none))] := by kernel_rfl
@[go_sem] theorem Try.tsz199 : tszOf Try.prog 199 = some (1, false) := by kernel_rfl
@[go_sem] theorem Try.udef199 : (Try.prog.underlying 199).isSome = true := by kernel_rfl
@[go_sem] theorem Try.zero199 : zeroOf Try.prog 199 = some [.lit ((Go.Value.pointer none))] := by kernel_rfl
@[go_sem] theorem Try.tsz200 : tszOf Try.prog 200 = some (1, false) := by kernel_rfl
@[go_sem] theorem Try.udef200 : (Try.prog.underlying 200).isSome = true := by kernel_rfl
@[go_sem] theorem Try.zero200 : zeroOf Try.prog 200 = some [.lit ((Go.Value.nilFunc))] := by kernel_rfl
@[go_sem] theorem Try.tsz201 : tszOf Try.prog 201 = some (1, false) := by kernel_rfl
@[go_sem] theorem Try.udef201 : (Try.prog.underlying 201).isSome = true := by kernel_rfl
@[go_sem] theorem Try.zero201 : zeroOf Try.prog 201 = some [.lit ((Go.Value.nilFunc))] := by kernel_rfl
@[go_sem] theorem Try.tsz202 : tszOf Try.prog 202 = some (1, false) := by kernel_rfl
@[go_sem] theorem Try.udef202 : (Try.prog.underlying 202).isSome = true := by kernel_rfl
@[go_sem] theorem Try.zero202 : zeroOf Try.prog 202 = some [.lit ((Go.Value.nilFunc))] := by kernel_rfl
@[go_sem] theorem Try.tsz203 : tszOf Try.prog 203 = some (1, false) := by kernel_rfl
@[go_sem] theorem Try.udef203 : (Try.prog.underlying 203).isSome = true := by kernel_rfl
@[go_sem] theorem Try.zero203 : zeroOf Try.prog 203 = some [.lit ((Go.Value.nilFunc))] := by kernel_rfl
@[go_sem] theorem Try.tsz204 : tszOf Try.prog 204 = some (1, false) := by kernel_rfl
@[go_sem] theorem Try.udef204 : (Try.prog.underlying 204).isSome = true := by kernel_rfl
@[go_sem] theorem Try.zero204 : zeroOf Try.prog 204 = some [.int .i64 0] := by kernel_rfl
@[go_sem] theorem Try.isInt204 : isIntT Try.prog 204 = some .i64 := by kernel_rfl
@[go_sem] theorem Try.tsz206 : tszOf Try.prog 206 = some (1, false) := by kernel_rfl
@[go_sem] theorem Try.udef206 : (Try.prog.underlying 206).isSome = true := by kernel_rfl
@[go_sem] theorem Try.zero206 : zeroOf Try.prog 206 = some [.lit ((Go.Value.nilFunc))] := by kernel_rfl
@[go_sem] theorem Try.tsz207 : tszOf Try.prog 207 = some (1, false) := by kernel_rfl
@[go_sem] theorem Try.udef207 : (Try.prog.underlying 207).isSome = true := by kernel_rfl
@[go_sem] theorem Try.zero207 : zeroOf Try.prog 207 = some [.lit ((Go.Value.nilFunc))] := by kernel_rfl
@[go_sem] theorem Try.tsz208 : tszOf Try.prog 208 = some (1, false) := by kernel_rfl
@[go_sem] theorem Try.udef208 : (Try.prog.underlying 208).isSome = true := by kernel_rfl
@[go_sem] theorem Try.zero208 : zeroOf Try.prog 208 = some [.lit ((Go.Value.nilFunc))] := by kernel_rfl
@[go_sem] theorem Try.tsz209 : tszOf Try.prog 209 = some (1, false) := by kernel_rfl
@[go_sem] theorem Try.udef209 : (Try.prog.underlying 209).isSome = true := by kernel_rfl
@[go_sem] theorem Try.zero209 : zeroOf Try.prog 209 = some [.lit ((Go.Value.nilFunc))] := by kernel_rfl
@[go_sem] theorem Try.tsz210 : tszOf Try.prog 210 = some (1, false) := by kernel_rfl
@[go_sem] theorem Try.udef210 : (Try.prog.underlying 210).isSome = true := by kernel_rfl
@[go_sem] theorem Try.zero210 : zeroOf Try.prog 210 = some [.lit ((Go.Value.nilFunc))] := by kernel_rfl
@[go_sem] theorem Try.tsz211 : tszOf Try.prog 211 = some (1, false) := by kernel_rfl
@[go_sem] theorem Try.udef211 : (Try.prog.underlying 211).isSome = true := by kernel_rfl
@[go_sem] theorem Try.zero211 : zeroOf Try.prog 211 = some [.int .u32 0] := by kernel_rfl
@[go_sem] theorem Try.isInt211 : isIntT Try.prog 211 = some .u32 := by kernel_rfl
@[go_sem] theorem Try.tsz212 : tszOf Try.prog 212 = some (1, false) := by kernel_rfl
@[go_sem] theorem Try.udef212 : (Try.prog.underlying 212).isSome = true := by kernel_rfl
@[go_sem] theorem Try.zero212 : zeroOf Try.prog 212 = some [.lit ((Go.Value.nilFunc))] := by kernel_rfl
@[go_sem] theorem Try.tsz213 : tszOf Try.prog 213 = some (1, false) := by kernel_rfl
@[go_sem] theorem Try.udef213 : (Try.prog.underlying 213).isSome = true := by kernel_rfl
@[go_sem] theorem Try.zero213 : zeroOf Try.prog 213 = some [.lit ((Go.Value.pointer none))] := by kernel_rfl
@[go_sem] theorem Try.tsz214 : tszOf Try.prog 214 = some (1, false) := by kernel_rfl
@[go_sem] theorem Try.udef214 : (Try.prog.underlying 214).isSome = true := by kernel_rfl
@[go_sem] theorem Try.zero214 : zeroOf Try.prog 214 = some [.lit ((Go.Value.nilFunc))] := by kernel_rfl
@[go_sem] theorem Try.tsz215 : tszOf Try.prog 215 = some (1, false) := by kernel_rfl
@[go_sem] theorem Try.udef215 : (Try.prog.underlying 215).isSome = true := by kernel_rfl
@[go_sem] theorem Try.zero215 : zeroOf Try.prog 215 = some [.lit ((Go.Value.nilFunc))] := by kernel_rfl
@[go_sem] theorem Try.tsz216 : tszOf Try.prog 216 = some (1, false) := by kernel_rfl
@[go_sem] theorem Try.udef216 : (Try.prog.underlying 216).isSome = true := by kernel_rfl
@[go_sem] theorem Try.zero216 : zeroOf Try.prog 216 = some [.lit ((Go.Value.nilFunc))] := by kernel_rfl
@[go_sem] theorem Try.tsz217 : tszOf Try.prog 217 = some (1, false) := by kernel_rfl
@[go_sem] theorem Try.udef217 : (Try.prog.underlying 217).isSome = true := by kernel_rfl
@[go_sem] theorem Try.zero217 : zeroOf Try.prog 217 = some [.lit ((Go.Value.nilFunc))] := by kernel_rfl
@[go_sem] theorem Try.tsz218 : tszOf Try.prog 218 = some (1, false) := by kernel_rfl
@[go_sem] theorem Try.udef218 : (Try.prog.underlying 218).isSome = true := by kernel_rfl
@[go_sem] theorem Try.zero218 : zeroOf Try.prog 218 = some [.lit ((Go.Value.nilFunc))] := by kernel_rfl
@[go_sem] theorem Try.tsz219 : tszOf Try.prog 219 = some (1, false) := by kernel_rfl
@[go_sem] theorem Try.udef219 : (Try.prog.underlying 219).isSome = true := by kernel_rfl
@[go_sem] theorem Try.zero219 : zeroOf Try.prog 219 = some [.int .u64 0] := by kernel_rfl
@[go_sem] theorem Try.isInt219 : isIntT Try.prog 219 = some .u64 := by kernel_rfl
@[go_sem] theorem Try.tsz220 : tszOf Try.prog 220 = some (1, false) := by kernel_rfl
@[go_sem] theorem Try.udef220 : (Try.prog.underlying 220).isSome = true := by kernel_rfl
@[go_sem] theorem Try.zero220 : zeroOf Try.prog 220 = some [.lit ((Go.Value.nilFunc))] := by kernel_rfl
@[go_sem] theorem Try.tsz221 : tszOf Try.prog 221 = some (1, false) := by kernel_rfl
@[go_sem] theorem Try.udef221 : (Try.prog.underlying 221).isSome = true := by kernel_rfl
@[go_sem] theorem Try.zero221 : zeroOf Try.prog 221 = some [.lit ((Go.Value.nilFunc))] := by kernel_rfl
@[go_sem] theorem Try.tsz222 : tszOf Try.prog 222 = some (1, false) := by kernel_rfl
@[go_sem] theorem Try.udef222 : (Try.prog.underlying 222).isSome = true := by kernel_rfl
@[go_sem] theorem Try.zero222 : zeroOf Try.prog 222 = some [.lit ((Go.Value.nilFunc))] := by kernel_rfl
@[go_sem] theorem Try.tsz223 : tszOf Try.prog 223 = some (1, false) := by kernel_rfl
@[go_sem] theorem Try.udef223 : (Try.prog.underlying 223).isSome = true := by kernel_rfl
@[go_sem] theorem Try.zero223 : zeroOf Try.prog 223 = some [.lit ((Go.Value.pointer none))] := by kernel_rfl
@[go_sem] theorem Try.tsz224 : tszOf Try.prog 224 = some (1, false) := by kernel_rfl
@[go_sem] theorem Try.udef224 : (Try.prog.underlying 224).isSome = true := by kernel_rfl
@[go_sem] theorem Try.zero224 : zeroOf Try.prog 224 = some [.lit ((Go.Value.nilFunc))] := by kernel_rfl
@[go_sem] theorem Try.tsz225 : tszOf Try.prog 225 = some (1, false) := by kernel_rfl
@[go_sem] theorem Try.udef225 : (Try.prog.underlying 225).isSome = true := by kernel_rfl
@[go_sem] theorem Try.zero225 : zeroOf Try.prog 225 = some [.lit ((Go.Value.nilFunc))] := by kernel_rfl
@[go_sem] theorem Try.tsz226 : tszOf Try.prog 226 = some (1, false) := by kernel_rfl
@[go_sem] theorem Try.udef226 : (Try.prog.underlying 226).isSome = true := by kernel_rfl
@[go_sem] theorem Try.zero226 : zeroOf Try.prog 226 = some [.lit ((Go.Value.nilFunc))] := by kernel_rfl
@[go_sem] theorem Try.tsz227 : tszOf Try.prog 227 = some (1, false) := by kernel_rfl
@[go_sem] theorem Try.udef227 : (Try.prog.underlying 227).isSome = true := by kernel_rfl
@[go_sem] theorem Try.zero227 : zeroOf Try.prog 227 = some [.lit ((Go.Value.pointer none))] := by kernel_rfl
@[go_sem] theorem Try.tsz228 : tszOf Try.prog 228 = some (1, false) := by kernel_rfl
@[go_sem] theorem Try.udef228 : (Try.prog.underlying 228).isSome = true := by kernel_rfl
@[go_sem] theorem Try.zero228 : zeroOf Try.prog 228 = some [.lit ((Go.Value.nilFunc))] := by kernel_rfl
@[go_sem] theorem Try.tsz229 : tszOf Try.prog 229 = some (1, false) := by kernel_rfl
@[go_sem] theorem Try.udef229 : (Try.prog.underlying 229).isSome = true := by kernel_rfl
@[go_sem] theorem Try.zero229 : zeroOf Try.prog 229 = some [.lit ((Go.Value.nilFunc))] := by kernel_rfl
@[go_sem] theorem Try.tsz230 : tszOf Try.prog 230 = some (1, false) := by kernel_rfl
@[go_sem] theorem Try.udef230 : (Try.prog.underlying 230).isSome = true := by kernel_rfl
@[go_sem] theorem Try.zero230 : zeroOf Try.prog 230 = some [.lit ((Go.Value.nilFunc))] := by kernel_rfl
@[go_sem] theorem Try.tsz231 : tszOf Try.prog 231 = some (4, true) := by kernel_rfl
@[go_sem] theorem Try.udef231 : (Try.prog.underlying 231).isSome = true := by kernel_rfl
@[go_sem] theorem Try.zero231 : zeroOf Try.prog 231 = some [.lit ((Go.Value.pointer none)), .lit ((Go.Value.pointer none)), .lit ((Go.Value.pointer none)), .str ByteArray.empty] := by kernel_rfl
@[go_sem] theorem Try.pl231 : plOf Try.prog 231 = some [(0, 1), (1, 1), (2, 1), (3, 1)] := by kernel_rfl
@[go_sem] theorem Try.tsz232 : tszOf Try.prog 232 = some (4, true) := by kernel_rfl
@[go_sem] theorem Try.udef232 : (Try.prog.underlying 232).isSome = true := by kernel_rfl
@[go_sem] theorem Try.zero232 : zeroOf Try.prog 232 = some [.lit ((Go.Value.pointer none)), .lit ((Go.Value.pointer none)), .lit ((Go.Value.pointer none)), .str ByteArray.empty] := by kernel_rfl
@[go_sem] theorem Try.pl232 : plOf Try.prog 232 = some [(0, 1), (1, 1), (2, 1), (3, 1)] := by kernel_rfl
@[go_sem] theorem Try.tsz233 : tszOf Try.prog 233 = some (0, true) := by kernel_rfl
@[go_sem] theorem Try.udef233 : (Try.prog.underlying 233).isSome = true := by kernel_rfl
@[go_sem] theorem Try.zero233 : zeroOf Try.prog 233 = some [] := by kernel_rfl
@[go_sem] theorem Try.ar233 : arOf Try.prog 233 = some (0, 1, false) := by kernel_rfl
@[go_sem] theorem Try.pl233 : plOf Try.prog 233 = some [] := by kernel_rfl
@[go_sem] theorem Try.tsz234 : tszOf Try.prog 234 = some (0, true) := by kernel_rfl
@[go_sem] theorem Try.udef234 : (Try.prog.underlying 234).isSome = true := by kernel_rfl
@[go_sem] theorem Try.zero234 : zeroOf Try.prog 234 = some [] := by kernel_rfl
@[go_sem] theorem Try.pl234 : plOf Try.prog 234 = some [(0, 0)] := by kernel_rfl
@[go_sem] theorem Try.tsz235 : tszOf Try.prog 235 = some (0, true) := by kernel_rfl
@[go_sem] theorem Try.udef235 : (Try.prog.underlying 235).isSome = true := by kernel_rfl
@[go_sem] theorem Try.zero235 : zeroOf Try.prog 235 = some [] := by kernel_rfl
@[go_sem] theorem Try.pl235 : plOf Try.prog 235 = some [(0, 0)] := by kernel_rfl
@[go_sem] theorem Try.tsz236 : tszOf Try.prog 236 = some (1, false) := by kernel_rfl
@[go_sem] theorem Try.udef236 : (Try.prog.underlying 236).isSome = true := by kernel_rfl
@[go_sem] theorem Try.zero236 : zeroOf Try.prog 236 = some [.int .u8 0] := by kernel_rfl
@[go_sem] theorem Try.isInt236 : isIntT Try.prog 236 = some .u8 := by kernel_rfl
@[go_sem] theorem Try.tsz237 : tszOf Try.prog 237 = some (1, false) := by kernel_rfl
@[go_sem] theorem Try.udef237 : (Try.prog.underlying 237).isSome = true := by kernel_rfl
@[go_sem] theorem Try.zero237 : zeroOf Try.prog 237 = some [.int .u8 0] := by kernel_rfl
@[go_sem] theorem Try.isInt237 : isIntT Try.prog 237 = some .u8 := by kernel_rfl
@[go_sem] theorem Try.tsz238 : tszOf Try.prog 238 = some (1, false) := by kernel_rfl
@[go_sem] theorem Try.udef238 : (Try.prog.underlying 238).isSome = true := by kernel_rfl
@[go_sem] theorem Try.zero238 : zeroOf Try.prog 238 = some [.lit ((Go.Value.nilFunc))] := by kernel_rfl
@[go_sem] theorem Try.tsz239 : tszOf Try.prog 239 = some (1, false) := by kernel_rfl
@[go_sem] theorem Try.udef239 : (Try.prog.underlying 239).isSome = true := by kernel_rfl
@[go_sem] theorem Try.zero239 : zeroOf Try.prog 239 = some [.lit ((Go.Value.pointer none))] := by kernel_rfl
@[go_sem] theorem Try.tsz240 : tszOf Try.prog 240 = some (1, false) := by kernel_rfl
@[go_sem] theorem Try.udef240 : (Try.prog.underlying 240).isSome = true := by kernel_rfl
@[go_sem] theorem Try.zero240 : zeroOf Try.prog 240 = some [.int .i32 0] := by kernel_rfl
@[go_sem] theorem Try.isInt240 : isIntT Try.prog 240 = some .i32 := by kernel_rfl
@[go_sem] theorem Try.tsz241 : tszOf Try.prog 241 = some (1, false) := by kernel_rfl
@[go_sem] theorem Try.udef241 : (Try.prog.underlying 241).isSome = true := by kernel_rfl
@[go_sem] theorem Try.zero241 : zeroOf Try.prog 241 = some [.int .i32 0] := by kernel_rfl
@[go_sem] theorem Try.isInt241 : isIntT Try.prog 241 = some .i32 := by kernel_rfl
@[go_sem] theorem Try.tsz242 : tszOf Try.prog 242 = some (11, true) := by kernel_rfl
@[go_sem] theorem Try.udef242 : (Try.prog.underlying 242).isSome = true := by kernel_rfl
@[go_sem] theorem Try.zero242 : zeroOf Try.prog 242 = some [.int .u64 0, .int .u64 0, .int .u32 0, .int .u8 0, .int .u8 0, .int .u8 0, .int .u8 0, .lit ((Go.Value.nilFunc)), .lit ((Go.Value.pointer none)), .int .i32 0, .int .i32 0] := by kernel_rfl
@[go_sem] theorem Try.pl242 : plOf Try.prog 242 = some [(0, 1), (1, 1), (2, 1), (3, 1), (4, 1), (5, 1), (6, 1), (7, 1), (8, 1), (9, 1), (10, 1)] := by kernel_rfl
@[go_sem] theorem Try.tsz243 : tszOf Try.prog 243 = some (11, true) := by kernel_rfl
@[go_sem] theorem Try.udef243 : (Try.prog.underlying 243).isSome = true := by kernel_rfl
@[go_sem] theorem Try.zero243 : zeroOf Try.prog 243 = some [.int .u64 0, .int .u64 0, .int .u32 0, .int .u8 0, .int .u8 0, .int .u8 0, .int .u8 0, .lit ((Go.Value.nilFunc)), .lit ((Go.Value.pointer none)), .int .i32 0, .int .i32 0] := by kernel_rfl
@[go_sem] theorem Try.pl243 : plOf Try.prog 243 = some [(0, 1), (1, 1), (2, 1), (3, 1), (4, 1), (5, 1), (6, 1), (7, 1), (8, 1), (9, 1), (10, 1)] := by kernel_rfl
@[go_sem] theorem Try.tsz244 : tszOf Try.prog 244 = some (1, false) := by kernel_rfl
@[go_sem] theorem Try.udef244 : (Try.prog.underlying 244).isSome = true := by kernel_rfl
@[go_sem] theorem Try.zero244 : zeroOf Try.prog 244 = some [.lit ((Go.Value.pointer none))] := by kernel_rfl
@[go_sem] theorem Try.isPt3 : isPt Try.prog 3 = false := by kernel_rfl
@[go_sem] theorem Try.isPt22 : isPt Try.prog 22 = false := by kernel_rfl
@[go_sem] theorem Try.isPt24 : isPt Try.prog 24 = false := by kernel_rfl
@[go_sem] theorem Try.isPt27 : isPt Try.prog 27 = false := by kernel_rfl
@[go_sem] theorem Try.isPt34 : isPt Try.prog 34 = false := by kernel_rfl
@[go_sem] theorem Try.isPt36 : isPt Try.prog 36 = false := by kernel_rfl
@[go_sem] theorem Try.isPt37 : isPt Try.prog 37 = false := by kernel_rfl
@[go_sem] theorem Try.isPt39 : isPt Try.prog 39 = false := by kernel_rfl
@[go_sem] theorem Try.isPt49 : isPt Try.prog 49 = false := by kernel_rfl
@[go_sem] theorem Try.isPt55 : isPt Try.prog 55 = false := by kernel_rfl
@[go_sem] theorem Try.isPt58 : isPt Try.prog 58 = false := by kernel_rfl
@[go_sem] theorem Try.isPt65 : isPt Try.prog 65 = false := by kernel_rfl
@[go_sem] theorem Try.isPt82 : isPt Try.prog 82 = false := by kernel_rfl
@[go_sem] theorem Try.isPt84 : isPt Try.prog 84 = false := by kernel_rfl
@[go_sem] theorem Try.isPt86 : isPt Try.prog 86 = false := by kernel_rfl
@[go_sem] theorem Try.isPt97 : isPt Try.prog 97 = false := by kernel_rfl
@[go_sem] theorem Try.isPt108 : isPt Try.prog 108 = false := by kernel_rfl
@[go_sem] theorem Try.isPt110 : isPt Try.prog 110 = false := by kernel_rfl
@[go_sem] theorem Try.isPt113 : isPt Try.prog 113 = true := by kernel_rfl
@[go_sem] theorem Try.isPt114 : isPt Try.prog 114 = false := by kernel_rfl
@[go_sem] theorem Try.isPt125 : isPt Try.prog 125 = false := by kernel_rfl
@[go_sem] theorem Try.isPt188 : isPt Try.prog 188 = false := by kernel_rfl
@[go_sem] theorem Try.isPt211 : isPt Try.prog 211 = false := by kernel_rfl
@[go_sem] theorem Try.isPt213 : isPt Try.prog 213 = true := by kernel_rfl
@[go_sem] theorem Try.isPt219 : isPt Try.prog 219 = false := by kernel_rfl
theorem Try.okF7 : okF Try.prog 7 = true := by kernel_rfl
theorem Try.okF17 : okF Try.prog 17 = true := by kernel_rfl
theorem Try.okF49 : okF Try.prog 49 = true := by kernel_rfl
theorem Try.okF50 : okF Try.prog 50 = true := by kernel_rfl
theorem Try.okF51 : okF Try.prog 51 = true := by kernel_rfl
theorem Try.okF52 : okF Try.prog 52 = true := by kernel_rfl
theorem Try.okF53 : okF Try.prog 53 = true := by kernel_rfl
theorem Try.okF54 : okF Try.prog 54 = true := by kernel_rfl
theorem Try.okF55 : okF Try.prog 55 = true := by kernel_rfl
theorem Try.okF56 : okF Try.prog 56 = true := by kernel_rfl
theorem Try.okF57 : okF Try.prog 57 = true := by kernel_rfl
theorem Try.okF58 : okF Try.prog 58 = true := by kernel_rfl
theorem Try.okF59 : okF Try.prog 59 = true := by kernel_rfl
theorem Try.okF60 : okF Try.prog 60 = true := by kernel_rfl
theorem Try.okF61 : okF Try.prog 61 = true := by kernel_rfl
theorem Try.okF62 : okF Try.prog 62 = true := by kernel_rfl
theorem Try.okF64 : okF Try.prog 64 = true := by kernel_rfl
theorem Try.okF67 : okF Try.prog 67 = true := by kernel_rfl
theorem Try.okF82 : okF Try.prog 82 = true := by kernel_rfl
theorem Try.okF85 : okF Try.prog 85 = true := by kernel_rfl
theorem Try.okF90 : okF Try.prog 90 = true := by kernel_rfl
theorem Try.okF91 : okF Try.prog 91 = true := by kernel_rfl
theorem Try.okF97 : okF Try.prog 97 = true := by kernel_rfl
theorem Try.okF127 : okF Try.prog 127 = true := by kernel_rfl
theorem Try.okF128 : okF Try.prog 128 = true := by kernel_rfl
theorem Try.okF129 : okF Try.prog 129 = true := by kernel_rfl
theorem Try.okF130 : okF Try.prog 130 = true := by kernel_rfl
theorem Try.okF131 : okF Try.prog 131 = true := by kernel_rfl
theorem Try.okF132 : okF Try.prog 132 = true := by kernel_rfl
theorem Try.okF133 : okF Try.prog 133 = true := by kernel_rfl
theorem Try.okF134 : okF Try.prog 134 = true := by kernel_rfl
theorem Try.okF135 : okF Try.prog 135 = true := by kernel_rfl
theorem Try.okF136 : okF Try.prog 136 = true := by kernel_rfl
theorem Try.okF137 : okF Try.prog 137 = true := by kernel_rfl
theorem Try.okF138 : okF Try.prog 138 = true := by kernel_rfl
theorem Try.okF139 : okF Try.prog 139 = true := by kernel_rfl
theorem Try.okF140 : okF Try.prog 140 = true := by kernel_rfl
theorem Try.okF141 : okF Try.prog 141 = true := by kernel_rfl
theorem Try.okF142 : okF Try.prog 142 = true := by kernel_rfl
theorem Try.okF143 : okF Try.prog 143 = true := by kernel_rfl
theorem Try.okF158 : okF Try.prog 158 = true := by kernel_rfl
theorem Try.okF170 : okF Try.prog 170 = true := by kernel_rfl
theorem Try.okF172 : okF Try.prog 172 = true := by kernel_rfl
theorem Try.okF173 : okF Try.prog 173 = true := by kernel_rfl
theorem Try.okF174 : okF Try.prog 174 = true := by kernel_rfl
theorem Try.okF175 : okF Try.prog 175 = true := by kernel_rfl
theorem Try.okF176 : okF Try.prog 176 = true := by kernel_rfl
theorem Try.okF177 : okF Try.prog 177 = true := by kernel_rfl
theorem Try.okF178 : okF Try.prog 178 = true := by kernel_rfl
theorem Try.okF179 : okF Try.prog 179 = true := by kernel_rfl
theorem Try.okF180 : okF Try.prog 180 = true := by kernel_rfl
theorem Try.okF181 : okF Try.prog 181 = true := by kernel_rfl
theorem Try.okF182 : okF Try.prog 182 = true := by kernel_rfl
theorem Try.okF183 : okF Try.prog 183 = true := by kernel_rfl
theorem Try.okF200 : okF Try.prog 200 = true := by kernel_rfl
theorem Try.okF201 : okF Try.prog 201 = true := by kernel_rfl
theorem Try.okF202 : okF Try.prog 202 = true := by kernel_rfl
theorem Try.okF203 : okF Try.prog 203 = true := by kernel_rfl
theorem Try.okF204 : okF Try.prog 204 = true := by kernel_rfl
theorem Try.okF210 : okF Try.prog 210 = true := by kernel_rfl
end Go.Proofs
end
section
set_option linter.unusedSimpArgs false
set_option linter.unusedVariables false
namespace Go.Lv

def rows {α : Type} (cs : α → List V) (L : List α) : List V := L.flatMap cs

section
variable {α : Type} {cs : α → List V} {w : Nat}

theorem rows_len (h : ∀ a, (cs a).length = w) (L : List α) : (rows cs L).length = L.length * w := by
 induction L with
 | nil => simp [rows]
 | cons a L ih => simp [rows, h] at ih ⊢; rw [ih, Nat.succ_mul, Nat.add_comm]

theorem rowsOf_append (L K : List α) : rows cs (L ++ K) = rows cs L ++ rows cs K := by simp [rows]
theorem rows_nil : rows cs ([] : List α) = [] := rfl
theorem rows_cons (a : α) (L : List α) : rows cs (a :: L) = cs a ++ rows cs L := by simp [rows]
theorem rows_one (a : α) : rows cs [a] = cs a := by simp [rows]

theorem rows_drop (h : ∀ a, (cs a).length = w) (L : List α) (i : Nat) : (rows cs L).drop (i * w) = rows cs (L.drop i) := by
 induction i generalizing L with
 | zero => simp
 | succ i ih =>
   cases L with
   | nil => simp [rows]
   | cons a L =>
     rw [rows_cons, Nat.succ_mul, Nat.add_comm, ← List.drop_drop, List.drop_append, h a, Nat.sub_self, List.drop_zero]
     rw [show (cs a).drop w = [] by simp [h]]
     simpa using ih L

theorem rows_take (h : ∀ a, (cs a).length = w) (L : List α) (i : Nat) : (rows cs L).take (i * w) = rows cs (L.take i) := by
 induction i generalizing L with
 | zero => simp [rows]
 | succ i ih =>
   cases L with
   | nil => simp [rows]
   | cons a L =>
     rw [rows_cons, List.take_succ_cons, rows_cons, Nat.succ_mul, Nat.add_comm, List.take_append, h a, Nat.add_sub_cancel_left, ih]
     rw [List.take_of_length_le (by simp [h])]

theorem rows_at (h : ∀ a, (cs a).length = w) {L : List α} {i : Nat} (hi : i < L.length) : ((rows cs L).drop (i * w)).take w = cs L[i] := by
 rw [rows_drop h, List.drop_eq_getElem_cons hi, rows_cons, List.take_append, h, Nat.sub_self, List.take_zero, List.append_nil, List.take_of_length_le (by simp [h])]

theorem rows_all {p : V → Bool} (h : ∀ a, (cs a).all p = true) (L : List α) : (rows cs L).all p = true := by
 induction L with
 | nil => rfl
 | cons a L ih => rw [rows_cons, List.all_append, h a, ih]; rfl

theorem map_ren (f : Nat → R) {d : Nat} {l : List V} (h : l.all (noOwn d) = true) : l.map (ren f d) = l := by
 rw [List.map_congr_left (g := id) (fun x hx => ren_noOwn f d x (List.all_eq_true.1 h x hx)), List.map_id]

theorem wrap_i64 {n : Int} (h0 : -9223372036854775808 ≤ n) (h1 : n ≤ 9223372036854775807) : IntKind.i64.wrap n = n := by
 rw [IntKind.wrap_i64]; omega

def i64R (z : Int) : Prop := -9223372036854775808 ≤ z ∧ z ≤ 9223372036854775807
def lstR (ok : α → Prop) (L : List α) : Prop := L.length ≤ 9223372036854775807 ∧ ∀ x ∈ L, ok x

class FlatP (cs : α → List V) (w : outParam Nat) : Prop where
 len : ∀ a, (cs a).length = w
 plain : ∀ a d, (cs a).all (noOwn d) = true
 cell : ∀ a, (cs a).all isCell = true
 noro : ∀ a, (cs a).all (noRoB 0) = true

theorem rows_length [FlatP cs w] (L : List α) : (rows cs L).length = L.length * w := rows_len FlatP.len L
theorem map_ren_rows [FlatP cs w] (f : Nat → R) (d : Nat) (L : List α) : (rows cs L).map (ren f d) = rows cs L := map_ren f (rows_all (fun a => FlatP.plain a d) L)
theorem rows_cell [FlatP cs w] (L : List α) : (rows cs L).all isCell = true := rows_all FlatP.cell L
theorem rows_noRo [FlatP cs w] (L : List α) : (rows cs L).all (noRoB 0) = true := rows_all FlatP.noro L
theorem rows_noOwn [FlatP cs w] (L : List α) (d : Nat) : (rows cs L).all (noOwn d) = true := rows_all (fun a => FlatP.plain a d) L
theorem rows_refV [FlatP cs w] (p : Nat → Bool) (L : List α) (d : Nat) : (rows cs L).all (refV p d) = true := List.all_eq_true.2 fun x hx => refV_noOwn p d x (List.all_eq_true.1 (rows_noOwn (cs := cs) L d) x hx)
theorem noRoH_rows [FlatP cs w] (L : List α) : NoRoH [some (rows cs L)] := NoRoH.of (by simp only [hpNoRo, List.all_cons, List.all_nil, rows_noRo, Bool.and_self])
theorem take_rows [FlatP cs w] (L : List α) : (rows cs L).take (L.length * w) = rows cs L := List.take_of_length_le (by rw [rows_length]; exact Nat.le_refl _)

theorem le_snap [FlatP cs w] {h : Hp} {id : Nat} {L : List α} (hid : h[id]? = some (some (rows cs L))) : LeV (ren (snapR h 3) 3 (.osl id 0 L.length w)) (.sl L.length w (rows cs L)) := by
 refine .inl ?_
 simp only [ren, snapR, hid, map_ren_rows, List.drop_zero, take_rows]
theorem le_snap' [FlatP cs w] {h : Hp} {id n : Nat} {L : List α} (hid : h[id]? = some (some (rows cs L))) (hn : n = L.length) : LeV (ren (snapR h 3) 3 (.osl id 0 n w)) (.sl L.length w (rows cs L)) := by
 subst hn; exact le_snap hid
theorem le_nil {h : Hp} {w : Nat} : LeV (ren (snapR h 3) 3 .nilsl) (.sl 0 w []) := .inr (.inr (.inl ⟨rfl, w, rfl⟩))
theorem LeV.aggR {f : Nat → R} {d : Nat} {cs cs' : List V} (h : LeA (cs.map (ren f d)) cs') : LeV (ren f (d + 1) (.agg cs)) (.agg cs') := LeV.agg h
theorem leE_snap [FlatP cs w] {h : Hp} {id n n' : Nat} {L : List α} (hid : h[id]? = some (some (rows cs L))) (hn : n = L.length) (hn' : n' = L.length) : LeE (ren (snapR h 3) 2 (.osl id 0 n w)) (.sl n' w (rows cs L)) := by
 subst hn hn'
 refine .inl ?_
 simp only [ren, snapR, hid, map_ren_rows, List.drop_zero, take_rows]
theorem lend_one [FlatP cs w] {h : Hp} {id : Nat} {fz : Bool} {L : List α} (hid : h[id]? = some (some (rows cs L))) : pickH [id] h fz = [some (rows cs L)] := by
 simp only [pickH, List.map_cons, List.map_nil, pickB, hid, map_ren_rows]
theorem isMb_cells {l : List V} (h : l.all isCell = true) : isMb l = false := by
 match l, h with
 | [], _ => rfl
 | _ :: _ :: _, _ => rfl
 | [x], h => cases x <;> first | rfl | (simp [isCell] at h)
theorem isMb_rows [FlatP cs w] (L : List α) : isMb (rows cs L) = false := isMb_cells (rows_cell L)
theorem grown_one [FlatP cs w] {L L' : List α} (h : L.length = L'.length) : grown [some (rows cs L)] [some (rows cs L')] := by
 simp [grown, rows_length, h, isMb_rows]

theorem rows_snoc (L : List α) (a : α) : rows cs L ++ cs a = rows cs (L ++ [a]) := by rw [rowsOf_append, rows_one]

theorem LeL_same {f : V → V} : ∀ {l : List V}, l.map f = l → LeL (l.map f) l
 | [], _ => trivial
 | a :: l, h => by
   simp only [List.map_cons, List.cons.injEq] at h
   exact ⟨.inl h.1.symm, LeL_same h.2⟩

def intSet (ks : List Int) : List (Value × Value) := ks.map fun k => (.int .i64 k, .bool true)
theorem intSet_has {k : Int} : ∀ {ks : List Int} (i : Nat), k ∈ ks → ∃ j, mpFind (.int .i64) (.int .i64 k) (intSet ks) i = some (some (j, .bool true))
 | x :: ks, i, h => by
   by_cases e : k = x
   · subst e
     exact ⟨i, by simp [intSet, mpFind, Instr.sameNow]⟩
   · obtain ⟨j, hj⟩ := intSet_has (i + 1) ((List.mem_cons.1 h).resolve_left e)
     have e' : (k == x) = false := by simp [e]
     exact ⟨j, by simpa [intSet, mpFind, Instr.sameNow, e'] using hj⟩
theorem intSet_not {k : Int} : ∀ {ks : List Int} (i : Nat), k ∉ ks → mpFind (.int .i64) (.int .i64 k) (intSet ks) i = some none
 | [], i, _ => rfl
 | x :: ks, i, h => by
   simp at h
   have := intSet_not (i + 1) h.2
   have e' : (k == x) = false := by simp [h.1]
   simpa [intSet, mpFind, Instr.sameNow, e'] using this
theorem intSet_put {k : Int} {ks : List Int} : mpPut (.int .i64 k) (.bool true) none (intSet ks) = intSet (ks ++ [k]) := by simp [mpPut, intSet]

theorem splice_mid {A M ns : List V} {n j : Nat} (h : A.length = n) : splice (A ++ M) (n + j) ns = A ++ splice M j ns := by
 subst h
 unfold splice
 rw [List.take_append, List.drop_append, List.take_of_length_le (by omega), List.drop_of_length_le (by omega)]
 simp only [Nat.add_sub_cancel_left, List.nil_append, List.append_assoc]
 congr 3
 congr 1
 omega
theorem splice_mid0 {A M ns : List V} {n : Nat} (h : A.length = n) : splice (A ++ M) n ns = A ++ splice M 0 ns := by
 have := splice_mid (M := M) (ns := ns) (j := 0) h
 rwa [Nat.add_zero] at this

theorem rows_drop_at (h : ∀ a, (cs a).length = w) {L : List α} {i : Nat} (hi : i < L.length) (j : Nat) : (rows cs L).drop (i * w + j) = (cs L[i] ++ rows cs (L.drop (i + 1))).drop j := by
 rw [← List.drop_drop, rows_drop h, List.drop_eq_getElem_cons hi, rows_cons]
theorem apart {L : List α} {i : Nat} (hi : i < L.length) : ∃ A B, L = A ++ L[i] :: B ∧ A.length = i ∧ A = L.take i ∧ B = L.drop (i + 1) := by
 refine ⟨L.take i, L.drop (i + 1), ?_, by simp; omega, rfl, rfl⟩
 rw [← List.drop_eq_getElem_cons hi, List.take_append_drop]

theorem range_all_succ {q : Nat → Bool} {i : Nat} (h : (List.range i).all q = true) (h1 : q i = true) : (List.range (i + 1)).all q = true := by
 rw [List.range_succ, List.all_append, h]
 simp [h1]
end

theorem leA {x y : V} (h : LeV x y := by first | exact le_snap rfl | exact .inl rfl | exact le_nil | exact le_snap' rfl (by simp) | exact LeV.aggR (by first | ((repeat' (first | exact True.intro | exact leE_snap rfl (by simp) (by simp) | exact LeE.nil | exact LeE.refl _ | refine And.intro ?_ ?_)); done) | fail)) : LeV x y := h
theorem callT.at {P : Program} {h : Hp} {g : FuncId} {a c args : List V} {K : V → Hp → Prop} {x : Tag K} {as' : List V} {r : V} {hout : Hp} (hs : Ctr P g as' [] r hout) (hle : LeL ((a ++ args ++ c).map (ren (snapR h 3) 3)) as') (hk : K r hout)
   (hro : (a ++ args ++ c).all (noOwn 3) = true ∨ NoRo r ∧ NoRoH hout := by first | exact .inl rfl | exact .inr ⟨noRo_ok 3 rfl, by first | exact NoRoH.nil | exact noRoH_rows _ | exact NoRoH.of (by simp only [hpNoRo, List.all_cons, List.all_nil, rows_noRo, Bool.and_self])⟩)
   (hrf : refOk h 4 (.fn (.func g) a c) = true ∧ args.all (refOk h 3) = true := by first | exact ⟨rfl, rfl⟩ | exact ⟨rfl, by simp [refOk, refV, refB, noOwn, rows_noOwn, rows_refV]⟩ | simp [refOk, refV, refB, noOwn, rows_noOwn, rows_refV]) : callT P h (.fn (.func g) a c) args K x :=
 callT.intro hs hle hro hrf hk
theorem callS.at {P : Program} {t : List V} {h : Hp} {k : Nat} {dst : Option Tmp} {g : FuncId} {a c args : List V} {K : St → Prop} {x : Tag K} {as' : List V} {r : V} {hout : Hp} (hs : Ctr P g as' [] r hout)
   (hle : LeL ((a ++ args ++ c).map (ren (snapR h 3) 3)) as') (hk : K (afterCall ⟨t, h, k⟩ dst r hout))
   (hro : (a ++ args ++ c).all (noOwn 3) = true ∨ NoRo r ∧ NoRoH hout := by first | exact .inl rfl | exact .inr ⟨noRo_ok 3 rfl, by first | exact NoRoH.nil | exact noRoH_rows _ | exact NoRoH.of (by simp only [hpNoRo, List.all_cons, List.all_nil, rows_noRo, Bool.and_self])⟩) : callS P ⟨t, h, k⟩ dst (.fn (.func g) a c) args K x :=
 callS.intro hs hle hro hk
theorem lendA {sel : List Nat} {h hin : Hp} {fz : Bool} (hh : pickH sel h fz = hin := by first | exact lend_one rfl | rfl | (simp only [pickH, List.map_cons, List.map_nil, pickB, List.getElem?_cons_zero, List.getElem?_cons_succ, map_ren_rows]; done)) : pickH sel h fz = hin := hh
theorem leO {x y : V} (h : LeV x y := by first | exact .inl rfl | exact LeV.aggR (by first | ((repeat' (first | exact True.intro | exact LeE.nil | exact LeE.refl _ | refine And.intro ?_ ?_)); done) | fail)) : LeV x y := h
theorem sideA {a b : Prop} (hb : b) (ha : a := by first | omega | with_reducible rfl | (show drawOk _ = true; kernel_rfl) | (simp only [rows_length, rows_cell, List.length_append, List.length_cons, List.length_nil, List.all_append, List.all_cons, List.all_nil, isCell, Nat.mul_one, Nat.one_mul, Bool.and_self]; first | done | omega)) : a ∧ b := ⟨ha, hb⟩
attribute [go_sem] Nat.le_refl Int.toNat_natCast beq_self_eq_true bne_self_eq_false decide_true decide_false eq_self ne_eq Option.some.injEq not_false_eq_true Option.map_some map_ren_rows
theorem Weak.pk {t t2 : List V} {h h2 : Hp} {k : Nat} (sel : List Nat) (ht : LeG (ren (pickF sel h true) 3) t t2) (hh : pickH sel h true = h2) (hn : sel.Nodup := by decide) (hk : ∀ j, j < k → sel[j]? = some j := by (intro j hj; cases j <;> simp_all)) : Weak ⟨t, h, k⟩ ⟨t2, h2, k⟩ := Weak.pick sel hn hk ht hh
attribute [go_sem] Nat.reduceSub Nat.reduceAdd Nat.reduceMul Nat.reduceLT Nat.reduceLeDiff Nat.reduceEqDiff Nat.reduceDiv Nat.reduceMod Int.reduceToNat Int.reduceLE Int.reduceLT Int.reduceBEq Int.reduceBNe Int.reduceNeg Int.reduceAdd Int.reduceSub Int.reduceMul reduceCtorEq
end Go.Lv
end
section
set_option linter.unusedSimpArgs false
set_option linter.unusedVariables false
set_option maxRecDepth 100000
namespace Go.Proofs
open Go.Lv
def inB' (n a b : Int) : Bool := decide (a ≤ n) && decide (n ≤ b)
theorem inB'_iff {n a b : Int} : inB' n a b = true ↔ a ≤ n ∧ n ≤ b := by simp [inB']
theorem in_ok (n a b : Int) : Ctr Try.prog 67 [.int .i64 n, .int .i64 a, .int .i64 b] [] (.bool (inB' n a b)) [] := by
 refine Ctr.intro Try.mixed Try.func67 rfl Try.okF67 ?_
 simp -implicitDefEqProofs -dsimp only [go_sem, Try.ntmps67, Try.results67]
 refine guardT.splitT (fun h1 => ?_) (fun h1 => ?_) <;> simp -implicitDefEqProofs -dsimp only [go_sem, h1]
 · exact WeakR.of_eq (by simp [inB', h1])
 · exact WeakR.of_eq (by simp [inB', h1])
theorem l1In_ok (n a b : Int) : Ctr Try.prog 64 [.int .i64 n, .int .i64 a, .int .i64 b] [] (.bool (inB' n a b)) [] := by
 refine Ctr.intro Try.mixed Try.func64 rfl Try.okF64 ?_
 simp -implicitDefEqProofs -dsimp only [go_sem, Try.ntmps64, Try.results64]
 refine guardT.splitT (fun h1 => ?_) (fun h1 => ?_) <;> simp -implicitDefEqProofs -dsimp only [go_sem, h1]
 · exact WeakR.of_eq (by simp [inB', h1])
 · exact WeakR.of_eq (by simp [inB', h1])
end Go.Proofs
end
section
set_option linter.unusedSimpArgs false
set_option linter.unusedVariables false
set_option maxRecDepth 100000
namespace Go.Proofs
open Go.Lv
def placeB (x y : Int) : Bool := inB' x 0 999 && inB' y 0 999
theorem isTick_ok (n : Int) : Ctr Try.prog 85 [.int .i64 n] [] (.bool (inB' n 0 1000000)) [] := by
 refine Ctr.intro Try.mixed Try.func85 rfl Try.okF85 ?_
 simp -implicitDefEqProofs -dsimp only [go_sem, Try.ntmps85, Try.results85]
 repeat' (first | (refine WeakR.drop' ?_ (by rfl); first | rfl | (simp [placeB, *]; done)) | ((first | refine callT.at (in_ok _ _ _) ⟨leA, leA, leA, trivial⟩ ?_ | refine callS.at (in_ok _ _ _) ⟨leA, leA, leA, trivial⟩ ?_); simp -implicitDefEqProofs -dsimp only [go_sem, *]) | (refine guardT.splitT (fun _ => ?_) (fun _ => ?_) <;> simp -implicitDefEqProofs -dsimp only [go_sem, *]) | (refine guardT.splitF (fun _ => ?_) (fun _ => ?_) <;> simp -implicitDefEqProofs -dsimp only [go_sem, *]) | (refine condT.split (fun _ => ?_) (fun _ => ?_) <;> simp -implicitDefEqProofs -dsimp only [go_sem, *]))
theorem l2Tick_ok (n : Int) : Ctr Try.prog 143 [.int .i64 n] [] (.bool (inB' n 0 1000000)) [] := by
 refine Ctr.intro Try.mixed Try.func143 rfl Try.okF143 ?_
 simp -implicitDefEqProofs -dsimp only [go_sem, Try.ntmps143, Try.results143]
 repeat' (first | (refine WeakR.drop' ?_ (by rfl); first | rfl | (simp [placeB, *]; done)) | ((first | refine callT.at (l1In_ok _ _ _) ⟨leA, leA, leA, trivial⟩ ?_ | refine callS.at (l1In_ok _ _ _) ⟨leA, leA, leA, trivial⟩ ?_); simp -implicitDefEqProofs -dsimp only [go_sem, *]) | (refine guardT.splitT (fun _ => ?_) (fun _ => ?_) <;> simp -implicitDefEqProofs -dsimp only [go_sem, *]) | (refine guardT.splitF (fun _ => ?_) (fun _ => ?_) <;> simp -implicitDefEqProofs -dsimp only [go_sem, *]) | (refine condT.split (fun _ => ?_) (fun _ => ?_) <;> simp -implicitDefEqProofs -dsimp only [go_sem, *]))
theorem isStationId_ok (n : Int) : Ctr Try.prog 82 [.int .i64 n] [] (.bool (inB' n 1 99)) [] := by
 refine Ctr.intro Try.mixed Try.func82 rfl Try.okF82 ?_
 simp -implicitDefEqProofs -dsimp only [go_sem, Try.ntmps82, Try.results82]
 repeat' (first | (refine WeakR.drop' ?_ (by rfl); first | rfl | (simp [placeB, *]; done)) | ((first | refine callT.at (in_ok _ _ _) ⟨leA, leA, leA, trivial⟩ ?_ | refine callS.at (in_ok _ _ _) ⟨leA, leA, leA, trivial⟩ ?_); simp -implicitDefEqProofs -dsimp only [go_sem, *]) | (refine guardT.splitT (fun _ => ?_) (fun _ => ?_) <;> simp -implicitDefEqProofs -dsimp only [go_sem, *]) | (refine guardT.splitF (fun _ => ?_) (fun _ => ?_) <;> simp -implicitDefEqProofs -dsimp only [go_sem, *]) | (refine condT.split (fun _ => ?_) (fun _ => ?_) <;> simp -implicitDefEqProofs -dsimp only [go_sem, *]))
end Go.Proofs
end
section
set_option linter.unusedSimpArgs false
set_option linter.unusedVariables false
set_option maxRecDepth 100000
namespace Go.Proofs
open Go.Lv
structure Heard where
 Station : Int
 Tick : Int
def Heard.cs (r : Heard) : List V := [.int .i64 r.Station, .int .i64 r.Tick]
def Heard.v (r : Heard) : V := .agg [.int .i64 r.Station, .int .i64 r.Tick]
theorem Heard.csl (a : Heard) : a.cs.length = 2 := rfl
theorem Heard.csp (a : Heard) : a.cs.all (noOwn 2) = true := rfl
instance : FlatP Heard.cs 2 := ⟨fun _ => rfl, fun _ d => by cases d <;> rfl, fun _ => rfl, fun _ => rfl⟩
def Heard.ok (r : Heard) : Prop := i64R r.Station ∧ i64R r.Tick
abbrev Heard.rows (L : List Heard) : List V := Go.Lv.rows Heard.cs L
abbrev Heard.sl (L : List Heard) : V := .sl L.length 2 (Go.Lv.rows Heard.cs L)
abbrev Heard.zs : List V := [.int .i64 0, .int .i64 0]
def Heard.mk1 (k : Int) : Heard := ⟨k, k + 1⟩
def Heard.marks (k : Int) (n : Nat) : List Heard := (List.range n).map fun i : Nat => Heard.mk1 (k + 2 * (i : Int))
@[simp] theorem Heard.marks_len (k : Int) (n : Nat) : (Heard.marks k n).length = n := by simp [Heard.marks]
theorem filterHeard_ok (L : List Heard) (p : Heard → Bool) (fv : Nat) (vc : List V) (hvc : ∀ d, vc.all (noOwn d) = true) (hv : ∀ x, Ctr Try.prog fv (Heard.v x :: vc) [] (.bool (p x)) []) (hl : L.length ≤ 16777216) :
   Ctr Try.prog 201 [Heard.sl L, .fn (.func fv) [] vc] [] (.osl 0 0 (L.filter p).length 2) [some (rows Heard.cs (L.filter p))] := by
 refine Ctr.intro Try.mixed Try.func201 rfl Try.okF201 ?_
 simp -implicitDefEqProofs -dsimp only [go_sem, Try.ntmps201, Try.results201]
 have hvc2 : ∀ f d, vc.map (ren f d) = vc := fun f d => map_ren f (hvc d)
 have hstep : ∀ {i : Nat} (hi : i < L.length), (L.take (i + 1)).filter p = (L.take i).filter p ++ if p L[i] then [L[i]] else [] := fun {i} hi => by
   rw [List.take_succ_eq_append_getElem hi, List.filter_append]
   congr 1
   cases h : p L[i] <;> simp [h]
 refine LoopT.intro (fun i : Nat => i ≤ L.length) (fun i => ⟨[.undef, .fn (.func fv) [] vc, .undef, .undef, .undef, .osl 0 0 ((L.take i).filter p).length 2, .undef, .undef, .undef, Heard.sl L, .int .i64 L.length, .int .i64 i, .undef, .undef, .undef, .undef, .undef, .undef, .undef, .undef, .undef, .undef, .undef, .undef], [some (rows Heard.cs ((L.take i).filter p))], 0⟩) (fun i => L.length - i) 0 (Nat.zero_le _) ?_ (fun i hi => ?_)
 · refine Weak.cut (1) (by simp) (by simp) ?_ ?_
   · simp [LeC, LeV, ren, cutF, hvc2]
   · simp [cutH, cutB, rows]
 simp -implicitDefEqProofs -dsimp only [go_sem]
 refine condT.split (fun h1 => ?_) (fun h1 => ?_)
 · simp -implicitDefEqProofs -dsimp only [go_sem, h1]
   have hi' : i < L.length := by simpa using h1
   have hf : ((L.take i).filter p).length ≤ i := Nat.le_trans (List.length_filter_le _ _) (by simp; omega)
   have h5 := Heard.csl L[i]
   have hr := rows_at Heard.csl hi'
   (repeat1' (first | simp -implicitDefEqProofs -dsimp only [go_sem, hr, Heard.cs] | simp -dsimp (disch := omega) only [wrap_i64]))
   repeat (with_reducible refine sideA ?_)
   refine callS.intro (hv L[i]) ⟨.inl rfl, LeL_same (hvc2 _ _)⟩ (.inl (by simp only [List.nil_append, List.cons_append, List.all_cons, hvc, Bool.and_true]; rfl)) ?_
   simp -implicitDefEqProofs -dsimp only [go_sem]
   refine condT.split (fun h2 => ?_) (fun h2 => ?_) <;> simp -implicitDefEqProofs -dsimp only [go_sem, h2]
   · try (repeat1' (first | simp -implicitDefEqProofs -dsimp only [go_sem, rows_length, Nat.mul_one, rows_cell, List.length_append, List.length_cons, List.length_nil] | simp -dsimp (disch := omega) only [wrap_i64]))
     repeat (with_reducible refine sideA ?_)
     refine ⟨i + 1, hi', ?_, by omega⟩
     refine Weak.cut (1) (by simp) (by simp) ?_ ?_
     · rw [hstep hi', h2]
       simp [LeC, LeV, ren, cutF, hvc2]
     · rw [hstep hi', h2, if_pos rfl, ← rows_snoc]
       simp [cutH, cutB, map_ren_rows, killC, ren, Heard.cs]
   · refine ⟨i + 1, hi', ?_, by omega⟩
     refine Weak.cut (1) (by simp) (by simp) ?_ ?_
     · rw [hstep hi', h2, wrap_i64 (by omega) (by omega)]
       simp [LeC, LeV, ren, cutF, hvc2]
     · rw [hstep hi', h2]
       simp [cutH, cutB, map_ren_rows]
 · simp -implicitDefEqProofs -dsimp only [go_sem, h1]
   have hi' : i = L.length := by simp at h1; omega
   subst hi'
   rw [List.take_length]
   exact WeakR.refl _ _ _
theorem differHeard_ok (L : List Heard) (key : Heard → Int) (fk : Nat) (hkey : ∀ x, Ctr Try.prog fk [Heard.v x] [] (.int .i64 (key x)) []) (hl : L.length ≤ 281474976710656) :
   Ctr Try.prog 135 [Heard.sl L, .fn (.func fk) [] []] [] (.bool (decide (L.map key).Nodup)) [] := by
 refine Ctr.intro Try.mixed Try.func135 rfl Try.okF135 ?_
 simp -implicitDefEqProofs -dsimp only [go_sem, Try.ntmps135, Try.results135]
 refine LoopT.intro (fun i : Nat => i ≤ L.length ∧ ((L.take i).map key).Nodup) (fun i => ⟨[.undef, .fn (.func fk) [] [], .undef, .undef, .undef, .mp 0, .undef, .undef, .undef, Heard.sl L, .int .i64 L.length, .int .i64 i, .undef, .undef, .undef, .undef, .undef, .undef, .undef, .undef, .undef, .undef, .undef, .undef, .undef], [some [.mb (intSet ((L.take i).map key))]], 0⟩) (fun i => L.length - i) 0 ⟨Nat.zero_le _, by simp⟩ ?_ (fun i hi => ?_)
 · refine Weak.cut (1) (by simp) (by simp) ?_ ?_
   · simp [LeC, LeV, ren, cutF]
   · simp [cutH, cutB, ren, intSet]
 simp -implicitDefEqProofs -dsimp only [go_sem]
 refine condT.split (fun h1 => ?_) (fun h1 => ?_)
 · simp -implicitDefEqProofs -dsimp only [go_sem, h1]
   have hi' : i < L.length := by simpa using h1
   have h5 := Heard.csl L[i]
   have hr := rows_at Heard.csl hi'
   have ht : (L.take (i + 1)).map key = (L.take i).map key ++ [key L[i]] := by rw [List.take_succ_eq_append_getElem hi', List.map_append]; rfl
   (repeat1' (first | simp -implicitDefEqProofs -dsimp only [go_sem, hr, Heard.cs] | simp -dsimp (disch := omega) only [wrap_i64]))
   repeat (with_reducible refine sideA ?_)
   (first | refine callT.at (hkey L[i]) ⟨.inl rfl, trivial⟩ ?_ | refine callS.at (hkey L[i]) ⟨.inl rfl, trivial⟩ ?_)
   simp -implicitDefEqProofs -dsimp only [go_sem]
   by_cases hm : key L[i] ∈ (L.take i).map key
   · obtain ⟨j, hj⟩ := intSet_has 0 hm
     simp -implicitDefEqProofs -dsimp only [go_sem, hj]
     refine WeakR.drop' ?_ (by rfl)
     have : ¬ (L.map key).Nodup := by
       intro hn
       have h2 : ((L.take (i + 1)).map key).Nodup := (List.map_take ▸ hn.sublist (List.take_sublist _ _))
       rw [ht] at h2
       have := (List.nodup_append.1 h2).2.2 _ hm (key L[i]) (by simp)
       exact this rfl
     rw [decide_eq_false this]
   · have hj := intSet_not 0 hm
     simp -implicitDefEqProofs -dsimp only [go_sem, hj]
     (first | refine callT.at (hkey L[i]) ⟨.inl rfl, trivial⟩ ?_ | refine callS.at (hkey L[i]) ⟨.inl rfl, trivial⟩ ?_)
     simp -implicitDefEqProofs -dsimp only [go_sem, hj, intSet_put]
     refine ⟨i + 1, ⟨hi', ?_⟩, ?_, by omega⟩
     · rw [ht, List.nodup_append]
       exact ⟨hi.2, by simp, fun a ha b hb => by simp at hb; subst hb; rintro rfl; exact hm ha⟩
     refine Weak.cut (1) (by simp) (by simp) ?_ ?_
     · rw [wrap_i64 (by omega) (by omega)]
       simp [LeC, LeV, ren, cutF]
     · rw [ht]
       simp [cutH, cutB, ren]
 · simp -implicitDefEqProofs -dsimp only [go_sem, h1]
   have hi' : i = L.length := by simp at h1; omega
   subst hi'
   have h2 := hi.2
   rw [List.take_length] at h2
   exact WeakR.drop' (by rw [decide_eq_true h2]) (by rfl)
end Go.Proofs
end
section
set_option linter.unusedSimpArgs false
set_option linter.unusedVariables false
set_option maxRecDepth 100000
namespace Go.Proofs
open Go.Lv
structure Alarm where
 Now : Int
 State : Int
 Heard : List Heard
 Given : Int
 Cancelled : Int
def Alarm.cs (r : Alarm) : List V := [.int .i64 r.Now, .int .i64 r.State, .sl r.Heard.length 2 (Go.Lv.rows Heard.cs r.Heard), .int .i64 r.Given, .int .i64 r.Cancelled]
def Alarm.v (r : Alarm) : V := .agg [.int .i64 r.Now, .int .i64 r.State, .sl r.Heard.length 2 (Go.Lv.rows Heard.cs r.Heard), .int .i64 r.Given, .int .i64 r.Cancelled]
def Alarm.o (r : Alarm) (i0 : Nat) : V := .agg [.int .i64 r.Now, .int .i64 r.State, .osl i0 0 r.Heard.length 2, .int .i64 r.Given, .int .i64 r.Cancelled]
theorem Alarm.csl (a : Alarm) : a.cs.length = 5 := rfl
def Alarm.ok (r : Alarm) : Prop := i64R r.Now ∧ i64R r.State ∧ lstR Heard.ok r.Heard ∧ i64R r.Given ∧ i64R r.Cancelled
theorem Alarm.le {h : Hp} {r : Alarm} {i0 : Nat} (h0 : h[i0]? = some (some (rows Heard.cs r.Heard))) : LeV (ren (snapR h 3) 3 (r.o i0)) r.v := by
 refine .inl ?_
 simp only [Alarm.o, Alarm.v, ren, List.map_cons, List.map_nil, snapR, h0, map_ren_rows, List.drop_zero, take_rows]
end Go.Proofs
end
section
set_option linter.unusedSimpArgs false
set_option linter.unusedVariables false
namespace Go.Lv
def idxI {α : Type} (p : α → Bool) (L : List α) : Int := match L.findIdx? p with
 | some i => i
 | none => -1
theorem idxI_found {α : Type} {p : α → Bool} {L : List α} {i : Nat} (h : i < L.length) (h0 : (L.take i).any p = false) (h1 : p L[i] = true) : idxI p L = i := by
 have : L.findIdx? p = some i := by
   rw [List.findIdx?_eq_some_iff_getElem]
   refine ⟨h, h1, fun j hj => ?_⟩
   have := List.any_eq_false.1 h0 L[j] (by rw [List.mem_take_iff_getElem]; exact ⟨j, by omega, rfl⟩)
   simpa using this
 simp [idxI, this]
theorem idxI_none {α : Type} {p : α → Bool} {L : List α} (h : L.any p = false) : idxI p L = -1 := by
 have : L.findIdx? p = none := by
   rw [List.findIdx?_eq_none_iff]
   intro x hx
   have := List.any_eq_false.1 h x hx
   simpa using this
 simp [idxI, this]
theorem idxI_any {α : Type} (p : α → Bool) (L : List α) : decide (0 ≤ idxI p L) = L.any p := by
 unfold idxI
 cases h : L.findIdx? p with
 | none =>
   rw [List.findIdx?_eq_none_iff] at h
   symm
   rw [show decide ((0 : Int) ≤ -1) = false from rfl, List.any_eq_false]
   intro x hx
   simp [h x hx]
 | some i =>
   rw [List.findIdx?_eq_some_iff_getElem] at h
   obtain ⟨hi, h1, _⟩ := h
   symm
   rw [show decide ((0 : Int) ≤ (i : Int)) = true from decide_eq_true (by omega), List.any_eq_true]
   exact ⟨_, List.getElem_mem hi, h1⟩
end Go.Lv
end
section
set_option linter.unusedSimpArgs false
set_option linter.unusedVariables false
set_option maxRecDepth 100000
namespace Go.Proofs
open Go.Lv
theorem indexFuncHeard_ok (L : List Heard) (p : Heard → Bool) (fv : Nat) (vc : List V) (hvc : ∀ d, vc.all (noOwn d) = true) (hv : ∀ x, Ctr Try.prog fv (Heard.v x :: vc) [] (.bool (p x)) []) (hl : L.length ≤ 281474976710656) :
   Ctr Try.prog 181 [Heard.sl L, .fn (.func fv) [] vc] [] (.int .i64 (idxI p L)) [] := by
 refine Ctr.intro Try.mixed Try.func181 rfl Try.okF181 ?_
 simp -implicitDefEqProofs -dsimp only [go_sem, Try.ntmps181, Try.results181]
 have hvc2 : ∀ f d, vc.map (ren f d) = vc := fun f d => map_ren f (hvc d)
 refine LoopT.intro (fun i : Nat => i ≤ L.length ∧ (L.take i).any p = false) (fun i => ⟨[Heard.sl L, .fn (.func fv) [] vc, .undef, .undef, .undef, .undef, .undef, .int .i64 L.length, .int .i64 i, .undef, .undef, .undef, .undef, .undef, .undef, .undef, .undef, .undef, .undef], [], 0⟩) (fun i => L.length - i) 0 ⟨Nat.zero_le _, rfl⟩ ?_ (fun i hi => ?_)
 · refine Weak.cut (0) (by simp) (by simp) ?_ ?_
   · simp [LeC, LeV, ren, cutF, hvc2]
   · rfl
 simp -implicitDefEqProofs -dsimp only [go_sem]
 refine condT.split (fun h1 => ?_) (fun h1 => ?_)
 · simp -implicitDefEqProofs -dsimp only [go_sem, h1]
   have hi' : i < L.length := by simpa using h1
   have h5 := Heard.csl L[i]
   have hr := rows_at Heard.csl hi'
   (repeat1' (first | simp -implicitDefEqProofs -dsimp only [go_sem, hr, Heard.cs] | simp -dsimp (disch := omega) only [wrap_i64]))
   repeat (with_reducible refine sideA ?_)
   refine callS.intro (hv L[i]) ⟨.inl rfl, LeL_same (hvc2 _ _)⟩ (.inl (by simp only [List.nil_append, List.cons_append, List.all_cons, hvc, Bool.and_true]; rfl)) ?_
   simp -implicitDefEqProofs -dsimp only [go_sem]
   refine condT.split (fun h2 => ?_) (fun h2 => ?_) <;> simp -implicitDefEqProofs -dsimp only [go_sem, h2]
   · exact WeakR.drop' (by rw [idxI_found hi' hi.2 h2]) (by rfl)
   · refine ⟨i + 1, ⟨hi', by rw [List.take_succ_eq_append_getElem hi']; simp only [List.any_append, hi.2, List.any_cons, h2, List.any_nil, Bool.or_self]⟩, ?_, by omega⟩
     refine Weak.cut (0) (by simp) (by simp) ?_ ?_
     · rw [wrap_i64 (by omega) (by omega)]
       simp [LeC, LeV, ren, cutF, hvc2]
     · rfl
 · simp -implicitDefEqProofs -dsimp only [go_sem, h1]
   have hi' : i = L.length := by simp at h1; omega
   subst hi'
   have h2 := hi.2
   rw [List.take_length] at h2
   exact WeakR.drop' (by rw [idxI_none h2]) (by rfl)
theorem containsFuncHeard_ok (L : List Heard) (p : Heard → Bool) (fv : Nat) (vc : List V) (hvc : ∀ d, vc.all (noOwn d) = true) (hv : ∀ x, Ctr Try.prog fv (Heard.v x :: vc) [] (.bool (p x)) []) (hl : L.length ≤ 281474976710656) :
   Ctr Try.prog 137 [Heard.sl L, .fn (.func fv) [] vc] [] (.bool (L.any p)) [] := by
 refine Ctr.intro Try.mixed Try.func137 rfl Try.okF137 ?_
 simp -implicitDefEqProofs -dsimp only [go_sem, Try.ntmps137, Try.results137]
 have hvc2 : ∀ f d, vc.map (ren f d) = vc := fun f d => map_ren f (hvc d)
 refine callS.intro (indexFuncHeard_ok L p fv vc hvc hv hl) ⟨.inl rfl, .inl (by simp [ren, hvc2]), trivial⟩ (.inl (by simp [noOwn, hvc])) ?_
 simp -implicitDefEqProofs -dsimp only [go_sem]
 exact WeakR.drop' (by rw [idxI_any]) (by rfl)
theorem indexFuncFHeard_ok (L : List Heard) (p : Heard → Bool) (fv : Nat) (fa : V) (hf2 : noOwn 2 fa = true) (hf3 : noOwn 3 fa = true) (hv : ∀ x, Ctr Try.prog fv [fa, Heard.v x] [] (.bool (p x)) []) (hl : L.length ≤ 281474976710656) :
   Ctr Try.prog 181 [Heard.sl L, .fn (.func fv) [fa] []] [] (.int .i64 (idxI p L)) [] := by
 refine Ctr.intro Try.mixed Try.func181 rfl Try.okF181 ?_
 simp -implicitDefEqProofs -dsimp only [go_sem, Try.ntmps181, Try.results181]
 have hr2 : ∀ f, ren f 2 fa = fa := fun f => ren_noOwn f 2 fa hf2
 have hr3 : ∀ f, ren f 3 fa = fa := fun f => ren_noOwn f 3 fa hf3
 refine LoopT.intro (fun i : Nat => i ≤ L.length ∧ (L.take i).any p = false) (fun i => ⟨[Heard.sl L, .fn (.func fv) [fa] [], .undef, .undef, .undef, .undef, .undef, .int .i64 L.length, .int .i64 i, .undef, .undef, .undef, .undef, .undef, .undef, .undef, .undef, .undef, .undef], [], 0⟩) (fun i => L.length - i) 0 ⟨Nat.zero_le _, rfl⟩ ?_ (fun i hi => ?_)
 · refine Weak.cut (0) (by simp) (by simp) ?_ ?_
   · simp [LeC, LeV, ren, cutF, hr2]
   · rfl
 simp -implicitDefEqProofs -dsimp only [go_sem]
 refine condT.split (fun h1 => ?_) (fun h1 => ?_)
 · simp -implicitDefEqProofs -dsimp only [go_sem, h1]
   have hi' : i < L.length := by simpa using h1
   have h5 := Heard.csl L[i]
   have hr := rows_at Heard.csl hi'
   (repeat1' (first | simp -implicitDefEqProofs -dsimp only [go_sem, hr, Heard.cs] | simp -dsimp (disch := omega) only [wrap_i64]))
   repeat (with_reducible refine sideA ?_)
   refine callS.intro (hv L[i]) ⟨.inl (hr3 _).symm, .inl rfl, trivial⟩ (.inl (by simp only [List.append_nil, List.nil_append, List.cons_append, List.all_cons, hf3, Bool.and_true, Bool.true_and]; rfl)) ?_
   simp -implicitDefEqProofs -dsimp only [go_sem]
   refine condT.split (fun h2 => ?_) (fun h2 => ?_) <;> simp -implicitDefEqProofs -dsimp only [go_sem, h2]
   · exact WeakR.drop' (by rw [idxI_found hi' hi.2 h2]) (by rfl)
   · refine ⟨i + 1, ⟨hi', by rw [List.take_succ_eq_append_getElem hi']; simp only [List.any_append, hi.2, List.any_cons, h2, List.any_nil, Bool.or_self]⟩, ?_, by omega⟩
     refine Weak.cut (0) (by simp) (by simp) ?_ ?_
     · rw [wrap_i64 (by omega) (by omega)]
       simp [LeC, LeV, ren, cutF, hr2]
     · rfl
 · simp -implicitDefEqProofs -dsimp only [go_sem, h1]
   have hi' : i = L.length := by simp at h1; omega
   subst hi'
   have h2 := hi.2
   rw [List.take_length] at h2
   exact WeakR.drop' (by rw [idxI_none h2]) (by rfl)
theorem containsFuncFHeard_ok (L : List Heard) (p : Heard → Bool) (fv : Nat) (fa : V) (hf2 : noOwn 2 fa = true) (hf3 : noOwn 3 fa = true) (hv : ∀ x, Ctr Try.prog fv [fa, Heard.v x] [] (.bool (p x)) []) (hl : L.length ≤ 281474976710656) :
   Ctr Try.prog 137 [Heard.sl L, .fn (.func fv) [fa] []] [] (.bool (L.any p)) [] := by
 refine Ctr.intro Try.mixed Try.func137 rfl Try.okF137 ?_
 simp -implicitDefEqProofs -dsimp only [go_sem, Try.ntmps137, Try.results137]
 have hr2 : ∀ f, ren f 2 fa = fa := fun f => ren_noOwn f 2 fa hf2
 refine callS.intro (indexFuncFHeard_ok L p fv fa hf2 hf3 hv hl) ⟨.inl rfl, .inl (by simp [ren, hr2]), trivial⟩ (.inl (by simp [noOwn, hf2])) ?_
 simp -implicitDefEqProofs -dsimp only [go_sem]
 exact WeakR.drop' (by rw [idxI_any]) (by rfl)
end Go.Proofs
end
section
set_option linter.unusedSimpArgs false
set_option linter.unusedVariables false
set_option maxRecDepth 100000
set_option maxHeartbeats 1000000
namespace Go.Proofs
open Go.Lv
def heardB (now : Int) (h : Heard) : Bool := inB' h.Station 1 99 && inB' h.Tick 0 now
theorem heardB_iff {now : Int} {h : Heard} : heardB now h = true ↔ (1 ≤ h.Station ∧ h.Station ≤ 99) ∧ 0 ≤ h.Tick ∧ h.Tick ≤ now := by simp [heardB, inB']
def hQ (now : Int) (L : List Heard) (i : Nat) : Bool :=
 match L[i]? with
 | none => true
 | some x => heardB now x && match i with
   | 0 => true
   | j + 1 => match L[j]? with
     | none => true
     | some y => decide (y.Tick ≤ x.Tick)
theorem hQ_zero {now : Int} {L : List Heard} (h0 : 0 < L.length) : hQ now L 0 = heardB now L[0] := by simp [hQ, h0]
theorem hQ_succ {now : Int} {L : List Heard} {j : Nat} (h : j + 1 < L.length) : hQ now L (j + 1) = (heardB now L[j + 1] && decide ((L[j]'(by omega)).Tick ≤ L[j + 1].Tick)) := by
 have : j < L.length := by omega
 simp [hQ, h, this]
def listB (now : Int) (L : List Heard) : Bool := (List.range L.length).all (hQ now L)
def acountB (a : Alarm) : Bool := inB' a.Now 0 1000000 && inB' a.State 0 3 && inB' a.Cancelled 0 a.Given && decide (a.Given ≤ 999)
def stateB (s : Int) (n : Nat) : Bool := if s = 1 then inB' n 1 2 else if s = 2 then inB' n 3 8 else decide (n = 0)
def freshB (a : Alarm) : Bool := decide (a.State ≠ 1) || a.Heard.all fun h => decide (a.Now - h.Tick ≤ 500)
def alarmB (a : Alarm) : Bool := acountB a && stateB a.State a.Heard.length && listB a.Now a.Heard && decide (a.Heard.map Heard.Station).Nodup && freshB a
theorem acountB_iff {a : Alarm} : acountB a = true ↔ (0 ≤ a.Now ∧ a.Now ≤ 1000000) ∧ (0 ≤ a.State ∧ a.State ≤ 3) ∧ (0 ≤ a.Cancelled ∧ a.Cancelled ≤ a.Given) ∧ a.Given ≤ 999 := by simp [acountB, inB', and_assoc]
theorem stateB_len {s : Int} {n : Nat} (h : stateB s n = true) : n ≤ 8 := by
 unfold stateB at h; split at h
 · have := inB'_iff.1 h; omega
 · split at h
   · have := inB'_iff.1 h; omega
   · simp at h; omega
theorem listB_all {now : Int} {L : List Heard} (h : listB now L = true) : ∀ x ∈ L, heardB now x = true := by
 intro x hx
 obtain ⟨i, hi, rfl⟩ := List.getElem_of_mem hx
 have := List.all_eq_true.1 h i (List.mem_range.2 hi)
 simp only [hQ, List.getElem?_eq_getElem hi, Bool.and_eq_true] at this
 exact this.1
theorem listB_mono {now : Int} {L : List Heard} (h : listB now L = true) : ∀ i (hi : i < L.length), (L[0]'(by omega)).Tick ≤ L[i].Tick
 | 0, _ => Int.le_refl _
 | i + 1, hi => by
   have ih := listB_mono h i (by omega)
   have := List.all_eq_true.1 h (i + 1) (List.mem_range.2 hi)
   rw [hQ_succ hi] at this
   simp at this
   omega
structure AlarmOk (a : Alarm) : Prop where
 now : 0 ≤ a.Now ∧ a.Now ≤ 1000000
 state : 0 ≤ a.State ∧ a.State ≤ 3
 canc : 0 ≤ a.Cancelled ∧ a.Cancelled ≤ a.Given
 given : a.Given ≤ 999
 st : stateB a.State a.Heard.length = true
 len : a.Heard.length ≤ 8
 lst : listB a.Now a.Heard = true
 heard : ∀ x ∈ a.Heard, heardB a.Now x = true
 nodup : (a.Heard.map Heard.Station).Nodup
 fresh : freshB a = true
theorem alarmB_ok {a : Alarm} (h : alarmB a = true) : AlarmOk a := by
 simp only [alarmB, Bool.and_eq_true, decide_eq_true_eq] at h
 obtain ⟨⟨⟨⟨h1, h2⟩, h3⟩, h4⟩, h5⟩ := h
 obtain ⟨a1, a2, a3, a4⟩ := acountB_iff.1 h1
 exact ⟨a1, a2, a3, a4, h2, stateB_len h2, h3, listB_all h3, h4, h5⟩
theorem isOld_ok (a : Alarm) (h : Heard) : Ctr Try.prog 138 [a.v, h.v] [] (.bool (decide (500 < IntKind.i64.wrap (a.Now - h.Tick)))) [] := by
 refine Ctr.intro Try.mixed Try.func138 rfl Try.okF138 ?_
 simp -implicitDefEqProofs -dsimp only [go_sem, Try.ntmps138, Try.results138]
 simp -implicitDefEqProofs -dsimp only [go_sem, Alarm.v, Heard.v]
 exact WeakR.drop' rfl (by rfl)
theorem fresh_any {a : Alarm} (h : AlarmOk a ∨ (0 ≤ a.Now ∧ a.Now ≤ 1000000) ∧ ∀ x ∈ a.Heard, heardB a.Now x = true) : (!(a.Heard.any fun h => decide (500 < IntKind.i64.wrap (a.Now - h.Tick)))) = a.Heard.all fun h => decide (a.Now - h.Tick ≤ 500) := by
 have hh : (0 ≤ a.Now ∧ a.Now ≤ 1000000) ∧ ∀ x ∈ a.Heard, heardB a.Now x = true := by
   rcases h with h | h
   · exact ⟨h.now, h.heard⟩
   · exact h
 rw [Bool.eq_iff_iff, Bool.not_eq_true', List.any_eq_false, List.all_eq_true]
 constructor
 · intro g x hx
   have h1 := g x hx
   have h2 := heardB_iff.1 (hh.2 x hx)
   rw [wrap_i64 (by omega) (by omega)] at h1
   simp at h1 ⊢; omega
 · intro g x hx
   have h1 := g x hx
   have h2 := heardB_iff.1 (hh.2 x hx)
   rw [wrap_i64 (by omega) (by omega)]
   simp at h1 ⊢; omega
theorem l21Count_ok (s : Int) (n : Nat) : Ctr Try.prog 175 [.int .i64 s, .int .i64 n] [] (.bool (stateB s n)) [] := by
 refine Ctr.intro Try.mixed Try.func175 rfl Try.okF175 ?_
 simp -implicitDefEqProofs -dsimp only [go_sem, Try.ntmps175, Try.results175]
 refine condT.split (fun h1 => ?_) (fun h1 => ?_) <;> simp -implicitDefEqProofs -dsimp only [go_sem, h1]
 · (first | refine callT.at (l1In_ok _ _ _) ⟨leA, leA, leA, trivial⟩ ?_ | refine callS.at (l1In_ok _ _ _) ⟨leA, leA, leA, trivial⟩ ?_)
   simp -implicitDefEqProofs -dsimp only [go_sem]
   exact WeakR.drop' (by rw [stateB, if_pos (by simpa using h1)]) (by rfl)
 · refine condT.split (fun h2 => ?_) (fun h2 => ?_) <;> simp -implicitDefEqProofs -dsimp only [go_sem, h2]
   · (first | refine callT.at (l1In_ok _ _ _) ⟨leA, leA, leA, trivial⟩ ?_ | refine callS.at (l1In_ok _ _ _) ⟨leA, leA, leA, trivial⟩ ?_)
     simp -implicitDefEqProofs -dsimp only [go_sem]
     exact WeakR.drop' (by rw [stateB, if_neg (by simpa using h1), if_pos (by simpa using h2)]) (by rfl)
   · exact WeakR.drop' (by rw [stateB, if_neg (by simpa using h1), if_neg (by simpa using h2)]; congr 1; rw [Bool.eq_iff_iff]; simp) (by rfl)
theorem l21Has_ok (L : List Heard) (s : Int) (hl : L.length ≤ 281474976710656) : Ctr Try.prog 176 [Heard.sl L, .int .i64 s] [] (.bool (L.any fun h => h.Station == s)) [] := by
 refine Ctr.intro Try.mixed Try.func176 rfl Try.okF176 ?_
 simp -implicitDefEqProofs -dsimp only [go_sem, Try.ntmps176, Try.results176]
 refine LoopT.intro (fun i : Nat => i ≤ L.length ∧ (L.take i).any (fun h => h.Station == s) = false) (fun i => ⟨[Heard.sl L, .int .i64 s, .undef, .undef, .undef, .int .i64 i, .undef, .undef, .undef, .undef, .undef, .undef, .undef, .undef, .undef, .undef, .undef, .undef, .undef], [], 0⟩) (fun i => L.length - i) 0 ⟨Nat.zero_le _, rfl⟩ ?_ (fun i hi => ?_)
 · refine Weak.cut (0) (by simp) (by simp) ?_ ?_
   · simp [LeC, LeV, ren, cutF]
   · rfl
 simp -implicitDefEqProofs -dsimp only [go_sem]
 refine condT.split (fun h1 => ?_) (fun h1 => ?_)
 · simp -implicitDefEqProofs -dsimp only [go_sem, h1]
   have hi' : i < L.length := by simpa using h1
   have hr := rows_at Heard.csl hi'
   (repeat ((repeat1' (first | simp -implicitDefEqProofs -dsimp only [go_sem, hr, Heard.cs] | simp -dsimp (disch := omega) only [wrap_i64])); repeat (with_reducible refine sideA ?_)))
   refine condT.split (fun h2 => ?_) (fun h2 => ?_) <;> (repeat ((repeat1' (first | simp -implicitDefEqProofs -dsimp only [go_sem, h2] | simp -dsimp (disch := omega) only [wrap_i64])); repeat (with_reducible refine sideA ?_)))
   · refine WeakR.drop' ?_ (by rfl)
     congr 1
     symm
     rw [List.any_eq_true]
     exact ⟨_, List.getElem_mem hi', h2⟩
   · refine ⟨i + 1, ⟨hi', by rw [List.take_succ_eq_append_getElem hi']; simp only [List.any_append, hi.2, List.any_cons, h2, List.any_nil, Bool.or_self]⟩, ?_, by omega⟩
     refine Weak.cut (0) (by simp) (by simp) ?_ ?_
     · simp [LeC, LeV, ren, cutF]
     · rfl
 · simp -implicitDefEqProofs -dsimp only [go_sem, h1]
   have hi' : i = L.length := by simp at h1; omega
   subst hi'
   have h2 := hi.2
   rw [List.take_length] at h2
   exact WeakR.drop' (by rw [h2]) (by rfl)
theorem stOf_ok (h : Heard) : Ctr Try.prog 136 [h.v] [] (.int .i64 h.Station) [] := by
 refine Ctr.intro Try.mixed Try.func136 rfl Try.okF136 ?_
 simp -implicitDefEqProofs -dsimp only [go_sem, Try.ntmps136, Try.results136]
 simp -implicitDefEqProofs -dsimp only [go_sem, Heard.v]
 exact WeakR.drop' rfl (by rfl)
theorem iIsAlarm_ok (a : Alarm) (hl : a.Heard.length ≤ 281474976710656) : Ctr Try.prog 53 [a.v] [] (.bool (alarmB a)) [] := by
 refine Ctr.intro Try.mixed Try.func53 rfl Try.okF53 ?_
 simp -implicitDefEqProofs -dsimp only [go_sem, Try.ntmps53, Try.results53]
 simp -implicitDefEqProofs -dsimp only [go_sem, Alarm.v]
 have bad : ∀ h, alarmB a = false → WeakR 0 (.bool false) h (.bool (alarmB a)) [] := fun h e => WeakR.drop' (by rw [e]) (by rfl)
 (first | refine callT.at (isTick_ok _) ⟨leA, trivial⟩ ?_ | refine callS.at (isTick_ok _) ⟨leA, trivial⟩ ?_)
 simp -implicitDefEqProofs -dsimp only [go_sem]
 refine guardT.splitF (fun h1 => ?_) (fun h1 => ?_) <;> simp -implicitDefEqProofs -dsimp only [go_sem, h1]
 rotate_left
 · exact bad _ (by simp at h1; simp [alarmB, acountB, h1])
 refine guardT.splitF (fun h2 => ?_) (fun h2 => ?_) <;> simp -implicitDefEqProofs -dsimp only [go_sem, h2]
 rotate_left
 · refine bad _ ?_
   cases h : alarmB a with
   | false => rfl
   | true => have := (alarmB_ok h).len; simp at h2; omega
 (first | refine callT.at (in_ok _ _ _) ⟨leA, leA, leA, trivial⟩ ?_ | refine callS.at (in_ok _ _ _) ⟨leA, leA, leA, trivial⟩ ?_)
 simp -implicitDefEqProofs -dsimp only [go_sem]
 refine guardT.splitF (fun h3 => ?_) (fun h3 => ?_) <;> simp -implicitDefEqProofs -dsimp only [go_sem, h3]
 rotate_left
 · exact bad _ (by simp at h3; simp [alarmB, acountB, h3])
 refine condT.split (fun h4 => ?_) (fun h4 => ?_) <;> simp -implicitDefEqProofs -dsimp only [go_sem, h4]
 · refine bad _ ?_
   cases h : alarmB a with
   | false => rfl
   | true => have := (alarmB_ok h).given; simp at h4; omega
 have hn : 0 ≤ a.Now ∧ a.Now ≤ 1000000 := inB'_iff.1 (by simpa using h1)
 have h8 : a.Heard.length ≤ 8 := by simp at h2; omega
 refine LoopT.intro (fun i : Nat => i ≤ a.Heard.length ∧ (List.range i).all (hQ a.Now a.Heard) = true) (fun i => ⟨[.undef, .ptr 0 0, .undef, .int .i64 a.Heard.length, .undef, .undef, .undef, .undef, .undef, .undef, .undef, .undef, .undef, .undef, .undef, .undef, .undef, .undef, .undef, .undef, .undef, .undef, .undef, .undef, .undef, .undef, .undef, .undef, .undef, .undef, .undef, Heard.sl a.Heard, .int .i64 a.Heard.length, .int .i64 i, .undef, .undef, .undef, .undef, .undef, .undef, .undef, .undef, .undef, .undef, .undef, .undef, .undef, .undef, .undef, .undef, .undef, .undef, .undef, .undef, .undef, .undef, .undef, .undef, .undef, .undef, .undef, .undef, .undef, .undef, .undef, .undef, .undef, .undef, .undef, .undef, .undef, .undef, .undef, .undef, .undef, .undef, .undef, .undef, .undef, .undef, .undef, .undef, .undef, .undef, .undef, .undef, .undef, .undef, .undef, .undef, .undef, .undef, .undef, .undef, .undef, .undef, .undef], [some a.cs], 0⟩) (fun i => a.Heard.length - i) 0 ⟨Nat.zero_le _, rfl⟩ ?_ (fun i hi => ?_)
 · refine Weak.cut (1) (by simp) (by simp) ?_ ?_
   · simp [LeC, LeV, ren, cutF]
   · simp [cutH, cutB, ren, Alarm.cs]
 have badq : ∀ h, i < a.Heard.length → hQ a.Now a.Heard i = false → WeakR 0 (.bool false) h (.bool (alarmB a)) [] := fun h hlt hq => bad h (by
   cases h : alarmB a with
   | false => rfl
   | true => have := List.all_eq_true.1 (alarmB_ok h).lst i (List.mem_range.2 hlt); rw [hq] at this; cases this)
 simp -implicitDefEqProofs -dsimp only [go_sem, Alarm.cs]
 refine condT.split (fun g1 => ?_) (fun g1 => ?_)
 · simp -implicitDefEqProofs -dsimp only [go_sem, g1]
   have hi' : i < a.Heard.length := by simpa using g1
   have h5 := Heard.csl a.Heard[i]
   have hr := rows_at Heard.csl hi'
   (repeat ((repeat1' (first | simp -implicitDefEqProofs -dsimp only [go_sem, hr, Heard.cs, Alarm.cs] | simp -dsimp (disch := omega) only [wrap_i64])); repeat (with_reducible refine sideA ?_)))
   (first | refine callT.at (isStationId_ok _) ⟨leA, trivial⟩ ?_ | refine callS.at (isStationId_ok _) ⟨leA, trivial⟩ ?_)
   simp -implicitDefEqProofs -dsimp only [go_sem]
   refine guardT.splitF (fun g2 => ?_) (fun g2 => ?_) <;> simp -implicitDefEqProofs -dsimp only [go_sem, g2, Alarm.cs]
   rotate_left
   · refine badq _ hi' ?_
     simp at g2
     simp [hQ, hi', heardB, g2]
   (first | refine callT.at (in_ok _ _ _) ⟨leA, leA, leA, trivial⟩ ?_ | refine callS.at (in_ok _ _ _) ⟨leA, leA, leA, trivial⟩ ?_)
   simp -implicitDefEqProofs -dsimp only [go_sem]
   refine guardT.splitF (fun g3 => ?_) (fun g3 => ?_) <;> simp -implicitDefEqProofs -dsimp only [go_sem, g3, Alarm.cs]
   rotate_left
   · refine badq _ hi' ?_
     simp at g3
     simp [hQ, hi', heardB, g3]
   have hv : heardB a.Now a.Heard[i] = true := by simp at g2 g3; simp [heardB, g2, g3]
   refine guardT.splitT (fun g4 => ?_) (fun g4 => ?_) <;> simp -implicitDefEqProofs -dsimp only [go_sem, g4, Alarm.cs]
   · obtain ⟨j, rfl⟩ : ∃ j, i = j + 1 := ⟨i - 1, by simp at g4; omega⟩
     have hj : j < a.Heard.length := by omega
     have hw1 : IntKind.i64.wrap (((j + 1 : Nat) : Int) - 1) = (j : Int) := by rw [wrap_i64 (by omega) (by omega)]; omega
     have hr2 := rows_at Heard.csl hj
     have h6 := Heard.csl a.Heard[j]
     (repeat ((repeat1' (first | simp -implicitDefEqProofs -dsimp only [go_sem, hr, hw1, hr2, Heard.cs, Alarm.cs] | simp -dsimp (disch := omega) only [wrap_i64])); repeat (with_reducible refine sideA ?_)))
     refine condT.split (fun g5 => ?_) (fun g5 => ?_) <;> (repeat ((repeat1' (first | simp -implicitDefEqProofs -dsimp only [go_sem, g5, hr, hr2, Heard.cs, Alarm.cs] | simp -dsimp (disch := omega) only [wrap_i64])); repeat (with_reducible refine sideA ?_)))
     · refine badq _ hi' ?_
       rw [hQ_succ hi', hv]
       simp at g5 ⊢; omega
     · refine ⟨j + 1 + 1, ⟨hi', range_all_succ hi.2 (by rw [hQ_succ hi', hv]; simp at g5 ⊢; omega)⟩, ?_, by omega⟩
       refine Weak.cut (1) (by simp) (by simp) ?_ ?_
       · simp [LeC, LeV, ren, cutF]
       · simp [cutH, cutB, ren, Alarm.cs]
   · have h0 : i = 0 := by simp at g4; omega
     subst h0
     try (repeat1' (first | simp -implicitDefEqProofs -dsimp only [go_sem] | simp -dsimp (disch := omega) only [wrap_i64]))
     refine ⟨1, ⟨hi', range_all_succ hi.2 (by rw [hQ_zero hi', hv])⟩, ?_, by omega⟩
     refine Weak.cut (1) (by simp) (by simp) ?_ ?_
     · simp [LeC, LeV, ren, cutF]
     · simp [cutH, cutB, ren, Alarm.cs]
 · simp -implicitDefEqProofs -dsimp only [go_sem, g1, Alarm.cs]
   have hi' : i = a.Heard.length := by simp at g1; omega
   subst hi'
   have hlst : listB a.Now a.Heard = true := hi.2
   have hall := listB_all hlst
   (first | refine callT.at (differHeard_ok a.Heard Heard.Station _ stOf_ok hl) ⟨leA, leA, trivial⟩ ?_ | refine callS.at (differHeard_ok a.Heard Heard.Station _ stOf_ok hl) ⟨leA, leA, trivial⟩ ?_)
   simp -implicitDefEqProofs -dsimp only [go_sem]
   refine condT.split (fun g2 => ?_) (fun g2 => ?_) <;> simp -implicitDefEqProofs -dsimp only [go_sem, g2, Alarm.cs]
   · exact bad _ (by simp at g2; simp [alarmB, g2])
   have hnd : decide (a.Heard.map Heard.Station).Nodup = true := by simpa using g2
   have hac : acountB a = inB' a.State 0 3 := by
     simp at h1 h3 h4
     simp [acountB, h1, h3, h4]
   have hal : alarmB a = (inB' a.State 0 3 && stateB a.State a.Heard.length && freshB a) := by
     rw [alarmB, hac, hlst, hnd]; simp
   have e0 : ∀ n : Nat, ((n : Int) == 0) = decide (n = 0) := fun n => by rw [Bool.eq_iff_iff]; simp
   by_cases s0 : a.State = 0
   · have c0 : (a.State == 0) = true := by simp [s0]
     simp -implicitDefEqProofs -dsimp only [go_sem, c0, e0]
     exact WeakR.drop' (by rw [hal]; simp [s0, inB', stateB, freshB]) (by rfl)
   have c0 : (a.State == 0) = false := by simp [s0]
   by_cases s3 : a.State = 3
   · have c3 : (a.State == 3) = true := by simp [s3]
     simp -implicitDefEqProofs -dsimp only [go_sem, c0, c3, e0]
     exact WeakR.drop' (by rw [hal]; simp [s3, inB', stateB, freshB]) (by rfl)
   have c3 : (a.State == 3) = false := by simp [s3]
   by_cases s1 : a.State = 1
   · have c1 : (a.State == 1) = true := by simp [s1]
     simp -implicitDefEqProofs -dsimp only [go_sem, c0, c3, c1]
     (first | refine callT.at (in_ok _ _ _) ⟨leA, leA, leA, trivial⟩ ?_ | refine callS.at (in_ok _ _ _) ⟨leA, leA, leA, trivial⟩ ?_)
     simp -implicitDefEqProofs -dsimp only [go_sem]
     refine guardT.splitT (fun g3 => ?_) (fun g3 => ?_) <;> simp -implicitDefEqProofs -dsimp only [go_sem, g3, Alarm.cs]
     · (first | refine callT.at (containsFuncFHeard_ok a.Heard (fun h => decide (500 < IntKind.i64.wrap (a.Now - h.Tick))) _ a.v (by rfl) (by rfl) (fun h => isOld_ok a h) hl) ⟨leA, leA, trivial⟩ ?_ | refine callS.at (containsFuncFHeard_ok a.Heard (fun h => decide (500 < IntKind.i64.wrap (a.Now - h.Tick))) _ a.v (by rfl) (by rfl) (fun h => isOld_ok a h) hl) ⟨leA, leA, trivial⟩ ?_)
       simp -implicitDefEqProofs -dsimp only [go_sem]
       refine WeakR.drop' ?_ (by rfl)
       rw [fresh_any (.inr ⟨hn, hall⟩), hal]
       simp [s1, inB', stateB, freshB]
       simp [inB'] at g3
       omega
     · refine WeakR.drop' ?_ (by rfl)
       rw [hal]
       simp [s1, stateB, g3]
   · have c1 : (a.State == 1) = false := by simp [s1]
     simp -implicitDefEqProofs -dsimp only [go_sem, c0, c3, c1]
     by_cases s2 : a.State = 2
     · have c2 : (a.State == 2) = true := by simp [s2]
       simp -implicitDefEqProofs -dsimp only [go_sem, c2]
       refine WeakR.drop' ?_ (by rfl)
       rw [hal]
       simp [s2, inB', stateB, freshB]
       omega
     · have c2 : (a.State == 2) = false := by simp [s2]
       simp -implicitDefEqProofs -dsimp only [go_sem, c2]
       refine WeakR.drop' ?_ (by rfl)
       have : inB' a.State 0 3 = false := by
         cases h : inB' a.State 0 3 with
         | false => rfl
         | true => have := inB'_iff.1 h; omega
       rw [hal, this]
       rfl
end Go.Proofs
end
section
set_option linter.unusedSimpArgs false
set_option linter.unusedVariables false
set_option maxRecDepth 100000
set_option maxHeartbeats 1000000
namespace Go.Proofs
open Go.Lv
theorem nodup_snoc {L : List Heard} {i : Nat} (hi : i < L.length) : ((L.take (i + 1)).map Heard.Station).Nodup ↔ ((L.take i).map Heard.Station).Nodup ∧ ((L.take i).any fun h => h.Station == L[i].Station) = false := by
 rw [List.take_succ_eq_append_getElem hi, List.map_append, List.nodup_append]
 constructor
 · rintro ⟨a, _, b⟩
   refine ⟨a, ?_⟩
   rw [List.any_eq_false]
   intro x hx
   have := b x.Station (List.mem_map.2 ⟨x, hx, rfl⟩) L[i].Station (by simp)
   simpa using this
 · rintro ⟨a, b⟩
   refine ⟨a, by simp, ?_⟩
   intro x hx y hy
   obtain ⟨z, hz, rfl⟩ := List.mem_map.1 hx
   simp at hy; subst hy
   have := List.any_eq_false.1 b z hz
   simpa using this
theorem nodup_take {L : List Heard} (h : (L.map Heard.Station).Nodup) (i : Nat) : ((L.take i).map Heard.Station).Nodup := by
 rw [List.map_take]; exact (List.take_sublist i _).nodup h
theorem l21Good_ok (a : Alarm) (hl : a.Heard.length ≤ 281474976710656) : Ctr Try.prog 131 [a.v] [] (.bool (alarmB a)) [] := by
 refine Ctr.intro Try.mixed Try.func131 rfl Try.okF131 ?_
 simp -implicitDefEqProofs -dsimp only [go_sem, Try.ntmps131, Try.results131]
 simp -implicitDefEqProofs -dsimp only [go_sem, Alarm.v]
 have bad : ∀ h, alarmB a = false → WeakR 0 (.bool false) h (.bool (alarmB a)) [] := fun h e => WeakR.drop' (by rw [e]) (by rfl)
 (first | refine callT.at (l2Tick_ok _) ⟨leA, trivial⟩ ?_ | refine callS.at (l2Tick_ok _) ⟨leA, trivial⟩ ?_)
 simp -implicitDefEqProofs -dsimp only [go_sem]
 refine guardT.splitF (fun h1 => ?_) (fun h1 => ?_) <;> simp -implicitDefEqProofs -dsimp only [go_sem, h1]
 rotate_left
 · exact bad _ (by simp at h1; simp [alarmB, acountB, h1])
 (first | refine callT.at (l1In_ok _ _ _) ⟨leA, leA, leA, trivial⟩ ?_ | refine callS.at (l1In_ok _ _ _) ⟨leA, leA, leA, trivial⟩ ?_)
 simp -implicitDefEqProofs -dsimp only [go_sem]
 refine guardT.splitF (fun h2 => ?_) (fun h2 => ?_) <;> simp -implicitDefEqProofs -dsimp only [go_sem, h2]
 rotate_left
 · exact bad _ (by simp at h2; simp [alarmB, acountB, h2])
 (first | refine callT.at (l1In_ok _ _ _) ⟨leA, leA, leA, trivial⟩ ?_ | refine callS.at (l1In_ok _ _ _) ⟨leA, leA, leA, trivial⟩ ?_)
 simp -implicitDefEqProofs -dsimp only [go_sem]
 refine guardT.splitF (fun h3 => ?_) (fun h3 => ?_) <;> simp -implicitDefEqProofs -dsimp only [go_sem, h3]
 rotate_left
 · exact bad _ (by simp at h3; simp [alarmB, acountB, h3])
 refine guardT.splitF (fun h4 => ?_) (fun h4 => ?_) <;> simp -implicitDefEqProofs -dsimp only [go_sem, h4]
 rotate_left
 · refine bad _ ?_
   cases h : alarmB a with
   | false => rfl
   | true => have := (alarmB_ok h).given; simp at h4; omega
 (first | refine callT.at (l21Count_ok _ _) ⟨leA, leA, trivial⟩ ?_ | refine callS.at (l21Count_ok _ _) ⟨leA, leA, trivial⟩ ?_)
 simp -implicitDefEqProofs -dsimp only [go_sem]
 refine condT.split (fun h5 => ?_) (fun h5 => ?_) <;> simp -implicitDefEqProofs -dsimp only [go_sem, h5]
 · exact bad _ (by simp at h5; simp [alarmB, h5])
 have hn : 0 ≤ a.Now ∧ a.Now ≤ 1000000 := inB'_iff.1 (by simpa using h1)
 have hst : stateB a.State a.Heard.length = true := by simpa using h5
 have h8 := stateB_len hst
 have hac : acountB a = true := by simp at h1 h2 h3 h4; simp [acountB, h1, h2, h3, h4]
 refine LoopT.intro (fun i : Nat => i ≤ a.Heard.length ∧ (List.range i).all (hQ a.Now a.Heard) = true ∧ ((a.Heard.take i).map Heard.Station).Nodup) (fun i => ⟨[.undef, .ptr 0 0, .undef, .int .i64 i, .undef, .undef, .undef, .undef, .undef, .undef, .undef, .undef, .undef, .undef, .undef, .undef, .undef, .undef, .undef, .undef, .undef, .undef, .undef, .undef, .undef, .undef, .undef, .undef, .undef, .undef, .undef, .undef, .undef, .undef, .undef, .undef, .undef, .undef, .undef, .undef, .undef, .undef, .undef, .undef, .undef, .undef, .undef, .undef, .undef, .undef, .undef, .undef, .undef, .undef, .undef, .undef, .undef, .undef, .undef, .undef, .undef, .undef, .undef, .undef, .undef, .undef, .undef, .undef, .undef, .undef, .undef, .undef, .undef, .undef, .undef, .undef, .undef, .undef, .undef, .undef, .undef, .undef, .undef, .undef, .undef, .undef, .undef, .undef, .undef, .undef, .undef, .undef, .undef, .undef, .undef, .undef, .undef, .undef, .undef, .undef], [some a.cs], 0⟩) (fun i => a.Heard.length - i) 0 ⟨Nat.zero_le _, rfl, by simp⟩ ?_ (fun i hi => ?_)
 · refine Weak.cut (1) (by simp) (by simp) ?_ ?_
   · simp [LeC, LeV, ren, cutF]
   · simp [cutH, cutB, ren, Alarm.cs]
 have badq : ∀ h, i < a.Heard.length → hQ a.Now a.Heard i = false → WeakR 0 (.bool false) h (.bool (alarmB a)) [] := fun h hlt hq => bad h (by
   cases h : alarmB a with
   | false => rfl
   | true => have := List.all_eq_true.1 (alarmB_ok h).lst i (List.mem_range.2 hlt); rw [hq] at this; cases this)
 simp -implicitDefEqProofs -dsimp only [go_sem, Alarm.cs]
 refine condT.split (fun g1 => ?_) (fun g1 => ?_)
 · simp -implicitDefEqProofs -dsimp only [go_sem, g1]
   have hi' : i < a.Heard.length := by simpa using g1
   have h5 := Heard.csl a.Heard[i]
   have hr := rows_at Heard.csl hi'
   have hti : (a.Heard.take i).length = i := by simp; omega
   have hrt := rows_take Heard.csl a.Heard i
   (repeat ((repeat1' (first | simp -implicitDefEqProofs -dsimp only [go_sem, hr, Heard.cs, Alarm.cs] | simp -dsimp (disch := omega) only [wrap_i64])); repeat (with_reducible refine sideA ?_)))
   (first | refine callT.at (l1In_ok _ _ _) ⟨leA, leA, leA, trivial⟩ ?_ | refine callS.at (l1In_ok _ _ _) ⟨leA, leA, leA, trivial⟩ ?_)
   simp -implicitDefEqProofs -dsimp only [go_sem]
   refine guardT.splitF (fun g2 => ?_) (fun g2 => ?_) <;> simp -implicitDefEqProofs -dsimp only [go_sem, g2, Alarm.cs]
   rotate_left
   · refine badq _ hi' ?_
     simp at g2
     simp [hQ, hi', heardB, g2]
   (first | refine callT.at (l1In_ok _ _ _) ⟨leA, leA, leA, trivial⟩ ?_ | refine callS.at (l1In_ok _ _ _) ⟨leA, leA, leA, trivial⟩ ?_)
   simp -implicitDefEqProofs -dsimp only [go_sem]
   refine guardT.splitF (fun g3 => ?_) (fun g3 => ?_) <;> simp -implicitDefEqProofs -dsimp only [go_sem, g3, Alarm.cs]
   rotate_left
   · refine badq _ hi' ?_
     simp at g3
     simp [hQ, hi', heardB, g3]
   have hv : heardB a.Now a.Heard[i] = true := by simp at g2 g3; simp [heardB, g2, g3]
   have hc := l21Has_ok (a.Heard.take i) a.Heard[i].Station (by omega)
   simp only [Heard.sl, hti] at hc
   rw [← hrt] at hc
   refine guardT.splitT (fun g4 => ?_) (fun g4 => ?_) <;> simp -implicitDefEqProofs -dsimp only [go_sem, g4, Alarm.cs]
   · obtain ⟨j, rfl⟩ : ∃ j, i = j + 1 := ⟨i - 1, by simp at g4; omega⟩
     have hj : j < a.Heard.length := by omega
     have hw1 : IntKind.i64.wrap (((j + 1 : Nat) : Int) - 1) = (j : Int) := by rw [wrap_i64 (by omega) (by omega)]; omega
     have hr2 := rows_at Heard.csl hj
     have h6 := Heard.csl a.Heard[j]
     (repeat ((repeat1' (first | simp -implicitDefEqProofs -dsimp only [go_sem, hr, hw1, hr2, Heard.cs, Alarm.cs] | simp -dsimp (disch := omega) only [wrap_i64])); repeat (with_reducible refine sideA ?_)))
     refine guardT.splitF (fun g5 => ?_) (fun g5 => ?_) <;> (repeat ((repeat1' (first | simp -implicitDefEqProofs -dsimp only [go_sem, g5, hr, hr2, Heard.cs, Alarm.cs, Nat.sub_zero] | simp -dsimp (disch := omega) only [wrap_i64])); repeat (with_reducible refine sideA ?_)))
     rotate_left
     · refine badq _ hi' ?_
       rw [hQ_succ hi', hv]
       simp at g5 ⊢; omega
     have hq : hQ a.Now a.Heard (j + 1) = true := by rw [hQ_succ hi', hv]; simp at g5 ⊢; omega
     (first | refine callT.at (hc) ⟨leA, leA, trivial⟩ ?_ | refine callS.at (hc) ⟨leA, leA, trivial⟩ ?_)
     simp -implicitDefEqProofs -dsimp only [go_sem]
     refine condT.split (fun g6 => ?_) (fun g6 => ?_) <;> simp -implicitDefEqProofs -dsimp only [go_sem, g6, Alarm.cs]
     · refine bad _ ?_
       cases h : alarmB a with
       | false => rfl
       | true =>
         have := ((nodup_snoc hi').1 (nodup_take (alarmB_ok h).nodup _)).2
         rw [this] at g6; cases g6
     · try (repeat1' (first | simp -implicitDefEqProofs -dsimp only [go_sem] | simp -dsimp (disch := omega) only [wrap_i64]))
       refine ⟨_ + 1, ⟨hi', range_all_succ hi.2.1 hq, (nodup_snoc hi').2 ⟨hi.2.2, g6⟩⟩, ?_, by omega⟩
       refine Weak.cut (1) (by simp) (by simp) ?_ ?_
       · simp [LeC, LeV, ren, cutF]
       · simp [cutH, cutB, ren, Alarm.cs]
   · have h0 : i = 0 := by simp at g4; omega
     have hq : hQ a.Now a.Heard i = true := by subst h0; rw [hQ_zero hi', hv]
     (repeat ((repeat1' (first | simp -implicitDefEqProofs -dsimp only [go_sem, hr, Heard.cs, Alarm.cs, Nat.sub_zero] | simp -dsimp (disch := omega) only [wrap_i64])); repeat (with_reducible refine sideA ?_)))
     (first | refine callT.at (hc) ⟨leA, leA, trivial⟩ ?_ | refine callS.at (hc) ⟨leA, leA, trivial⟩ ?_)
     simp -implicitDefEqProofs -dsimp only [go_sem]
     refine condT.split (fun g6 => ?_) (fun g6 => ?_) <;> simp -implicitDefEqProofs -dsimp only [go_sem, g6, Alarm.cs]
     · refine bad _ ?_
       cases h : alarmB a with
       | false => rfl
       | true =>
         have := ((nodup_snoc hi').1 (nodup_take (alarmB_ok h).nodup _)).2
         rw [this] at g6; cases g6
     · try (repeat1' (first | simp -implicitDefEqProofs -dsimp only [go_sem] | simp -dsimp (disch := omega) only [wrap_i64]))
       refine ⟨_ + 1, ⟨hi', range_all_succ hi.2.1 hq, (nodup_snoc hi').2 ⟨hi.2.2, g6⟩⟩, ?_, by omega⟩
       refine Weak.cut (1) (by simp) (by simp) ?_ ?_
       · simp [LeC, LeV, ren, cutF]
       · simp [cutH, cutB, ren, Alarm.cs]
 · simp -implicitDefEqProofs -dsimp only [go_sem, g1, Alarm.cs]
   have hi' : i = a.Heard.length := by simp at g1; omega
   subst hi'
   have hlst : listB a.Now a.Heard = true := hi.2.1
   have hall := listB_all hlst
   have hnd := hi.2.2
   rw [List.take_length] at hnd
   have hal : alarmB a = freshB a := by
     rw [alarmB, hac, hst, hlst, decide_eq_true hnd]; simp
   by_cases s1 : a.State = 1
   · have c1 : (a.State != 1) = false := by simp [s1]
     have hpos : 0 < a.Heard.length := by
       rw [s1, stateB, if_pos rfl] at hst
       have := inB'_iff.1 hst; omega
     have hr := rows_at Heard.csl hpos
     rw [Nat.zero_mul, List.drop_zero] at hr
     have h6 := Heard.csl a.Heard[0]
     have hv0 := heardB_iff.1 (hall _ (List.getElem_mem hpos))
     (repeat ((repeat1' (first | simp -implicitDefEqProofs -dsimp only [go_sem, c1, hr, Heard.cs, Alarm.cs] | simp -dsimp (disch := omega) only [wrap_i64])); repeat (with_reducible refine sideA ?_)))
     refine WeakR.drop' ?_ (by rfl)
     rw [hal, freshB]
     congr 1
     have hw : IntKind.i64.wrap (a.Now - a.Heard[0].Tick) = a.Now - a.Heard[0].Tick := wrap_i64 (by omega) (by omega)
     have hm := listB_mono hlst
     rw [Bool.eq_iff_iff]
     simp only [s1, ne_eq, not_true_eq_false, decide_false, Bool.false_or, List.all_eq_true, decide_eq_true_eq]
     constructor
     · intro g x hx
       obtain ⟨j, hj, rfl⟩ := List.getElem_of_mem hx
       have := hm j hj
       first | omega | (rw [hw] at g; omega)
     · intro g
       have := g _ (List.getElem_mem hpos)
       first | omega | (rw [hw]; omega)
   · have c1 : (a.State != 1) = true := by simp [s1]
     (repeat ((repeat1' (first | simp -implicitDefEqProofs -dsimp only [go_sem, c1] | simp -dsimp (disch := omega) only [wrap_i64])); repeat (with_reducible refine sideA ?_)))
     refine WeakR.drop' ?_ (by rfl)
     rw [hal, freshB]
     simp [s1]
end Go.Proofs
end
section
set_option linter.unusedSimpArgs false
set_option linter.unusedVariables false
set_option maxRecDepth 100000
set_option maxHeartbeats 1000000
namespace Go.Proofs
open Go.Lv
theorem WeakR.no {v : V} {h : Hp} {b : Bool} : WeakR 0 (.tup [v, .bool b]) h (.tup [.undef, .bool b]) [] := by
 intro w0 m0 h0 av0 w m val hk hkl hlt hle H hx hi
 have h2 : RV w m h (avm av0 m h) true val (.tup [.undef, .bool b]) := by
   generalize hg : V.tup [v, .bool b] = r at hx
   cases hx with
   | tup a a' ha hra =>
     cases hg
     refine .tup a _ ha (fun i hi => ?_)
     match i, hi with
     | 0, _ => exact .undef _
     | 1, hi => exact hra 1 (by simp)
   | _ => cases hg
 exact WeakR.drop rfl w0 m0 h0 av0 w m val hk hkl hlt hle H h2 hi
def tickAt (L : List Heard) (i : Nat) : Int := ((L[i]?).map Heard.Tick).getD 0
theorem tickAt_get {L : List Heard} {i : Nat} (h : i < L.length) : tickAt L i = L[i].Tick := by simp [tickAt, h]
def canB (a : Alarm) : Bool := a.State == 2 && (decide (a.Now - tickAt a.Heard 2 ≤ 1000) && decide (a.Cancelled < a.Given))
def clearA (a : Alarm) (s c : Int) : Alarm := ⟨a.Now, s, [], a.Given, c⟩
theorem state2 {a : Alarm} (A : AlarmOk a) (h : a.State = 2) : 3 ≤ a.Heard.length := by
 have := A.st
 rw [h, stateB, if_neg (by decide), if_pos rfl] at this
 have := inB'_iff.1 this; omega
theorem copyOfHeard_ok (L : List Heard) (hl : L.length ≤ 16777216) : Ctr Try.prog 183 [Heard.sl L] [] (.osl 0 0 L.length 2) [some (rows Heard.cs L)] := by
 refine Ctr.intro Try.mixed Try.func183 rfl Try.okF183 ?_
 simp -implicitDefEqProofs -dsimp only [go_sem, Try.ntmps183, Try.results183]
 repeat (with_reducible refine sideA ?_)
 exact WeakR.refl _ _ _
theorem copiedAlarm_ok (a : Alarm) (hl : a.Heard.length ≤ 16777216) : Ctr Try.prog 140 [a.v] [] (a.o 0) [some (rows Heard.cs a.Heard)] := by
 refine Ctr.intro Try.mixed Try.func140 rfl Try.okF140 ?_
 simp -implicitDefEqProofs -dsimp only [go_sem, Try.ntmps140, Try.results140]
 simp -implicitDefEqProofs -dsimp only [go_sem, Alarm.v]
 repeat (with_reducible refine sideA ?_)
 (first | refine callT.at (copyOfHeard_ok a.Heard hl) ⟨leA, trivial⟩ ?_ | refine callS.at (copyOfHeard_ok a.Heard hl) ⟨leA, trivial⟩ ?_)
 simp -implicitDefEqProofs -dsimp only [go_sem]
 repeat (with_reducible refine sideA ?_)
 refine WeakR.pick [2] (by decide) (fun j hj => by omega) (.inl ?_) ?_
 · first | rfl | (simp [ren, pickF, posOf, Alarm.o]; done)
 · simp only [pickH, List.map_cons, List.map_nil, pickB, List.getElem?_cons_zero, List.getElem?_cons_succ, map_ren_rows]
theorem l21Can_ok (a : Alarm) (ha : alarmB a = true) : Ctr Try.prog 180 [a.v] [] (.bool (canB a)) [] := by
 have A := alarmB_ok ha
 refine Ctr.intro Try.mixed Try.func180 rfl Try.okF180 ?_
 simp -implicitDefEqProofs -dsimp only [go_sem, Try.ntmps180, Try.results180]
 simp -implicitDefEqProofs -dsimp only [go_sem, Alarm.v]
 refine ⟨by kernel_rfl, ?_⟩
 by_cases hs : a.State = 2
 · have h3 := state2 A hs
   have hr := rows_at Heard.csl (show 2 < a.Heard.length by omega)
   have hh := heardB_iff.1 (A.heard _ (List.getElem_mem (show 2 < a.Heard.length by omega)))
   have hn := A.now
   have hb : (a.State == 2) = true := by simp [hs]
   have hw2 : IntKind.i64.wrap (a.Now - a.Heard[2].Tick) = a.Now - a.Heard[2].Tick := wrap_i64 (by omega) (by omega)
   (repeat ((repeat1' (first | simp -implicitDefEqProofs -dsimp only [go_sem, hb, hr, hw2, Heard.cs] | simp -dsimp (disch := omega) only [wrap_i64])); repeat (with_reducible refine sideA ?_)))
   refine guardT.splitT (fun g1 => ?_) (fun g1 => ?_) <;> simp -implicitDefEqProofs -dsimp only [go_sem, g1]
   · refine WeakR.drop' ?_ (by rfl)
     rw [canB, tickAt_get (by omega), hb, g1]; rfl
   · refine WeakR.drop' ?_ (by rfl)
     rw [canB, tickAt_get (by omega), hb, g1]; rfl
 · have hb : (a.State == 2) = false := by simp [hs]
   (repeat ((repeat1' (first | simp -implicitDefEqProofs -dsimp only [go_sem, hb] | simp -dsimp (disch := omega) only [wrap_i64])); repeat (with_reducible refine sideA ?_)))
   exact WeakR.drop' (by rw [canB, hb]; rfl) (by rfl)
theorem stepCancel_ok (a : Alarm) (ha : alarmB a = true) : Ctr Try.prog 130 [a.v, .agg [.int .i64 3, .int .i64 0]] [] (.tup [.agg [.int .i64 a.Now, .int .i64 0, .nilsl, .int .i64 a.Given, .int .i64 (a.Cancelled + 1)], .bool (canB a)]) [] := by
 have A := alarmB_ok ha
 have hlen := A.len
 have hc := A.canc
 have hg := A.given
 have hw : IntKind.i64.wrap (a.Cancelled + 1) = a.Cancelled + 1 := wrap_i64 (by omega) (by omega)
 refine Ctr.intro Try.mixed Try.func130 rfl Try.okF130 ?_
 simp -implicitDefEqProofs -dsimp only [go_sem, Try.ntmps130, Try.results130]
 simp -implicitDefEqProofs -dsimp only [go_sem, Alarm.v]
 (first | refine callT.at (copiedAlarm_ok a (by omega)) ⟨leA, trivial⟩ ?_ | refine callS.at (copiedAlarm_ok a (by omega)) ⟨leA, trivial⟩ ?_)
 simp -implicitDefEqProofs -dsimp only [go_sem, Alarm.o]
 refine ⟨by kernel_rfl, ?_⟩
 by_cases hs : a.State = 2
 · have h3 := state2 A hs
   have hr := rows_at Heard.csl (show 2 < a.Heard.length by omega)
   have hh := heardB_iff.1 (A.heard _ (List.getElem_mem (show 2 < a.Heard.length by omega)))
   have hn := A.now
   have hb : (a.State == 2) = true := by simp [hs]
   have hw2 : IntKind.i64.wrap (a.Now - a.Heard[2].Tick) = a.Now - a.Heard[2].Tick := wrap_i64 (by omega) (by omega)
   have hI := iIsAlarm_ok (clearA a 0 (a.Cancelled + 1)) (by simp [clearA])
   simp only [Alarm.v, clearA, rows, List.length_nil, List.flatMap_nil] at hI
   have hcl : alarmB ⟨a.Now, 0, [], a.Given, a.Cancelled + 1⟩ = decide (a.Cancelled < a.Given) := by
     rw [Bool.eq_iff_iff]
     simp [alarmB, acountB, stateB, listB, freshB, inB']
     omega
   rw [hcl] at hI
   (repeat ((repeat1' (first | simp -implicitDefEqProofs -dsimp only [go_sem, hb, hr, hw, hw2, Heard.cs] | simp -dsimp (disch := omega) only [wrap_i64])); repeat (with_reducible refine sideA ?_)))
   refine guardT.splitT (fun g1 => ?_) (fun g1 => ?_) <;> simp -implicitDefEqProofs -dsimp only [go_sem, g1]
   · (first | refine callT.at (hI) ⟨leA, trivial⟩ ?_ | refine callS.at (hI) ⟨leA, trivial⟩ ?_)
     (repeat ((repeat1' (first | simp -implicitDefEqProofs -dsimp only [go_sem] | simp -dsimp (disch := omega) only [wrap_i64])); repeat (with_reducible refine sideA ?_)))
     have : (decide (a.Cancelled < a.Given)) = canB a := by rw [canB, tickAt_get (by omega), hb, g1]; rfl
     rw [this]
     exact WeakR.drop' rfl (by rfl)
   · have : canB a = false := by rw [canB, tickAt_get (by omega), hb, g1]; rfl
     rw [this]
     exact WeakR.drop' rfl (by rfl)
 · have hb : (a.State == 2) = false := by simp [hs]
   (repeat ((repeat1' (first | simp -implicitDefEqProofs -dsimp only [go_sem, hb, hw] | simp -dsimp (disch := omega) only [wrap_i64])); repeat (with_reducible refine sideA ?_)))
   have : canB a = false := by rw [canB, hb]; rfl
   rw [this]
   exact WeakR.drop' rfl (by rfl)
end Go.Proofs
end
section
set_option linter.unusedSimpArgs false
set_option linter.unusedVariables false
set_option maxRecDepth 100000
set_option maxHeartbeats 1000000
namespace Go.Proofs
open Go.Lv
theorem l21Own_ok (a : Alarm) (hl : a.Heard.length ≤ 16777216) : Ctr Try.prog 141 [a.v] [] (a.o 0) [some (rows Heard.cs a.Heard)] := by
 refine Ctr.intro Try.mixed Try.func141 rfl Try.okF141 ?_
 simp -implicitDefEqProofs -dsimp only [go_sem, Try.ntmps141, Try.results141]
 simp -implicitDefEqProofs -dsimp only [go_sem, Alarm.v]
 refine chT.intro [true, true, true, true, false, true, true, false, true, true, true, true, false, false] [true, true, true, true, true, true, true, true, true, true, true, true, false, false] [none, none, none, none, some ⟨none, 7, 82, []⟩, none, none, some ⟨some 4, 10, 82, [9]⟩, none, none, none, none, none, none] [⟨7, 10, 82, [9]⟩] (by kernel_rfl) (by rfl) ?_
 simp -implicitDefEqProofs -dsimp only [go_sem]
 repeat (with_reducible refine sideA ?_)
 refine ⟨⟨by omega, by omega, rows_all Heard.csp _⟩, ?_⟩
 refine WeakR.pick [2] (by decide) (fun j hj => by omega) (.inl ?_) ?_
 · first | rfl | (simp [ren, pickF, posOf, Alarm.o]; done)
 · simp only [pickH, List.map_cons, List.map_nil, pickB, List.getElem?_cons_zero, List.getElem?_cons_succ, map_ren_rows]
def waitH (now : Int) (L : List Heard) : List Heard := L.filter fun h => decide (now - h.Tick ≤ 500)
def waitA (a : Alarm) (v : Int) : Alarm := if a.State = 1 then ⟨a.Now + v, if (waitH (a.Now + v) a.Heard).length = 0 then 0 else 1, waitH (a.Now + v) a.Heard, a.Given, a.Cancelled⟩ else ⟨a.Now + v, a.State, a.Heard, a.Given, a.Cancelled⟩
theorem l21Wait_ok (a : Alarm) (v : Int) (ha : alarmB a = true) (h0 : 1 ≤ v) (h1 : v ≤ 1000000 - a.Now) : Ctr Try.prog 177 [a.v, .int .i64 v] [] ((waitA a v).o 0) [some (rows Heard.cs (waitA a v).Heard)] := by
 have A := alarmB_ok ha
 have hlen := A.len
 have hn := A.now
 have hw : IntKind.i64.wrap (a.Now + v) = a.Now + v := wrap_i64 (by omega) (by omega)
 refine Ctr.intro Try.mixed Try.func177 rfl Try.okF177 ?_
 simp -implicitDefEqProofs -dsimp only [go_sem, Try.ntmps177, Try.results177]
 simp -implicitDefEqProofs -dsimp only [go_sem, Alarm.v]
 (first | refine callT.at (l21Own_ok a (by omega)) ⟨leA, trivial⟩ ?_ | refine callS.at (l21Own_ok a (by omega)) ⟨leA, trivial⟩ ?_)
 (repeat ((repeat1' (first | simp -implicitDefEqProofs -dsimp only [go_sem, Alarm.o, hw] | simp -dsimp (disch := omega) only [wrap_i64])); repeat (with_reducible refine sideA ?_)))
 refine condT.split (fun g1 => ?_) (fun g1 => ?_) <;> (repeat ((repeat1' (first | simp -implicitDefEqProofs -dsimp only [go_sem, g1] | simp -dsimp (disch := omega) only [wrap_i64])); repeat (with_reducible refine sideA ?_)))
 · have : waitA a v = ⟨a.Now + v, a.State, a.Heard, a.Given, a.Cancelled⟩ := by rw [waitA, if_neg (by simpa using g1)]
   rw [this]
   refine WeakR.pick [2] (by decide) (fun j hj => by omega) (.inl ?_) ?_
   · first | rfl | (simp [ren, pickF, posOf]; done)
   · simp only [pickH, List.map_cons, List.map_nil, pickB, List.getElem?_cons_zero, List.getElem?_cons_succ, map_ren_rows]
 have g1' : a.State = 1 := by simpa using g1
 refine LoopT.intro (fun i : Nat => i ≤ a.Heard.length) (fun i => ⟨[.undef, .undef, .ptr 0 0, .undef, .ptr 1 0, .ptr 3 0, .int .i64 i, .undef, .undef, .undef, .undef, .undef, .undef, .undef, .undef, .undef, .undef, .undef, .undef, .undef, .undef, .undef, .undef, .undef, .undef, .undef, .undef, .undef, .undef, .undef, .undef, .undef, .undef, .undef, .undef, .undef, .undef, .undef, .undef, .undef, .undef, .undef, .undef, .undef, .undef, .undef, .undef, .undef, .undef, .undef, .undef, .undef, .undef], [some [.int .i64 a.Now, .int .i64 a.State, .sl a.Heard.length 2 (rows Heard.cs a.Heard), .int .i64 a.Given, .int .i64 a.Cancelled], some [.int .i64 0, .int .i64 0, .nilsl, .int .i64 0, .int .i64 0], some (rows Heard.cs a.Heard), some [.int .i64 (a.Now + v), .int .i64 a.State, .osl 4 0 (waitH (a.Now + v) (a.Heard.take i)).length 2, .int .i64 a.Given, .int .i64 a.Cancelled], some (rows Heard.cs (waitH (a.Now + v) (a.Heard.take i)))], 0⟩) (fun i => a.Heard.length - i) 0 (Nat.zero_le _) ?_ (fun i hi => ?_)
 · refine Weak.cut (5) (by simp) (by simp) ?_ ?_
   · simp [LeC, LeV, ren, cutF]
   · simp [cutH, cutB, ren, map_ren_rows, waitH, cutF]
     rfl
 simp -implicitDefEqProofs -dsimp only [go_sem]
 refine condT.split (fun h2 => ?_) (fun h2 => ?_)
 · simp -implicitDefEqProofs -dsimp only [go_sem, h2]
   have hi' : i < a.Heard.length := by simpa using h2
   have hr := rows_at Heard.csl hi'
   have hh := heardB_iff.1 (A.heard _ (List.getElem_mem hi'))
   have hw2 : IntKind.i64.wrap (a.Now + v - a.Heard[i].Tick) = a.Now + v - a.Heard[i].Tick := wrap_i64 (by omega) (by omega)
   have hlw : (waitH (a.Now + v) (a.Heard.take i)).length ≤ 8 := Nat.le_trans (List.length_filter_le _ _) (by simp; omega)
   have htk : waitH (a.Now + v) (a.Heard.take (i + 1)) = waitH (a.Now + v) (a.Heard.take i) ++ waitH (a.Now + v) [a.Heard[i]] := by
     rw [List.take_succ_eq_append_getElem hi', waitH, List.filter_append]; rfl
   (repeat ((repeat1' (first | simp -implicitDefEqProofs -dsimp only [go_sem, hr, Heard.cs, hw2] | simp -dsimp (disch := omega) only [wrap_i64])); repeat (with_reducible refine sideA ?_)))
   refine condT.split (fun g2 => ?_) (fun g2 => ?_) <;> (repeat ((repeat1' (first | simp -implicitDefEqProofs -dsimp only [go_sem, g2, hr, Heard.cs] | simp -dsimp (disch := omega) only [wrap_i64])); repeat (with_reducible refine sideA ?_)))
   · have h1e : waitH (a.Now + v) [a.Heard[i]] = [a.Heard[i]] := by simp only [waitH, List.filter_cons, g2, if_true, List.filter_nil]
     refine ⟨i + 1, hi', ?_, by omega⟩
     rw [htk, h1e]
     refine Weak.cut (5) (by simp) (by simp) ?_ ?_
     · simp [LeC, LeV, ren, cutF]
     · simp [cutH, cutB, ren, map_ren_rows, cutF, killB, killC, killF, rowsOf_append, rows_one, Heard.cs]
   · have h1e : waitH (a.Now + v) [a.Heard[i]] = [] := by simp only [waitH, List.filter_cons, g2, Bool.false_eq_true, if_false, List.filter_nil]
     refine ⟨i + 1, hi', ?_, by omega⟩
     rw [htk, h1e, List.append_nil]
     refine Weak.cut (5) (by simp) (by simp) ?_ ?_
     · simp [LeC, LeV, ren, cutF]
     · simp [cutH, cutB, ren, map_ren_rows, cutF]
 · simp -implicitDefEqProofs -dsimp only [go_sem, h2]
   have hi' : i = a.Heard.length := by simp at h2; omega
   subst hi'
   rw [List.take_length]
   have hwa : waitA a v = ⟨a.Now + v, if (waitH (a.Now + v) a.Heard).length = 0 then 0 else 1, waitH (a.Now + v) a.Heard, a.Given, a.Cancelled⟩ := by rw [waitA, if_pos g1']
   rw [hwa]
   refine condT.split (fun g3 => ?_) (fun g3 => ?_) <;> (repeat ((repeat1' (first | simp -implicitDefEqProofs -dsimp only [go_sem, g3] | simp -dsimp (disch := omega) only [wrap_i64])); repeat (with_reducible refine sideA ?_)))
   · rw [if_pos (by simp at g3; simp; omega)]
     refine WeakR.pick [4] (by decide) (fun j hj => by omega) (.inl ?_) ?_
     · first | rfl | (simp [ren, pickF, posOf]; done)
     · simp only [pickH, List.map_cons, List.map_nil, pickB, List.getElem?_cons_zero, List.getElem?_cons_succ, map_ren_rows]
   · rw [if_neg (by simp at g3; simp; omega), g1']
     refine WeakR.pick [4] (by decide) (fun j hj => by omega) (.inl ?_) ?_
     · first | rfl | (simp [ren, pickF, posOf]; done)
     · simp only [pickH, List.map_cons, List.map_nil, pickB, List.getElem?_cons_zero, List.getElem?_cons_succ, map_ren_rows]
end Go.Proofs
end
section
set_option linter.unusedSimpArgs false
set_option linter.unusedVariables false
set_option maxRecDepth 100000
set_option maxHeartbeats 1000000
namespace Go.Proofs
open Go.Lv
def hearA (a : Alarm) (s : Int) : Alarm := ⟨a.Now, if a.Heard.length = 0 then 1 else if a.Heard.length = 2 then 2 else a.State, a.Heard ++ [⟨s, a.Now⟩], if a.Heard.length = 2 then a.Given + 1 else a.Given, a.Cancelled⟩
def okA (b : Bool) (a : Alarm) : Option Alarm := if (b && alarmB a) = true then some a else none
def stepA (a : Alarm) (k v : Int) : Option Alarm :=
 if k = 1 then okA (decide (v ≤ 1000000 - a.Now)) (waitA a v)
 else if k = 2 then okA (a.State != 3 && !(a.Heard.any fun h => h.Station == v)) (hearA a v)
 else if k = 3 then okA (canB a) (clearA a 0 (a.Cancelled + 1))
 else if k = 4 then okA (a.State == 2 && decide (500 < a.Now - tickAt a.Heard (a.Heard.length - 1))) (clearA a 3 a.Cancelled)
 else okA (a.State == 3) ⟨a.Now, 0, a.Heard, a.Given, a.Cancelled⟩
def stepB (k v : Int) : Bool := if k = 1 then decide (1 ≤ v) else if k = 2 then inB' v 1 99 else inB' k 3 5 && v == 0
def stepW (a : Alarm) (k v : Int) : Alarm :=
 if k = 1 then (if v ≤ 1000000 - a.Now then waitA a v else a) else if k = 2 then hearA a v else if k = 3 then clearA a 0 (a.Cancelled + 1) else if k = 4 then clearA a 3 a.Cancelled else ⟨a.Now, 0, a.Heard, a.Given, a.Cancelled⟩
def stO (w : Alarm) : Option Alarm → V
 | none => .tup [w.o 0, .bool false]
 | some a => .tup [a.o 0, .bool true]
def stH (w : Alarm) : Option Alarm → Hp
 | none => [some (rows Heard.cs w.Heard)]
 | some a => [some (rows Heard.cs a.Heard)]
theorem l21Clear_ok (a : Alarm) (s : Int) (hl : a.Heard.length ≤ 16777216) : Ctr Try.prog 179 [a.v, .int .i64 s] [] ((clearA a s a.Cancelled).o 0) [some []] := by
 refine Ctr.intro Try.mixed Try.func179 rfl Try.okF179 ?_
 simp -implicitDefEqProofs -dsimp only [go_sem, Try.ntmps179, Try.results179]
 simp -implicitDefEqProofs -dsimp only [go_sem, Alarm.v]
 (first | refine callT.at (l21Own_ok a hl) ⟨leA, trivial⟩ ?_ | refine callS.at (l21Own_ok a hl) ⟨leA, trivial⟩ ?_)
 (repeat ((repeat1' (first | simp -implicitDefEqProofs -dsimp only [go_sem, Alarm.o, clearA] | simp -dsimp (disch := omega) only [wrap_i64])); repeat (with_reducible refine sideA ?_)))
 refine WeakR.pick [4] (by decide) (fun j hj => by omega) (.inl ?_) ?_
 · first | rfl | (simp [ren, pickF, posOf]; done)
 · simp only [pickH, List.map_cons, List.map_nil, pickB, List.getElem?_cons_zero, List.getElem?_cons_succ, map_ren_rows]
theorem l21Hear_ok (a : Alarm) (v : Int) (ha : alarmB a = true) : Ctr Try.prog 178 [a.v, .int .i64 v] [] (.tup [(hearA a v).o 0, .bool ((a.State != 3 && !(a.Heard.any fun h => h.Station == v)) && alarmB (hearA a v))]) [some (rows Heard.cs (hearA a v).Heard)] := by
 have A := alarmB_ok ha
 have hlen := A.len
 have hn := A.now
 have hg := A.given
 have hc := A.canc
 have hw : IntKind.i64.wrap (a.Given + 1) = a.Given + 1 := wrap_i64 (by omega) (by omega)
 refine Ctr.intro Try.mixed Try.func178 rfl Try.okF178 ?_
 simp -implicitDefEqProofs -dsimp only [go_sem, Try.ntmps178, Try.results178]
 simp -implicitDefEqProofs -dsimp only [go_sem, Alarm.v]
 (first | refine callT.at (l21Own_ok a (by omega)) ⟨leA, trivial⟩ ?_ | refine callS.at (l21Own_ok a (by omega)) ⟨leA, trivial⟩ ?_)
 obtain ⟨H', hH'⟩ : ∃ H', H' = a.Heard ++ [(⟨v, a.Now⟩ : Heard)] := ⟨_, rfl⟩
 have hl' : a.Heard.length + 1 = H'.length := by rw [hH']; simp
 have hrow : rows Heard.cs a.Heard ++ [.int .i64 v, .int .i64 a.Now] = rows Heard.cs H' := by rw [hH', rowsOf_append, rows_one]; rfl
 (repeat ((repeat1' (first | simp -implicitDefEqProofs -dsimp only [go_sem, Alarm.o, hrow, hl'] | simp -dsimp (disch := omega) only [wrap_i64])); repeat (with_reducible refine sideA ?_)))
 by_cases e0 : a.Heard.length = 0
 · have b1 : ((H'.length : Int) == 1) = true := by simp; omega
   have hA : hearA a v = ⟨a.Now, 1, H', a.Given, a.Cancelled⟩ := by rw [hearA, if_pos e0, if_neg (by omega), hH']
   (repeat ((repeat1' (first | simp -implicitDefEqProofs -dsimp only [go_sem, b1, hrow, hl'] | simp -dsimp (disch := omega) only [wrap_i64])); repeat (with_reducible refine sideA ?_)))
   have hgood := l21Good_ok (hearA a v) (by rw [hA]; show H'.length ≤ _; omega)
   rw [hA] at hgood ⊢
   simp only [Alarm.v, Alarm.o] at hgood ⊢
   have hany := l21Has_ok a.Heard v (by omega)
   by_cases h3 : a.State = 3
   · have hs3 : (a.State != 3) = false := by simp [h3]
     (repeat ((repeat1' (first | simp -implicitDefEqProofs -dsimp only [go_sem, hs3, hrow, hl'] | simp -dsimp (disch := omega) only [wrap_i64])); repeat (with_reducible refine sideA ?_)))
     refine WeakR.pick [2] (by decide) (fun j hj => by omega) (.inl ?_) ?_
     · first | rfl | (simp [ren, pickF, posOf]; done)
     · simp only [pickH, List.map_cons, List.map_nil, pickB, List.getElem?_cons_zero, List.getElem?_cons_succ, map_ren_rows]
   · have hs3 : (a.State != 3) = true := by simp [h3]
     (repeat ((repeat1' (first | simp -implicitDefEqProofs -dsimp only [go_sem, hs3, hrow, hl'] | simp -dsimp (disch := omega) only [wrap_i64])); repeat (with_reducible refine sideA ?_)))
     (first | refine callT.at (hany) ⟨leA, leA, trivial⟩ ?_ | refine callS.at (hany) ⟨leA, leA, trivial⟩ ?_)
     cases hx : a.Heard.any fun h => h.Station == v with
     | true =>
       (repeat ((repeat1' (first | simp -implicitDefEqProofs -dsimp only [go_sem, hrow, hl'] | simp -dsimp (disch := omega) only [wrap_i64])); repeat (with_reducible refine sideA ?_)))
       refine WeakR.pick [2] (by decide) (fun j hj => by omega) (.inl ?_) ?_
       · first | rfl | (simp [ren, pickF, posOf]; done)
       · simp only [pickH, List.map_cons, List.map_nil, pickB, List.getElem?_cons_zero, List.getElem?_cons_succ, map_ren_rows]
     | false =>
       (repeat ((repeat1' (first | simp -implicitDefEqProofs -dsimp only [go_sem, hrow, hl'] | simp -dsimp (disch := omega) only [wrap_i64])); repeat (with_reducible refine sideA ?_)))
       (first | refine callT.at (hgood) ⟨leA, trivial⟩ ?_ | refine callS.at (hgood) ⟨leA, trivial⟩ ?_)
       (repeat ((repeat1' (first | simp -implicitDefEqProofs -dsimp only [go_sem, hrow, hl'] | simp -dsimp (disch := omega) only [wrap_i64])); repeat (with_reducible refine sideA ?_)))
       rw [hs3]
       refine WeakR.pick [2] (by decide) (fun j hj => by omega) (.inl ?_) ?_
       · first | rfl | (simp [ren, pickF, posOf]; done)
       · simp only [pickH, List.map_cons, List.map_nil, pickB, List.getElem?_cons_zero, List.getElem?_cons_succ, map_ren_rows]
 have b1 : ((H'.length : Int) == 1) = false := by simp; omega
 by_cases e2 : a.Heard.length = 2
 · have b3 : ((H'.length : Int) == 3) = true := by simp; omega
   have hA : hearA a v = ⟨a.Now, 2, H', a.Given + 1, a.Cancelled⟩ := by rw [hearA, if_neg e0, if_pos e2, if_pos e2, hH']
   (repeat ((repeat1' (first | simp -implicitDefEqProofs -dsimp only [go_sem, b1, b3, hw, hrow, hl'] | simp -dsimp (disch := omega) only [wrap_i64])); repeat (with_reducible refine sideA ?_)))
   have hgood := l21Good_ok (hearA a v) (by rw [hA]; show H'.length ≤ _; omega)
   rw [hA] at hgood ⊢
   simp only [Alarm.v, Alarm.o] at hgood ⊢
   have hany := l21Has_ok a.Heard v (by omega)
   by_cases h3 : a.State = 3
   · have hs3 : (a.State != 3) = false := by simp [h3]
     (repeat ((repeat1' (first | simp -implicitDefEqProofs -dsimp only [go_sem, hs3, hrow, hl'] | simp -dsimp (disch := omega) only [wrap_i64])); repeat (with_reducible refine sideA ?_)))
     refine WeakR.pick [2] (by decide) (fun j hj => by omega) (.inl ?_) ?_
     · first | rfl | (simp [ren, pickF, posOf]; done)
     · simp only [pickH, List.map_cons, List.map_nil, pickB, List.getElem?_cons_zero, List.getElem?_cons_succ, map_ren_rows]
   · have hs3 : (a.State != 3) = true := by simp [h3]
     (repeat ((repeat1' (first | simp -implicitDefEqProofs -dsimp only [go_sem, hs3, hrow, hl'] | simp -dsimp (disch := omega) only [wrap_i64])); repeat (with_reducible refine sideA ?_)))
     (first | refine callT.at (hany) ⟨leA, leA, trivial⟩ ?_ | refine callS.at (hany) ⟨leA, leA, trivial⟩ ?_)
     cases hx : a.Heard.any fun h => h.Station == v with
     | true =>
       (repeat ((repeat1' (first | simp -implicitDefEqProofs -dsimp only [go_sem, hrow, hl'] | simp -dsimp (disch := omega) only [wrap_i64])); repeat (with_reducible refine sideA ?_)))
       refine WeakR.pick [2] (by decide) (fun j hj => by omega) (.inl ?_) ?_
       · first | rfl | (simp [ren, pickF, posOf]; done)
       · simp only [pickH, List.map_cons, List.map_nil, pickB, List.getElem?_cons_zero, List.getElem?_cons_succ, map_ren_rows]
     | false =>
       (repeat ((repeat1' (first | simp -implicitDefEqProofs -dsimp only [go_sem, hrow, hl'] | simp -dsimp (disch := omega) only [wrap_i64])); repeat (with_reducible refine sideA ?_)))
       (first | refine callT.at (hgood) ⟨leA, trivial⟩ ?_ | refine callS.at (hgood) ⟨leA, trivial⟩ ?_)
       (repeat ((repeat1' (first | simp -implicitDefEqProofs -dsimp only [go_sem, hrow, hl'] | simp -dsimp (disch := omega) only [wrap_i64])); repeat (with_reducible refine sideA ?_)))
       rw [hs3]
       refine WeakR.pick [2] (by decide) (fun j hj => by omega) (.inl ?_) ?_
       · first | rfl | (simp [ren, pickF, posOf]; done)
       · simp only [pickH, List.map_cons, List.map_nil, pickB, List.getElem?_cons_zero, List.getElem?_cons_succ, map_ren_rows]
 · have b3 : ((H'.length : Int) == 3) = false := by simp; omega
   have hA : hearA a v = ⟨a.Now, a.State, H', a.Given, a.Cancelled⟩ := by rw [hearA, if_neg e0, if_neg e2, if_neg e2, hH']
   (repeat ((repeat1' (first | simp -implicitDefEqProofs -dsimp only [go_sem, b1, b3, hrow, hl'] | simp -dsimp (disch := omega) only [wrap_i64])); repeat (with_reducible refine sideA ?_)))
   have hgood := l21Good_ok (hearA a v) (by rw [hA]; show H'.length ≤ _; omega)
   rw [hA] at hgood ⊢
   simp only [Alarm.v, Alarm.o] at hgood ⊢
   have hany := l21Has_ok a.Heard v (by omega)
   by_cases h3 : a.State = 3
   · have hs3 : (a.State != 3) = false := by simp [h3]
     (repeat ((repeat1' (first | simp -implicitDefEqProofs -dsimp only [go_sem, hs3, hrow, hl'] | simp -dsimp (disch := omega) only [wrap_i64])); repeat (with_reducible refine sideA ?_)))
     refine WeakR.pick [2] (by decide) (fun j hj => by omega) (.inl ?_) ?_
     · first | rfl | (simp [ren, pickF, posOf]; done)
     · simp only [pickH, List.map_cons, List.map_nil, pickB, List.getElem?_cons_zero, List.getElem?_cons_succ, map_ren_rows]
   · have hs3 : (a.State != 3) = true := by simp [h3]
     (repeat ((repeat1' (first | simp -implicitDefEqProofs -dsimp only [go_sem, hs3, hrow, hl'] | simp -dsimp (disch := omega) only [wrap_i64])); repeat (with_reducible refine sideA ?_)))
     (first | refine callT.at (hany) ⟨leA, leA, trivial⟩ ?_ | refine callS.at (hany) ⟨leA, leA, trivial⟩ ?_)
     cases hx : a.Heard.any fun h => h.Station == v with
     | true =>
       (repeat ((repeat1' (first | simp -implicitDefEqProofs -dsimp only [go_sem, hrow, hl'] | simp -dsimp (disch := omega) only [wrap_i64])); repeat (with_reducible refine sideA ?_)))
       refine WeakR.pick [2] (by decide) (fun j hj => by omega) (.inl ?_) ?_
       · first | rfl | (simp [ren, pickF, posOf]; done)
       · simp only [pickH, List.map_cons, List.map_nil, pickB, List.getElem?_cons_zero, List.getElem?_cons_succ, map_ren_rows]
     | false =>
       (repeat ((repeat1' (first | simp -implicitDefEqProofs -dsimp only [go_sem, hrow, hl'] | simp -dsimp (disch := omega) only [wrap_i64])); repeat (with_reducible refine sideA ?_)))
       (first | refine callT.at (hgood) ⟨leA, trivial⟩ ?_ | refine callS.at (hgood) ⟨leA, trivial⟩ ?_)
       (repeat ((repeat1' (first | simp -implicitDefEqProofs -dsimp only [go_sem, hrow, hl'] | simp -dsimp (disch := omega) only [wrap_i64])); repeat (with_reducible refine sideA ?_)))
       rw [hs3]
       refine WeakR.pick [2] (by decide) (fun j hj => by omega) (.inl ?_) ?_
       · first | rfl | (simp [ren, pickF, posOf]; done)
       · simp only [pickH, List.map_cons, List.map_nil, pickB, List.getElem?_cons_zero, List.getElem?_cons_succ, map_ren_rows]
theorem okA_yes {b : Bool} {a : Alarm} (h1 : b = true) (h2 : alarmB a = true) : okA b a = some a := by rw [okA, h1, h2]; rfl
theorem okA_no {b : Bool} {a : Alarm} (h1 : b = false) : okA b a = none := by rw [okA, h1]; rfl
theorem okA_bad {b : Bool} {a : Alarm} (h1 : alarmB a = false) : okA b a = none := by rw [okA, h1, Bool.and_false]; rfl
theorem l21Make_ok (a : Alarm) (k v : Int) (ha : alarmB a = true) (hs : stepB k v = true) : Ctr Try.prog 133 [a.v, .agg [.int .i64 k, .int .i64 v]] [] (stO (stepW a k v) (stepA a k v)) (stH (stepW a k v) (stepA a k v)) := by
 have A := alarmB_ok ha
 have hlen := A.len
 have hn := A.now
 have hg := A.given
 have hc := A.canc
 by_cases k1 : k = 1
 · subst k1
   have hv : 1 ≤ v := by simpa [stepB] using hs
   have hw : IntKind.i64.wrap (1000000 - a.Now) = 1000000 - a.Now := wrap_i64 (by omega) (by omega)
   have hst : stepA a 1 v = okA (decide (v ≤ 1000000 - a.Now)) (waitA a v) := by rw [stepA, if_pos rfl]
   rw [hst]
   refine Ctr.intro Try.mixed Try.func133 rfl Try.okF133 ?_
   simp -implicitDefEqProofs -dsimp only [go_sem, Try.ntmps133, Try.results133]
   simp -implicitDefEqProofs -dsimp only [go_sem, Alarm.v]
   (first | refine callT.at (l21Own_ok a (by omega)) ⟨leA, trivial⟩ ?_ | refine callS.at (l21Own_ok a (by omega)) ⟨leA, trivial⟩ ?_)
   (repeat ((repeat1' (first | simp -implicitDefEqProofs -dsimp only [go_sem, Alarm.o, hw] | simp -dsimp (disch := omega) only [wrap_i64])); repeat (with_reducible refine sideA ?_)))
   refine condT.split (fun g1 => ?_) (fun g1 => ?_) <;> (repeat ((repeat1' (first | simp -implicitDefEqProofs -dsimp only [go_sem, g1] | simp -dsimp (disch := omega) only [wrap_i64])); repeat (with_reducible refine sideA ?_)))
   · rw [okA_no (by simpa using g1), show stepW a 1 v = a by rw [stepW, if_pos rfl, if_neg (by simpa using g1)]]
     simp only [stO, stH, Alarm.o, clearA, show rows Heard.cs ([] : List Heard) = [] from rfl]
     refine WeakR.pick [3] (by decide) (fun j hj => by omega) (.inl ?_) ?_
     · first | rfl | (simp [ren, pickF, posOf]; done)
     · simp only [pickH, List.map_cons, List.map_nil, pickB, List.getElem?_cons_zero, List.getElem?_cons_succ, map_ren_rows]
   have g1' : v ≤ 1000000 - a.Now := by simpa using g1
   (first | refine callT.at (l21Wait_ok a v ha hv g1') ⟨leA, leA, trivial⟩ ?_ | refine callS.at (l21Wait_ok a v ha hv g1') ⟨leA, leA, trivial⟩ ?_)
   (repeat ((repeat1' (first | simp -implicitDefEqProofs -dsimp only [go_sem, Alarm.o] | simp -dsimp (disch := omega) only [wrap_i64])); repeat (with_reducible refine sideA ?_)))
   have hgd := l21Good_ok (waitA a v) (by
     have : (waitA a v).Heard.length ≤ a.Heard.length := by
       unfold waitA; split
       · exact List.length_filter_le _ _
       · exact Nat.le_refl _
     omega)
   simp only [Alarm.v] at hgd
   (first | refine callT.at (hgd) ⟨leA, trivial⟩ ?_ | refine callS.at (hgd) ⟨leA, trivial⟩ ?_)
   (repeat ((repeat1' (first | simp -implicitDefEqProofs -dsimp only [go_sem] | simp -dsimp (disch := omega) only [wrap_i64])); repeat (with_reducible refine sideA ?_)))
   cases hA : alarmB (waitA a v) with
   | true =>
     rw [okA_yes (by simpa using g1') hA]
     simp only [stO, stH, Alarm.o]
     refine WeakR.pick [5] (by decide) (fun j hj => by omega) (.inl ?_) ?_
     · first | rfl | (simp [ren, pickF, posOf]; done)
     · simp only [pickH, List.map_cons, List.map_nil, pickB, List.getElem?_cons_zero, List.getElem?_cons_succ, map_ren_rows]
   | false =>
     rw [okA_bad hA]
     rw [show stepW a 1 v = waitA a v by rw [stepW, if_pos rfl, if_pos g1']]
     simp only [stO, stH, Alarm.o, clearA, show rows Heard.cs ([] : List Heard) = [] from rfl]
     refine WeakR.pick [5] (by decide) (fun j hj => by omega) (.inl ?_) ?_
     · first | rfl | (simp [ren, pickF, posOf]; done)
     · simp only [pickH, List.map_cons, List.map_nil, pickB, List.getElem?_cons_zero, List.getElem?_cons_succ, map_ren_rows]
 by_cases k2 : k = 2
 · subst k2
   have hst : stepA a 2 v = okA (a.State != 3 && !(a.Heard.any fun h => h.Station == v)) (hearA a v) := by rw [stepA, if_neg (by decide), if_pos rfl]
   rw [hst]
   have hgd := l21Good_ok (hearA a v) (by show (a.Heard ++ [_]).length ≤ _; simp; omega)
   have hhr := l21Hear_ok a v ha
   generalize hb : (a.State != 3 && !(a.Heard.any fun h => h.Station == v)) = b at hhr ⊢
   simp only [Alarm.v, Alarm.o] at hgd hhr
   refine Ctr.intro Try.mixed Try.func133 rfl Try.okF133 ?_
   simp -implicitDefEqProofs -dsimp only [go_sem, Try.ntmps133, Try.results133]
   simp -implicitDefEqProofs -dsimp only [go_sem, Alarm.v]
   (first | refine callT.at (l21Own_ok a (by omega)) ⟨leA, trivial⟩ ?_ | refine callS.at (l21Own_ok a (by omega)) ⟨leA, trivial⟩ ?_)
   (repeat ((repeat1' (first | simp -implicitDefEqProofs -dsimp only [go_sem, Alarm.o] | simp -dsimp (disch := omega) only [wrap_i64])); repeat (with_reducible refine sideA ?_)))
   (first | refine callT.at (hhr) ⟨leA, leA, trivial⟩ ?_ | refine callS.at (hhr) ⟨leA, leA, trivial⟩ ?_)
   (repeat ((repeat1' (first | simp -implicitDefEqProofs -dsimp only [go_sem] | simp -dsimp (disch := omega) only [wrap_i64])); repeat (with_reducible refine sideA ?_)))
   cases hX : (b && alarmB (hearA a v)) with
   | false =>
     (repeat ((repeat1' (first | simp -implicitDefEqProofs -dsimp only [go_sem] | simp -dsimp (disch := omega) only [wrap_i64])); repeat (with_reducible refine sideA ?_)))
     rw [show okA b (hearA a v) = none by rw [okA, hX]; rfl]
     rw [show stepW a 2 v = hearA a v by rw [stepW, if_neg (by decide), if_pos rfl]]
     simp only [stO, stH, Alarm.o, clearA, show rows Heard.cs ([] : List Heard) = [] from rfl]
     refine WeakR.pick [5] (by decide) (fun j hj => by omega) (.inl ?_) ?_
     · first | rfl | (simp [ren, pickF, posOf]; done)
     · simp only [pickH, List.map_cons, List.map_nil, pickB, List.getElem?_cons_zero, List.getElem?_cons_succ, map_ren_rows]
   | true =>
     have hX' := hX
     simp only [Bool.and_eq_true] at hX'
     (repeat ((repeat1' (first | simp -implicitDefEqProofs -dsimp only [go_sem] | simp -dsimp (disch := omega) only [wrap_i64])); repeat (with_reducible refine sideA ?_)))
     (first | refine callT.at (hgd) ⟨leA, trivial⟩ ?_ | refine callS.at (hgd) ⟨leA, trivial⟩ ?_)
     (repeat ((repeat1' (first | simp -implicitDefEqProofs -dsimp only [go_sem, hX'.2] | simp -dsimp (disch := omega) only [wrap_i64])); repeat (with_reducible refine sideA ?_)))
     rw [okA_yes hX'.1 hX'.2]
     simp only [stO, stH, Alarm.o]
     refine WeakR.pick [5] (by decide) (fun j hj => by omega) (.inl ?_) ?_
     · first | rfl | (simp [ren, pickF, posOf]; done)
     · simp only [pickH, List.map_cons, List.map_nil, pickB, List.getElem?_cons_zero, List.getElem?_cons_succ, map_ren_rows]
 by_cases k3 : k = 3
 · subst k3
   have hv0 : v = 0 := by simp [stepB, inB'] at hs; omega
   subst hv0
   have hw : IntKind.i64.wrap (a.Cancelled + 1) = a.Cancelled + 1 := wrap_i64 (by omega) (by omega)
   have hst : stepA a 3 0 = okA (canB a) (clearA a 0 (a.Cancelled + 1)) := by rw [stepA, if_neg (by decide), if_neg (by decide), if_pos rfl]
   rw [hst]
   have hgd := l21Good_ok (clearA a 0 (a.Cancelled + 1)) (by simp [clearA])
   simp only [Alarm.v, clearA, List.length_nil] at hgd
   have hcl := l21Clear_ok a 0 (by omega)
   simp only [Alarm.v, clearA, Alarm.o, List.length_nil] at hcl
   refine Ctr.intro Try.mixed Try.func133 rfl Try.okF133 ?_
   simp -implicitDefEqProofs -dsimp only [go_sem, Try.ntmps133, Try.results133]
   simp -implicitDefEqProofs -dsimp only [go_sem, Alarm.v]
   (first | refine callT.at (l21Own_ok a (by omega)) ⟨leA, trivial⟩ ?_ | refine callS.at (l21Own_ok a (by omega)) ⟨leA, trivial⟩ ?_)
   (repeat ((repeat1' (first | simp -implicitDefEqProofs -dsimp only [go_sem, Alarm.o] | simp -dsimp (disch := omega) only [wrap_i64])); repeat (with_reducible refine sideA ?_)))
   (first | refine callT.at (hcl) ⟨leA, leA, trivial⟩ ?_ | refine callS.at (hcl) ⟨leA, leA, trivial⟩ ?_)
   (repeat ((repeat1' (first | simp -implicitDefEqProofs -dsimp only [go_sem, hw] | simp -dsimp (disch := omega) only [wrap_i64])); repeat (with_reducible refine sideA ?_)))
   (first | refine callT.at (l21Can_ok a ha) ⟨leA, trivial⟩ ?_ | refine callS.at (l21Can_ok a ha) ⟨leA, trivial⟩ ?_)
   (repeat ((repeat1' (first | simp -implicitDefEqProofs -dsimp only [go_sem] | simp -dsimp (disch := omega) only [wrap_i64])); repeat (with_reducible refine sideA ?_)))
   cases hC : canB a with
   | false =>
     (repeat ((repeat1' (first | simp -implicitDefEqProofs -dsimp only [go_sem] | simp -dsimp (disch := omega) only [wrap_i64])); repeat (with_reducible refine sideA ?_)))
     rw [okA_no rfl]
     rw [show stepW a 3 0 = clearA a 0 (a.Cancelled + 1) by rw [stepW, if_neg (by decide), if_neg (by decide), if_pos rfl]]
     simp only [stO, stH, Alarm.o, clearA, show rows Heard.cs ([] : List Heard) = [] from rfl]
     refine WeakR.pick [5] (by decide) (fun j hj => by omega) (.inl ?_) ?_
     · first | rfl | (simp [ren, pickF, posOf]; done)
     · simp only [pickH, List.map_cons, List.map_nil, pickB, List.getElem?_cons_zero, List.getElem?_cons_succ, map_ren_rows]
   | true =>
     (repeat ((repeat1' (first | simp -implicitDefEqProofs -dsimp only [go_sem] | simp -dsimp (disch := omega) only [wrap_i64])); repeat (with_reducible refine sideA ?_)))
     (first | refine callT.at (hgd) ⟨leA, trivial⟩ ?_ | refine callS.at (hgd) ⟨leA, trivial⟩ ?_)
     (repeat ((repeat1' (first | simp -implicitDefEqProofs -dsimp only [go_sem] | simp -dsimp (disch := omega) only [wrap_i64])); repeat (with_reducible refine sideA ?_)))
     cases hA : alarmB (clearA a 0 (a.Cancelled + 1)) with
     | true =>
       rw [okA_yes rfl hA]
       simp only [clearA] at hA
       rw [hA]
       simp only [stO, stH, Alarm.o, clearA, show rows Heard.cs ([] : List Heard) = [] from rfl]
       refine WeakR.pick [5] (by decide) (fun j hj => by omega) (.inl ?_) ?_
       · first | rfl | (simp [ren, pickF, posOf]; done)
       · simp only [pickH, List.map_cons, List.map_nil, pickB, List.getElem?_cons_zero, List.getElem?_cons_succ, map_ren_rows]
     | false =>
       rw [okA_bad hA]
       simp only [clearA] at hA
       rw [hA]
       rw [show stepW a 3 0 = clearA a 0 (a.Cancelled + 1) by rw [stepW, if_neg (by decide), if_neg (by decide), if_pos rfl]]
       simp only [stO, stH, Alarm.o, clearA, show rows Heard.cs ([] : List Heard) = [] from rfl]
       refine WeakR.pick [5] (by decide) (fun j hj => by omega) (.inl ?_) ?_
       · first | rfl | (simp [ren, pickF, posOf]; done)
       · simp only [pickH, List.map_cons, List.map_nil, pickB, List.getElem?_cons_zero, List.getElem?_cons_succ, map_ren_rows]
 by_cases k4 : k = 4
 · subst k4
   have hv0 : v = 0 := by simp [stepB, inB'] at hs; omega
   subst hv0
   have hst : stepA a 4 0 = okA (a.State == 2 && decide (500 < a.Now - tickAt a.Heard (a.Heard.length - 1))) (clearA a 3 a.Cancelled) := by rw [stepA, if_neg (by decide), if_neg (by decide), if_neg (by decide), if_pos rfl]
   rw [hst]
   have hgd := l21Good_ok (clearA a 3 a.Cancelled) (by simp [clearA])
   simp only [Alarm.v, clearA, List.length_nil] at hgd
   have hcl := l21Clear_ok a 3 (by omega)
   simp only [Alarm.v, clearA, Alarm.o, List.length_nil] at hcl
   refine Ctr.intro Try.mixed Try.func133 rfl Try.okF133 ?_
   simp -implicitDefEqProofs -dsimp only [go_sem, Try.ntmps133, Try.results133]
   simp -implicitDefEqProofs -dsimp only [go_sem, Alarm.v]
   (first | refine callT.at (l21Own_ok a (by omega)) ⟨leA, trivial⟩ ?_ | refine callS.at (l21Own_ok a (by omega)) ⟨leA, trivial⟩ ?_)
   (repeat ((repeat1' (first | simp -implicitDefEqProofs -dsimp only [go_sem, Alarm.o] | simp -dsimp (disch := omega) only [wrap_i64])); repeat (with_reducible refine sideA ?_)))
   (first | refine callT.at (hcl) ⟨leA, leA, trivial⟩ ?_ | refine callS.at (hcl) ⟨leA, leA, trivial⟩ ?_)
   (repeat ((repeat1' (first | simp -implicitDefEqProofs -dsimp only [go_sem] | simp -dsimp (disch := omega) only [wrap_i64])); repeat (with_reducible refine sideA ?_)))
   by_cases hs : a.State = 2
   · have h3 := state2 A hs
     have hr := rows_at Heard.csl (show a.Heard.length - 1 < a.Heard.length by omega)
     have hh := heardB_iff.1 (A.heard _ (List.getElem_mem (show a.Heard.length - 1 < a.Heard.length by omega)))
     have hb : (a.State == 2) = true := by simp [hs]
     have hw1 : IntKind.i64.wrap ((a.Heard.length : Int) - 1) = ((a.Heard.length - 1 : Nat) : Int) := by rw [wrap_i64 (by omega) (by omega)]; omega
     have hw2 : IntKind.i64.wrap (a.Now - (a.Heard[a.Heard.length - 1]'(by omega)).Tick) = a.Now - (a.Heard[a.Heard.length - 1]'(by omega)).Tick := wrap_i64 (by omega) (by omega)
     have ht := tickAt_get (L := a.Heard) (show a.Heard.length - 1 < a.Heard.length by omega)
     (repeat ((repeat1' (first | simp -implicitDefEqProofs -dsimp only [go_sem, hb, hw1, hr, hw2, Heard.cs] | simp -dsimp (disch := omega) only [wrap_i64])); repeat (with_reducible refine sideA ?_)))
     rw [ht]
     try rw [hb, Bool.true_and]
     cases hC : decide (500 < a.Now - (a.Heard[a.Heard.length - 1]'(by omega)).Tick) with
     | false =>
       (repeat ((repeat1' (first | simp -implicitDefEqProofs -dsimp only [go_sem] | simp -dsimp (disch := omega) only [wrap_i64])); repeat (with_reducible refine sideA ?_)))
       rw [okA_no rfl]
       rw [show stepW a 4 0 = clearA a 3 a.Cancelled by rw [stepW, if_neg (by decide), if_neg (by decide), if_neg (by decide), if_pos rfl]]
       simp only [stO, stH, Alarm.o, clearA, show rows Heard.cs ([] : List Heard) = [] from rfl]
       refine WeakR.pick [5] (by decide) (fun j hj => by omega) (.inl ?_) ?_
       · first | rfl | (simp [ren, pickF, posOf]; done)
       · simp only [pickH, List.map_cons, List.map_nil, pickB, List.getElem?_cons_zero, List.getElem?_cons_succ, map_ren_rows]
     | true =>
       (repeat ((repeat1' (first | simp -implicitDefEqProofs -dsimp only [go_sem] | simp -dsimp (disch := omega) only [wrap_i64])); repeat (with_reducible refine sideA ?_)))
       (first | refine callT.at (hgd) ⟨leA, trivial⟩ ?_ | refine callS.at (hgd) ⟨leA, trivial⟩ ?_)
       (repeat ((repeat1' (first | simp -implicitDefEqProofs -dsimp only [go_sem] | simp -dsimp (disch := omega) only [wrap_i64])); repeat (with_reducible refine sideA ?_)))
       cases hA : alarmB (clearA a 3 a.Cancelled) with
       | true =>
         rw [okA_yes rfl hA]
         simp only [clearA] at hA
         rw [hA]
         simp only [stO, stH, Alarm.o, clearA, show rows Heard.cs ([] : List Heard) = [] from rfl]
         refine WeakR.pick [5] (by decide) (fun j hj => by omega) (.inl ?_) ?_
         · first | rfl | (simp [ren, pickF, posOf]; done)
         · simp only [pickH, List.map_cons, List.map_nil, pickB, List.getElem?_cons_zero, List.getElem?_cons_succ, map_ren_rows]
       | false =>
         rw [okA_bad hA]
         simp only [clearA] at hA
         rw [hA]
         rw [show stepW a 4 0 = clearA a 3 a.Cancelled by rw [stepW, if_neg (by decide), if_neg (by decide), if_neg (by decide), if_pos rfl]]
         simp only [stO, stH, Alarm.o, clearA, show rows Heard.cs ([] : List Heard) = [] from rfl]
         refine WeakR.pick [5] (by decide) (fun j hj => by omega) (.inl ?_) ?_
         · first | rfl | (simp [ren, pickF, posOf]; done)
         · simp only [pickH, List.map_cons, List.map_nil, pickB, List.getElem?_cons_zero, List.getElem?_cons_succ, map_ren_rows]
   · have hb : (a.State == 2) = false := by simp [hs]
     (repeat ((repeat1' (first | simp -implicitDefEqProofs -dsimp only [go_sem, hb] | simp -dsimp (disch := omega) only [wrap_i64])); repeat (with_reducible refine sideA ?_)))
     rw [okA_no rfl]
     rw [show stepW a 4 0 = clearA a 3 a.Cancelled by rw [stepW, if_neg (by decide), if_neg (by decide), if_neg (by decide), if_pos rfl]]
     simp only [stO, stH, Alarm.o, clearA, show rows Heard.cs ([] : List Heard) = [] from rfl]
     refine WeakR.pick [5] (by decide) (fun j hj => by omega) (.inl ?_) ?_
     · first | rfl | (simp [ren, pickF, posOf]; done)
     · simp only [pickH, List.map_cons, List.map_nil, pickB, List.getElem?_cons_zero, List.getElem?_cons_succ, map_ren_rows]
 · have k5 : k = 5 := by simp [stepB, k1, k2, inB'] at hs; omega
   subst k5
   have hv0 : v = 0 := by simp [stepB, inB'] at hs; omega
   subst hv0
   have hst : stepA a 5 0 = okA (a.State == 3) ⟨a.Now, 0, a.Heard, a.Given, a.Cancelled⟩ := by rw [stepA, if_neg (by decide), if_neg (by decide), if_neg (by decide), if_neg (by decide)]
   rw [hst]
   have hgd := l21Good_ok ⟨a.Now, 0, a.Heard, a.Given, a.Cancelled⟩ (by show a.Heard.length ≤ _; omega)
   simp only [Alarm.v] at hgd
   refine Ctr.intro Try.mixed Try.func133 rfl Try.okF133 ?_
   simp -implicitDefEqProofs -dsimp only [go_sem, Try.ntmps133, Try.results133]
   simp -implicitDefEqProofs -dsimp only [go_sem, Alarm.v]
   (first | refine callT.at (l21Own_ok a (by omega)) ⟨leA, trivial⟩ ?_ | refine callS.at (l21Own_ok a (by omega)) ⟨leA, trivial⟩ ?_)
   (repeat ((repeat1' (first | simp -implicitDefEqProofs -dsimp only [go_sem, Alarm.o] | simp -dsimp (disch := omega) only [wrap_i64])); repeat (with_reducible refine sideA ?_)))
   cases hC : (a.State == 3) with
   | false =>
     (repeat ((repeat1' (first | simp -implicitDefEqProofs -dsimp only [go_sem] | simp -dsimp (disch := omega) only [wrap_i64])); repeat (with_reducible refine sideA ?_)))
     rw [okA_no rfl]
     rw [show stepW a 5 0 = ⟨a.Now, 0, a.Heard, a.Given, a.Cancelled⟩ by rw [stepW, if_neg (by decide), if_neg (by decide), if_neg (by decide), if_neg (by decide)]]
     simp only [stO, stH, Alarm.o, clearA, show rows Heard.cs ([] : List Heard) = [] from rfl]
     refine WeakR.pick [3] (by decide) (fun j hj => by omega) (.inl ?_) ?_
     · first | rfl | (simp [ren, pickF, posOf]; done)
     · simp only [pickH, List.map_cons, List.map_nil, pickB, List.getElem?_cons_zero, List.getElem?_cons_succ, map_ren_rows]
   | true =>
     (repeat ((repeat1' (first | simp -implicitDefEqProofs -dsimp only [go_sem] | simp -dsimp (disch := omega) only [wrap_i64])); repeat (with_reducible refine sideA ?_)))
     (first | refine callT.at (hgd) ⟨leA, trivial⟩ ?_ | refine callS.at (hgd) ⟨leA, trivial⟩ ?_)
     (repeat ((repeat1' (first | simp -implicitDefEqProofs -dsimp only [go_sem] | simp -dsimp (disch := omega) only [wrap_i64])); repeat (with_reducible refine sideA ?_)))
     cases hA : alarmB ⟨a.Now, 0, a.Heard, a.Given, a.Cancelled⟩ with
     | true =>
       rw [okA_yes rfl hA]
       simp only [stO, stH, Alarm.o]
       refine WeakR.pick [3] (by decide) (fun j hj => by omega) (.inl ?_) ?_
       · first | rfl | (simp [ren, pickF, posOf]; done)
       · simp only [pickH, List.map_cons, List.map_nil, pickB, List.getElem?_cons_zero, List.getElem?_cons_succ, map_ren_rows]
     | false =>
       rw [okA_bad hA]
       rw [show stepW a 5 0 = ⟨a.Now, 0, a.Heard, a.Given, a.Cancelled⟩ by rw [stepW, if_neg (by decide), if_neg (by decide), if_neg (by decide), if_neg (by decide)]]
       simp only [stO, stH, Alarm.o, clearA, show rows Heard.cs ([] : List Heard) = [] from rfl]
       refine WeakR.pick [3] (by decide) (fun j hj => by omega) (.inl ?_) ?_
       · first | rfl | (simp [ren, pickF, posOf]; done)
       · simp only [pickH, List.map_cons, List.map_nil, pickB, List.getElem?_cons_zero, List.getElem?_cons_succ, map_ren_rows]
end Go.Proofs
end
section
set_option linter.unusedSimpArgs false
set_option linter.unusedVariables false
set_option maxRecDepth 100000
namespace Go.Proofs
open Go.Lv
structure AlarmStep where
 Kind : Int
 Value : Int
def AlarmStep.cs (r : AlarmStep) : List V := [.int .i64 r.Kind, .int .i64 r.Value]
def AlarmStep.v (r : AlarmStep) : V := .agg [.int .i64 r.Kind, .int .i64 r.Value]
theorem AlarmStep.csl (a : AlarmStep) : a.cs.length = 2 := rfl
theorem AlarmStep.csp (a : AlarmStep) : a.cs.all (noOwn 2) = true := rfl
instance : FlatP AlarmStep.cs 2 := ⟨fun _ => rfl, fun _ d => by cases d <;> rfl, fun _ => rfl, fun _ => rfl⟩
def AlarmStep.ok (r : AlarmStep) : Prop := i64R r.Kind ∧ i64R r.Value
abbrev AlarmStep.rows (L : List AlarmStep) : List V := Go.Lv.rows AlarmStep.cs L
abbrev AlarmStep.sl (L : List AlarmStep) : V := .sl L.length 2 (Go.Lv.rows AlarmStep.cs L)
abbrev AlarmStep.zs : List V := [.int .i64 0, .int .i64 0]
def AlarmStep.mk1 (k : Int) : AlarmStep := ⟨k, k + 1⟩
def AlarmStep.marks (k : Int) (n : Nat) : List AlarmStep := (List.range n).map fun i : Nat => AlarmStep.mk1 (k + 2 * (i : Int))
@[simp] theorem AlarmStep.marks_len (k : Int) (n : Nat) : (AlarmStep.marks k n).length = n := by simp [AlarmStep.marks]
end Go.Proofs
end
section
set_option linter.unusedSimpArgs false
set_option linter.unusedVariables false
set_option maxRecDepth 100000
set_option maxHeartbeats 1000000
namespace Go.Proofs
open Go.Lv
def zeroA : V := .agg [.int .i64 0, .int .i64 0, .nilsl, .int .i64 0, .int .i64 0]
def stepO (a : Alarm) (k v : Int) : Option Alarm := if (alarmB a && stepB k v) = true then stepA a k v else none
def stR : Option Alarm → V
 | none => .tup [zeroA, .bool false]
 | some a => .tup [a.o 0, .bool true]
def stRh : Option Alarm → Hp
 | none => []
 | some a => [some (rows Heard.cs a.Heard)]
theorem l21Step_ok (k v : Int) : Ctr Try.prog 132 [.agg [.int .i64 k, .int .i64 v]] [] (.bool (stepB k v)) [] := by
 refine Ctr.intro Try.mixed Try.func132 rfl Try.okF132 ?_
 simp -implicitDefEqProofs -dsimp only [go_sem, Try.ntmps132, Try.results132]
 refine condT.split (fun h1 => ?_) (fun h1 => ?_) <;> simp -implicitDefEqProofs -dsimp only [go_sem, h1]
 · exact WeakR.drop' (by rw [stepB, if_pos (by simpa using h1)]) (by rfl)
 refine condT.split (fun h2 => ?_) (fun h2 => ?_) <;> simp -implicitDefEqProofs -dsimp only [go_sem, h2]
 · (first | refine callT.at (l1In_ok v 1 99) ⟨.inl rfl, .inl rfl, .inl rfl, trivial⟩ ?_ | refine callS.at (l1In_ok v 1 99) ⟨.inl rfl, .inl rfl, .inl rfl, trivial⟩ ?_)
   simp -implicitDefEqProofs -dsimp only [go_sem]
   exact WeakR.drop' (by rw [stepB, if_neg (by simpa using h1), if_pos (by simpa using h2)]) (by rfl)
 (first | refine callT.at (l1In_ok k 3 5) ⟨.inl rfl, .inl rfl, .inl rfl, trivial⟩ ?_ | refine callS.at (l1In_ok k 3 5) ⟨.inl rfl, .inl rfl, .inl rfl, trivial⟩ ?_)
 simp -implicitDefEqProofs -dsimp only [go_sem]
 have e : stepB k v = (inB' k 3 5 && v == 0) := by rw [stepB, if_neg (by simpa using h1), if_neg (by simpa using h2)]
 cases hq : inB' k 3 5 <;> (repeat ((repeat1' (first | simp -implicitDefEqProofs -dsimp only [go_sem] | simp -dsimp (disch := omega) only [wrap_i64])); repeat (with_reducible refine sideA ?_))) <;> exact WeakR.drop' (by rw [e, hq]; rfl) (by rfl)
theorem iIsAlarmStep_ok (k v : Int) : Ctr Try.prog 129 [.agg [.int .i64 k, .int .i64 v]] [] (.bool (stepB k v)) [] := by
 refine Ctr.intro Try.mixed Try.func129 rfl Try.okF129 ?_
 simp -implicitDefEqProofs -dsimp only [go_sem, Try.ntmps129, Try.results129]
 refine condT.split (fun h1 => ?_) (fun h1 => ?_) <;> simp -implicitDefEqProofs -dsimp only [go_sem, h1]
 · exact WeakR.drop' (by rw [stepB, if_pos (by simpa using h1)]) (by rfl)
 refine condT.split (fun h2 => ?_) (fun h2 => ?_) <;> simp -implicitDefEqProofs -dsimp only [go_sem, h2]
 · (first | refine callT.at (isStationId_ok v) ⟨.inl rfl, trivial⟩ ?_ | refine callS.at (isStationId_ok v) ⟨.inl rfl, trivial⟩ ?_)
   simp -implicitDefEqProofs -dsimp only [go_sem]
   exact WeakR.drop' (by rw [stepB, if_neg (by simpa using h1), if_pos (by simpa using h2)]) (by rfl)
 (first | refine callT.at (in_ok k 3 5) ⟨.inl rfl, .inl rfl, .inl rfl, trivial⟩ ?_ | refine callS.at (in_ok k 3 5) ⟨.inl rfl, .inl rfl, .inl rfl, trivial⟩ ?_)
 simp -implicitDefEqProofs -dsimp only [go_sem]
 have e : stepB k v = (inB' k 3 5 && v == 0) := by rw [stepB, if_neg (by simpa using h1), if_neg (by simpa using h2)]
 cases hq : inB' k 3 5 <;> (repeat ((repeat1' (first | simp -implicitDefEqProofs -dsimp only [go_sem] | simp -dsimp (disch := omega) only [wrap_i64])); repeat (with_reducible refine sideA ?_))) <;> exact WeakR.drop' (by rw [e, hq]; rfl) (by rfl)
theorem sStepAlarm_ok (a : Alarm) (k v : Int) (hl : a.Heard.length ≤ 16777216) : Ctr Try.prog 51 [a.v, .agg [.int .i64 k, .int .i64 v]] [] (stR (stepO a k v)) (stRh (stepO a k v)) := by
 refine Ctr.intro Try.mixed Try.func51 rfl Try.okF51 ?_
 simp -implicitDefEqProofs -dsimp only [go_sem, Try.ntmps51, Try.results51]
 simp -implicitDefEqProofs -dsimp only [go_sem, Alarm.v]
 (first | refine callT.at (l21Good_ok a (by omega)) ⟨leA, trivial⟩ ?_ | refine callS.at (l21Good_ok a (by omega)) ⟨leA, trivial⟩ ?_)
 cases h1 : alarmB a with
 | false =>
   (repeat ((repeat1' (first | simp -implicitDefEqProofs -dsimp only [go_sem] | simp -dsimp (disch := omega) only [wrap_i64])); repeat (with_reducible refine sideA ?_)))
   rw [show stepO a k v = none by rw [stepO, h1]; rfl]
   exact WeakR.drop' rfl (by rfl)
 | true =>
   (repeat ((repeat1' (first | simp -implicitDefEqProofs -dsimp only [go_sem] | simp -dsimp (disch := omega) only [wrap_i64])); repeat (with_reducible refine sideA ?_)))
   (first | refine callT.at (l21Step_ok k v) ⟨leA, trivial⟩ ?_ | refine callS.at (l21Step_ok k v) ⟨leA, trivial⟩ ?_)
   cases h2 : stepB k v with
   | false =>
     (repeat ((repeat1' (first | simp -implicitDefEqProofs -dsimp only [go_sem] | simp -dsimp (disch := omega) only [wrap_i64])); repeat (with_reducible refine sideA ?_)))
     rw [show stepO a k v = none by rw [stepO, h2, Bool.and_false]; rfl]
     exact WeakR.drop' rfl (by rfl)
   | true =>
     (repeat ((repeat1' (first | simp -implicitDefEqProofs -dsimp only [go_sem] | simp -dsimp (disch := omega) only [wrap_i64])); repeat (with_reducible refine sideA ?_)))
     have hm := l21Make_ok a k v h1 h2
     rw [show stepO a k v = stepA a k v by rw [stepO, h1, h2]; rfl]
     cases h3 : stepA a k v with
     | none =>
       rw [h3] at hm
       simp only [stO, stH, Alarm.v, Alarm.o] at hm
       (first | refine callT.at (hm) ⟨leA, leA, trivial⟩ ?_ | refine callS.at (hm) ⟨leA, leA, trivial⟩ ?_)
       (repeat ((repeat1' (first | simp -implicitDefEqProofs -dsimp only [go_sem] | simp -dsimp (disch := omega) only [wrap_i64])); repeat (with_reducible refine sideA ?_)))
       exact WeakR.drop' rfl (by rfl)
     | some b =>
       rw [h3] at hm
       simp only [stO, stH, Alarm.v, Alarm.o] at hm
       (first | refine callT.at (hm) ⟨leA, leA, trivial⟩ ?_ | refine callS.at (hm) ⟨leA, leA, trivial⟩ ?_)
       (repeat ((repeat1' (first | simp -implicitDefEqProofs -dsimp only [go_sem] | simp -dsimp (disch := omega) only [wrap_i64])); repeat (with_reducible refine sideA ?_)))
       simp only [stR, stRh, Alarm.o]
       refine WeakR.pick [3] (by decide) (fun j hj => by omega) (.inl ?_) ?_
       · first | rfl | (simp [ren, pickF, posOf]; done)
       · simp only [pickH, List.map_cons, List.map_nil, pickB, List.getElem?_cons_zero, List.getElem?_cons_succ, map_ren_rows]
end Go.Proofs
end
section
set_option linter.unusedSimpArgs false
set_option linter.unusedVariables false
set_option maxRecDepth 100000
set_option maxHeartbeats 1000000
namespace Go.Proofs
open Go.Lv
def Alarm.oc (a : Alarm) (id : Nat) : List V := [.int .i64 a.Now, .int .i64 a.State, .osl id 0 a.Heard.length 2, .int .i64 a.Given, .int .i64 a.Cancelled]
theorem waitF_ok (a : Alarm) (h : Heard) : Ctr Try.prog 202 [h.v, .pt [.pt a.cs]] [] (.bool (!(decide (500 < IntKind.i64.wrap (a.Now - h.Tick))))) [] := by
 refine Ctr.intro Try.mixed Try.func202 rfl Try.okF202 ?_
 simp -implicitDefEqProofs -dsimp only [go_sem, Try.ntmps202, Try.results202]
 simp -implicitDefEqProofs -dsimp only [go_sem, Heard.v, Alarm.cs]
 refine clT.text (by kernel_rfl) ?_
 (repeat ((repeat1' (first | simp -implicitDefEqProofs -dsimp only [go_sem] | simp -dsimp (disch := omega) only [wrap_i64])); repeat (with_reducible refine sideA ?_)))
 (first | refine callT.at (isOld_ok a h) ⟨leA, leA, trivial⟩ ?_ | refine callS.at (isOld_ok a h) ⟨leA, leA, trivial⟩ ?_)
 simp -implicitDefEqProofs -dsimp only [go_sem]
 exact WeakR.drop' rfl (by rfl)
theorem filter_old {now : Int} {L : List Heard} (hn : 0 ≤ now ∧ now ≤ 1000000) (hL : ∀ x ∈ L, 0 ≤ x.Tick ∧ x.Tick ≤ 1000000) : (L.filter fun h => !(decide (500 < IntKind.i64.wrap (now - h.Tick)))) = waitH now L := by
 unfold waitH
 refine List.filter_congr fun x hx => ?_
 have := hL x hx
 rw [wrap_i64 (by omega) (by omega), Bool.eq_iff_iff]
 simp
theorem wait_no (a : Alarm) (v : Int) (ha : alarmB a = true) (hv : 1 ≤ v) (h1 : ¬ v ≤ 1000000 - a.Now) : Ctr Try.prog 173 [.ptr 0 0, .int .i64 v] [some (a.oc 1), some (rows Heard.cs a.Heard)] (.bool false) [some (a.oc 1), some (rows Heard.cs a.Heard)] := by
 have A := alarmB_ok ha
 have hlen := A.len
 have hn := A.now
 have hw : IntKind.i64.wrap (1000000 - a.Now) = 1000000 - a.Now := wrap_i64 (by omega) (by omega)
 have hb : decide (1000000 - a.Now < v) = true := by simp; omega
 refine Ctr.intro Try.mixed Try.func173 rfl Try.okF173 ?_
 simp -implicitDefEqProofs -dsimp only [go_sem, Try.ntmps173, Try.results173]
 (repeat ((repeat1' (first | simp -implicitDefEqProofs -dsimp only [go_sem, Alarm.oc, hw, hb] | simp -dsimp (disch := omega) only [wrap_i64])); repeat (with_reducible refine sideA ?_)))
 refine WeakR.pick [0, 1] (by decide) (fun j hj => by have hj' : j = 0 ∨ j = 1 := (by omega); rcases hj' with rfl | rfl <;> rfl) (.inl rfl) ?_
 simp [pickH, pickB, ren, pickF, posOf, map_ren_rows, Alarm.oc]
theorem wait_still (a : Alarm) (v : Int) (ha : alarmB a = true) (hv : 1 ≤ v) (h1 : v ≤ 1000000 - a.Now) (hs : a.State ≠ 1) : Ctr Try.prog 173 [.ptr 0 0, .int .i64 v] [some (a.oc 1), some (rows Heard.cs a.Heard)] (.bool true) [some ((waitA a v).oc 1), some (rows Heard.cs a.Heard)] := by
 have A := alarmB_ok ha
 have hlen := A.len
 have hn := A.now
 have hw : IntKind.i64.wrap (1000000 - a.Now) = 1000000 - a.Now := wrap_i64 (by omega) (by omega)
 have hw2 : IntKind.i64.wrap (a.Now + v) = a.Now + v := wrap_i64 (by omega) (by omega)
 have hb : decide (1000000 - a.Now < v) = false := by simp; omega
 have hs' : (a.State == 1) = false := by simp [hs]
 rw [waitA, if_neg hs]
 refine Ctr.intro Try.mixed Try.func173 rfl Try.okF173 ?_
 simp -implicitDefEqProofs -dsimp only [go_sem, Try.ntmps173, Try.results173]
 (repeat ((repeat1' (first | simp -implicitDefEqProofs -dsimp only [go_sem, Alarm.oc, hw, hw2, hb, hs'] | simp -dsimp (disch := omega) only [wrap_i64])); repeat (with_reducible refine sideA ?_)))
 refine WeakR.pick [0, 1] (by decide) (fun j hj => by have hj' : j = 0 ∨ j = 1 := (by omega); rcases hj' with rfl | rfl <;> rfl) (.inl rfl) ?_
 simp [pickH, pickB, ren, pickF, posOf, map_ren_rows, Alarm.oc]
theorem wait_yes (a : Alarm) (v : Int) (ha : alarmB a = true) (hv : 1 ≤ v) (h1 : v ≤ 1000000 - a.Now) (hs : a.State = 1) : Ctr Try.prog 173 [.ptr 0 0, .int .i64 v] [some (a.oc 1), some (rows Heard.cs a.Heard)] (.bool true) [some ((waitA a v).oc 2), some (rows Heard.cs a.Heard), some (rows Heard.cs (waitA a v).Heard)] := by
 have A := alarmB_ok ha
 have hlen := A.len
 have hn := A.now
 have hw : IntKind.i64.wrap (1000000 - a.Now) = 1000000 - a.Now := wrap_i64 (by omega) (by omega)
 have hw2 : IntKind.i64.wrap (a.Now + v) = a.Now + v := wrap_i64 (by omega) (by omega)
 have hb : decide (1000000 - a.Now < v) = false := by simp; omega
 have hs' : (a.State == 1) = true := by simp [hs]
 obtain ⟨b, hb2⟩ : ∃ b : Alarm, b = ⟨a.Now + v, a.State, a.Heard, a.Given, a.Cancelled⟩ := ⟨_, rfl⟩
 have hf := filterHeard_ok a.Heard (fun h => !(decide (500 < IntKind.i64.wrap (b.Now - h.Tick)))) 202 [.pt [.pt b.cs]] (fun d => by cases d <;> rfl) (fun x => waitF_ok b x) (by omega)
 rw [hb2] at hf
 simp only [Alarm.cs] at hf
 rw [filter_old (by omega) (fun x hx => by have := heardB_iff.1 (A.heard x hx); omega)] at hf
 rw [waitA, if_pos hs]
 refine Ctr.intro Try.mixed Try.func173 rfl Try.okF173 ?_
 simp -implicitDefEqProofs -dsimp only [go_sem, Try.ntmps173, Try.results173]
 (repeat ((repeat1' (first | simp -implicitDefEqProofs -dsimp only [go_sem, Alarm.oc, hw, hw2, hb, hs'] | simp -dsimp (disch := omega) only [wrap_i64])); repeat (with_reducible refine sideA ?_)))
 refine callT.intro hf ⟨le_snap rfl, .inl (by simp [ren, snapR, map_ren_rows, take_rows, Alarm.cs]), trivial⟩ (.inr ⟨noRo_ok 3 rfl, noRoH_rows _⟩) ⟨rfl, by simp [refOk, refV, refB, rows_refV]⟩ ?_
 (repeat ((repeat1' (first | simp -implicitDefEqProofs -dsimp only [go_sem] | simp -dsimp (disch := omega) only [wrap_i64])); repeat (with_reducible refine sideA ?_)))
 refine condT.split (fun g1 => ?_) (fun g1 => ?_) <;> (repeat ((repeat1' (first | simp -implicitDefEqProofs -dsimp only [go_sem, g1] | simp -dsimp (disch := omega) only [wrap_i64])); repeat (with_reducible refine sideA ?_)))
 · have g1' : (waitH (a.Now + v) a.Heard).length = 0 := by simpa using g1
   simp only [g1', if_true]
   refine WeakR.pick [0, 1, 3] (by decide) (fun j hj => by have hj' : j = 0 ∨ j = 1 := (by omega); rcases hj' with rfl | rfl <;> rfl) (.inl rfl) ?_
   simp [pickH, pickB, ren, pickF, posOf, map_ren_rows, Alarm.oc]
 · have g1' : ¬ (waitH (a.Now + v) a.Heard).length = 0 := by simpa using g1
   simp only [g1', if_false]
   refine WeakR.pick [0, 1, 3] (by decide) (fun j hj => by have hj' : j = 0 ∨ j = 1 := (by omega); rcases hj' with rfl | rfl <;> rfl) (.inl rfl) ?_
   simp [pickH, pickB, ren, pickF, posOf, map_ren_rows, Alarm.oc]
   exact hs
theorem hearF_ok (h : Heard) (v : Int) : Ctr Try.prog 203 [h.v, .pt [.int .i64 v]] [] (.bool (h.Station == v)) [] := by
 refine Ctr.intro Try.mixed Try.func203 rfl Try.okF203 ?_
 simp -implicitDefEqProofs -dsimp only [go_sem, Try.ntmps203, Try.results203]
 simp -implicitDefEqProofs -dsimp only [go_sem, Heard.v]
 exact WeakR.drop' rfl (by rfl)
theorem hear_no (a : Alarm) (v : Int) (ha : alarmB a = true) (h1 : (a.State != 3 && !(a.Heard.any fun h => h.Station == v)) = false) : Ctr Try.prog 174 [.ptr 0 0, .int .i64 v] [some (a.oc 1), some (rows Heard.cs a.Heard)] (.bool false) [some (a.oc 1), some (rows Heard.cs a.Heard)] := by
 have A := alarmB_ok ha
 have hlen := A.len
 have hf := containsFuncHeard_ok a.Heard (fun h => h.Station == v) 203 [.pt [.int .i64 v]] (fun d => by cases d <;> rfl) (fun x => hearF_ok x v) (by omega)
 refine Ctr.intro Try.mixed Try.func174 rfl Try.okF174 ?_
 simp -implicitDefEqProofs -dsimp only [go_sem, Try.ntmps174, Try.results174]
 (repeat ((repeat1' (first | simp -implicitDefEqProofs -dsimp only [go_sem, Alarm.oc] | simp -dsimp (disch := omega) only [wrap_i64])); repeat (with_reducible refine sideA ?_)))
 (first | refine callT.at (hf) ⟨leA, leA, trivial⟩ ?_ | refine callS.at (hf) ⟨leA, leA, trivial⟩ ?_)
 (repeat ((repeat1' (first | simp -implicitDefEqProofs -dsimp only [go_sem] | simp -dsimp (disch := omega) only [wrap_i64])); repeat (with_reducible refine sideA ?_)))
 by_cases hs : a.State = 3
 · have hb : (a.State == 3) = true := by simp [hs]
   (repeat ((repeat1' (first | simp -implicitDefEqProofs -dsimp only [go_sem, hb] | simp -dsimp (disch := omega) only [wrap_i64])); repeat (with_reducible refine sideA ?_)))
   refine WeakR.pick [0, 1] (by decide) (fun j hj => by have hj' : j = 0 ∨ j = 1 := (by omega); rcases hj' with rfl | rfl <;> rfl) (.inl rfl) ?_
   simp [pickH, pickB, ren, pickF, posOf, map_ren_rows, Alarm.oc]
 · have hb : (a.State == 3) = false := by simp [hs]
   have hk : (a.Heard.any fun h => h.Station == v) = true := by simpa [hs] using h1
   (repeat ((repeat1' (first | simp -implicitDefEqProofs -dsimp only [go_sem, hb, hk] | simp -dsimp (disch := omega) only [wrap_i64])); repeat (with_reducible refine sideA ?_)))
   refine WeakR.pick [0, 1] (by decide) (fun j hj => by have hj' : j = 0 ∨ j = 1 := (by omega); rcases hj' with rfl | rfl <;> rfl) (.inl rfl) ?_
   simp [pickH, pickB, ren, pickF, posOf, map_ren_rows, Alarm.oc]
theorem hear_yes (a : Alarm) (v : Int) (ha : alarmB a = true) (h1 : (a.State != 3 && !(a.Heard.any fun h => h.Station == v)) = true) : Ctr Try.prog 174 [.ptr 0 0, .int .i64 v] [some (a.oc 1), some (rows Heard.cs a.Heard)] (.bool true) [some ((hearA a v).oc 1), some (rows Heard.cs (hearA a v).Heard)] := by
 have A := alarmB_ok ha
 have hlen := A.len
 have hg := A.given
 have hc := A.canc
 have hw : IntKind.i64.wrap (a.Given + 1) = a.Given + 1 := wrap_i64 (by omega) (by omega)
 have hf := containsFuncHeard_ok a.Heard (fun h => h.Station == v) 203 [.pt [.int .i64 v]] (fun d => by cases d <;> rfl) (fun x => hearF_ok x v) (by omega)
 have h1' : ¬ a.State = 3 ∧ (a.Heard.any fun h => h.Station == v) = false := by simpa using h1
 have hb : (a.State == 3) = false := by simp [h1'.1]
 obtain ⟨H', hH'⟩ : ∃ H', H' = a.Heard ++ [(⟨v, a.Now⟩ : Heard)] := ⟨_, rfl⟩
 have hl' : a.Heard.length + 1 = H'.length := by rw [hH']; simp
 have hrow : rows Heard.cs a.Heard ++ [.int .i64 v, .int .i64 a.Now] = rows Heard.cs H' := by rw [hH', rowsOf_append, rows_one]; rfl
 refine Ctr.intro Try.mixed Try.func174 rfl Try.okF174 ?_
 simp -implicitDefEqProofs -dsimp only [go_sem, Try.ntmps174, Try.results174]
 (repeat ((repeat1' (first | simp -implicitDefEqProofs -dsimp only [go_sem, Alarm.oc] | simp -dsimp (disch := omega) only [wrap_i64])); repeat (with_reducible refine sideA ?_)))
 (first | refine callT.at (hf) ⟨leA, leA, trivial⟩ ?_ | refine callS.at (hf) ⟨leA, leA, trivial⟩ ?_)
 (repeat ((repeat1' (first | simp -implicitDefEqProofs -dsimp only [go_sem, hb, h1'.2, hrow, hl'] | simp -dsimp (disch := omega) only [wrap_i64])); repeat (with_reducible refine sideA ?_)))
 by_cases e0 : a.Heard.length = 0
 · have b1 : ((H'.length : Int) == 1) = true := by simp; omega
   have hA : hearA a v = ⟨a.Now, 1, H', a.Given, a.Cancelled⟩ := by rw [hearA, if_pos e0, if_neg (by omega), hH']
   (repeat ((repeat1' (first | simp -implicitDefEqProofs -dsimp only [go_sem, b1, hrow, hl'] | simp -dsimp (disch := omega) only [wrap_i64])); repeat (with_reducible refine sideA ?_)))
   rw [hA]
   refine WeakR.pick [0, 1] (by decide) (fun j hj => by have hj' : j = 0 ∨ j = 1 := (by omega); rcases hj' with rfl | rfl <;> rfl) (.inl rfl) ?_
   simp [pickH, pickB, ren, pickF, posOf, map_ren_rows, Alarm.oc]
 have b1 : ((H'.length : Int) == 1) = false := by simp; omega
 by_cases e2 : a.Heard.length = 2
 · have b3 : ((H'.length : Int) == 3) = true := by simp; omega
   have hA : hearA a v = ⟨a.Now, 2, H', a.Given + 1, a.Cancelled⟩ := by rw [hearA, if_neg e0, if_pos e2, if_pos e2, hH']
   (repeat ((repeat1' (first | simp -implicitDefEqProofs -dsimp only [go_sem, b1, b3, hw, hrow, hl'] | simp -dsimp (disch := omega) only [wrap_i64])); repeat (with_reducible refine sideA ?_)))
   rw [hA]
   refine WeakR.pick [0, 1] (by decide) (fun j hj => by have hj' : j = 0 ∨ j = 1 := (by omega); rcases hj' with rfl | rfl <;> rfl) (.inl rfl) ?_
   simp [pickH, pickB, ren, pickF, posOf, map_ren_rows, Alarm.oc]
 · have b3 : ((H'.length : Int) == 3) = false := by simp; omega
   have hA : hearA a v = ⟨a.Now, a.State, H', a.Given, a.Cancelled⟩ := by rw [hearA, if_neg e0, if_neg e2, if_neg e2, hH']
   (repeat ((repeat1' (first | simp -implicitDefEqProofs -dsimp only [go_sem, b1, b3, hrow, hl'] | simp -dsimp (disch := omega) only [wrap_i64])); repeat (with_reducible refine sideA ?_)))
   rw [hA]
   refine WeakR.pick [0, 1] (by decide) (fun j hj => by have hj' : j = 0 ∨ j = 1 := (by omega); rcases hj' with rfl | rfl <;> rfl) (.inl rfl) ?_
   simp [pickH, pickB, ren, pickF, posOf, map_ren_rows, Alarm.oc]
end Go.Proofs
end
section
set_option linter.unusedSimpArgs false
set_option linter.unusedVariables false
set_option maxRecDepth 100000
set_option maxHeartbeats 1000000
namespace Go.Proofs
open Go.Lv
def Alarm.nv (a : Alarm) : V := .agg [.int .i64 a.Now, .int .i64 a.State, .nilsl, .int .i64 a.Given, .int .i64 a.Cancelled]
def hearB (a : Alarm) (v : Int) : Bool := a.State != 3 && !(a.Heard.any fun h => h.Station == v)
def stepI (a : Alarm) (k v : Int) : Alarm :=
 if k = 1 then (if v ≤ 1000000 - a.Now then waitA a v else a) else if k = 2 then (if hearB a v = true then hearA a v else a) else if k = 3 then clearA a 0 (a.Cancelled + 1) else if k = 4 then clearA a 3 a.Cancelled else ⟨a.Now, 0, a.Heard, a.Given, a.Cancelled⟩
def stX (w : Alarm) (nil : Bool) : Option Alarm → V
 | none => .tup [if nil = true then w.nv else w.v, .bool false]
 | some b => .tup [if nil = true then b.nv else b.o 0, .bool true]
def stXh (nil : Bool) : Option Alarm → Hp
 | none => []
 | some b => if nil = true then [] else [some (rows Heard.cs b.Heard)]
theorem step1_ok (a : Alarm) (v : Int) (ha : alarmB a = true) (hv : 1 ≤ v) : Ctr Try.prog 130 [a.v, .agg [.int .i64 1, .int .i64 v]] [] (stX (stepI a 1 v) false (stepA a 1 v)) (stXh false (stepA a 1 v)) := by
 have A := alarmB_ok ha
 have hlen := A.len
 have hn := A.now
 have hst : stepA a 1 v = okA (decide (v ≤ 1000000 - a.Now)) (waitA a v) := by rw [stepA, if_pos rfl]
 have hsi : stepI a 1 v = if v ≤ 1000000 - a.Now then waitA a v else a := by rw [stepI, if_pos rfl]
 rw [hst, hsi]
 have hwl : (waitA a v).Heard.length ≤ a.Heard.length := by
   unfold waitA; split
   · exact List.length_filter_le _ _
   · exact Nat.le_refl _
 have hgd := iIsAlarm_ok (waitA a v) (by omega)
 simp only [Alarm.v] at hgd
 refine Ctr.intro Try.mixed Try.func130 rfl Try.okF130 ?_
 simp -implicitDefEqProofs -dsimp only [go_sem, Try.ntmps130, Try.results130]
 simp -implicitDefEqProofs -dsimp only [go_sem, Alarm.v]
 (first | refine callT.at (copiedAlarm_ok a (by omega)) ⟨leA, trivial⟩ ?_ | refine callS.at (copiedAlarm_ok a (by omega)) ⟨leA, trivial⟩ ?_)
 simp -implicitDefEqProofs -dsimp only [go_sem, Alarm.o]
 by_cases h1 : v ≤ 1000000 - a.Now
 · rw [if_pos h1]
   by_cases hs : a.State = 1
   · have hw := wait_yes a v ha hv h1 hs
     refine callS.lend [4, 3] false hw (by decide) ⟨.inl rfl, .inl rfl, trivial⟩ (by simp [pickH, pickB, ren, pickF, posOf, map_ren_rows, Alarm.oc]) (by simp [pickH, pickB, grown, isMb, isMb_rows, Alarm.oc, map_ren_rows]) (.inl rfl) ?_
     (repeat ((repeat1' (first | simp -implicitDefEqProofs -dsimp only [go_sem, Alarm.oc, List.getElem?_nil] | simp -dsimp (disch := omega) only [wrap_i64])); repeat (with_reducible refine sideA ?_)))
     (first | refine callT.at (hgd) ⟨leA, trivial⟩ ?_ | refine callS.at (hgd) ⟨leA, trivial⟩ ?_)
     (repeat ((repeat1' (first | simp -implicitDefEqProofs -dsimp only [go_sem] | simp -dsimp (disch := omega) only [wrap_i64])); repeat (with_reducible refine sideA ?_)))
     cases hA : alarmB (waitA a v) with
     | true =>
       rw [okA_yes (by simpa using h1) hA]
       simp only [stX, stXh, Alarm.o, Bool.false_eq_true, if_false]
       refine WeakR.pick [5] (by decide) (fun j hj => by omega) (.inl ?_) ?_
       · first | rfl | (simp [ren, pickF, posOf]; done)
       · simp only [pickH, List.map_cons, List.map_nil, pickB, List.getElem?_cons_zero, List.getElem?_cons_succ, map_ren_rows]
     | false =>
       rw [okA_bad hA]
       simp only [stX, stXh, Alarm.v, Alarm.nv, clearA, if_true, Bool.false_eq_true, if_false]
       refine WeakR.pick [] (by decide) (fun j hj => by omega) (.inl ?_) rfl
       first | rfl | (simp [ren, pickF, posOf, frzR, map_ren_rows, take_rows]; done)
   · have hw := wait_still a v ha hv h1 hs
     have hwe : (waitA a v).Heard = a.Heard := by rw [waitA, if_neg hs]
     refine callS.lend [4, 3] false hw (by decide) ⟨.inl rfl, .inl rfl, trivial⟩ (by simp [pickH, pickB, ren, pickF, posOf, map_ren_rows, Alarm.oc]) (by simp [pickH, pickB, grown, isMb, isMb_rows, Alarm.oc, map_ren_rows]) (.inl rfl) ?_
     (repeat ((repeat1' (first | simp -implicitDefEqProofs -dsimp only [go_sem, Alarm.oc] | simp -dsimp (disch := omega) only [wrap_i64])); repeat (with_reducible refine sideA ?_)))
     simp only [hwe] at hgd ⊢
     (first | refine callT.at (hgd) ⟨leA, trivial⟩ ?_ | refine callS.at (hgd) ⟨leA, trivial⟩ ?_)
     (repeat ((repeat1' (first | simp -implicitDefEqProofs -dsimp only [go_sem] | simp -dsimp (disch := omega) only [wrap_i64])); repeat (with_reducible refine sideA ?_)))
     cases hA : alarmB (waitA a v) with
     | true =>
       rw [okA_yes (by simpa using h1) hA]
       simp only [stX, stXh, Alarm.o, Bool.false_eq_true, if_false, hwe]
       refine WeakR.pick [3] (by decide) (fun j hj => by omega) (.inl ?_) ?_
       · first | rfl | (simp [ren, pickF, posOf]; done)
       · simp only [pickH, List.map_cons, List.map_nil, pickB, List.getElem?_cons_zero, List.getElem?_cons_succ, map_ren_rows]
     | false =>
       rw [okA_bad hA]
       simp only [stX, stXh, Alarm.v, Alarm.nv, clearA, if_true, Bool.false_eq_true, if_false, hwe]
       refine WeakR.pick [] (by decide) (fun j hj => by omega) (.inl ?_) rfl
       simp [ren, pickF, posOf, frzR, map_ren_rows, take_rows]
 · rw [if_neg h1, okA_no (by simpa using h1)]
   have hw := wait_no a v ha hv h1
   refine callS.lend [4, 3] false hw (by decide) ⟨.inl rfl, .inl rfl, trivial⟩ (by simp [pickH, pickB, ren, pickF, posOf, map_ren_rows, Alarm.oc]) (by simp [pickH, pickB, grown, isMb, isMb_rows, Alarm.oc, map_ren_rows]) (.inl rfl) ?_
   simp -implicitDefEqProofs -dsimp only [go_sem, Alarm.oc]
   repeat (with_reducible refine sideA ?_)
   simp only [stX, stXh, Alarm.v, Alarm.nv, clearA, if_true, Bool.false_eq_true, if_false]
   refine WeakR.pick [] (by decide) (fun j hj => by omega) (.inl ?_) rfl
   first | rfl | (simp [ren, pickF, posOf, frzR, map_ren_rows, take_rows]; done)
theorem step2_ok (a : Alarm) (v : Int) (ha : alarmB a = true) : Ctr Try.prog 130 [a.v, .agg [.int .i64 2, .int .i64 v]] [] (stX (stepI a 2 v) false (stepA a 2 v)) (stXh false (stepA a 2 v)) := by
 have A := alarmB_ok ha
 have hlen := A.len
 have hn := A.now
 have hst : stepA a 2 v = okA (hearB a v) (hearA a v) := by rw [stepA, if_neg (by decide), if_pos rfl, hearB]
 have hsi : stepI a 2 v = if hearB a v = true then hearA a v else a := by rw [stepI, if_neg (by decide), if_pos rfl]
 rw [hst, hsi]
 have hgd := iIsAlarm_ok (hearA a v) (by show (a.Heard ++ [_]).length ≤ _; simp; omega)
 have hhl : (hearA a v).Heard.length = a.Heard.length + 1 := by simp [hearA]
 simp only [Alarm.v] at hgd
 refine Ctr.intro Try.mixed Try.func130 rfl Try.okF130 ?_
 simp -implicitDefEqProofs -dsimp only [go_sem, Try.ntmps130, Try.results130]
 simp -implicitDefEqProofs -dsimp only [go_sem, Alarm.v]
 (first | refine callT.at (copiedAlarm_ok a (by omega)) ⟨leA, trivial⟩ ?_ | refine callS.at (copiedAlarm_ok a (by omega)) ⟨leA, trivial⟩ ?_)
 simp -implicitDefEqProofs -dsimp only [go_sem, Alarm.o]
 cases h1 : hearB a v with
 | true =>
   rw [if_pos rfl]
   have hw := hear_yes a v ha h1
   refine callS.lendK [3] [4, 3] false hw (by decide) ⟨.inl rfl, .inl rfl, trivial⟩ (by simp [pickH, pickB, ren, pickF, posOf, map_ren_rows, Alarm.oc]) ⟨⟨.inl rfl, rfl⟩, ⟨.inr ⟨rfl, by rw [rows_length, rows_length, hhl]; omega⟩, by rw [isMb_rows, isMb_rows]⟩, trivial⟩ (.inl rfl) ?_
   (repeat ((repeat1' (first | simp -implicitDefEqProofs -dsimp only [go_sem, Alarm.oc] | simp -dsimp (disch := omega) only [wrap_i64])); repeat (with_reducible refine sideA ?_)))
   (first | refine callT.at (hgd) ⟨leA, trivial⟩ ?_ | refine callS.at (hgd) ⟨leA, trivial⟩ ?_)
   (repeat ((repeat1' (first | simp -implicitDefEqProofs -dsimp only [go_sem] | simp -dsimp (disch := omega) only [wrap_i64])); repeat (with_reducible refine sideA ?_)))
   cases hA : alarmB (hearA a v) with
   | true =>
     rw [okA_yes rfl hA]
     simp only [stX, stXh, Alarm.o, Bool.false_eq_true, if_false]
     refine WeakR.pick [3] (by decide) (fun j hj => by omega) (.inl ?_) ?_
     · first | rfl | (simp [ren, pickF, posOf]; done)
     · simp only [pickH, List.map_cons, List.map_nil, pickB, List.getElem?_cons_zero, List.getElem?_cons_succ, map_ren_rows]
   | false =>
     rw [okA_bad hA]
     simp only [stX, stXh, Alarm.v, Alarm.nv, clearA, if_true, Bool.false_eq_true, if_false]
     refine WeakR.pick [] (by decide) (fun j hj => by omega) (.inl ?_) rfl
     first | rfl | (simp [ren, pickF, posOf, frzR, map_ren_rows, take_rows]; done)
 | false =>
   rw [if_neg (by decide), okA_no rfl]
   have hw := hear_no a v ha h1
   refine callS.lend [4, 3] false hw (by decide) ⟨.inl rfl, .inl rfl, trivial⟩ (by simp [pickH, pickB, ren, pickF, posOf, map_ren_rows, Alarm.oc]) (by simp [pickH, pickB, grown, isMb, isMb_rows, Alarm.oc, map_ren_rows]) (.inl rfl) ?_
   (repeat ((repeat1' (first | simp -implicitDefEqProofs -dsimp only [go_sem, Alarm.oc] | simp -dsimp (disch := omega) only [wrap_i64])); repeat (with_reducible refine sideA ?_)))
   simp only [stX, stXh, Alarm.v, Alarm.nv, clearA, if_true, Bool.false_eq_true, if_false]
   refine WeakR.pick [] (by decide) (fun j hj => by omega) (.inl ?_) rfl
   first | rfl | (simp [ren, pickF, posOf, frzR, map_ren_rows, take_rows]; done)
theorem step3_ok (a : Alarm) (ha : alarmB a = true) : Ctr Try.prog 130 [a.v, .agg [.int .i64 3, .int .i64 0]] [] (stX (stepI a 3 0) true (stepA a 3 0)) (stXh true (stepA a 3 0)) := by
 have h := stepCancel_ok a ha
 have hst : stepA a 3 0 = okA (canB a) (clearA a 0 (a.Cancelled + 1)) := by rw [stepA, if_neg (by decide), if_neg (by decide), if_pos rfl]
 have hsi : stepI a 3 0 = clearA a 0 (a.Cancelled + 1) := by rw [stepI, if_neg (by decide), if_neg (by decide), if_pos rfl]
 rw [hst, hsi]
 cases hc : canB a with
 | false => rw [okA_no rfl]; rw [hc] at h; exact h
 | true =>
   have hal : alarmB (clearA a 0 (a.Cancelled + 1)) = true := by
     simp only [canB, Bool.and_eq_true, decide_eq_true_eq] at hc
     have A := alarmB_ok ha
     have hcc := A.canc
     have hg := A.given
     have hn := A.now
     show alarmB ⟨a.Now, 0, [], a.Given, a.Cancelled + 1⟩ = true
     simp [alarmB, acountB, stateB, listB, freshB, inB']
     omega
   rw [okA_yes rfl hal]; rw [hc] at h; exact h
theorem step4_ok (a : Alarm) (ha : alarmB a = true) : Ctr Try.prog 130 [a.v, .agg [.int .i64 4, .int .i64 0]] [] (stX (stepI a 4 0) true (stepA a 4 0)) (stXh true (stepA a 4 0)) := by
 have A := alarmB_ok ha
 have hlen := A.len
 have hc := A.canc
 have hg := A.given
 have hn := A.now
 have hst : stepA a 4 0 = okA (a.State == 2 && decide (500 < a.Now - tickAt a.Heard (a.Heard.length - 1))) (clearA a 3 a.Cancelled) := by rw [stepA, if_neg (by decide), if_neg (by decide), if_neg (by decide), if_pos rfl]
 have hsi : stepI a 4 0 = clearA a 3 a.Cancelled := by rw [stepI, if_neg (by decide), if_neg (by decide), if_neg (by decide), if_pos rfl]
 rw [hst, hsi]
 have hI := iIsAlarm_ok (clearA a 3 a.Cancelled) (by simp [clearA])
 simp only [Alarm.v, clearA, rows, List.length_nil, List.flatMap_nil] at hI
 refine Ctr.intro Try.mixed Try.func130 rfl Try.okF130 ?_
 simp -implicitDefEqProofs -dsimp only [go_sem, Try.ntmps130, Try.results130]
 simp -implicitDefEqProofs -dsimp only [go_sem, Alarm.v]
 (first | refine callT.at (copiedAlarm_ok a (by omega)) ⟨leA, trivial⟩ ?_ | refine callS.at (copiedAlarm_ok a (by omega)) ⟨leA, trivial⟩ ?_)
 simp -implicitDefEqProofs -dsimp only [go_sem, Alarm.o]
 repeat (with_reducible refine sideA ?_)
 by_cases hs : a.State = 2
 · have h3 := state2 A hs
   have hr := rows_at Heard.csl (show a.Heard.length - 1 < a.Heard.length by omega)
   have hh := heardB_iff.1 (A.heard _ (List.getElem_mem (show a.Heard.length - 1 < a.Heard.length by omega)))
   have hb : (a.State == 2) = true := by simp [hs]
   have hw1 : IntKind.i64.wrap ((a.Heard.length : Int) - 1) = ((a.Heard.length - 1 : Nat) : Int) := by rw [wrap_i64 (by omega) (by omega)]; omega
   have hw2 : IntKind.i64.wrap (a.Now - (a.Heard[a.Heard.length - 1]'(by omega)).Tick) = a.Now - (a.Heard[a.Heard.length - 1]'(by omega)).Tick := wrap_i64 (by omega) (by omega)
   have ht := tickAt_get (L := a.Heard) (show a.Heard.length - 1 < a.Heard.length by omega)
   (repeat ((repeat1' (first | simp -implicitDefEqProofs -dsimp only [go_sem, hb, hw1, hr, hw2, Heard.cs] | simp -dsimp (disch := omega) only [wrap_i64])); repeat (with_reducible refine sideA ?_)))
   rw [ht]
   try rw [hb, Bool.true_and]
   cases hC : decide (500 < a.Now - (a.Heard[a.Heard.length - 1]'(by omega)).Tick) with
   | false =>
     (repeat ((repeat1' (first | simp -implicitDefEqProofs -dsimp only [go_sem] | simp -dsimp (disch := omega) only [wrap_i64])); repeat (with_reducible refine sideA ?_)))
     rw [okA_no rfl]
     simp only [stX, stXh, Alarm.v, Alarm.nv, clearA, if_true, Bool.false_eq_true, if_false]
     refine WeakR.pick [] (by decide) (fun j hj => by omega) (.inl ?_) rfl
     first | rfl | (simp [ren, pickF, posOf, frzR, map_ren_rows, take_rows]; done)
   | true =>
     (repeat ((repeat1' (first | simp -implicitDefEqProofs -dsimp only [go_sem] | simp -dsimp (disch := omega) only [wrap_i64])); repeat (with_reducible refine sideA ?_)))
     (first | refine callT.at (hI) ⟨leA, trivial⟩ ?_ | refine callS.at (hI) ⟨leA, trivial⟩ ?_)
     (repeat ((repeat1' (first | simp -implicitDefEqProofs -dsimp only [go_sem] | simp -dsimp (disch := omega) only [wrap_i64])); repeat (with_reducible refine sideA ?_)))
     cases hA : alarmB (clearA a 3 a.Cancelled) with
     | true =>
       rw [okA_yes rfl hA]
       simp only [clearA] at hA
       rw [hA]
       simp only [stX, stXh, Alarm.v, Alarm.nv, clearA, if_true, Bool.false_eq_true, if_false]
       refine WeakR.pick [] (by decide) (fun j hj => by omega) (.inl ?_) rfl
       first | rfl | (simp [ren, pickF, posOf, frzR, map_ren_rows, take_rows]; done)
     | false =>
       rw [okA_bad hA]
       simp only [clearA] at hA
       rw [hA]
       simp only [stX, stXh, Alarm.v, Alarm.nv, clearA, if_true, Bool.false_eq_true, if_false]
       refine WeakR.pick [] (by decide) (fun j hj => by omega) (.inl ?_) rfl
       first | rfl | (simp [ren, pickF, posOf, frzR, map_ren_rows, take_rows]; done)
 · have hb : (a.State == 2) = false := by simp [hs]
   (repeat ((repeat1' (first | simp -implicitDefEqProofs -dsimp only [go_sem, hb] | simp -dsimp (disch := omega) only [wrap_i64])); repeat (with_reducible refine sideA ?_)))
   rw [okA_no rfl]
   simp only [stX, stXh, Alarm.v, Alarm.nv, clearA, if_true, Bool.false_eq_true, if_false]
   refine WeakR.pick [] (by decide) (fun j hj => by omega) (.inl ?_) rfl
   first | rfl | (simp [ren, pickF, posOf, frzR, map_ren_rows, take_rows]; done)
theorem step5_ok (a : Alarm) (ha : alarmB a = true) : Ctr Try.prog 130 [a.v, .agg [.int .i64 5, .int .i64 0]] [] (stX (stepI a 5 0) false (stepA a 5 0)) (stXh false (stepA a 5 0)) := by
 have A := alarmB_ok ha
 have hlen := A.len
 have hst : stepA a 5 0 = okA (a.State == 3) ⟨a.Now, 0, a.Heard, a.Given, a.Cancelled⟩ := by rw [stepA, if_neg (by decide), if_neg (by decide), if_neg (by decide), if_neg (by decide)]
 have hsi : stepI a 5 0 = ⟨a.Now, 0, a.Heard, a.Given, a.Cancelled⟩ := by rw [stepI, if_neg (by decide), if_neg (by decide), if_neg (by decide), if_neg (by decide)]
 rw [hst, hsi]
 have hgd := iIsAlarm_ok ⟨a.Now, 0, a.Heard, a.Given, a.Cancelled⟩ (by show a.Heard.length ≤ _; omega)
 simp only [Alarm.v] at hgd
 refine Ctr.intro Try.mixed Try.func130 rfl Try.okF130 ?_
 simp -implicitDefEqProofs -dsimp only [go_sem, Try.ntmps130, Try.results130]
 simp -implicitDefEqProofs -dsimp only [go_sem, Alarm.v]
 (first | refine callT.at (copiedAlarm_ok a (by omega)) ⟨leA, trivial⟩ ?_ | refine callS.at (copiedAlarm_ok a (by omega)) ⟨leA, trivial⟩ ?_)
 (repeat ((repeat1' (first | simp -implicitDefEqProofs -dsimp only [go_sem, Alarm.o] | simp -dsimp (disch := omega) only [wrap_i64])); repeat (with_reducible refine sideA ?_)))
 cases hC : (a.State == 3) with
 | false =>
   (repeat ((repeat1' (first | simp -implicitDefEqProofs -dsimp only [go_sem] | simp -dsimp (disch := omega) only [wrap_i64])); repeat (with_reducible refine sideA ?_)))
   rw [okA_no rfl]
   simp only [stX, stXh, Alarm.v, Alarm.nv, clearA, if_true, Bool.false_eq_true, if_false]
   refine WeakR.pick [] (by decide) (fun j hj => by omega) (.inl ?_) rfl
   first | rfl | (simp [ren, pickF, posOf, frzR, map_ren_rows, take_rows]; done)
 | true =>
   (repeat ((repeat1' (first | simp -implicitDefEqProofs -dsimp only [go_sem] | simp -dsimp (disch := omega) only [wrap_i64])); repeat (with_reducible refine sideA ?_)))
   (first | refine callT.at (hgd) ⟨leA, trivial⟩ ?_ | refine callS.at (hgd) ⟨leA, trivial⟩ ?_)
   (repeat ((repeat1' (first | simp -implicitDefEqProofs -dsimp only [go_sem] | simp -dsimp (disch := omega) only [wrap_i64])); repeat (with_reducible refine sideA ?_)))
   cases hA : alarmB ⟨a.Now, 0, a.Heard, a.Given, a.Cancelled⟩ with
   | true =>
     rw [okA_yes rfl hA]
     simp only [stX, stXh, Alarm.o, Bool.false_eq_true, if_false]
     refine WeakR.pick [3] (by decide) (fun j hj => by omega) (.inl ?_) ?_
     · first | rfl | (simp [ren, pickF, posOf]; done)
     · simp only [pickH, List.map_cons, List.map_nil, pickB, List.getElem?_cons_zero, List.getElem?_cons_succ, map_ren_rows]
   | false =>
     rw [okA_bad hA]
     simp only [stX, stXh, Alarm.v, Alarm.nv, clearA, if_true, Bool.false_eq_true, if_false]
     refine WeakR.pick [] (by decide) (fun j hj => by omega) (.inl ?_) rfl
     first | rfl | (simp [ren, pickF, posOf, frzR, map_ren_rows, take_rows]; done)
def stRi (nil : Bool) : Option Alarm → V
 | none => .tup [zeroA, .bool false]
 | some b => .tup [if nil = true then b.nv else b.o 0, .bool true]
def nilK (k : Int) : Bool := k == 3 || k == 4
theorem stepAny_ok (a : Alarm) (k v : Int) (ha : alarmB a = true) (hs : stepB k v = true) : Ctr Try.prog 130 [a.v, .agg [.int .i64 k, .int .i64 v]] [] (stX (stepI a k v) (nilK k) (stepA a k v)) (stXh (nilK k) (stepA a k v)) := by
 by_cases k1 : k = 1
 · subst k1
   exact step1_ok a v ha (by simpa [stepB] using hs)
 by_cases k2 : k = 2
 · subst k2
   exact step2_ok a v ha
 have hv0 : v = 0 ∧ (k = 3 ∨ k = 4 ∨ k = 5) := by simp [stepB, k1, k2, inB'] at hs; omega
 obtain ⟨rfl, rfl | rfl | rfl⟩ := hv0
 · exact step3_ok a ha
 · exact step4_ok a ha
 · exact step5_ok a ha
theorem iStepAlarm_ok (a : Alarm) (k v : Int) (hl : a.Heard.length ≤ 16777216) : Ctr Try.prog 50 [a.v, .agg [.int .i64 k, .int .i64 v]] [] (stRi (nilK k) (stepO a k v)) (stXh (nilK k) (stepO a k v)) := by
 refine Ctr.intro Try.mixed Try.func50 rfl Try.okF50 ?_
 simp -implicitDefEqProofs -dsimp only [go_sem, Try.ntmps50, Try.results50]
 simp -implicitDefEqProofs -dsimp only [go_sem, Alarm.v]
 (first | refine callT.at (iIsAlarm_ok a (by omega)) ⟨leA, trivial⟩ ?_ | refine callS.at (iIsAlarm_ok a (by omega)) ⟨leA, trivial⟩ ?_)
 cases h1 : alarmB a with
 | false =>
   (repeat ((repeat1' (first | simp -implicitDefEqProofs -dsimp only [go_sem] | simp -dsimp (disch := omega) only [wrap_i64])); repeat (with_reducible refine sideA ?_)))
   rw [show stepO a k v = none by rw [stepO, h1]; rfl]
   exact WeakR.drop' rfl (by rfl)
 | true =>
   (repeat ((repeat1' (first | simp -implicitDefEqProofs -dsimp only [go_sem] | simp -dsimp (disch := omega) only [wrap_i64])); repeat (with_reducible refine sideA ?_)))
   (first | refine callT.at (iIsAlarmStep_ok k v) ⟨leA, trivial⟩ ?_ | refine callS.at (iIsAlarmStep_ok k v) ⟨leA, trivial⟩ ?_)
   cases h2 : stepB k v with
   | false =>
     (repeat ((repeat1' (first | simp -implicitDefEqProofs -dsimp only [go_sem] | simp -dsimp (disch := omega) only [wrap_i64])); repeat (with_reducible refine sideA ?_)))
     rw [show stepO a k v = none by rw [stepO, h2, Bool.and_false]; rfl]
     exact WeakR.drop' rfl (by rfl)
   | true =>
     (repeat ((repeat1' (first | simp -implicitDefEqProofs -dsimp only [go_sem] | simp -dsimp (disch := omega) only [wrap_i64])); repeat (with_reducible refine sideA ?_)))
     have hm := stepAny_ok a k v h1 h2
     rw [show stepO a k v = stepA a k v by rw [stepO, h1, h2]; rfl]
     cases h3 : stepA a k v with
     | none =>
       rw [h3] at hm
       cases hk : nilK k with
       | true =>
         simp only [hk, stX, stXh, Alarm.v, Alarm.nv, if_true] at hm
         (first | refine callT.at (hm) ⟨leA, leA, trivial⟩ ?_ | refine callS.at (hm) ⟨leA, leA, trivial⟩ ?_)
         (repeat ((repeat1' (first | simp -implicitDefEqProofs -dsimp only [go_sem] | simp -dsimp (disch := omega) only [wrap_i64])); repeat (with_reducible refine sideA ?_)))
         exact WeakR.drop' rfl (by rfl)
       | false =>
         simp only [hk, stX, stXh, Alarm.v, Alarm.nv, if_false, Bool.false_eq_true] at hm
         (first | refine callT.at (hm) ⟨leA, leA, trivial⟩ ?_ | refine callS.at (hm) ⟨leA, leA, trivial⟩ ?_)
         (repeat ((repeat1' (first | simp -implicitDefEqProofs -dsimp only [go_sem] | simp -dsimp (disch := omega) only [wrap_i64])); repeat (with_reducible refine sideA ?_)))
         exact WeakR.drop' rfl (by rfl)
     | some b =>
       rw [h3] at hm
       cases hk : nilK k with
       | true =>
         simp only [hk, stX, stXh, Alarm.v, Alarm.nv, if_true] at hm
         (first | refine callT.at (hm) ⟨leA, leA, trivial⟩ ?_ | refine callS.at (hm) ⟨leA, leA, trivial⟩ ?_)
         (repeat ((repeat1' (first | simp -implicitDefEqProofs -dsimp only [go_sem] | simp -dsimp (disch := omega) only [wrap_i64])); repeat (with_reducible refine sideA ?_)))
         simp only [stRi, stXh, Alarm.nv, if_true]
         refine WeakR.pick [] (by decide) (fun j hj => by omega) (.inl ?_) ?_
         · first | rfl | (simp [ren, pickF, posOf]; done)
         · simp only [pickH, List.map_cons, List.map_nil, pickB, List.getElem?_cons_zero, List.getElem?_cons_succ, map_ren_rows]
       | false =>
         simp only [hk, stX, stXh, Alarm.v, Alarm.o, if_false, Bool.false_eq_true] at hm
         (first | refine callT.at (hm) ⟨leA, leA, trivial⟩ ?_ | refine callS.at (hm) ⟨leA, leA, trivial⟩ ?_)
         (repeat ((repeat1' (first | simp -implicitDefEqProofs -dsimp only [go_sem] | simp -dsimp (disch := omega) only [wrap_i64])); repeat (with_reducible refine sideA ?_)))
         simp only [stRi, stXh, Alarm.o, if_false, Bool.false_eq_true]
         refine WeakR.pick [3] (by decide) (fun j hj => by omega) (.inl ?_) ?_
         · first | rfl | (simp [ren, pickF, posOf]; done)
         · simp only [pickH, List.map_cons, List.map_nil, pickB, List.getElem?_cons_zero, List.getElem?_cons_succ, map_ren_rows]
end Go.Proofs
end
section
set_option linter.unusedSimpArgs false
set_option linter.unusedVariables false
set_option maxRecDepth 100000
set_option maxHeartbeats 1000000
namespace Go.Proofs
open Go.Lv
structure RunS where
 al : Alarm
 n : Nat
 nil : Bool
def runStep (x : RunS) (s : AlarmStep) : RunS := match stepO x.al s.Kind s.Value with
 | none => x
 | some b => ⟨b, x.n + 1, nilK s.Kind⟩
def runF (a : Alarm) (L : List AlarmStep) : RunS := L.foldl runStep ⟨a, 0, false⟩
theorem okA_some {q : Bool} {c b : Alarm} (h : okA q c = some b) : alarmB b = true ∧ b = c := by
 unfold okA at h
 split at h
 · rename_i h2
   simp only [Option.some.injEq] at h; subst h
   simp only [Bool.and_eq_true] at h2
   exact ⟨h2.2, rfl⟩
 · cases h
theorem stepO_ok {a b : Alarm} {k v : Int} (h : stepO a k v = some b) : alarmB b = true ∧ (nilK k = true → b.Heard = []) ∧ stepB k v = true ∧ stepA a k v = some b := by
 unfold stepO at h
 split at h
 · rename_i h2
   simp only [Bool.and_eq_true] at h2
   have h3 := h
   unfold stepA at h
   refine ⟨?_, fun hk => ?_, h2.2, h3⟩
   · repeat' (split at h)
     all_goals exact (okA_some h).1
   · simp only [nilK, Bool.or_eq_true, beq_iff_eq] at hk
     rcases hk with rfl | rfl
     · rw [if_neg (by decide), if_neg (by decide), if_pos rfl] at h
       rw [(okA_some h).2]; rfl
     · rw [if_neg (by decide), if_neg (by decide), if_neg (by decide), if_pos rfl] at h
       rw [(okA_some h).2]; rfl
 · cases h
theorem runF_take {a : Alarm} {L : List AlarmStep} {i : Nat} (hi : i < L.length) : runF a (L.take (i + 1)) = runStep (runF a (L.take i)) L[i] := by
 rw [List.take_succ_eq_append_getElem hi, runF, runF, List.foldl_append]; rfl
theorem runF_ok {a : Alarm} (ha : alarmB a = true) (L : List AlarmStep) : ∀ i, i ≤ L.length → alarmB (runF a (L.take i)).al = true ∧ ((runF a (L.take i)).nil = true → (runF a (L.take i)).al.Heard = []) ∧ (runF a (L.take i)).n ≤ i := by
 intro i
 induction i with
 | zero =>
   intro _
   have e : runF a (L.take 0) = ⟨a, 0, false⟩ := rfl
   rw [e]
   exact ⟨ha, (fun h => by cases h), Nat.le_refl _⟩
 | succ i ih =>
   intro hi
   obtain ⟨h1, h2, h3⟩ := ih (by omega)
   rw [runF_take (by omega)]
   unfold runStep
   split
   · exact ⟨h1, h2, by omega⟩
   · rename_i b hb
     obtain ⟨g1, g2, _⟩ := stepO_ok hb
     exact ⟨g1, g2, by simp only []; omega⟩
def runB (a : Alarm) (L : List AlarmStep) : Bool := alarmB a && decide (L.length ≤ 40)
def runNo : V := .tup [zeroA, .int .i64 0, .bool false]
theorem sRunAlarm_no (a : Alarm) (L : List AlarmStep) (hl : a.Heard.length ≤ 16777216) (hL : L.length ≤ 16777216) (hb : runB a L = false) : Ctr Try.prog 59 [a.v, AlarmStep.sl L] [] runNo [] := by
 refine Ctr.intro Try.mixed Try.func59 rfl Try.okF59 ?_
 simp -implicitDefEqProofs -dsimp only [go_sem, Try.ntmps59, Try.results59]
 simp -implicitDefEqProofs -dsimp only [go_sem, Alarm.v]
 (first | refine callT.at (l21Good_ok a (by omega)) ⟨leA, trivial⟩ ?_ | refine callS.at (l21Good_ok a (by omega)) ⟨leA, trivial⟩ ?_)
 cases h1 : alarmB a with
 | false =>
   (repeat ((repeat1' (first | simp -implicitDefEqProofs -dsimp only [go_sem] | simp -dsimp (disch := omega) only [wrap_i64])); repeat (with_reducible refine sideA ?_)))
   exact WeakR.drop' rfl (by rfl)
 | true =>
   have h2 : decide (40 < (L.length : Int)) = true := by simp [runB, h1] at hb; simp; omega
   (repeat ((repeat1' (first | simp -implicitDefEqProofs -dsimp only [go_sem, h2] | simp -dsimp (disch := omega) only [wrap_i64])); repeat (with_reducible refine sideA ?_)))
   exact WeakR.drop' rfl (by rfl)
theorem sRunAlarm_ok (a : Alarm) (L : List AlarmStep) (hl : a.Heard.length ≤ 16777216) (hL : L.length ≤ 16777216) (hb : runB a L = true) : Ctr Try.prog 59 [a.v, AlarmStep.sl L] [] (.tup [(runF a L).al.o 0, .int .i64 (runF a L).n, .bool true]) [some (rows Heard.cs (runF a L).al.Heard)] := by
 have ha : alarmB a = true := by simp [runB] at hb; exact hb.1
 have h40 : L.length ≤ 40 := by simp [runB] at hb; exact hb.2
 have h2 : decide (40 < (L.length : Int)) = false := by simp; omega
 refine Ctr.intro Try.mixed Try.func59 rfl Try.okF59 ?_
 simp -implicitDefEqProofs -dsimp only [go_sem, Try.ntmps59, Try.results59]
 simp -implicitDefEqProofs -dsimp only [go_sem, Alarm.v]
 (first | refine callT.at (l21Good_ok a (by omega)) ⟨leA, trivial⟩ ?_ | refine callS.at (l21Good_ok a (by omega)) ⟨leA, trivial⟩ ?_)
 (repeat ((repeat1' (first | simp -implicitDefEqProofs -dsimp only [go_sem, ha, h2] | simp -dsimp (disch := omega) only [wrap_i64])); repeat (with_reducible refine sideA ?_)))
 (first | refine callT.at (l21Own_ok a (by omega)) ⟨leA, trivial⟩ ?_ | refine callS.at (l21Own_ok a (by omega)) ⟨leA, trivial⟩ ?_)
 (repeat ((repeat1' (first | simp -implicitDefEqProofs -dsimp only [go_sem, Alarm.o] | simp -dsimp (disch := omega) only [wrap_i64])); repeat (with_reducible refine sideA ?_)))
 refine LoopT.intro (fun i : Nat => i ≤ L.length) (fun i => ⟨[.undef, AlarmStep.sl L, .undef, .undef, .ptr 1 0, .undef, .undef, .ptr 3 0, .int .i64 (runF a (L.take i)).n, .int .i64 i, .undef, .undef, .undef, .undef, .undef, .undef, .undef, .undef, .undef, .undef, .undef, .undef, .undef, .undef, .undef, .undef, .undef, .undef, .undef, .undef, .undef, .undef, .undef, .undef, .undef, .undef, .undef, .undef, .undef, .undef, .undef, .undef, .undef, .undef, .undef, .undef, .undef, .undef, .undef, .undef], [some a.cs, some [.int .i64 0, .int .i64 0, .nilsl, .int .i64 0, .int .i64 0], some (rows Heard.cs (runF a (L.take i)).al.Heard), some ((runF a (L.take i)).al.oc 2)], 0⟩) (fun i => L.length - i) 0 (Nat.zero_le _) ?_ (fun i hi => ?_)
 · refine Weak.cut (4) (by simp) (by simp) ?_ ?_
   · simp [LeC, LeV, ren, cutF, runF]
   · simp [cutH, cutB, ren, map_ren_rows, runF, cutF, Alarm.cs, Alarm.oc]
 obtain ⟨q1, q2, q3⟩ := runF_ok ha L i hi
 simp -implicitDefEqProofs -dsimp only [go_sem, Alarm.oc]
 refine condT.split (fun g1 => ?_) (fun g1 => ?_)
 · simp -implicitDefEqProofs -dsimp only [go_sem, g1, Alarm.oc]
   have hi' : i < L.length := by simpa using g1
   have hr := rows_at AlarmStep.csl hi'
   have hw1 : IntKind.i64.wrap (((runF a (L.take i)).n : Int) + 1) = (((runF a (L.take i)).n + 1 : Nat) : Int) := by rw [wrap_i64 (by omega) (by omega)]; omega
   have htk := runF_take (a := a) hi'
   generalize hx : runF a (L.take i) = x at *
   (repeat ((repeat1' (first | simp -implicitDefEqProofs -dsimp only [go_sem, hr, AlarmStep.cs, Alarm.oc] | simp -dsimp (disch := omega) only [wrap_i64])); repeat (with_reducible refine sideA ?_)))
   (first | refine callT.at (l21Step_ok L[i].Kind L[i].Value) ⟨leA, trivial⟩ ?_ | refine callS.at (l21Step_ok L[i].Kind L[i].Value) ⟨leA, trivial⟩ ?_)
   (repeat ((repeat1' (first | simp -implicitDefEqProofs -dsimp only [go_sem] | simp -dsimp (disch := omega) only [wrap_i64])); repeat (with_reducible refine sideA ?_)))
   cases hsb : stepB L[i].Kind L[i].Value with
   | false =>
     (repeat ((repeat1' (first | simp -implicitDefEqProofs -dsimp only [go_sem] | simp -dsimp (disch := omega) only [wrap_i64])); repeat (with_reducible refine sideA ?_)))
     refine ⟨i + 1, hi', ?_, by omega⟩
     have : runF a (L.take (i + 1)) = x := by rw [htk, runStep, stepO, hsb, Bool.and_false]; rfl
     rw [this]
     refine Weak.cut (4) (by simp) (by simp) ?_ ?_
     · simp [LeC, LeV, ren, cutF]
     · simp [cutH, cutB, ren, map_ren_rows, cutF, Alarm.cs, Alarm.oc]
   | true =>
     have hm := l21Make_ok x.al L[i].Kind L[i].Value q1 hsb
     have hso : stepO x.al L[i].Kind L[i].Value = stepA x.al L[i].Kind L[i].Value := by rw [stepO, q1, hsb]; rfl
     (repeat ((repeat1' (first | simp -implicitDefEqProofs -dsimp only [go_sem, hr, AlarmStep.cs, Alarm.oc] | simp -dsimp (disch := omega) only [wrap_i64])); repeat (with_reducible refine sideA ?_)))
     cases h3 : stepA x.al L[i].Kind L[i].Value with
     | none =>
       rw [h3] at hm
       simp only [stO, stH, Alarm.v, Alarm.o] at hm
       (first | refine callT.at (hm) ⟨leA, leA, trivial⟩ ?_ | refine callS.at (hm) ⟨leA, leA, trivial⟩ ?_)
       (repeat ((repeat1' (first | simp -implicitDefEqProofs -dsimp only [go_sem] | simp -dsimp (disch := omega) only [wrap_i64])); repeat (with_reducible refine sideA ?_)))
       refine ⟨i + 1, hi', ?_, by omega⟩
       have : runF a (L.take (i + 1)) = x := by rw [htk, runStep, hso, h3]
       rw [this]
       refine Weak.cut (4) (by simp) (by simp) ?_ ?_
       · simp [LeC, LeV, ren, cutF]
       · simp [cutH, cutB, ren, map_ren_rows, cutF, Alarm.cs, Alarm.oc]
     | some b =>
       rw [h3] at hm
       simp only [stO, stH, Alarm.v, Alarm.o] at hm
       (first | refine callT.at (hm) ⟨leA, leA, trivial⟩ ?_ | refine callS.at (hm) ⟨leA, leA, trivial⟩ ?_)
       (repeat ((repeat1' (first | simp -implicitDefEqProofs -dsimp only [go_sem, hw1] | simp -dsimp (disch := omega) only [wrap_i64])); repeat (with_reducible refine sideA ?_)))
       refine ⟨i + 1, hi', ?_, by omega⟩
       have : runF a (L.take (i + 1)) = ⟨b, x.n + 1, nilK L[i].Kind⟩ := by rw [htk, runStep, hso, h3]
       rw [this]
       refine Weak.pick [0, 1, 4, 3] (by decide) (fun j hj => by omega) ?_ ?_
       · simp [LeG, LeV, ren, pickF, posOf]
       · simp [pickH, pickB, ren, pickF, posOf, map_ren_rows, Alarm.cs, Alarm.oc]
 · simp -implicitDefEqProofs -dsimp only [go_sem, g1, Alarm.oc]
   have hi' : i = L.length := by simp at g1; omega
   subst hi'
   rw [List.take_length]
   refine WeakR.pick [2] (by decide) (fun j hj => by omega) (.inl ?_) ?_
   · first | rfl | (simp [ren, pickF, posOf, Alarm.o]; done)
   · simp only [pickH, List.map_cons, List.map_nil, pickB, List.getElem?_cons_zero, List.getElem?_cons_succ, map_ren_rows]
def Alarm.nc (a : Alarm) : List V := [.int .i64 a.Now, .int .i64 a.State, .nilsl, .int .i64 a.Given, .int .i64 a.Cancelled]
def zeroC : List V := [.int .i64 0, .int .i64 0, .nilsl, .int .i64 0, .int .i64 0]
def runH (x : RunS) : Hp := if x.nil = true then [some x.al.nc, some zeroC] else [some (x.al.oc 2), some zeroC, some (rows Heard.cs x.al.Heard)]
def runO (x : RunS) : V := .tup [if x.nil = true then x.al.nv else x.al.o 0, .int .i64 x.n, .bool true]
def runOh (x : RunS) : Hp := if x.nil = true then [] else [some (rows Heard.cs x.al.Heard)]
theorem iRunAlarm_no (a : Alarm) (L : List AlarmStep) (hl : a.Heard.length ≤ 16777216) (hL : L.length ≤ 16777216) (hb : runB a L = false) : Ctr Try.prog 58 [a.v, AlarmStep.sl L] [] runNo [] := by
 refine Ctr.intro Try.mixed Try.func58 rfl Try.okF58 ?_
 simp -implicitDefEqProofs -dsimp only [go_sem, Try.ntmps58, Try.results58]
 simp -implicitDefEqProofs -dsimp only [go_sem, Alarm.v]
 (first | refine callT.at (iIsAlarm_ok a (by omega)) ⟨leA, trivial⟩ ?_ | refine callS.at (iIsAlarm_ok a (by omega)) ⟨leA, trivial⟩ ?_)
 cases h1 : alarmB a with
 | false =>
   (repeat ((repeat1' (first | simp -implicitDefEqProofs -dsimp only [go_sem] | simp -dsimp (disch := omega) only [wrap_i64])); repeat (with_reducible refine sideA ?_)))
   exact WeakR.drop' rfl (by rfl)
 | true =>
   have h2 : decide (40 < (L.length : Int)) = true := by simp [runB, h1] at hb; simp; omega
   (repeat ((repeat1' (first | simp -implicitDefEqProofs -dsimp only [go_sem, h2] | simp -dsimp (disch := omega) only [wrap_i64])); repeat (with_reducible refine sideA ?_)))
   exact WeakR.drop' rfl (by rfl)
theorem iRunAlarm_ok (a : Alarm) (L : List AlarmStep) (hl : a.Heard.length ≤ 16777216) (hL : L.length ≤ 16777216) (hb : runB a L = true) : Ctr Try.prog 58 [a.v, AlarmStep.sl L] [] (runO (runF a L)) (runOh (runF a L)) := by
 have ha : alarmB a = true := by simp [runB] at hb; exact hb.1
 have h40 : L.length ≤ 40 := by simp [runB] at hb; exact hb.2
 have h2 : decide (40 < (L.length : Int)) = false := by simp; omega
 refine Ctr.intro Try.mixed Try.func58 rfl Try.okF58 ?_
 simp -implicitDefEqProofs -dsimp only [go_sem, Try.ntmps58, Try.results58]
 simp -implicitDefEqProofs -dsimp only [go_sem, Alarm.v]
 (first | refine callT.at (iIsAlarm_ok a (by omega)) ⟨leA, trivial⟩ ?_ | refine callS.at (iIsAlarm_ok a (by omega)) ⟨leA, trivial⟩ ?_)
 (repeat ((repeat1' (first | simp -implicitDefEqProofs -dsimp only [go_sem, ha, h2] | simp -dsimp (disch := omega) only [wrap_i64])); repeat (with_reducible refine sideA ?_)))
 (first | refine callT.at (copiedAlarm_ok a (by omega)) ⟨leA, trivial⟩ ?_ | refine callS.at (copiedAlarm_ok a (by omega)) ⟨leA, trivial⟩ ?_)
 (repeat ((repeat1' (first | simp -implicitDefEqProofs -dsimp only [go_sem, Alarm.o] | simp -dsimp (disch := omega) only [wrap_i64])); repeat (with_reducible refine sideA ?_)))
 refine LoopT.intro (fun i : Nat => i ≤ L.length) (fun i => ⟨[.undef, .undef, .ptr 0 0, .undef, .ptr 1 0, .undef, .undef, .int .i64 (runF a (L.take i)).n, .undef, .undef, .undef, .undef, .undef, .undef, .undef, .undef, .undef, .undef, .undef, .undef, .undef, .undef, .undef, AlarmStep.sl L, .int .i64 L.length, .int .i64 i, .undef, .undef, .undef, .undef, .undef, .undef, .undef, .undef, .undef, .undef, .undef, .undef, .undef, .undef, .undef, .undef], runH (runF a (L.take i)), 0⟩) (fun i => L.length - i) 0 (Nat.zero_le _) ?_ (fun i hi => ?_)
 · have e0 : runF a (L.take 0) = ⟨a, 0, false⟩ := rfl
   simp only [e0, runH, Bool.false_eq_true, if_false]
   refine Weak.cut (3) (by simp) (by simp) ?_ ?_
   · simp [LeC, LeV, ren, cutF]
   · simp [cutH, cutB, ren, map_ren_rows, cutF, Alarm.cs, Alarm.oc, zeroC]
 obtain ⟨q1, q2, q3⟩ := runF_ok ha L i hi
 have q8 := (alarmB_ok q1).len
 simp -implicitDefEqProofs -dsimp only [go_sem]
 refine condT.split (fun g1 => ?_) (fun g1 => ?_)
 · simp -implicitDefEqProofs -dsimp only [go_sem, g1]
   have hi' : i < L.length := by simpa using g1
   have hr := rows_at AlarmStep.csl hi'
   have hw1 : IntKind.i64.wrap (((runF a (L.take i)).n : Int) + 1) = (((runF a (L.take i)).n + 1 : Nat) : Int) := by rw [wrap_i64 (by omega) (by omega)]; omega
   have htk := runF_take (a := a) hi'
   generalize hx : runF a (L.take i) = x at *
   cases hnil : x.nil with
   | false =>
     simp only [runH, hnil, Bool.false_eq_true, if_false]
     (repeat ((repeat1' (first | simp -implicitDefEqProofs -dsimp only [go_sem, hr, AlarmStep.cs, Alarm.oc] | simp -dsimp (disch := omega) only [wrap_i64])); repeat (with_reducible refine sideA ?_)))
     have q9 : x.al.Heard = x.al.Heard := rfl
     have ci := iStepAlarm_ok x.al L[i].Kind L[i].Value (by have := (alarmB_ok q1).len; omega)
     cases h3 : stepO x.al L[i].Kind L[i].Value with
     | none =>
       rw [h3] at ci
       simp only [stRi, stXh, Alarm.v, zeroA] at ci
       (first | refine callT.at (ci) ⟨leA, leA, trivial⟩ ?_ | refine callS.at (ci) ⟨leA, leA, trivial⟩ ?_)
       (repeat ((repeat1' (first | simp -implicitDefEqProofs -dsimp only [go_sem] | simp -dsimp (disch := omega) only [wrap_i64])); repeat (with_reducible refine sideA ?_)))
       refine ⟨i + 1, hi', ?_, by omega⟩
       have : runF a (L.take (i + 1)) = x := by rw [htk, runStep, h3]
       rw [this]
       simp only [runH, hnil, if_true, if_false, Bool.false_eq_true, Alarm.oc, Alarm.nc]
       refine Weak.cut (3) (by simp) (by simp) ?_ ?_
       · simp [LeC, LeV, ren, cutF]
       · simp [cutH, cutB, ren, map_ren_rows, cutF, zeroC]
     | some b =>
       have : runF a (L.take (i + 1)) = ⟨b, x.n + 1, nilK L[i].Kind⟩ := by rw [htk, runStep, h3]
       rw [h3] at ci
       cases hk : nilK L[i].Kind with
       | true =>
         simp only [stRi, stXh, Alarm.v, hk, if_true, Alarm.nv] at ci
         (first | refine callT.at (ci) ⟨leA, leA, trivial⟩ ?_ | refine callS.at (ci) ⟨leA, leA, trivial⟩ ?_)
         (repeat ((repeat1' (first | simp -implicitDefEqProofs -dsimp only [go_sem, hw1] | simp -dsimp (disch := omega) only [wrap_i64])); repeat (with_reducible refine sideA ?_)))
         refine ⟨i + 1, hi', ?_, by omega⟩
         rw [this, hk]
         simp only [runH, if_true, Alarm.nc]
         refine Weak.cut (2) (by simp) (by simp) ?_ ?_
         · simp [LeC, LeV, ren, cutF]
         · simp [cutH, cutB, ren, map_ren_rows, cutF, zeroC]
       | false =>
         simp only [stRi, stXh, Alarm.v, hk, if_false, Bool.false_eq_true, Alarm.o] at ci
         (first | refine callT.at (ci) ⟨leA, leA, trivial⟩ ?_ | refine callS.at (ci) ⟨leA, leA, trivial⟩ ?_)
         (repeat ((repeat1' (first | simp -implicitDefEqProofs -dsimp only [go_sem, hw1] | simp -dsimp (disch := omega) only [wrap_i64])); repeat (with_reducible refine sideA ?_)))
         refine ⟨i + 1, hi', ?_, by omega⟩
         rw [this, hk]
         simp only [runH, if_false, Bool.false_eq_true, Alarm.oc]
         refine Weak.pick [0, 1, 4] (by decide) (fun j hj => by omega) ?_ ?_
         · simp [LeG, LeV, ren, pickF, posOf]
         · simp [pickH, pickB, ren, pickF, posOf, map_ren_rows, zeroC]
   | true =>
     have q9 := q2 hnil
     simp only [runH, hnil, if_true]
     (repeat ((repeat1' (first | simp -implicitDefEqProofs -dsimp only [go_sem, hr, AlarmStep.cs, Alarm.nc] | simp -dsimp (disch := omega) only [wrap_i64])); repeat (with_reducible refine sideA ?_)))
     have ci := iStepAlarm_ok x.al L[i].Kind L[i].Value (by have := (alarmB_ok q1).len; omega)
     cases h3 : stepO x.al L[i].Kind L[i].Value with
     | none =>
       rw [h3] at ci
       simp only [stRi, stXh, Alarm.v, zeroA, q9, List.length_nil, show rows Heard.cs ([] : List Heard) = [] from rfl] at ci
       (first | refine callT.at (ci) ⟨leA, leA, trivial⟩ ?_ | refine callS.at (ci) ⟨leA, leA, trivial⟩ ?_)
       (repeat ((repeat1' (first | simp -implicitDefEqProofs -dsimp only [go_sem] | simp -dsimp (disch := omega) only [wrap_i64])); repeat (with_reducible refine sideA ?_)))
       refine ⟨i + 1, hi', ?_, by omega⟩
       have : runF a (L.take (i + 1)) = x := by rw [htk, runStep, h3]
       rw [this]
       simp only [runH, hnil, if_true, if_false, Bool.false_eq_true, Alarm.oc, Alarm.nc]
       refine Weak.cut (2) (by simp) (by simp) ?_ ?_
       · simp [LeC, LeV, ren, cutF]
       · simp [cutH, cutB, ren, map_ren_rows, cutF, zeroC]
     | some b =>
       have : runF a (L.take (i + 1)) = ⟨b, x.n + 1, nilK L[i].Kind⟩ := by rw [htk, runStep, h3]
       rw [h3] at ci
       cases hk : nilK L[i].Kind with
       | true =>
         simp only [stRi, stXh, Alarm.v, hk, if_true, Alarm.nv, q9, List.length_nil, show rows Heard.cs ([] : List Heard) = [] from rfl] at ci
         (first | refine callT.at (ci) ⟨leA, leA, trivial⟩ ?_ | refine callS.at (ci) ⟨leA, leA, trivial⟩ ?_)
         (repeat ((repeat1' (first | simp -implicitDefEqProofs -dsimp only [go_sem, hw1] | simp -dsimp (disch := omega) only [wrap_i64])); repeat (with_reducible refine sideA ?_)))
         refine ⟨i + 1, hi', ?_, by omega⟩
         rw [this, hk]
         simp only [runH, if_true, Alarm.nc]
         refine Weak.cut (2) (by simp) (by simp) ?_ ?_
         · simp [LeC, LeV, ren, cutF]
         · simp [cutH, cutB, ren, map_ren_rows, cutF, zeroC]
       | false =>
         simp only [stRi, stXh, Alarm.v, hk, if_false, Bool.false_eq_true, Alarm.o, q9, List.length_nil, show rows Heard.cs ([] : List Heard) = [] from rfl] at ci
         (first | refine callT.at (ci) ⟨leA, leA, trivial⟩ ?_ | refine callS.at (ci) ⟨leA, leA, trivial⟩ ?_)
         (repeat ((repeat1' (first | simp -implicitDefEqProofs -dsimp only [go_sem, hw1] | simp -dsimp (disch := omega) only [wrap_i64])); repeat (with_reducible refine sideA ?_)))
         refine ⟨i + 1, hi', ?_, by omega⟩
         rw [this, hk]
         simp only [runH, if_false, Bool.false_eq_true, Alarm.oc]
         refine Weak.pick [0, 1, 3] (by decide) (fun j hj => by omega) ?_ ?_
         · simp [LeG, LeV, ren, pickF, posOf]
         · simp [pickH, pickB, ren, pickF, posOf, map_ren_rows, zeroC]
 · simp -implicitDefEqProofs -dsimp only [go_sem, g1]
   have hi' : i = L.length := by simp at g1; omega
   subst hi'
   rw [List.take_length]
   cases hnil : (runF a L).nil with
   | false =>
     simp only [runH, runO, runOh, hnil, Bool.false_eq_true, if_false, Alarm.oc, Alarm.o]
     (repeat ((repeat1' (first | simp -implicitDefEqProofs -dsimp only [go_sem, zeroC] | simp -dsimp (disch := omega) only [wrap_i64])); repeat (with_reducible refine sideA ?_)))
     refine WeakR.pick [2] (by decide) (fun j hj => by omega) (.inl ?_) ?_
     · first | rfl | (simp [ren, pickF, posOf]; done)
     · simp only [pickH, List.map_cons, List.map_nil, pickB, List.getElem?_cons_zero, List.getElem?_cons_succ, map_ren_rows]
   | true =>
     simp only [runH, runO, runOh, hnil, if_true, Alarm.nc, Alarm.nv]
     (repeat ((repeat1' (first | simp -implicitDefEqProofs -dsimp only [go_sem, zeroC] | simp -dsimp (disch := omega) only [wrap_i64])); repeat (with_reducible refine sideA ?_)))
     exact WeakR.drop' rfl (by rfl)
end Go.Proofs
end
section
set_option linter.unusedSimpArgs false
set_option linter.unusedVariables false
namespace Go.Lv
theorem Ctr.weak {P : Program} {f : FuncId} {args : List V} {r r' : V} {hout hout' : Hp} (h : Ctr P f args [] r hout) (hw : WeakR 0 r hout r' hout') : Ctr P f args [] r' hout' :=
 ⟨h.1, fun w vs m av h1 h2 h3 h4 h5 => (h.2 w vs m av h1 h2 h3 h4 h5).mono fun e w' ⟨v, m', g1, g2, g3, g4, g5⟩ => by
   obtain ⟨m2, k1, k2, k3⟩ := hw w m [] av w' m' v rfl (Nat.zero_le _) h2 g2.size g3 g4 g5
   exact ⟨v, m2, g1, g2, k1, k2, k3⟩⟩
section
variable {α : Type} {cs : α → List V} {w : Nat} [FlatP cs w]
end
end Go.Lv
end
section
set_option linter.unusedSimpArgs false
set_option linter.unusedVariables false
set_option maxRecDepth 100000
set_option maxHeartbeats 1000000
namespace Go.Proofs
open Go.Lv
def zA : Alarm := ⟨0, 0, [], 0, 0⟩
theorem frzTA {a a' : V} {l : List V} (h : LeV a a') : WeakR 0 (.tup (a :: l)) [] (.tup (a' :: l)) [] := by
 intro w0 m0 h0 av0 W m val e1 e2 hlt hle H hx hi
 refine ⟨m, H, ?_, hi⟩
 change RV W m [] _ true val (.tup (a :: l)) at hx
 cases hx with
 | tup a vs ha hra =>
   refine .tup _ _ ha (fun i hi => ?_)
   match i, hi with
   | 0, hi => exact (hra 0 (by simp)).le h
   | i + 1, hi => exact hra (i + 1) (by simpa using hi)
theorem zeroALe : LeV zeroA zA.v := LeV.agg ⟨.inl rfl, .inl rfl, LeE.nil, .inl rfl, .inl rfl, trivial⟩
theorem nvLe {b : Alarm} (h : b.Heard = []) : LeV b.nv b.v := by
 have e : b.v = .agg [.int .i64 b.Now, .int .i64 b.State, .sl 0 2 [], .int .i64 b.Given, .int .i64 b.Cancelled] := by simp [Alarm.v, h, rows_nil]
 rw [e]
 exact LeV.agg ⟨.inl rfl, .inl rfl, LeE.nil, .inl rfl, .inl rfl, trivial⟩
def alV (R : Option Alarm) : V := .tup [(R.getD zA).v, .bool R.isSome]
theorem frzA (R : Option Alarm) : WeakR 0 (stR R) (stRh R) (alV R) [] := by
 cases R with
 | none => exact frzTA zeroALe
 | some b =>
   refine WeakR.pick [] (by decide) (fun j hj => by omega) (.inl ?_) rfl
   simp [alV, stR, stRh, Alarm.o, Alarm.v, ren, pickF, posOf, frzR, take_rows, map_ren_rows]
theorem frzAi {a : Alarm} {k v : Int} : WeakR 0 (stRi (nilK k) (stepO a k v)) (stXh (nilK k) (stepO a k v)) (alV (stepO a k v)) [] := by
 cases h : stepO a k v with
 | none => exact frzTA zeroALe
 | some b =>
   cases hn : nilK k with
   | true => exact frzTA (nvLe ((stepO_ok h).2.1 hn))
   | false =>
     refine WeakR.pick [] (by decide) (fun j hj => by omega) (.inl ?_) rfl
     simp [alV, stRi, stXh, Alarm.o, Alarm.v, ren, pickF, posOf, frzR, take_rows, map_ren_rows]
def raA (a : Alarm) (L : List AlarmStep) : Alarm := if runB a L = true then (runF a L).al else zA
def raN (a : Alarm) (L : List AlarmStep) : Int := if runB a L = true then (runF a L).n else 0
def raV (a : Alarm) (L : List AlarmStep) : V := .tup [(raA a L).v, .int .i64 (raN a L), .bool (runB a L)]
theorem raV_no {a : Alarm} {L : List AlarmStep} (hb : runB a L = false) : WeakR 0 runNo [] (raV a L) [] := by
 have e : raV a L = .tup [zA.v, .int .i64 0, .bool false] := by simp [raV, raA, raN, hb]
 rw [e]
 exact frzTA zeroALe
theorem raV_yes {a : Alarm} {L : List AlarmStep} (hb : runB a L = true) : raV a L = .tup [(runF a L).al.v, .int .i64 (runF a L).n, .bool true] := by simp [raV, raA, raN, hb]
theorem sRunAF (a : Alarm) (L : List AlarmStep) (hl : a.Heard.length ≤ 16777216) (hL : L.length ≤ 16777216) : Ctr Try.prog 59 [a.v, AlarmStep.sl L] [] (raV a L) [] := by
 cases hb : runB a L with
 | false => exact (sRunAlarm_no a L hl hL hb).weak (raV_no hb)
 | true =>
   rw [raV_yes hb]
   refine (sRunAlarm_ok a L hl hL hb).weak (WeakR.pick [] (by decide) (fun j hj => by omega) (.inl ?_) rfl)
   simp [Alarm.o, Alarm.v, ren, pickF, posOf, frzR, take_rows, map_ren_rows]
theorem iRunAF (a : Alarm) (L : List AlarmStep) (hl : a.Heard.length ≤ 16777216) (hL : L.length ≤ 16777216) : Ctr Try.prog 58 [a.v, AlarmStep.sl L] [] (raV a L) [] := by
 cases hb : runB a L with
 | false => exact (iRunAlarm_no a L hl hL hb).weak (raV_no hb)
 | true =>
   rw [raV_yes hb]
   have ha : alarmB a = true := by simp [runB] at hb; exact hb.1
   have hq := (runF_ok ha L L.length (Nat.le_refl _)).2.1
   rw [List.take_length] at hq
   refine (iRunAlarm_ok a L hl hL hb).weak ?_
   generalize runF a L = x at hq ⊢
   cases hn : x.nil with
   | true =>
     simp only [runO, runOh, hn, if_true]
     exact frzTA (nvLe (hq hn))
   | false =>
     simp only [runO, runOh, hn, Bool.false_eq_true, if_false]
     refine WeakR.pick [] (by decide) (fun j hj => by omega) (.inl ?_) rfl
     simp [Alarm.o, Alarm.v, ren, pickF, posOf, frzR, take_rows, map_ren_rows]
theorem stepA_cases {a b : Alarm} {k v : Int} (h : stepO a k v = some b) : alarmB a = true ∧ alarmB b = true ∧ ((k = 1 ∧ 1 ≤ v ∧ b = waitA a v) ∨ (k = 2 ∧ a.State ≠ 3 ∧ b = hearA a v) ∨ b = clearA a 0 (a.Cancelled + 1) ∨ b = clearA a 3 a.Cancelled ∨ b = ⟨a.Now, 0, a.Heard, a.Given, a.Cancelled⟩) := by
 obtain ⟨h1, _, h3, h4⟩ := stepO_ok h
 have ha : alarmB a = true := by
   unfold stepO at h
   split at h
   · rename_i h2
     simp only [Bool.and_eq_true] at h2
     exact h2.1
   · cases h
 refine ⟨ha, h1, ?_⟩
 unfold stepA at h4
 split at h4
 · rename_i hk
   subst hk
   simp [stepB] at h3
   exact .inl ⟨rfl, h3, (okA_some h4).2⟩
 · split at h4
   · rename_i hk
     have hb := (okA_some h4).2
     refine .inr (.inl ⟨hk, ?_, hb⟩)
     intro h5
     simp [okA, h5] at h4
   · split at h4
     · exact .inr (.inr (.inl (okA_some h4).2))
     · split at h4
       · exact .inr (.inr (.inr (.inl (okA_some h4).2)))
       · exact .inr (.inr (.inr (.inr (okA_some h4).2)))
theorem waitA_keep (a : Alarm) (v : Int) : (waitA a v).Now = a.Now + v ∧ (waitA a v).Given = a.Given ∧ (waitA a v).Cancelled = a.Cancelled := by
 unfold waitA
 split <;> exact ⟨rfl, rfl, rfl⟩
theorem hearA_keep (a : Alarm) (v : Int) : (hearA a v).Now = a.Now ∧ (hearA a v).Given = (if a.Heard.length = 2 then a.Given + 1 else a.Given) ∧ (hearA a v).Cancelled = a.Cancelled ∧ (hearA a v).Heard = a.Heard ++ [⟨v, a.Now⟩] := ⟨rfl, rfl, rfl, rfl⟩
theorem alarm_keep {a b : Alarm} {k v : Int} (h : stepO a k v = some b) : a.Now ≤ b.Now ∧ a.Cancelled ≤ b.Cancelled ∧ a.Given ≤ b.Given := by
 obtain ⟨_, _, hc⟩ := stepA_cases h
 rcases hc with ⟨_, h1, rfl⟩ | ⟨_, _, rfl⟩ | rfl | rfl | rfl
 · obtain ⟨w1, w2, w3⟩ := waitA_keep a v
   rw [w1, w2, w3]
   omega
 · obtain ⟨w1, w2, w3, _⟩ := hearA_keep a v
   rw [w1, w2, w3]
   split <;> omega
 · simp only [clearA]; omega
 · simp only [clearA]; omega
 · simp only []; omega
theorem alarm_given {a b : Alarm} {k v : Int} (h : stepO a k v = some b) (hg : a.Given < b.Given) : k = 2 ∧ a.State ≠ 3 ∧ a.Heard.length = 2 ∧ b.Heard.length = 3 ∧ ∃ x, b.Heard[0]? = some x ∧ 0 ≤ x.Tick ∧ x.Tick ≤ b.Now ∧ b.Now - x.Tick ≤ 500 := by
 obtain ⟨ha, hb, hc⟩ := stepA_cases h
 rcases hc with ⟨_, h1, rfl⟩ | ⟨hk, hs, rfl⟩ | rfl | rfl | rfl
 · obtain ⟨w1, w2, w3⟩ := waitA_keep a v
   rw [w2] at hg
   omega
 · obtain ⟨w1, w2, w3, w4⟩ := hearA_keep a v
   rw [w2] at hg
   have hl : a.Heard.length = 2 := by
     split at hg
     · assumption
     · omega
   have A := alarmB_ok ha
   refine ⟨hk, hs, hl, by rw [w4]; simp [hl], a.Heard[0], ?_, ?_⟩
   · rw [w4, List.getElem?_append_left (by omega)]
     simp [hl]
   have hst := A.st
   have hs1 : a.State = 1 := by
     rw [hl] at hst
     unfold stateB at hst
     split at hst
     · assumption
     · split at hst
       · simp [inB'] at hst
       · simp at hst
   have hf := A.fresh
   unfold freshB at hf
   simp only [hs1, not_true, ne_eq, decide_false, Bool.false_or, List.all_eq_true, decide_eq_true_eq] at hf
   have h0 := hf _ (List.getElem_mem (show 0 < a.Heard.length by omega))
   have h1 := heardB_iff.1 (A.heard _ (List.getElem_mem (show 0 < a.Heard.length by omega)))
   rw [w1]
   exact ⟨h1.2.1, h1.2.2, h0⟩
 · simp only [clearA] at hg; omega
 · simp only [clearA] at hg; omega
 · simp only [] at hg; omega
end Go.Proofs
end
section
set_option linter.unusedSimpArgs false
set_option linter.unusedVariables false
namespace Go.Lv
theorem splice_row {α : Type} {cs : α → List V} {w : Nat} (hw : ∀ a, (cs a).length = w) {L : List α} {i : Nat} (hi : i < L.length) (x : α) : splice (rows cs L) (i * w) (cs x) = rows cs (L.set i x) := by
 have e : L = L.take i ++ L[i] :: L.drop (i + 1) := by rw [← List.drop_eq_getElem_cons hi, List.take_append_drop]
 have e2 : L.set i x = L.take i ++ x :: L.drop (i + 1) := by rw [List.set_eq_take_append_cons_drop, if_pos hi]
 have hA : (rows cs (L.take i)).length = i * w := by rw [rows_len hw, List.length_take, Nat.min_eq_left (by omega)]
 rw [e2, rowsOf_append, rows_cons]
 conv => lhs; rw [e, rowsOf_append, rows_cons]
 rw [splice_mid0 hA, splice_zero]
 congr 2
 rw [List.drop_append_of_le_length (by rw [hw, hw]; exact Nat.le_refl _), List.drop_of_length_le (by rw [hw, hw]; exact Nat.le_refl _)]
 rfl
end Go.Lv
end
section
set_option linter.unusedSimpArgs false
set_option linter.unusedVariables false
set_option maxRecDepth 100000
namespace Go.Proofs
open Go.Lv
def u8R (x : Int) : Prop := 0 ≤ x ∧ x ≤ 255
def ByteS.cs (x : Int) : List V := [.int .u8 x]
instance instFlatPByteS : FlatP ByteS.cs 1 := ⟨fun _ => rfl, fun _ d => by cases d <;> rfl, fun _ => rfl, fun _ => rfl⟩
theorem ByteS.csl (a : Int) : (ByteS.cs a).length = 1 := rfl
abbrev ByteS.ok (x : Int) : Prop := u8R x
abbrev ByteS.sl (L : List Int) : V := .sl L.length 1 (Go.Lv.rows ByteS.cs L)

end Go.Proofs
end
section
set_option linter.unusedSimpArgs false
set_option linter.unusedVariables false
set_option maxRecDepth 100000
namespace Go.Proofs
open Go.Lv
def IntS.cs (x : Int) : List V := [.int .i64 x]
instance : FlatP IntS.cs 1 := ⟨fun _ => rfl, fun _ d => by cases d <;> rfl, fun _ => rfl, fun _ => rfl⟩
theorem IntS.csl (a : Int) : (IntS.cs a).length = 1 := rfl
theorem IntS.csp (a : Int) : (IntS.cs a).all (noOwn 2) = true := rfl
abbrev IntS.ok (x : Int) : Prop := i64R x
abbrev IntS.sl (L : List Int) : V := .sl L.length 1 (Go.Lv.rows IntS.cs L)
abbrev IntS.zs : List V := [.int .i64 0]
def IntS.marks (k : Int) (n : Nat) : List Int := (List.range n).map fun i : Nat => k + (i : Int)
@[simp] theorem IntS.marks_len (k : Int) (n : Nat) : (IntS.marks k n).length = n := by simp [IntS.marks]
abbrev IntS.v (x : Int) : V := .int .i64 x
end Go.Proofs
end
section
set_option linter.unusedSimpArgs false
set_option linter.unusedVariables false
namespace Go.Lv
variable {α : Type}
def posK (lt : α → α → Bool) (S : List α) (x : α) : Nat → Nat
 | 0 => 0
 | k + 1 => match S[k]? with
   | some y => if lt x y then posK lt S x k else k + 1
   | none => k + 1
theorem posK_down {lt : α → α → Bool} {S : List α} {x : α} {k : Nat} (hk : k < S.length) (h : lt x S[k] = true) : posK lt S x (k + 1) = posK lt S x k := by
 simp [posK, hk, h]
theorem posK_stay {lt : α → α → Bool} {S : List α} {x : α} {k : Nat} (hk : k < S.length) (h : lt x S[k] = false) : posK lt S x (k + 1) = k + 1 := by
 simp [posK, hk, h]
def putAt (S : List α) (x : α) (j : Nat) : List α := S.take j ++ x :: S.drop j
theorem putAt_len (S : List α) (x : α) (j : Nat) : (putAt S x j).length = S.length + 1 := by
 simp [putAt]; omega
theorem putAt_end (S : List α) (x : α) : putAt S x S.length = S ++ [x] := by simp [putAt]
def ins (lt : α → α → Bool) (S : List α) (x : α) : List α := putAt S x (posK lt S x S.length)
def insSort (lt : α → α → Bool) (L : List α) : List α := L.foldl (ins lt) []
theorem ins_len (lt : α → α → Bool) (S : List α) (x : α) : (ins lt S x).length = S.length + 1 := putAt_len _ _ _
theorem insSort_snoc (lt : α → α → Bool) (L : List α) (x : α) : insSort lt (L ++ [x]) = ins lt (insSort lt L) x := by simp [insSort]
theorem insSort_take {lt : α → α → Bool} {L : List α} {i : Nat} (hi : i < L.length) : insSort lt (L.take (i + 1)) = ins lt (insSort lt (L.take i)) L[i] := by
 rw [List.take_succ_eq_append_getElem hi, insSort_snoc]
theorem insSort_len (lt : α → α → Bool) (L : List α) : (insSort lt L).length = L.length := by
 have key : ∀ (L S : List α), (L.foldl (ins lt) S).length = S.length + L.length := by
   intro L
   induction L with
   | nil => intro S; simp
   | cons a L ih => intro S; rw [List.foldl_cons, ih, ins_len]; simp; omega
 have := key L []
 simpa [insSort] using this
theorem insSort_one (lt : α → α → Bool) (L : List α) (h : L.length ≤ 1) : insSort lt L = L := by
 match L, h with
 | [], _ => rfl
 | [a], _ => rfl
def midS (S R : List α) (x : α) (j : Nat) : List α := putAt S x j ++ R
theorem midS_len (S R : List α) (x : α) (j : Nat) : (midS S R x j).length = S.length + 1 + R.length := by simp [midS, putAt_len]
theorem midS_get {S R : List α} {x : α} {j : Nat} (hj : j ≤ S.length) (h : j < (midS S R x j).length) : (midS S R x j)[j] = x := by
 have : (midS S R x j)[j]? = some x := by
   rw [midS, putAt, List.append_assoc, List.getElem?_append_right (by simp; omega)]
   simp [Nat.min_eq_left hj]
 rw [List.getElem?_eq_getElem h] at this
 exact Option.some.inj this
theorem midS_get_below {S R : List α} {x : α} {j : Nat} (hj : j < S.length) (h : j < (midS S R x (j + 1)).length) : (midS S R x (j + 1))[j] = S[j] := by
 have : (midS S R x (j + 1))[j]? = some S[j] := by
   rw [midS, putAt, List.append_assoc, List.getElem?_append_left (by simp; omega), List.getElem?_take_of_lt (by omega), List.getElem?_eq_getElem hj]
 rw [List.getElem?_eq_getElem h] at this
 exact Option.some.inj this
theorem midS_swap {S R : List α} {x : α} {j : Nat} (hj : j < S.length) : ((midS S R x (j + 1)).set (j + 1) S[j]).set j x = midS S R x j := by
 have hd : S.drop j = S[j] :: S.drop (j + 1) := List.drop_eq_getElem_cons hj
 have ht : S.take (j + 1) = S.take j ++ [S[j]] := List.take_succ_eq_append_getElem hj
 have hl : (S.take j).length = j := by simp; omega
 simp only [midS, putAt, ht, hd, List.append_assoc, List.cons_append, List.nil_append, List.singleton_append]
 rw [List.set_append_right _ _ (by omega), hl, List.set_append_right _ _ (by omega), hl]
 simp
def srtS (lt : α → α → Bool) (L : List α) (i : Nat) : List α := insSort lt (L.take i) ++ L.drop i
theorem srtS_one (lt : α → α → Bool) (L : List α) : srtS lt L 1 = L := by
 rw [srtS, insSort_one lt _ (by simp; omega), List.take_append_drop]
theorem srtS_end (lt : α → α → Bool) (L : List α) {i : Nat} (h : L.length ≤ i) : srtS lt L i = insSort lt L := by
 simp [srtS, List.take_of_length_le h, List.drop_eq_nil_of_le h]
theorem srtS_mid {lt : α → α → Bool} {L : List α} {i : Nat} (hi : i < L.length) : srtS lt L i = midS (insSort lt (L.take i)) (L.drop (i + 1)) L[i] i := by
 have hl : (insSort lt (L.take i)).length = i := by rw [insSort_len]; simp; omega
 rw [srtS, List.drop_eq_getElem_cons hi, midS]
 have := putAt_end (insSort lt (L.take i)) L[i]
 rw [hl] at this
 rw [this]; simp
theorem srtS_next {lt : α → α → Bool} {L : List α} {i j : Nat} (hi : i < L.length) (h : posK lt (insSort lt (L.take i)) L[i] i = j) : midS (insSort lt (L.take i)) (L.drop (i + 1)) L[i] j = srtS lt L (i + 1) := by
 have hl : (insSort lt (L.take i)).length = i := by rw [insSort_len]; simp; omega
 rw [srtS, insSort_take hi, ins, hl, h, midS]
end Go.Lv
end
