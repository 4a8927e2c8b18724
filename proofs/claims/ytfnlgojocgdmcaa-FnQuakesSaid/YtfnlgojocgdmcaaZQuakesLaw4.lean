/-
  A part of the proof: texts put together by a program of the prover. Conditions: none.
-/
import Derived.Test.YtfnlgojocgdmcaaZQuakesLaw3
import Derived.Test.YtfnlgojocgdmcaaProg
import Derived.KernelRfl
set_option linter.unusedSimpArgs false
set_option linter.unusedVariables false
section
namespace Go.Proofs
open Go.Lv

theorem Try.mixed : Try.prog.follows .mixedOrders = true := by kernel_rfl
@[go_sem] theorem Try.tsz1 : tszOf Try.prog 1 = some (1, false) := by kernel_rfl
@[go_sem] theorem Try.udef1 : (Try.prog.underlying 1).isSome = true := by kernel_rfl
@[go_sem] theorem Try.zero1 : zeroOf Try.prog 1 = some [.lit ((Go.Value.nilFunc))] := by kernel_rfl
@[go_sem] theorem Try.tsz2 : tszOf Try.prog 2 = some (1, false) := by kernel_rfl
@[go_sem] theorem Try.udef2 : (Try.prog.underlying 2).isSome = true := by kernel_rfl
@[go_sem] theorem Try.zero2 : zeroOf Try.prog 2 = some [.int .i64 0] := by kernel_rfl
@[go_sem] theorem Try.isInt2 : isIntT Try.prog 2 = some .i64 := by kernel_rfl
@[go_sem] theorem Try.tsz3 : tszOf Try.prog 3 = some (1, false) := by kernel_rfl
@[go_sem] theorem Try.udef3 : (Try.prog.underlying 3).isSome = true := by kernel_rfl
@[go_sem] theorem Try.zero3 : zeroOf Try.prog 3 = some [.int .i64 0] := by kernel_rfl
@[go_sem] theorem Try.isInt3 : isIntT Try.prog 3 = some .i64 := by kernel_rfl
@[go_sem] theorem Try.tsz4 : tszOf Try.prog 4 = some (1, false) := by kernel_rfl
@[go_sem] theorem Try.udef4 : (Try.prog.underlying 4).isSome = true := by kernel_rfl
@[go_sem] theorem Try.zero4 : zeroOf Try.prog 4 = some [.bool false] := by kernel_rfl
@[go_sem] theorem Try.isBool4 : isBoolT Try.prog 4 = true := by kernel_rfl
@[go_sem] theorem Try.tsz5 : tszOf Try.prog 5 = some (1, false) := by kernel_rfl
theorem Try.cz5 : Try.prog.cellsOf 5 = 1 := by kernel_rfl
@[go_sem] theorem Try.udef5 : (Try.prog.underlying 5).isSome = true := by kernel_rfl
@[go_sem] theorem Try.zero5 : zeroOf Try.prog 5 = some [.int .u8 0] := by kernel_rfl
@[go_sem] theorem Try.isInt5 : isIntT Try.prog 5 = some .u8 := by kernel_rfl
@[go_sem] theorem Try.tsz6 : tszOf Try.prog 6 = some (1, false) := by kernel_rfl
@[go_sem] theorem Try.udef6 : (Try.prog.underlying 6).isSome = true := by kernel_rfl
@[go_sem] theorem Try.zero6 : zeroOf Try.prog 6 = some [.int .u8 0] := by kernel_rfl
@[go_sem] theorem Try.isInt6 : isIntT Try.prog 6 = some .u8 := by kernel_rfl
@[go_sem] theorem Try.tsz7 : tszOf Try.prog 7 = some (4, true) := by kernel_rfl
@[go_sem] theorem Try.udef7 : (Try.prog.underlying 7).isSome = true := by kernel_rfl
@[go_sem] theorem Try.zero7 : zeroOf Try.prog 7 = some [.int .i64 0, .int .i64 0, .bool false, .int .u8 0] := by kernel_rfl
@[go_sem] theorem Try.pl7 : plOf Try.prog 7 = some [(0, 1), (1, 1), (2, 1), (3, 1)] := by kernel_rfl
@[go_sem] theorem Try.tsz8 : tszOf Try.prog 8 = some (4, true) := by kernel_rfl
@[go_sem] theorem Try.udef8 : (Try.prog.underlying 8).isSome = true := by kernel_rfl
@[go_sem] theorem Try.zero8 : zeroOf Try.prog 8 = some [.int .i64 0, .int .i64 0, .bool false, .int .u8 0] := by kernel_rfl
@[go_sem] theorem Try.pl8 : plOf Try.prog 8 = some [(0, 1), (1, 1), (2, 1), (3, 1)] := by kernel_rfl
@[go_sem] theorem Try.tsz9 : tszOf Try.prog 9 = some (1, false) := by kernel_rfl
@[go_sem] theorem Try.udef9 : (Try.prog.underlying 9).isSome = true := by kernel_rfl
@[go_sem] theorem Try.zero9 : zeroOf Try.prog 9 = some [.str ByteArray.empty] := by kernel_rfl
@[go_sem] theorem Try.isU8S9 : isU8S Try.prog 9 = false := by kernel_rfl
@[go_sem] theorem Try.isIntN9 : isIntT Try.prog 9 = none := by kernel_rfl
@[go_sem] theorem Try.isStr9 : isStr Try.prog 9 = true := by kernel_rfl
@[go_sem] theorem Try.tsz10 : tszOf Try.prog 10 = some (1, false) := by kernel_rfl
@[go_sem] theorem Try.udef10 : (Try.prog.underlying 10).isSome = true := by kernel_rfl
@[go_sem] theorem Try.zero10 : zeroOf Try.prog 10 = some [.str ByteArray.empty] := by kernel_rfl
@[go_sem] theorem Try.isU8S10 : isU8S Try.prog 10 = false := by kernel_rfl
@[go_sem] theorem Try.isIntN10 : isIntT Try.prog 10 = none := by kernel_rfl
@[go_sem] theorem Try.isStr10 : isStr Try.prog 10 = true := by kernel_rfl
@[go_sem] theorem Try.tsz11 : tszOf Try.prog 11 = some (1, false) := by kernel_rfl
@[go_sem] theorem Try.udef11 : (Try.prog.underlying 11).isSome = true := by kernel_rfl
@[go_sem] theorem Try.zero11 : zeroOf Try.prog 11 = some [.str ByteArray.empty] := by kernel_rfl
@[go_sem] theorem Try.isU8S11 : isU8S Try.prog 11 = false := by kernel_rfl
@[go_sem] theorem Try.isIntN11 : isIntT Try.prog 11 = none := by kernel_rfl
@[go_sem] theorem Try.isStr11 : isStr Try.prog 11 = true := by kernel_rfl
@[go_sem] theorem Try.tsz12 : tszOf Try.prog 12 = some (1, false) := by kernel_rfl
@[go_sem] theorem Try.udef12 : (Try.prog.underlying 12).isSome = true := by kernel_rfl
@[go_sem] theorem Try.zero12 : zeroOf Try.prog 12 = some [.int .u64 0] := by kernel_rfl
@[go_sem] theorem Try.isInt12 : isIntT Try.prog 12 = some .u64 := by kernel_rfl
@[go_sem] theorem Try.tsz13 : tszOf Try.prog 13 = some (2, true) := by kernel_rfl
@[go_sem] theorem Try.udef13 : (Try.prog.underlying 13).isSome = true := by kernel_rfl
@[go_sem] theorem Try.zero13 : zeroOf Try.prog 13 = some [.str ByteArray.empty, .int .u64 0] := by kernel_rfl
@[go_sem] theorem Try.pl13 : plOf Try.prog 13 = some [(0, 1), (1, 1)] := by kernel_rfl
@[go_sem] theorem Try.tsz14 : tszOf Try.prog 14 = some (2, true) := by kernel_rfl
@[go_sem] theorem Try.udef14 : (Try.prog.underlying 14).isSome = true := by kernel_rfl
@[go_sem] theorem Try.zero14 : zeroOf Try.prog 14 = some [.str ByteArray.empty, .int .u64 0] := by kernel_rfl
@[go_sem] theorem Try.pl14 : plOf Try.prog 14 = some [(0, 1), (1, 1)] := by kernel_rfl
@[go_sem] theorem Try.tsz15 : tszOf Try.prog 15 = some (1, false) := by kernel_rfl
@[go_sem] theorem Try.udef15 : (Try.prog.underlying 15).isSome = true := by kernel_rfl
@[go_sem] theorem Try.zero15 : zeroOf Try.prog 15 = some [.lit ((Go.Value.pointer none))] := by kernel_rfl
@[go_sem] theorem Try.tsz16 : tszOf Try.prog 16 = some (1, false) := by kernel_rfl
@[go_sem] theorem Try.udef16 : (Try.prog.underlying 16).isSome = true := by kernel_rfl
@[go_sem] theorem Try.zero16 : zeroOf Try.prog 16 = some [.lit ((Go.Value.pointer none))] := by kernel_rfl
@[go_sem] theorem Try.tsz17 : tszOf Try.prog 17 = some (1, false) := by kernel_rfl
@[go_sem] theorem Try.udef17 : (Try.prog.underlying 17).isSome = true := by kernel_rfl
@[go_sem] theorem Try.zero17 : zeroOf Try.prog 17 = some [.lit ((Go.Value.pointer none))] := by kernel_rfl
@[go_sem] theorem Try.tsz18 : tszOf Try.prog 18 = some (1, true) := by kernel_rfl
@[go_sem] theorem Try.udef18 : (Try.prog.underlying 18).isSome = true := by kernel_rfl
@[go_sem] theorem Try.zero18 : zeroOf Try.prog 18 = some [.lit ((Go.Value.pointer none))] := by kernel_rfl
@[go_sem] theorem Try.pl18 : plOf Try.prog 18 = some [(0, 1)] := by kernel_rfl
@[go_sem] theorem Try.tsz19 : tszOf Try.prog 19 = some (1, true) := by kernel_rfl
@[go_sem] theorem Try.udef19 : (Try.prog.underlying 19).isSome = true := by kernel_rfl
@[go_sem] theorem Try.zero19 : zeroOf Try.prog 19 = some [.lit ((Go.Value.pointer none))] := by kernel_rfl
@[go_sem] theorem Try.pl19 : plOf Try.prog 19 = some [(0, 1)] := by kernel_rfl
@[go_sem] theorem Try.tsz20 : tszOf Try.prog 20 = some (1, false) := by kernel_rfl
@[go_sem] theorem Try.udef20 : (Try.prog.underlying 20).isSome = true := by kernel_rfl
@[go_sem] theorem Try.zero20 : zeroOf Try.prog 20 = some [.lit ((Go.Value.nilIface))] := by kernel_rfl
@[go_sem] theorem Try.tsz21 : tszOf Try.prog 21 = some (1, false) := by kernel_rfl
@[go_sem] theorem Try.udef21 : (Try.prog.underlying 21).isSome = true := by kernel_rfl
@[go_sem] theorem Try.zero21 : zeroOf Try.prog 21 = some [.int .i32 0] := by kernel_rfl
@[go_sem] theorem Try.isInt21 : isIntT Try.prog 21 = some .i32 := by kernel_rfl
@[go_sem] theorem Try.tsz22 : tszOf Try.prog 22 = some (1, false) := by kernel_rfl
@[go_sem] theorem Try.udef22 : (Try.prog.underlying 22).isSome = true := by kernel_rfl
@[go_sem] theorem Try.zero22 : zeroOf Try.prog 22 = some [.nilsl] := by kernel_rfl
@[go_sem] theorem Try.el22 : elOf Try.prog 22 = some (110, 5, 40) := by kernel_rfl
@[go_sem] theorem Try.isSl22 : isSl Try.prog 22 = true := by kernel_rfl
@[go_sem] theorem Try.tsz23 : tszOf Try.prog 23 = some (1, false) := by kernel_rfl
@[go_sem] theorem Try.udef23 : (Try.prog.underlying 23).isSome = true := by kernel_rfl
@[go_sem] theorem Try.zero23 : zeroOf Try.prog 23 = some [.lit ((Go.Value.nilFunc))] := by kernel_rfl
@[go_sem] theorem Try.tsz24 : tszOf Try.prog 24 = some (1, false) := by kernel_rfl
@[go_sem] theorem Try.udef24 : (Try.prog.underlying 24).isSome = true := by kernel_rfl
@[go_sem] theorem Try.zero24 : zeroOf Try.prog 24 = some [.nilsl] := by kernel_rfl
@[go_sem] theorem Try.el24 : elOf Try.prog 24 = some (55, 1, 24) := by kernel_rfl
@[go_sem] theorem Try.isSl24 : isSl Try.prog 24 = true := by kernel_rfl
@[go_sem] theorem Try.tsz26 : tszOf Try.prog 26 = some (1, false) := by kernel_rfl
@[go_sem] theorem Try.udef26 : (Try.prog.underlying 26).isSome = true := by kernel_rfl
@[go_sem] theorem Try.zero26 : zeroOf Try.prog 26 = some [.lit ((Go.Value.nilFunc))] := by kernel_rfl
@[go_sem] theorem Try.tsz27 : tszOf Try.prog 27 = some (1, false) := by kernel_rfl
@[go_sem] theorem Try.udef27 : (Try.prog.underlying 27).isSome = true := by kernel_rfl
@[go_sem] theorem Try.zero27 : zeroOf Try.prog 27 = some [.nilsl] := by kernel_rfl
@[go_sem] theorem Try.el27 : elOf Try.prog 27 = some (108, 5, 40) := by kernel_rfl
@[go_sem] theorem Try.isSl27 : isSl Try.prog 27 = true := by kernel_rfl
@[go_sem] theorem Try.tsz28 : tszOf Try.prog 28 = some (1, false) := by kernel_rfl
@[go_sem] theorem Try.udef28 : (Try.prog.underlying 28).isSome = true := by kernel_rfl
@[go_sem] theorem Try.zero28 : zeroOf Try.prog 28 = some [.lit ((Go.Value.nilFunc))] := by kernel_rfl
@[go_sem] theorem Try.tsz29 : tszOf Try.prog 29 = some (1, false) := by kernel_rfl
@[go_sem] theorem Try.udef29 : (Try.prog.underlying 29).isSome = true := by kernel_rfl
@[go_sem] theorem Try.zero29 : zeroOf Try.prog 29 = some [.lit ((Go.Value.nilFunc))] := by kernel_rfl
@[go_sem] theorem Try.tsz30 : tszOf Try.prog 30 = some (1, false) := by kernel_rfl
@[go_sem] theorem Try.udef30 : (Try.prog.underlying 30).isSome = true := by kernel_rfl
@[go_sem] theorem Try.zero30 : zeroOf Try.prog 30 = some [.lit ((Go.Value.nilFunc))] := by kernel_rfl
@[go_sem] theorem Try.tsz31 : tszOf Try.prog 31 = some (1, false) := by kernel_rfl
@[go_sem] theorem Try.udef31 : (Try.prog.underlying 31).isSome = true := by kernel_rfl
@[go_sem] theorem Try.zero31 : zeroOf Try.prog 31 = some [.lit ((Go.Value.nilFunc))] := by kernel_rfl
@[go_sem] theorem Try.tsz32 : tszOf Try.prog 32 = some (1, false) := by kernel_rfl
@[go_sem] theorem Try.udef32 : (Try.prog.underlying 32).isSome = true := by kernel_rfl
@[go_sem] theorem Try.zero32 : zeroOf Try.prog 32 = some [.lit ((Go.Value.nilFunc))] := by kernel_rfl
@[go_sem] theorem Try.tsz33 : tszOf Try.prog 33 = some (1, false) := by kernel_rfl
@[go_sem] theorem Try.udef33 : (Try.prog.underlying 33).isSome = true := by kernel_rfl
@[go_sem] theorem Try.zero33 : zeroOf Try.prog 33 = some [.lit ((Go.Value.nilFunc))] := by kernel_rfl
@[go_sem] theorem Try.tsz34 : tszOf Try.prog 34 = some (1, false) := by kernel_rfl
@[go_sem] theorem Try.udef34 : (Try.prog.underlying 34).isSome = true := by kernel_rfl
@[go_sem] theorem Try.zero34 : zeroOf Try.prog 34 = some [.nilsl] := by kernel_rfl
@[go_sem] theorem Try.el34 : elOf Try.prog 34 = some (5, 1, 1) := by kernel_rfl
@[go_sem] theorem Try.isSl34 : isSl Try.prog 34 = true := by kernel_rfl
@[go_sem] theorem Try.isU8S34 : isU8S Try.prog 34 = true := by kernel_rfl
@[go_sem] theorem Try.tsz35 : tszOf Try.prog 35 = some (1, false) := by kernel_rfl
@[go_sem] theorem Try.udef35 : (Try.prog.underlying 35).isSome = true := by kernel_rfl
@[go_sem] theorem Try.zero35 : zeroOf Try.prog 35 = some [.lit ((Go.Value.nilFunc))] := by kernel_rfl
@[go_sem] theorem Try.tsz36 : tszOf Try.prog 36 = some (1, false) := by kernel_rfl
@[go_sem] theorem Try.udef36 : (Try.prog.underlying 36).isSome = true := by kernel_rfl
@[go_sem] theorem Try.zero36 : zeroOf Try.prog 36 = some [.nilsl] := by kernel_rfl
@[go_sem] theorem Try.el36 : elOf Try.prog 36 = some (125, 3, 24) := by kernel_rfl
@[go_sem] theorem Try.isSl36 : isSl Try.prog 36 = true := by kernel_rfl
@[go_sem] theorem Try.tsz37 : tszOf Try.prog 37 = some (1, false) := by kernel_rfl
@[go_sem] theorem Try.udef37 : (Try.prog.underlying 37).isSome = true := by kernel_rfl
@[go_sem] theorem Try.zero37 : zeroOf Try.prog 37 = some [.nilsl] := by kernel_rfl
@[go_sem] theorem Try.el37 : elOf Try.prog 37 = some (49, 5, 40) := by kernel_rfl
@[go_sem] theorem Try.isSl37 : isSl Try.prog 37 = true := by kernel_rfl
@[go_sem] theorem Try.tsz38 : tszOf Try.prog 38 = some (5, true) := by kernel_rfl
@[go_sem] theorem Try.udef38 : (Try.prog.underlying 38).isSome = true := by kernel_rfl
@[go_sem] theorem Try.zero38 : zeroOf Try.prog 38 = some [.int .i64 0, .nilsl, .nilsl, .int .i64 0, .int .i64 0] := by kernel_rfl
@[go_sem] theorem Try.pl38 : plOf Try.prog 38 = some [(0, 1), (1, 1), (2, 1), (3, 1), (4, 1)] := by kernel_rfl
@[go_sem] theorem Try.tsz39 : tszOf Try.prog 39 = some (5, true) := by kernel_rfl
@[go_sem] theorem Try.udef39 : (Try.prog.underlying 39).isSome = true := by kernel_rfl
@[go_sem] theorem Try.zero39 : zeroOf Try.prog 39 = some [.int .i64 0, .nilsl, .nilsl, .int .i64 0, .int .i64 0] := by kernel_rfl
@[go_sem] theorem Try.pl39 : plOf Try.prog 39 = some [(0, 1), (1, 1), (2, 1), (3, 1), (4, 1)] := by kernel_rfl
@[go_sem] theorem Try.fd39_0 : fdOf Try.prog 39 0 = some (0, 1, false) := by kernel_rfl
@[go_sem] theorem Try.fd39_1 : fdOf Try.prog 39 1 = some (1, 1, false) := by kernel_rfl
@[go_sem] theorem Try.fd39_2 : fdOf Try.prog 39 2 = some (2, 1, false) := by kernel_rfl
@[go_sem] theorem Try.fd39_3 : fdOf Try.prog 39 3 = some (3, 1, false) := by kernel_rfl
@[go_sem] theorem Try.fd39_4 : fdOf Try.prog 39 4 = some (4, 1, false) := by kernel_rfl
@[go_sem] theorem Try.tsz40 : tszOf Try.prog 40 = some (3, true) := by kernel_rfl
@[go_sem] theorem Try.udef40 : (Try.prog.underlying 40).isSome = true := by kernel_rfl
@[go_sem] theorem Try.zero40 : zeroOf Try.prog 40 = some [.int .i64 0, .int .i64 0, .int .i64 0] := by kernel_rfl
@[go_sem] theorem Try.pl40 : plOf Try.prog 40 = some [(0, 1), (1, 1), (2, 1)] := by kernel_rfl
@[go_sem] theorem Try.tsz41 : tszOf Try.prog 41 = some (3, true) := by kernel_rfl
@[go_sem] theorem Try.udef41 : (Try.prog.underlying 41).isSome = true := by kernel_rfl
@[go_sem] theorem Try.zero41 : zeroOf Try.prog 41 = some [.int .i64 0, .int .i64 0, .int .i64 0] := by kernel_rfl
@[go_sem] theorem Try.flatEq41 : flatEq Try.prog 41 = some [.int .i64, .int .i64, .int .i64] := by kernel_rfl
@[go_sem] theorem Try.pl41 : plOf Try.prog 41 = some [(0, 1), (1, 1), (2, 1)] := by kernel_rfl
@[go_sem] theorem Try.fd41_0 : fdOf Try.prog 41 0 = some (0, 1, false) := by kernel_rfl
@[go_sem] theorem Try.fd41_1 : fdOf Try.prog 41 1 = some (1, 1, false) := by kernel_rfl
@[go_sem] theorem Try.fd41_2 : fdOf Try.prog 41 2 = some (2, 1, false) := by kernel_rfl
@[go_sem] theorem Try.tsz43 : tszOf Try.prog 43 = some (1, false) := by kernel_rfl
@[go_sem] theorem Try.udef43 : (Try.prog.underlying 43).isSome = true := by kernel_rfl
@[go_sem] theorem Try.zero43 : zeroOf Try.prog 43 = some [.lit ((Go.Value.nilFunc))] := by kernel_rfl
@[go_sem] theorem Try.tsz45 : tszOf Try.prog 45 = some (1, false) := by kernel_rfl
@[go_sem] theorem Try.udef45 : (Try.prog.underlying 45).isSome = true := by kernel_rfl
@[go_sem] theorem Try.zero45 : zeroOf Try.prog 45 = some [.lit ((Go.Value.nilFunc))] := by kernel_rfl
@[go_sem] theorem Try.tsz46 : tszOf Try.prog 46 = some (1, false) := by kernel_rfl
@[go_sem] theorem Try.udef46 : (Try.prog.underlying 46).isSome = true := by kernel_rfl
@[go_sem] theorem Try.zero46 : zeroOf Try.prog 46 = some [.lit ((Go.Value.nilFunc))] := by kernel_rfl
@[go_sem] theorem Try.tsz47 : tszOf Try.prog 47 = some (1, false) := by kernel_rfl
@[go_sem] theorem Try.udef47 : (Try.prog.underlying 47).isSome = true := by kernel_rfl
@[go_sem] theorem Try.zero47 : zeroOf Try.prog 47 = some [.lit ((Go.Value.nilFunc))] := by kernel_rfl
@[go_sem] theorem Try.tsz48 : tszOf Try.prog 48 = some (5, true) := by kernel_rfl
@[go_sem] theorem Try.udef48 : (Try.prog.underlying 48).isSome = true := by kernel_rfl
@[go_sem] theorem Try.zero48 : zeroOf Try.prog 48 = some [.int .i64 0, .int .i64 0, .int .i64 0, .int .i64 0, .int .i64 0] := by kernel_rfl
@[go_sem] theorem Try.pl48 : plOf Try.prog 48 = some [(0, 1), (1, 1), (2, 1), (3, 1), (4, 1)] := by kernel_rfl
@[go_sem] theorem Try.tsz49 : tszOf Try.prog 49 = some (5, true) := by kernel_rfl
@[go_sem] theorem Try.udef49 : (Try.prog.underlying 49).isSome = true := by kernel_rfl
@[go_sem] theorem Try.zero49 : zeroOf Try.prog 49 = some [.int .i64 0, .int .i64 0, .int .i64 0, .int .i64 0, .int .i64 0] := by kernel_rfl
@[go_sem] theorem Try.flatEq49 : flatEq Try.prog 49 = some [.int .i64, .int .i64, .int .i64, .int .i64, .int .i64] := by kernel_rfl
@[go_sem] theorem Try.pl49 : plOf Try.prog 49 = some [(0, 1), (1, 1), (2, 1), (3, 1), (4, 1)] := by kernel_rfl
@[go_sem] theorem Try.fd49_0 : fdOf Try.prog 49 0 = some (0, 1, false) := by kernel_rfl
@[go_sem] theorem Try.fd49_1 : fdOf Try.prog 49 1 = some (1, 1, false) := by kernel_rfl
@[go_sem] theorem Try.fd49_2 : fdOf Try.prog 49 2 = some (2, 1, false) := by kernel_rfl
@[go_sem] theorem Try.fd49_3 : fdOf Try.prog 49 3 = some (3, 1, false) := by kernel_rfl
@[go_sem] theorem Try.fd49_4 : fdOf Try.prog 49 4 = some (4, 1, false) := by kernel_rfl
@[go_sem] theorem Try.tsz50 : tszOf Try.prog 50 = some (1, false) := by kernel_rfl
@[go_sem] theorem Try.udef50 : (Try.prog.underlying 50).isSome = true := by kernel_rfl
@[go_sem] theorem Try.zero50 : zeroOf Try.prog 50 = some [.nilsl] := by kernel_rfl
@[go_sem] theorem Try.el50 : elOf Try.prog 50 = some (41, 3, 24) := by kernel_rfl
@[go_sem] theorem Try.isSl50 : isSl Try.prog 50 = true := by kernel_rfl
@[go_sem] theorem Try.tsz52 : tszOf Try.prog 52 = some (1, false) := by kernel_rfl
@[go_sem] theorem Try.udef52 : (Try.prog.underlying 52).isSome = true := by kernel_rfl
@[go_sem] theorem Try.zero52 : zeroOf Try.prog 52 = some [.lit ((Go.Value.nilFunc))] := by kernel_rfl
@[go_sem] theorem Try.tsz54 : tszOf Try.prog 54 = some (1, false) := by kernel_rfl
@[go_sem] theorem Try.udef54 : (Try.prog.underlying 54).isSome = true := by kernel_rfl
@[go_sem] theorem Try.zero54 : zeroOf Try.prog 54 = some [.lit ((Go.Value.nilFunc))] := by kernel_rfl
@[go_sem] theorem Try.tsz55 : tszOf Try.prog 55 = some (1, false) := by kernel_rfl
@[go_sem] theorem Try.udef55 : (Try.prog.underlying 55).isSome = true := by kernel_rfl
@[go_sem] theorem Try.zero55 : zeroOf Try.prog 55 = some [.nilsl] := by kernel_rfl
@[go_sem] theorem Try.el55 : elOf Try.prog 55 = some (3, 1, 8) := by kernel_rfl
@[go_sem] theorem Try.isSl55 : isSl Try.prog 55 = true := by kernel_rfl
@[go_sem] theorem Try.tsz56 : tszOf Try.prog 56 = some (1, false) := by kernel_rfl
@[go_sem] theorem Try.udef56 : (Try.prog.underlying 56).isSome = true := by kernel_rfl
@[go_sem] theorem Try.zero56 : zeroOf Try.prog 56 = some [.lit ((Go.Value.nilFunc))] := by kernel_rfl
@[go_sem] theorem Try.tsz57 : tszOf Try.prog 57 = some (1, false) := by kernel_rfl
@[go_sem] theorem Try.udef57 : (Try.prog.underlying 57).isSome = true := by kernel_rfl
@[go_sem] theorem Try.zero57 : zeroOf Try.prog 57 = some [.lit ((Go.Value.nilFunc))] := by kernel_rfl
@[go_sem] theorem Try.tsz58 : tszOf Try.prog 58 = some (1, false) := by kernel_rfl
@[go_sem] theorem Try.udef58 : (Try.prog.underlying 58).isSome = true := by kernel_rfl
@[go_sem] theorem Try.zero58 : zeroOf Try.prog 58 = some [.nilsl] := by kernel_rfl
@[go_sem] theorem Try.el58 : elOf Try.prog 58 = some (65, 7, 56) := by kernel_rfl
@[go_sem] theorem Try.isSl58 : isSl Try.prog 58 = true := by kernel_rfl
@[go_sem] theorem Try.tsz60 : tszOf Try.prog 60 = some (1, false) := by kernel_rfl
@[go_sem] theorem Try.udef60 : (Try.prog.underlying 60).isSome = true := by kernel_rfl
@[go_sem] theorem Try.zero60 : zeroOf Try.prog 60 = some [.lit ((Go.Value.nilFunc))] := by kernel_rfl
@[go_sem] theorem Try.tsz62 : tszOf Try.prog 62 = some (1, false) := by kernel_rfl
@[go_sem] theorem Try.udef62 : (Try.prog.underlying 62).isSome = true := by kernel_rfl
@[go_sem] theorem Try.zero62 : zeroOf Try.prog 62 = some [.lit ((Go.Value.nilFunc))] := by kernel_rfl
@[go_sem] theorem Try.tsz63 : tszOf Try.prog 63 = some (1, false) := by kernel_rfl
@[go_sem] theorem Try.udef63 : (Try.prog.underlying 63).isSome = true := by kernel_rfl
@[go_sem] theorem Try.zero63 : zeroOf Try.prog 63 = some [.lit ((Go.Value.nilFunc))] := by kernel_rfl
@[go_sem] theorem Try.tsz64 : tszOf Try.prog 64 = some (7, true) := by kernel_rfl
@[go_sem] theorem Try.udef64 : (Try.prog.underlying 64).isSome = true := by kernel_rfl
@[go_sem] theorem Try.zero64 : zeroOf Try.prog 64 = some [.int .i64 0, .int .i64 0, .int .i64 0, .int .i64 0, .int .i64 0, .int .i64 0, .int .i64 0] := by kernel_rfl
@[go_sem] theorem Try.pl64 : plOf Try.prog 64 = some [(0, 1), (1, 1), (2, 1), (3, 1), (4, 1), (5, 1), (6, 1)] := by kernel_rfl
@[go_sem] theorem Try.tsz65 : tszOf Try.prog 65 = some (7, true) := by kernel_rfl
@[go_sem] theorem Try.udef65 : (Try.prog.underlying 65).isSome = true := by kernel_rfl
@[go_sem] theorem Try.zero65 : zeroOf Try.prog 65 = some [.int .i64 0, .int .i64 0, .int .i64 0, .int .i64 0, .int .i64 0, .int .i64 0, .int .i64 0] := by kernel_rfl
@[go_sem] theorem Try.flatEq65 : flatEq Try.prog 65 = some [.int .i64, .int .i64, .int .i64, .int .i64, .int .i64, .int .i64, .int .i64] := by kernel_rfl
@[go_sem] theorem Try.pl65 : plOf Try.prog 65 = some [(0, 1), (1, 1), (2, 1), (3, 1), (4, 1), (5, 1), (6, 1)] := by kernel_rfl
@[go_sem] theorem Try.fd65_0 : fdOf Try.prog 65 0 = some (0, 1, false) := by kernel_rfl
@[go_sem] theorem Try.fd65_1 : fdOf Try.prog 65 1 = some (1, 1, false) := by kernel_rfl
@[go_sem] theorem Try.fd65_2 : fdOf Try.prog 65 2 = some (2, 1, false) := by kernel_rfl
@[go_sem] theorem Try.fd65_3 : fdOf Try.prog 65 3 = some (3, 1, false) := by kernel_rfl
@[go_sem] theorem Try.fd65_4 : fdOf Try.prog 65 4 = some (4, 1, false) := by kernel_rfl
@[go_sem] theorem Try.fd65_5 : fdOf Try.prog 65 5 = some (5, 1, false) := by kernel_rfl
@[go_sem] theorem Try.fd65_6 : fdOf Try.prog 65 6 = some (6, 1, false) := by kernel_rfl
@[go_sem] theorem Try.tsz67 : tszOf Try.prog 67 = some (1, false) := by kernel_rfl
@[go_sem] theorem Try.udef67 : (Try.prog.underlying 67).isSome = true := by kernel_rfl
@[go_sem] theorem Try.zero67 : zeroOf Try.prog 67 = some [.lit ((Go.Value.nilFunc))] := by kernel_rfl
@[go_sem] theorem Try.tsz69 : tszOf Try.prog 69 = some (1, false) := by kernel_rfl
@[go_sem] theorem Try.udef69 : (Try.prog.underlying 69).isSome = true := by kernel_rfl
@[go_sem] theorem Try.zero69 : zeroOf Try.prog 69 = some [.lit ((Go.Value.nilFunc))] := by kernel_rfl
@[go_sem] theorem Try.tsz70 : tszOf Try.prog 70 = some (1, false) := by kernel_rfl
@[go_sem] theorem Try.udef70 : (Try.prog.underlying 70).isSome = true := by kernel_rfl
@[go_sem] theorem Try.zero70 : zeroOf Try.prog 70 = some [.lit ((Go.Value.nilFunc))] := by kernel_rfl
@[go_sem] theorem Try.tsz71 : tszOf Try.prog 71 = some (1, false) := by kernel_rfl
@[go_sem] theorem Try.udef71 : (Try.prog.underlying 71).isSome = true := by kernel_rfl
@[go_sem] theorem Try.zero71 : zeroOf Try.prog 71 = some [.lit ((Go.Value.nilFunc))] := by kernel_rfl
@[go_sem] theorem Try.tsz73 : tszOf Try.prog 73 = some (1, false) := by kernel_rfl
@[go_sem] theorem Try.udef73 : (Try.prog.underlying 73).isSome = true := by kernel_rfl
@[go_sem] theorem Try.zero73 : zeroOf Try.prog 73 = some [.lit ((Go.Value.nilFunc))] := by kernel_rfl
@[go_sem] theorem Try.tsz75 : tszOf Try.prog 75 = some (1, false) := by kernel_rfl
@[go_sem] theorem Try.udef75 : (Try.prog.underlying 75).isSome = true := by kernel_rfl
@[go_sem] theorem Try.zero75 : zeroOf Try.prog 75 = some [.lit ((Go.Value.nilFunc))] := by kernel_rfl
@[go_sem] theorem Try.tsz77 : tszOf Try.prog 77 = some (1, false) := by kernel_rfl
@[go_sem] theorem Try.udef77 : (Try.prog.underlying 77).isSome = true := by kernel_rfl
@[go_sem] theorem Try.zero77 : zeroOf Try.prog 77 = some [.lit ((Go.Value.nilFunc))] := by kernel_rfl
@[go_sem] theorem Try.tsz78 : tszOf Try.prog 78 = some (1, false) := by kernel_rfl
@[go_sem] theorem Try.udef78 : (Try.prog.underlying 78).isSome = true := by kernel_rfl
@[go_sem] theorem Try.zero78 : zeroOf Try.prog 78 = some [.lit ((Go.Value.nilFunc))] := by kernel_rfl
@[go_sem] theorem Try.tsz80 : tszOf Try.prog 80 = some (1, false) := by kernel_rfl
@[go_sem] theorem Try.udef80 : (Try.prog.underlying 80).isSome = true := by kernel_rfl
@[go_sem] theorem Try.zero80 : zeroOf Try.prog 80 = some [.lit ((Go.Value.nilFunc))] := by kernel_rfl
@[go_sem] theorem Try.tsz81 : tszOf Try.prog 81 = some (1, false) := by kernel_rfl
@[go_sem] theorem Try.udef81 : (Try.prog.underlying 81).isSome = true := by kernel_rfl
@[go_sem] theorem Try.zero81 : zeroOf Try.prog 81 = some [.lit ((Go.Value.nilFunc))] := by kernel_rfl
@[go_sem] theorem Try.tsz82 : tszOf Try.prog 82 = some (1, false) := by kernel_rfl
@[go_sem] theorem Try.udef82 : (Try.prog.underlying 82).isSome = true := by kernel_rfl
@[go_sem] theorem Try.zero82 : zeroOf Try.prog 82 = some [.nilsl] := by kernel_rfl
@[go_sem] theorem Try.el82 : elOf Try.prog 82 = some (97, 2, 16) := by kernel_rfl
@[go_sem] theorem Try.isSl82 : isSl Try.prog 82 = true := by kernel_rfl
@[go_sem] theorem Try.tsz83 : tszOf Try.prog 83 = some (5, true) := by kernel_rfl
@[go_sem] theorem Try.udef83 : (Try.prog.underlying 83).isSome = true := by kernel_rfl
@[go_sem] theorem Try.zero83 : zeroOf Try.prog 83 = some [.int .i64 0, .int .i64 0, .nilsl, .int .i64 0, .int .i64 0] := by kernel_rfl
@[go_sem] theorem Try.pl83 : plOf Try.prog 83 = some [(0, 1), (1, 1), (2, 1), (3, 1), (4, 1)] := by kernel_rfl
@[go_sem] theorem Try.tsz84 : tszOf Try.prog 84 = some (5, true) := by kernel_rfl
@[go_sem] theorem Try.udef84 : (Try.prog.underlying 84).isSome = true := by kernel_rfl
@[go_sem] theorem Try.zero84 : zeroOf Try.prog 84 = some [.int .i64 0, .int .i64 0, .nilsl, .int .i64 0, .int .i64 0] := by kernel_rfl
@[go_sem] theorem Try.pl84 : plOf Try.prog 84 = some [(0, 1), (1, 1), (2, 1), (3, 1), (4, 1)] := by kernel_rfl
@[go_sem] theorem Try.fd84_0 : fdOf Try.prog 84 0 = some (0, 1, false) := by kernel_rfl
@[go_sem] theorem Try.fd84_1 : fdOf Try.prog 84 1 = some (1, 1, false) := by kernel_rfl
@[go_sem] theorem Try.fd84_2 : fdOf Try.prog 84 2 = some (2, 1, false) := by kernel_rfl
@[go_sem] theorem Try.fd84_3 : fdOf Try.prog 84 3 = some (3, 1, false) := by kernel_rfl
@[go_sem] theorem Try.fd84_4 : fdOf Try.prog 84 4 = some (4, 1, false) := by kernel_rfl
@[go_sem] theorem Try.tsz85 : tszOf Try.prog 85 = some (2, true) := by kernel_rfl
@[go_sem] theorem Try.udef85 : (Try.prog.underlying 85).isSome = true := by kernel_rfl
@[go_sem] theorem Try.zero85 : zeroOf Try.prog 85 = some [.int .i64 0, .int .i64 0] := by kernel_rfl
@[go_sem] theorem Try.pl85 : plOf Try.prog 85 = some [(0, 1), (1, 1)] := by kernel_rfl
@[go_sem] theorem Try.tsz86 : tszOf Try.prog 86 = some (2, true) := by kernel_rfl
@[go_sem] theorem Try.udef86 : (Try.prog.underlying 86).isSome = true := by kernel_rfl
@[go_sem] theorem Try.zero86 : zeroOf Try.prog 86 = some [.int .i64 0, .int .i64 0] := by kernel_rfl
@[go_sem] theorem Try.flatEq86 : flatEq Try.prog 86 = some [.int .i64, .int .i64] := by kernel_rfl
@[go_sem] theorem Try.pl86 : plOf Try.prog 86 = some [(0, 1), (1, 1)] := by kernel_rfl
@[go_sem] theorem Try.fd86_0 : fdOf Try.prog 86 0 = some (0, 1, false) := by kernel_rfl
@[go_sem] theorem Try.fd86_1 : fdOf Try.prog 86 1 = some (1, 1, false) := by kernel_rfl
@[go_sem] theorem Try.tsz88 : tszOf Try.prog 88 = some (1, false) := by kernel_rfl
@[go_sem] theorem Try.udef88 : (Try.prog.underlying 88).isSome = true := by kernel_rfl
@[go_sem] theorem Try.zero88 : zeroOf Try.prog 88 = some [.lit ((Go.Value.nilFunc))] := by kernel_rfl
@[go_sem] theorem Try.tsz90 : tszOf Try.prog 90 = some (1, false) := by kernel_rfl
@[go_sem] theorem Try.udef90 : (Try.prog.underlying 90).isSome = true := by kernel_rfl
@[go_sem] theorem Try.zero90 : zeroOf Try.prog 90 = some [.lit ((Go.Value.nilFunc))] := by kernel_rfl
@[go_sem] theorem Try.tsz91 : tszOf Try.prog 91 = some (1, false) := by kernel_rfl
@[go_sem] theorem Try.udef91 : (Try.prog.underlying 91).isSome = true := by kernel_rfl
@[go_sem] theorem Try.zero91 : zeroOf Try.prog 91 = some [.lit ((Go.Value.nilFunc))] := by kernel_rfl
@[go_sem] theorem Try.tsz92 : tszOf Try.prog 92 = some (1, false) := by kernel_rfl
@[go_sem] theorem Try.udef92 : (Try.prog.underlying 92).isSome = true := by kernel_rfl
@[go_sem] theorem Try.zero92 : zeroOf Try.prog 92 = some [.lit ((Go.Value.nilFunc))] := by kernel_rfl
@[go_sem] theorem Try.tsz93 : tszOf Try.prog 93 = some (1, false) := by kernel_rfl
@[go_sem] theorem Try.udef93 : (Try.prog.underlying 93).isSome = true := by kernel_rfl
@[go_sem] theorem Try.zero93 : zeroOf Try.prog 93 = some [.lit ((Go.Value.nilFunc))] := by kernel_rfl
@[go_sem] theorem Try.tsz95 : tszOf Try.prog 95 = some (1, false) := by kernel_rfl
@[go_sem] theorem Try.udef95 : (Try.prog.underlying 95).isSome = true := by kernel_rfl
@[go_sem] theorem Try.zero95 : zeroOf Try.prog 95 = some [.lit ((Go.Value.nilFunc))] := by kernel_rfl
@[go_sem] theorem Try.tsz96 : tszOf Try.prog 96 = some (2, true) := by kernel_rfl
@[go_sem] theorem Try.udef96 : (Try.prog.underlying 96).isSome = true := by kernel_rfl
@[go_sem] theorem Try.zero96 : zeroOf Try.prog 96 = some [.int .i64 0, .int .i64 0] := by kernel_rfl
@[go_sem] theorem Try.pl96 : plOf Try.prog 96 = some [(0, 1), (1, 1)] := by kernel_rfl
@[go_sem] theorem Try.tsz97 : tszOf Try.prog 97 = some (2, true) := by kernel_rfl
@[go_sem] theorem Try.udef97 : (Try.prog.underlying 97).isSome = true := by kernel_rfl
@[go_sem] theorem Try.zero97 : zeroOf Try.prog 97 = some [.int .i64 0, .int .i64 0] := by kernel_rfl
@[go_sem] theorem Try.flatEq97 : flatEq Try.prog 97 = some [.int .i64, .int .i64] := by kernel_rfl
@[go_sem] theorem Try.pl97 : plOf Try.prog 97 = some [(0, 1), (1, 1)] := by kernel_rfl
@[go_sem] theorem Try.fd97_0 : fdOf Try.prog 97 0 = some (0, 1, false) := by kernel_rfl
@[go_sem] theorem Try.fd97_1 : fdOf Try.prog 97 1 = some (1, 1, false) := by kernel_rfl
@[go_sem] theorem Try.tsz98 : tszOf Try.prog 98 = some (1, false) := by kernel_rfl
@[go_sem] theorem Try.udef98 : (Try.prog.underlying 98).isSome = true := by kernel_rfl
@[go_sem] theorem Try.zero98 : zeroOf Try.prog 98 = some [.nilsl] := by kernel_rfl
@[go_sem] theorem Try.el98 : elOf Try.prog 98 = some (86, 2, 16) := by kernel_rfl
@[go_sem] theorem Try.isSl98 : isSl Try.prog 98 = true := by kernel_rfl
@[go_sem] theorem Try.tsz100 : tszOf Try.prog 100 = some (1, false) := by kernel_rfl
@[go_sem] theorem Try.udef100 : (Try.prog.underlying 100).isSome = true := by kernel_rfl
@[go_sem] theorem Try.zero100 : zeroOf Try.prog 100 = some [.lit ((Go.Value.nilFunc))] := by kernel_rfl
@[go_sem] theorem Try.tsz102 : tszOf Try.prog 102 = some (1, false) := by kernel_rfl
@[go_sem] theorem Try.udef102 : (Try.prog.underlying 102).isSome = true := by kernel_rfl
@[go_sem] theorem Try.zero102 : zeroOf Try.prog 102 = some [.lit ((Go.Value.nilFunc))] := by kernel_rfl
@[go_sem] theorem Try.tsz103 : tszOf Try.prog 103 = some (1, false) := by kernel_rfl
@[go_sem] theorem Try.udef103 : (Try.prog.underlying 103).isSome = true := by kernel_rfl
@[go_sem] theorem Try.zero103 : zeroOf Try.prog 103 = some [.lit ((Go.Value.nilFunc))] := by kernel_rfl
@[go_sem] theorem Try.tsz104 : tszOf Try.prog 104 = some (1, false) := by kernel_rfl
@[go_sem] theorem Try.udef104 : (Try.prog.underlying 104).isSome = true := by kernel_rfl
@[go_sem] theorem Try.zero104 : zeroOf Try.prog 104 = some [.lit ((Go.Value.nilFunc))] := by kernel_rfl
@[go_sem] theorem Try.tsz105 : tszOf Try.prog 105 = some (1, false) := by kernel_rfl
@[go_sem] theorem Try.udef105 : (Try.prog.underlying 105).isSome = true := by kernel_rfl
@[go_sem] theorem Try.zero105 : zeroOf Try.prog 105 = some [.lit ((Go.Value.nilFunc))] := by kernel_rfl
@[go_sem] theorem Try.tsz106 : tszOf Try.prog 106 = some (1, false) := by kernel_rfl
@[go_sem] theorem Try.udef106 : (Try.prog.underlying 106).isSome = true := by kernel_rfl
@[go_sem] theorem Try.zero106 : zeroOf Try.prog 106 = some [.lit ((Go.Value.nilFunc))] := by kernel_rfl
@[go_sem] theorem Try.tsz107 : tszOf Try.prog 107 = some (5, true) := by kernel_rfl
@[go_sem] theorem Try.udef107 : (Try.prog.underlying 107).isSome = true := by kernel_rfl
@[go_sem] theorem Try.zero107 : zeroOf Try.prog 107 = some [.int .i64 0, .int .i64 0, .int .i64 0, .int .i64 0, .int .i64 0] := by kernel_rfl
@[go_sem] theorem Try.pl107 : plOf Try.prog 107 = some [(0, 1), (1, 1), (2, 1), (3, 1), (4, 1)] := by kernel_rfl
@[go_sem] theorem Try.tsz108 : tszOf Try.prog 108 = some (5, true) := by kernel_rfl
@[go_sem] theorem Try.udef108 : (Try.prog.underlying 108).isSome = true := by kernel_rfl
@[go_sem] theorem Try.zero108 : zeroOf Try.prog 108 = some [.int .i64 0, .int .i64 0, .int .i64 0, .int .i64 0, .int .i64 0] := by kernel_rfl
@[go_sem] theorem Try.flatEq108 : flatEq Try.prog 108 = some [.int .i64, .int .i64, .int .i64, .int .i64, .int .i64] := by kernel_rfl
@[go_sem] theorem Try.pl108 : plOf Try.prog 108 = some [(0, 1), (1, 1), (2, 1), (3, 1), (4, 1)] := by kernel_rfl
@[go_sem] theorem Try.fd108_0 : fdOf Try.prog 108 0 = some (0, 1, false) := by kernel_rfl
@[go_sem] theorem Try.fd108_1 : fdOf Try.prog 108 1 = some (1, 1, false) := by kernel_rfl
@[go_sem] theorem Try.fd108_2 : fdOf Try.prog 108 2 = some (2, 1, false) := by kernel_rfl
@[go_sem] theorem Try.fd108_3 : fdOf Try.prog 108 3 = some (3, 1, false) := by kernel_rfl
@[go_sem] theorem Try.fd108_4 : fdOf Try.prog 108 4 = some (4, 1, false) := by kernel_rfl
@[go_sem] theorem Try.tsz109 : tszOf Try.prog 109 = some (1, false) := by kernel_rfl
@[go_sem] theorem Try.udef109 : (Try.prog.underlying 109).isSome = true := by kernel_rfl
@[go_sem] theorem Try.zero109 : zeroOf Try.prog 109 = some [.lit ((Go.Value.nilFunc))] := by kernel_rfl
@[go_sem] theorem Try.tsz110 : tszOf Try.prog 110 = some (5, true) := by kernel_rfl
@[go_sem] theorem Try.udef110 : (Try.prog.underlying 110).isSome = true := by kernel_rfl
@[go_sem] theorem Try.zero110 : zeroOf Try.prog 110 = some [.int .i64 0, .int .i64 0, .int .i64 0, .int .i64 0, .int .i64 0] := by kernel_rfl
@[go_sem] theorem Try.flatEq110 : flatEq Try.prog 110 = some [.int .i64, .int .i64, .int .i64, .int .i64, .int .i64] := by kernel_rfl
@[go_sem] theorem Try.pl110 : plOf Try.prog 110 = some [(0, 1), (1, 1), (2, 1), (3, 1), (4, 1)] := by kernel_rfl
@[go_sem] theorem Try.fd110_0 : fdOf Try.prog 110 0 = some (0, 1, false) := by kernel_rfl
@[go_sem] theorem Try.fd110_1 : fdOf Try.prog 110 1 = some (1, 1, false) := by kernel_rfl
@[go_sem] theorem Try.fd110_2 : fdOf Try.prog 110 2 = some (2, 1, false) := by kernel_rfl
@[go_sem] theorem Try.fd110_3 : fdOf Try.prog 110 3 = some (3, 1, false) := by kernel_rfl
@[go_sem] theorem Try.fd110_4 : fdOf Try.prog 110 4 = some (4, 1, false) := by kernel_rfl
@[go_sem] theorem Try.tsz111 : tszOf Try.prog 111 = some (1, false) := by kernel_rfl
@[go_sem] theorem Try.udef111 : (Try.prog.underlying 111).isSome = true := by kernel_rfl
@[go_sem] theorem Try.zero111 : zeroOf Try.prog 111 = some [.lit ((Go.Value.nilFunc))] := by kernel_rfl
@[go_sem] theorem Try.tsz112 : tszOf Try.prog 112 = some (1, false) := by kernel_rfl
@[go_sem] theorem Try.udef112 : (Try.prog.underlying 112).isSome = true := by kernel_rfl
@[go_sem] theorem Try.zero112 : zeroOf Try.prog 112 = some [.lit ((Go.Value.nilFunc))] := by kernel_rfl
@[go_sem] theorem Try.tsz113 : tszOf Try.prog 113 = some (1, false) := by kernel_rfl
@[go_sem] theorem Try.udef113 : (Try.prog.underlying 113).isSome = true := by kernel_rfl
@[go_sem] theorem Try.zero113 : zeroOf Try.prog 113 = some [.lit ((Go.Value.pointer none))] := by kernel_rfl
@[go_sem] theorem Try.tsz114 : tszOf Try.prog 114 = some (1, false) := by kernel_rfl
@[go_sem] theorem Try.udef114 : (Try.prog.underlying 114).isSome = true := by kernel_rfl
@[go_sem] theorem Try.zero114 : zeroOf Try.prog 114 = some [.int .u64 0] := by kernel_rfl
@[go_sem] theorem Try.isInt114 : isIntT Try.prog 114 = some .u64 := by kernel_rfl
@[go_sem] theorem Try.tsz115 : tszOf Try.prog 115 = some (3, true) := by kernel_rfl
@[go_sem] theorem Try.udef115 : (Try.prog.underlying 115).isSome = true := by kernel_rfl
@[go_sem] theorem Try.zero115 : zeroOf Try.prog 115 = some [.nilsl, .int .i64 0, .int .u64 0] := by kernel_rfl
@[go_sem] theorem Try.pl115 : plOf Try.prog 115 = some [(0, 1), (1, 1), (2, 1)] := by kernel_rfl
@[go_sem] theorem Try.tsz116 : tszOf Try.prog 116 = some (3, true) := by kernel_rfl
@[go_sem] theorem Try.udef116 : (Try.prog.underlying 116).isSome = true := by kernel_rfl
@[go_sem] theorem Try.zero116 : zeroOf Try.prog 116 = some [.nilsl, .int .i64 0, .int .u64 0] := by kernel_rfl
@[go_sem] theorem Try.pl116 : plOf Try.prog 116 = some [(0, 1), (1, 1), (2, 1)] := by kernel_rfl
@[go_sem] theorem Try.fd116_0 : fdOf Try.prog 116 0 = some (0, 1, false) := by kernel_rfl
@[go_sem] theorem Try.fd116_1 : fdOf Try.prog 116 1 = some (1, 1, false) := by kernel_rfl
@[go_sem] theorem Try.fd116_2 : fdOf Try.prog 116 2 = some (2, 1, false) := by kernel_rfl
@[go_sem] theorem Try.tsz117 : tszOf Try.prog 117 = some (1, false) := by kernel_rfl
@[go_sem] theorem Try.udef117 : (Try.prog.underlying 117).isSome = true := by kernel_rfl
@[go_sem] theorem Try.zero117 : zeroOf Try.prog 117 = some [.lit ((Go.Value.nilFunc))] := by kernel_rfl
@[go_sem] theorem Try.tsz118 : tszOf Try.prog 118 = some (1, false) := by kernel_rfl
@[go_sem] theorem Try.udef118 : (Try.prog.underlying 118).isSome = true := by kernel_rfl
@[go_sem] theorem Try.zero118 : zeroOf Try.prog 118 = some [.lit ((Go.Value.nilFunc))] := by kernel_rfl
@[go_sem] theorem Try.tsz119 : tszOf Try.prog 119 = some (1, false) := by kernel_rfl
@[go_sem] theorem Try.udef119 : (Try.prog.underlying 119).isSome = true := by kernel_rfl
@[go_sem] theorem Try.zero119 : zeroOf Try.prog 119 = some [.lit ((Go.Value.nilFunc))] := by kernel_rfl
@[go_sem] theorem Try.tsz120 : tszOf Try.prog 120 = some (1, false) := by kernel_rfl
@[go_sem] theorem Try.udef120 : (Try.prog.underlying 120).isSome = true := by kernel_rfl
@[go_sem] theorem Try.zero120 : zeroOf Try.prog 120 = some [.lit ((Go.Value.nilFunc))] := by kernel_rfl
@[go_sem] theorem Try.tsz121 : tszOf Try.prog 121 = some (1, false) := by kernel_rfl
@[go_sem] theorem Try.udef121 : (Try.prog.underlying 121).isSome = true := by kernel_rfl
@[go_sem] theorem Try.zero121 : zeroOf Try.prog 121 = some [.lit ((Go.Value.nilFunc))] := by kernel_rfl
@[go_sem] theorem Try.tsz122 : tszOf Try.prog 122 = some (1, false) := by kernel_rfl
@[go_sem] theorem Try.udef122 : (Try.prog.underlying 122).isSome = true := by kernel_rfl
@[go_sem] theorem Try.zero122 : zeroOf Try.prog 122 = some [.lit ((Go.Value.nilFunc))] := by kernel_rfl
@[go_sem] theorem Try.tsz123 : tszOf Try.prog 123 = some (1, false) := by kernel_rfl
@[go_sem] theorem Try.udef123 : (Try.prog.underlying 123).isSome = true := by kernel_rfl
@[go_sem] theorem Try.zero123 : zeroOf Try.prog 123 = some [.lit ((Go.Value.nilFunc))] := by kernel_rfl
@[go_sem] theorem Try.tsz124 : tszOf Try.prog 124 = some (3, true) := by kernel_rfl
@[go_sem] theorem Try.udef124 : (Try.prog.underlying 124).isSome = true := by kernel_rfl
@[go_sem] theorem Try.zero124 : zeroOf Try.prog 124 = some [.int .i64 0, .bool false, .int .i64 0] := by kernel_rfl
@[go_sem] theorem Try.pl124 : plOf Try.prog 124 = some [(0, 1), (1, 1), (2, 1)] := by kernel_rfl
@[go_sem] theorem Try.tsz125 : tszOf Try.prog 125 = some (3, true) := by kernel_rfl
@[go_sem] theorem Try.udef125 : (Try.prog.underlying 125).isSome = true := by kernel_rfl
@[go_sem] theorem Try.zero125 : zeroOf Try.prog 125 = some [.int .i64 0, .bool false, .int .i64 0] := by kernel_rfl
@[go_sem] theorem Try.flatEq125 : flatEq Try.prog 125 = some [.int .i64, .bool, .int .i64] := by kernel_rfl
@[go_sem] theorem Try.pl125 : plOf Try.prog 125 = some [(0, 1), (1, 1), (2, 1)] := by kernel_rfl
@[go_sem] theorem Try.fd125_0 : fdOf Try.prog 125 0 = some (0, 1, false) := by kernel_rfl
@[go_sem] theorem Try.fd125_1 : fdOf Try.prog 125 1 = some (1, 1, false) := by kernel_rfl
@[go_sem] theorem Try.fd125_2 : fdOf Try.prog 125 2 = some (2, 1, false) := by kernel_rfl
@[go_sem] theorem Try.tsz126 : tszOf Try.prog 126 = some (1, false) := by kernel_rfl
@[go_sem] theorem Try.udef126 : (Try.prog.underlying 126).isSome = true := by kernel_rfl
@[go_sem] theorem Try.zero126 : zeroOf Try.prog 126 = some [.lit ((Go.Value.nilFunc))] := by kernel_rfl
@[go_sem] theorem Try.tsz127 : tszOf Try.prog 127 = some (1, false) := by kernel_rfl
@[go_sem] theorem Try.udef127 : (Try.prog.underlying 127).isSome = true := by kernel_rfl
@[go_sem] theorem Try.zero127 : zeroOf Try.prog 127 = some [.lit ((Go.Value.nilFunc))] := by kernel_rfl
@[go_sem] theorem Try.tsz128 : tszOf Try.prog 128 = some (1, false) := by kernel_rfl
@[go_sem] theorem Try.udef128 : (Try.prog.underlying 128).isSome = true := by kernel_rfl
@[go_sem] theorem Try.zero128 : zeroOf Try.prog 128 = some [.lit ((Go.Value.nilFunc))] := by kernel_rfl
@[go_sem] theorem Try.tsz129 : tszOf Try.prog 129 = some (1, false) := by kernel_rfl
@[go_sem] theorem Try.udef129 : (Try.prog.underlying 129).isSome = true := by kernel_rfl
@[go_sem] theorem Try.zero129 : zeroOf Try.prog 129 = some [.lit ((Go.Value.nilFunc))] := by kernel_rfl
@[go_sem] theorem Try.tsz130 : tszOf Try.prog 130 = some (1, false) := by kernel_rfl
@[go_sem] theorem Try.udef130 : (Try.prog.underlying 130).isSome = true := by kernel_rfl
@[go_sem] theorem Try.zero130 : zeroOf Try.prog 130 = some [.lit ((Go.Value.nilFunc))] := by kernel_rfl
@[go_sem] theorem Try.tsz131 : tszOf Try.prog 131 = some (1, false) := by kernel_rfl
@[go_sem] theorem Try.udef131 : (Try.prog.underlying 131).isSome = true := by kernel_rfl
@[go_sem] theorem Try.zero131 : zeroOf Try.prog 131 = some [.lit ((Go.Value.nilFunc))] := by kernel_rfl
@[go_sem] theorem Try.tsz132 : tszOf Try.prog 132 = some (1, false) := by kernel_rfl
@[go_sem] theorem Try.udef132 : (Try.prog.underlying 132).isSome = true := by kernel_rfl
@[go_sem] theorem Try.zero132 : zeroOf Try.prog 132 = some [.lit ((Go.Value.nilFunc))] := by kernel_rfl
@[go_sem] theorem Try.tsz133 : tszOf Try.prog 133 = some (1, false) := by kernel_rfl
@[go_sem] theorem Try.udef133 : (Try.prog.underlying 133).isSome = true := by kernel_rfl
@[go_sem] theorem Try.zero133 : zeroOf Try.prog 133 = some [.lit ((Go.Value.nilFunc))] := by kernel_rfl
@[go_sem] theorem Try.tsz134 : tszOf Try.prog 134 = some (1, false) := by kernel_rfl
@[go_sem] theorem Try.udef134 : (Try.prog.underlying 134).isSome = true := by kernel_rfl
@[go_sem] theorem Try.zero134 : zeroOf Try.prog 134 = some [.lit ((Go.Value.nilFunc))] := by kernel_rfl
@[go_sem] theorem Try.tsz135 : tszOf Try.prog 135 = some (1, false) := by kernel_rfl
@[go_sem] theorem Try.udef135 : (Try.prog.underlying 135).isSome = true := by kernel_rfl
@[go_sem] theorem Try.zero135 : zeroOf Try.prog 135 = some [.lit ((Go.Value.nilFunc))] := by kernel_rfl
@[go_sem] theorem Try.tsz136 : tszOf Try.prog 136 = some (1, false) := by kernel_rfl
@[go_sem] theorem Try.udef136 : (Try.prog.underlying 136).isSome = true := by kernel_rfl
@[go_sem] theorem Try.zero136 : zeroOf Try.prog 136 = some [.lit ((Go.Value.nilFunc))] := by kernel_rfl
@[go_sem] theorem Try.tsz137 : tszOf Try.prog 137 = some (1, false) := by kernel_rfl
@[go_sem] theorem Try.udef137 : (Try.prog.underlying 137).isSome = true := by kernel_rfl
@[go_sem] theorem Try.zero137 : zeroOf Try.prog 137 = some [.lit ((Go.Value.nilFunc))] := by kernel_rfl
@[go_sem] theorem Try.tsz138 : tszOf Try.prog 138 = some (1, false) := by kernel_rfl
@[go_sem] theorem Try.udef138 : (Try.prog.underlying 138).isSome = true := by kernel_rfl
@[go_sem] theorem Try.zero138 : zeroOf Try.prog 138 = some [.lit ((Go.Value.nilFunc))] := by kernel_rfl
@[go_sem] theorem Try.tsz139 : tszOf Try.prog 139 = some (1, false) := by kernel_rfl
@[go_sem] theorem Try.udef139 : (Try.prog.underlying 139).isSome = true := by kernel_rfl
@[go_sem] theorem Try.zero139 : zeroOf Try.prog 139 = some [.lit ((Go.Value.nilFunc))] := by kernel_rfl
@[go_sem] theorem Try.tsz140 : tszOf Try.prog 140 = some (1, false) := by kernel_rfl
@[go_sem] theorem Try.udef140 : (Try.prog.underlying 140).isSome = true := by kernel_rfl
@[go_sem] theorem Try.zero140 : zeroOf Try.prog 140 = some [.lit ((Go.Value.nilFunc))] := by kernel_rfl
@[go_sem] theorem Try.tsz141 : tszOf Try.prog 141 = some (1, false) := by kernel_rfl
@[go_sem] theorem Try.udef141 : (Try.prog.underlying 141).isSome = true := by kernel_rfl
@[go_sem] theorem Try.zero141 : zeroOf Try.prog 141 = some [.lit ((Go.Value.nilFunc))] := by kernel_rfl
@[go_sem] theorem Try.tsz142 : tszOf Try.prog 142 = some (1, false) := by kernel_rfl
@[go_sem] theorem Try.udef142 : (Try.prog.underlying 142).isSome = true := by kernel_rfl
@[go_sem] theorem Try.zero142 : zeroOf Try.prog 142 = some [.lit ((Go.Value.nilFunc))] := by kernel_rfl
@[go_sem] theorem Try.tsz143 : tszOf Try.prog 143 = some (1, false) := by kernel_rfl
@[go_sem] theorem Try.udef143 : (Try.prog.underlying 143).isSome = true := by kernel_rfl
@[go_sem] theorem Try.zero143 : zeroOf Try.prog 143 = some [.lit ((Go.Value.nilFunc))] := by kernel_rfl
@[go_sem] theorem Try.tsz144 : tszOf Try.prog 144 = some (1, false) := by kernel_rfl
@[go_sem] theorem Try.udef144 : (Try.prog.underlying 144).isSome = true := by kernel_rfl
@[go_sem] theorem Try.zero144 : zeroOf Try.prog 144 = some [.lit ((Go.Value.nilFunc))] := by kernel_rfl
@[go_sem] theorem Try.tsz145 : tszOf Try.prog 145 = some (1, false) := by kernel_rfl
@[go_sem] theorem Try.udef145 : (Try.prog.underlying 145).isSome = true := by kernel_rfl
@[go_sem] theorem Try.zero145 : zeroOf Try.prog 145 = some [.lit ((Go.Value.nilFunc))] := by kernel_rfl
@[go_sem] theorem Try.tsz146 : tszOf Try.prog 146 = some (1, false) := by kernel_rfl
@[go_sem] theorem Try.udef146 : (Try.prog.underlying 146).isSome = true := by kernel_rfl
@[go_sem] theorem Try.zero146 : zeroOf Try.prog 146 = some [.lit ((Go.Value.nilFunc))] := by kernel_rfl
@[go_sem] theorem Try.tsz147 : tszOf Try.prog 147 = some (1, false) := by kernel_rfl
@[go_sem] theorem Try.udef147 : (Try.prog.underlying 147).isSome = true := by kernel_rfl
@[go_sem] theorem Try.zero147 : zeroOf Try.prog 147 = some [.lit ((Go.Value.nilFunc))] := by kernel_rfl
@[go_sem] theorem Try.tsz149 : tszOf Try.prog 149 = some (1, false) := by kernel_rfl
@[go_sem] theorem Try.udef149 : (Try.prog.underlying 149).isSome = true := by kernel_rfl
@[go_sem] theorem Try.zero149 : zeroOf Try.prog 149 = some [.lit ((Go.Value.nilFunc))] := by kernel_rfl
@[go_sem] theorem Try.tsz150 : tszOf Try.prog 150 = some (1, false) := by kernel_rfl
@[go_sem] theorem Try.udef150 : (Try.prog.underlying 150).isSome = true := by kernel_rfl
@[go_sem] theorem Try.zero150 : zeroOf Try.prog 150 = some [.lit ((Go.Value.nilFunc))] := by kernel_rfl
@[go_sem] theorem Try.tsz151 : tszOf Try.prog 151 = some (1, false) := by kernel_rfl
@[go_sem] theorem Try.udef151 : (Try.prog.underlying 151).isSome = true := by kernel_rfl
@[go_sem] theorem Try.zero151 : zeroOf Try.prog 151 = some [.lit ((Go.Value.nilFunc))] := by kernel_rfl
@[go_sem] theorem Try.tsz152 : tszOf Try.prog 152 = some (1, false) := by kernel_rfl
@[go_sem] theorem Try.udef152 : (Try.prog.underlying 152).isSome = true := by kernel_rfl
@[go_sem] theorem Try.zero152 : zeroOf Try.prog 152 = some [.lit ((Go.Value.nilFunc))] := by kernel_rfl
@[go_sem] theorem Try.tsz153 : tszOf Try.prog 153 = some (1, false) := by kernel_rfl
@[go_sem] theorem Try.udef153 : (Try.prog.underlying 153).isSome = true := by kernel_rfl
@[go_sem] theorem Try.zero153 : zeroOf Try.prog 153 = some [.lit ((Go.Value.nilFunc))] := by kernel_rfl
@[go_sem] theorem Try.tsz154 : tszOf Try.prog 154 = some (1, false) := by kernel_rfl
@[go_sem] theorem Try.udef154 : (Try.prog.underlying 154).isSome = true := by kernel_rfl
@[go_sem] theorem Try.zero154 : zeroOf Try.prog 154 = some [.lit ((Go.Value.nilFunc))] := by kernel_rfl
@[go_sem] theorem Try.tsz155 : tszOf Try.prog 155 = some (1, false) := by kernel_rfl
@[go_sem] theorem Try.udef155 : (Try.prog.underlying 155).isSome = true := by kernel_rfl
@[go_sem] theorem Try.zero155 : zeroOf Try.prog 155 = some [.lit ((Go.Value.nilFunc))] := by kernel_rfl
@[go_sem] theorem Try.tsz156 : tszOf Try.prog 156 = some (1, false) := by kernel_rfl
@[go_sem] theorem Try.udef156 : (Try.prog.underlying 156).isSome = true := by kernel_rfl
@[go_sem] theorem Try.zero156 : zeroOf Try.prog 156 = some [.lit ((Go.Value.nilFunc))] := by kernel_rfl
@[go_sem] theorem Try.tsz157 : tszOf Try.prog 157 = some (1, false) := by kernel_rfl
@[go_sem] theorem Try.udef157 : (Try.prog.underlying 157).isSome = true := by kernel_rfl
@[go_sem] theorem Try.zero157 : zeroOf Try.prog 157 = some [.lit ((Go.Value.nilFunc))] := by kernel_rfl
@[go_sem] theorem Try.tsz158 : tszOf Try.prog 158 = some (1, false) := by kernel_rfl
@[go_sem] theorem Try.udef158 : (Try.prog.underlying 158).isSome = true := by kernel_rfl
@[go_sem] theorem Try.zero158 : zeroOf Try.prog 158 = some [.lit ((Go.Value.nilFunc))] := by kernel_rfl
@[go_sem] theorem Try.tsz159 : tszOf Try.prog 159 = some (1, false) := by kernel_rfl
@[go_sem] theorem Try.udef159 : (Try.prog.underlying 159).isSome = true := by kernel_rfl
@[go_sem] theorem Try.zero159 : zeroOf Try.prog 159 = some [.lit ((Go.Value.nilFunc))] := by kernel_rfl
@[go_sem] theorem Try.tsz160 : tszOf Try.prog 160 = some (1, false) := by kernel_rfl
@[go_sem] theorem Try.udef160 : (Try.prog.underlying 160).isSome = true := by kernel_rfl
@[go_sem] theorem Try.zero160 : zeroOf Try.prog 160 = some [.lit ((Go.Value.nilFunc))] := by kernel_rfl
@[go_sem] theorem Try.tsz161 : tszOf Try.prog 161 = some (1, false) := by kernel_rfl
@[go_sem] theorem Try.udef161 : (Try.prog.underlying 161).isSome = true := by kernel_rfl
@[go_sem] theorem Try.zero161 : zeroOf Try.prog 161 = some [.lit ((Go.Value.nilFunc))] := by kernel_rfl
@[go_sem] theorem Try.tsz162 : tszOf Try.prog 162 = some (1, false) := by kernel_rfl
@[go_sem] theorem Try.udef162 : (Try.prog.underlying 162).isSome = true := by kernel_rfl
@[go_sem] theorem Try.zero162 : zeroOf Try.prog 162 = some [.lit ((Go.Value.nilFunc))] := by kernel_rfl
@[go_sem] theorem Try.tsz163 : tszOf Try.prog 163 = some (1, false) := by kernel_rfl
@[go_sem] theorem Try.udef163 : (Try.prog.underlying 163).isSome = true := by kernel_rfl
@[go_sem] theorem Try.zero163 : zeroOf Try.prog 163 = some [.lit ((Go.Value.nilFunc))] := by kernel_rfl
@[go_sem] theorem Try.tsz164 : tszOf Try.prog 164 = some (1, false) := by kernel_rfl
@[go_sem] theorem Try.udef164 : (Try.prog.underlying 164).isSome = true := by kernel_rfl
@[go_sem] theorem Try.zero164 : zeroOf Try.prog 164 = some [.lit ((Go.Value.nilFunc))] := by kernel_rfl
@[go_sem] theorem Try.tsz165 : tszOf Try.prog 165 = some (1, false) := by kernel_rfl
@[go_sem] theorem Try.udef165 : (Try.prog.underlying 165).isSome = true := by kernel_rfl
@[go_sem] theorem Try.zero165 : zeroOf Try.prog 165 = some [.lit ((Go.Value.nilFunc))] := by kernel_rfl
@[go_sem] theorem Try.tsz166 : tszOf Try.prog 166 = some (1, false) := by kernel_rfl
@[go_sem] theorem Try.udef166 : (Try.prog.underlying 166).isSome = true := by kernel_rfl
@[go_sem] theorem Try.zero166 : zeroOf Try.prog 166 = some [.lit ((Go.Value.nilFunc))] := by kernel_rfl
@[go_sem] theorem Try.tsz167 : tszOf Try.prog 167 = some (1, false) := by kernel_rfl
@[go_sem] theorem Try.udef167 : (Try.prog.underlying 167).isSome = true := by kernel_rfl
@[go_sem] theorem Try.zero167 : zeroOf Try.prog 167 = some [.lit ((Go.Value.nilFunc))] := by kernel_rfl
@[go_sem] theorem Try.tsz168 : tszOf Try.prog 168 = some (1, false) := by kernel_rfl
@[go_sem] theorem Try.udef168 : (Try.prog.underlying 168).isSome = true := by kernel_rfl
@[go_sem] theorem Try.zero168 : zeroOf Try.prog 168 = some [.lit ((Go.Value.nilFunc))] := by kernel_rfl
@[go_sem] theorem Try.tsz169 : tszOf Try.prog 169 = some (1, false) := by kernel_rfl
@[go_sem] theorem Try.udef169 : (Try.prog.underlying 169).isSome = true := by kernel_rfl
@[go_sem] theorem Try.zero169 : zeroOf Try.prog 169 = some [.lit ((Go.Value.nilFunc))] := by kernel_rfl
@[go_sem] theorem Try.tsz170 : tszOf Try.prog 170 = some (1, false) := by kernel_rfl
@[go_sem] theorem Try.udef170 : (Try.prog.underlying 170).isSome = true := by kernel_rfl
@[go_sem] theorem Try.zero170 : zeroOf Try.prog 170 = some [.lit ((Go.Value.nilFunc))] := by kernel_rfl
@[go_sem] theorem Try.tsz171 : tszOf Try.prog 171 = some (1, false) := by kernel_rfl
@[go_sem] theorem Try.udef171 : (Try.prog.underlying 171).isSome = true := by kernel_rfl
@[go_sem] theorem Try.zero171 : zeroOf Try.prog 171 = some [.lit ((Go.Value.nilFunc))] := by kernel_rfl
@[go_sem] theorem Try.tsz172 : tszOf Try.prog 172 = some (1, false) := by kernel_rfl
@[go_sem] theorem Try.udef172 : (Try.prog.underlying 172).isSome = true := by kernel_rfl
@[go_sem] theorem Try.zero172 : zeroOf Try.prog 172 = some [.lit ((Go.Value.nilFunc))] := by kernel_rfl
@[go_sem] theorem Try.tsz173 : tszOf Try.prog 173 = some (1, false) := by kernel_rfl
@[go_sem] theorem Try.udef173 : (Try.prog.underlying 173).isSome = true := by kernel_rfl
@[go_sem] theorem Try.zero173 : zeroOf Try.prog 173 = some [.lit ((Go.Value.nilFunc))] := by kernel_rfl
@[go_sem] theorem Try.tsz174 : tszOf Try.prog 174 = some (1, false) := by kernel_rfl
@[go_sem] theorem Try.udef174 : (Try.prog.underlying 174).isSome = true := by kernel_rfl
@[go_sem] theorem Try.zero174 : zeroOf Try.prog 174 = some [.lit ((Go.Value.nilFunc))] := by kernel_rfl
@[go_sem] theorem Try.tsz175 : tszOf Try.prog 175 = some (1, false) := by kernel_rfl
@[go_sem] theorem Try.udef175 : (Try.prog.underlying 175).isSome = true := by kernel_rfl
@[go_sem] theorem Try.zero175 : zeroOf Try.prog 175 = some [.lit ((Go.Value.nilFunc))] := by kernel_rfl
@[go_sem] theorem Try.tsz176 : tszOf Try.prog 176 = some (1, false) := by kernel_rfl
@[go_sem] theorem Try.udef176 : (Try.prog.underlying 176).isSome = true := by kernel_rfl
@[go_sem] theorem Try.zero176 : zeroOf Try.prog 176 = some [.lit ((Go.Value.nilFunc))] := by kernel_rfl
@[go_sem] theorem Try.tsz178 : tszOf Try.prog 178 = some (1, false) := by kernel_rfl
@[go_sem] theorem Try.udef178 : (Try.prog.underlying 178).isSome = true := by kernel_rfl
@[go_sem] theorem Try.zero178 : zeroOf Try.prog 178 = some [.lit ((Go.Value.nilFunc))] := by kernel_rfl
@[go_sem] theorem Try.tsz179 : tszOf Try.prog 179 = some (1, false) := by kernel_rfl
@[go_sem] theorem Try.udef179 : (Try.prog.underlying 179).isSome = true := by kernel_rfl
@[go_sem] theorem Try.zero179 : zeroOf Try.prog 179 = some [.lit ((Go.Value.nilFunc))] := by kernel_rfl
@[go_sem] theorem Try.tsz180 : tszOf Try.prog 180 = some (1, false) := by kernel_rfl
@[go_sem] theorem Try.udef180 : (Try.prog.underlying 180).isSome = true := by kernel_rfl
@[go_sem] theorem Try.zero180 : zeroOf Try.prog 180 = some [.lit ((Go.Value.nilFunc))] := by kernel_rfl
@[go_sem] theorem Try.tsz181 : tszOf Try.prog 181 = some (1, false) := by kernel_rfl
@[go_sem] theorem Try.udef181 : (Try.prog.underlying 181).isSome = true := by kernel_rfl
@[go_sem] theorem Try.zero181 : zeroOf Try.prog 181 = some [.lit ((Go.Value.nilFunc))] := by kernel_rfl
@[go_sem] theorem Try.tsz182 : tszOf Try.prog 182 = some (1, false) := by kernel_rfl
@[go_sem] theorem Try.udef182 : (Try.prog.underlying 182).isSome = true := by kernel_rfl
@[go_sem] theorem Try.zero182 : zeroOf Try.prog 182 = some [.lit ((Go.Value.nilFunc))] := by kernel_rfl
@[go_sem] theorem Try.tsz183 : tszOf Try.prog 183 = some (1, false) := by kernel_rfl
@[go_sem] theorem Try.udef183 : (Try.prog.underlying 183).isSome = true := by kernel_rfl
@[go_sem] theorem Try.zero183 : zeroOf Try.prog 183 = some [.lit ((Go.Value.nilFunc))] := by kernel_rfl
@[go_sem] theorem Try.tsz184 : tszOf Try.prog 184 = some (1, false) := by kernel_rfl
@[go_sem] theorem Try.udef184 : (Try.prog.underlying 184).isSome = true := by kernel_rfl
@[go_sem] theorem Try.zero184 : zeroOf Try.prog 184 = some [.lit ((Go.Value.nilFunc))] := by kernel_rfl
@[go_sem] theorem Try.tsz185 : tszOf Try.prog 185 = some (1, false) := by kernel_rfl
@[go_sem] theorem Try.udef185 : (Try.prog.underlying 185).isSome = true := by kernel_rfl
@[go_sem] theorem Try.zero185 : zeroOf Try.prog 185 = some [.lit ((Go.Value.nilFunc))] := by kernel_rfl
@[go_sem] theorem Try.tsz186 : tszOf Try.prog 186 = some (1, false) := by kernel_rfl
@[go_sem] theorem Try.udef186 : (Try.prog.underlying 186).isSome = true := by kernel_rfl
@[go_sem] theorem Try.zero186 : zeroOf Try.prog 186 = some [.lit ((Go.Value.nilFunc))] := by kernel_rfl
@[go_sem] theorem Try.tsz187 : tszOf Try.prog 187 = some (1, false) := by kernel_rfl
@[go_sem] theorem Try.udef187 : (Try.prog.underlying 187).isSome = true := by kernel_rfl
@[go_sem] theorem Try.zero187 : zeroOf Try.prog 187 = some [.lit ((Go.Value.nilFunc))] := by kernel_rfl
@[go_sem] theorem Try.tsz188 : tszOf Try.prog 188 = some (1, false) := by kernel_rfl
@[go_sem] theorem Try.udef188 : (Try.prog.underlying 188).isSome = true := by kernel_rfl
@[go_sem] theorem Try.zero188 : zeroOf Try.prog 188 = some [.int .u64 0] := by kernel_rfl
@[go_sem] theorem Try.isInt188 : isIntT Try.prog 188 = some .u64 := by kernel_rfl
@[go_sem] theorem Try.tsz189 : tszOf Try.prog 189 = some (1, false) := by kernel_rfl
@[go_sem] theorem Try.udef189 : (Try.prog.underlying 189).isSome = true := by kernel_rfl
@[go_sem] theorem Try.zero189 : zeroOf Try.prog 189 = some [.lit ((Go.Value.nilFunc))] := by kernel_rfl
@[go_sem] theorem Try.tsz190 : tszOf Try.prog 190 = some (1, false) := by kernel_rfl
@[go_sem] theorem Try.udef190 : (Try.prog.underlying 190).isSome = true := by kernel_rfl
@[go_sem] theorem Try.zero190 : zeroOf Try.prog 190 = some [.lit ((Go.Value.nilFunc))] := by kernel_rfl
@[go_sem] theorem Try.tsz191 : tszOf Try.prog 191 = some (1, false) := by kernel_rfl
@[go_sem] theorem Try.udef191 : (Try.prog.underlying 191).isSome = true := by kernel_rfl
@[go_sem] theorem Try.zero191 : zeroOf Try.prog 191 = some [.lit ((Go.Value.nilFunc))] := by kernel_rfl
@[go_sem] theorem Try.tsz192 : tszOf Try.prog 192 = some (1, false) := by kernel_rfl
@[go_sem] theorem Try.udef192 : (Try.prog.underlying 192).isSome = true := by kernel_rfl
@[go_sem] theorem Try.zero192 : zeroOf Try.prog 192 = some [.lit ((Go.Value.map none))] := by kernel_rfl
@[go_sem] theorem Try.mapOf192 : mapOf Try.prog 192 = some (.int .i64, .bool false) := by kernel_rfl
@[go_sem] theorem Try.tsz193 : tszOf Try.prog 193 = some (1, false) := by kernel_rfl
@[go_sem] theorem Try.udef193 : (Try.prog.underlying 193).isSome = true := by kernel_rfl
@[go_sem] theorem Try.zero193 : zeroOf Try.prog 193 = some [.lit ((Go.Value.nilFunc))] := by kernel_rfl
@[go_sem] theorem Try.tsz194 : tszOf Try.prog 194 = some (1, false) := by kernel_rfl
@[go_sem] theorem Try.udef194 : (Try.prog.underlying 194).isSome = true := by kernel_rfl
@[go_sem] theorem Try.zero194 : zeroOf Try.prog 194 = some [.lit ((Go.Value.nilFunc))] := by kernel_rfl
@[go_sem] theorem Try.tsz195 : tszOf Try.prog 195 = some (1, false) := by kernel_rfl
@[go_sem] theorem Try.udef195 : (Try.prog.underlying 195).isSome = true := by kernel_rfl
@[go_sem] theorem Try.zero195 : zeroOf Try.prog 195 = some [.lit ((Go.Value.nilFunc))] := by kernel_rfl
@[go_sem] theorem Try.tsz196 : tszOf Try.prog 196 = some (1, false) := by kernel_rfl
@[go_sem] theorem Try.udef196 : (Try.prog.underlying 196).isSome = true := by kernel_rfl
@[go_sem] theorem Try.zero196 : zeroOf Try.prog 196 = some [.lit ((Go.Value.nilFunc))] := by kernel_rfl
@[go_sem] theorem Try.tsz197 : tszOf Try.prog 197 = some (1, false) := by kernel_rfl
@[go_sem] theorem Try.udef197 : (Try.prog.underlying 197).isSome = true := by kernel_rfl
@[go_sem] theorem Try.zero197 : zeroOf Try.prog 197 = some [.lit ((Go.Value.nilFunc))] := by kernel_rfl
@[go_sem] theorem Try.tsz198 : tszOf Try.prog 198 = some (1, false) := by kernel_rfl
@[go_sem] theorem Try.udef198 : (Try.prog.underlying 198).isSome = true := by kernel_rfl
@[go_sem] theorem Try.zero198 : zeroOf Try.prog 198 = some [.lit ((Go.Value.pointer none))] := by kernel_rfl
@[go_sem] theorem Try.tsz199 : tszOf Try.prog 199 = some (1, false) := by kernel_rfl
@[go_sem] theorem Try.udef199 : (Try.prog.underlying 199).isSome = true := by kernel_rfl
@[go_sem] theorem Try.zero199 : zeroOf Try.prog 199 = some [.lit ((Go.Value.pointer none))] := by kernel_rfl
@[go_sem] theorem Try.tsz200 : tszOf Try.prog 200 = some (1, false) := by kernel_rfl
@[go_sem] theorem Try.udef200 : (Try.prog.underlying 200).isSome = true := by kernel_rfl
@[go_sem] theorem Try.zero200 : zeroOf Try.prog 200 = some [.lit ((Go.Value.nilFunc))] := by kernel_rfl
@[go_sem] theorem Try.tsz201 : tszOf Try.prog 201 = some (1, false) := by kernel_rfl
@[go_sem] theorem Try.udef201 : (Try.prog.underlying 201).isSome = true := by kernel_rfl
@[go_sem] theorem Try.zero201 : zeroOf Try.prog 201 = some [.lit ((Go.Value.nilFunc))] := by kernel_rfl
@[go_sem] theorem Try.tsz202 : tszOf Try.prog 202 = some (1, false) := by kernel_rfl
@[go_sem] theorem Try.udef202 : (Try.prog.underlying 202).isSome = true := by kernel_rfl
@[go_sem] theorem Try.zero202 : zeroOf Try.prog 202 = some [.lit ((Go.Value.nilFunc))] := by kernel_rfl
@[go_sem] theorem Try.tsz203 : tszOf Try.prog 203 = some (1, false) := by kernel_rfl
@[go_sem] theorem Try.udef203 : (Try.prog.underlying 203).isSome = true := by kernel_rfl
@[go_sem] theorem Try.zero203 : zeroOf Try.prog 203 = some [.lit ((Go.Value.nilFunc))] := by kernel_rfl
@[go_sem] theorem Try.tsz204 : tszOf Try.prog 204 = some (1, false) := by kernel_rfl
@[go_sem] theorem Try.udef204 : (Try.prog.underlying 204).isSome = true := by kernel_rfl
@[go_sem] theorem Try.zero204 : zeroOf Try.prog 204 = some [.int .i64 0] := by kernel_rfl
@[go_sem] theorem Try.isInt204 : isIntT Try.prog 204 = some .i64 := by kernel_rfl
@[go_sem] theorem Try.tsz206 : tszOf Try.prog 206 = some (1, false) := by kernel_rfl
@[go_sem] theorem Try.udef206 : (Try.prog.underlying 206).isSome = true := by kernel_rfl
@[go_sem] theorem Try.zero206 : zeroOf Try.prog 206 = some [.lit ((Go.Value.nilFunc))] := by kernel_rfl
@[go_sem] theorem Try.tsz207 : tszOf Try.prog 207 = some (1, false) := by kernel_rfl
@[go_sem] theorem Try.udef207 : (Try.prog.underlying 207).isSome = true := by kernel_rfl
@[go_sem] theorem Try.zero207 : zeroOf Try.prog 207 = some [.lit ((Go.Value.nilFunc))] := by kernel_rfl
@[go_sem] theorem Try.tsz208 : tszOf Try.prog 208 = some (1, false) := by kernel_rfl
@[go_sem] theorem Try.udef208 : (Try.prog.underlying 208).isSome = true := by kernel_rfl
@[go_sem] theorem Try.zero208 : zeroOf Try.prog 208 = some [.lit ((Go.Value.nilFunc))] := by kernel_rfl
@[go_sem] theorem Try.tsz209 : tszOf Try.prog 209 = some (1, false) := by kernel_rfl
@[go_sem] theorem Try.udef209 : (Try.prog.underlying 209).isSome = true := by kernel_rfl
@[go_sem] theorem Try.zero209 : zeroOf Try.prog 209 = some [.lit ((Go.Value.nilFunc))] := by kernel_rfl
@[go_sem] theorem Try.tsz210 : tszOf Try.prog 210 = some (1, false) := by kernel_rfl
@[go_sem] theorem Try.udef210 : (Try.prog.underlying 210).isSome = true := by kernel_rfl
@[go_sem] theorem Try.zero210 : zeroOf Try.prog 210 = some [.lit ((Go.Value.nilFunc))] := by kernel_rfl
@[go_sem] theorem Try.tsz211 : tszOf Try.prog 211 = some (1, false) := by kernel_rfl
@[go_sem] theorem Try.udef211 : (Try.prog.underlying 211).isSome = true := by kernel_rfl
@[go_sem] theorem Try.zero211 : zeroOf Try.prog 211 = some [.int .u32 0] := by kernel_rfl
@[go_sem] theorem Try.isInt211 : isIntT Try.prog 211 = some .u32 := by kernel_rfl
@[go_sem] theorem Try.tsz212 : tszOf Try.prog 212 = some (1, false) := by kernel_rfl
@[go_sem] theorem Try.udef212 : (Try.prog.underlying 212).isSome = true := by kernel_rfl
@[go_sem] theorem Try.zero212 : zeroOf Try.prog 212 = some [.lit ((Go.Value.nilFunc))] := by kernel_rfl
@[go_sem] theorem Try.tsz213 : tszOf Try.prog 213 = some (1, false) := by kernel_rfl
@[go_sem] theorem Try.udef213 : (Try.prog.underlying 213).isSome = true := by kernel_rfl
@[go_sem] theorem Try.zero213 : zeroOf Try.prog 213 = some [.lit ((Go.Value.pointer none))] := by kernel_rfl
@[go_sem] theorem Try.tsz214 : tszOf Try.prog 214 = some (1, false) := by kernel_rfl
@[go_sem] theorem Try.udef214 : (Try.prog.underlying 214).isSome = true := by kernel_rfl
@[go_sem] theorem Try.zero214 : zeroOf Try.prog 214 = some [.lit ((Go.Value.nilFunc))] := by kernel_rfl
@[go_sem] theorem Try.tsz215 : tszOf Try.prog 215 = some (1, false) := by kernel_rfl
@[go_sem] theorem Try.udef215 : (Try.prog.underlying 215).isSome = true := by kernel_rfl
@[go_sem] theorem Try.zero215 : zeroOf Try.prog 215 = some [.lit ((Go.Value.nilFunc))] := by kernel_rfl
@[go_sem] theorem Try.tsz216 : tszOf Try.prog 216 = some (1, false) := by kernel_rfl
@[go_sem] theorem Try.udef216 : (Try.prog.underlying 216).isSome = true := by kernel_rfl
@[go_sem] theorem Try.zero216 : zeroOf Try.prog 216 = some [.lit ((Go.Value.nilFunc))] := by kernel_rfl
@[go_sem] theorem Try.tsz217 : tszOf Try.prog 217 = some (1, false) := by kernel_rfl
@[go_sem] theorem Try.udef217 : (Try.prog.underlying 217).isSome = true := by kernel_rfl
@[go_sem] theorem Try.zero217 : zeroOf Try.prog 217 = some [.lit ((Go.Value.nilFunc))] := by kernel_rfl
@[go_sem] theorem Try.tsz218 : tszOf Try.prog 218 = some (1, false) := by kernel_rfl
@[go_sem] theorem Try.udef218 : (Try.prog.underlying 218).isSome = true := by kernel_rfl
@[go_sem] theorem Try.zero218 : zeroOf Try.prog 218 = some [.lit ((Go.Value.nilFunc))] := by kernel_rfl
@[go_sem] theorem Try.tsz219 : tszOf Try.prog 219 = some (1, false) := by kernel_rfl
@[go_sem] theorem Try.udef219 : (Try.prog.underlying 219).isSome = true := by kernel_rfl
@[go_sem] theorem Try.zero219 : zeroOf Try.prog 219 = some [.int .u64 0] := by kernel_rfl
@[go_sem] theorem Try.isInt219 : isIntT Try.prog 219 = some .u64 := by kernel_rfl
@[go_sem] theorem Try.tsz220 : tszOf Try.prog 220 = some (1, false) := by kernel_rfl
@[go_sem] theorem Try.udef220 : (Try.prog.underlying 220).isSome = true := by kernel_rfl
@[go_sem] theorem Try.zero220 : zeroOf Try.prog 220 = some [.lit ((Go.Value.nilFunc))] := by kernel_rfl
@[go_sem] theorem Try.tsz221 : tszOf Try.prog 221 = some (1, false) := by kernel_rfl
@[go_sem] theorem Try.udef221 : (Try.prog.underlying 221).isSome = true := by kernel_rfl
@[go_sem] theorem Try.zero221 : zeroOf Try.prog 221 = some [.lit ((Go.Value.nilFunc))] := by kernel_rfl
@[go_sem] theorem Try.tsz222 : tszOf Try.prog 222 = some (1, false) := by kernel_rfl
@[go_sem] theorem Try.udef222 : (Try.prog.underlying 222).isSome = true := by kernel_rfl
@[go_sem] theorem Try.zero222 : zeroOf Try.prog 222 = some [.lit ((Go.Value.nilFunc))] := by kernel_rfl
@[go_sem] theorem Try.tsz223 : tszOf Try.prog 223 = some (1, false) := by kernel_rfl
@[go_sem] theorem Try.udef223 : (Try.prog.underlying 223).isSome = true := by kernel_rfl
@[go_sem] theorem Try.zero223 : zeroOf Try.prog 223 = some [.lit ((Go.Value.pointer none))] := by kernel_rfl
@[go_sem] theorem Try.tsz224 : tszOf Try.prog 224 = some (1, false) := by kernel_rfl
@[go_sem] theorem Try.udef224 : (Try.prog.underlying 224).isSome = true := by kernel_rfl
@[go_sem] theorem Try.zero224 : zeroOf Try.prog 224 = some [.lit ((Go.Value.nilFunc))] := by kernel_rfl
@[go_sem] theorem Try.tsz225 : tszOf Try.prog 225 = some (1, false) := by kernel_rfl
@[go_sem] theorem Try.udef225 : (Try.prog.underlying 225).isSome = true := by kernel_rfl
@[go_sem] theorem Try.zero225 : zeroOf Try.prog 225 = some [.lit ((Go.Value.nilFunc))] := by kernel_rfl
@[go_sem] theorem Try.tsz226 : tszOf Try.prog 226 = some (1, false) := by kernel_rfl
@[go_sem] theorem Try.udef226 : (Try.prog.underlying 226).isSome = true := by kernel_rfl
@[go_sem] theorem Try.zero226 : zeroOf Try.prog 226 = some [.lit ((Go.Value.nilFunc))] := by kernel_rfl
@[go_sem] theorem Try.tsz227 : tszOf Try.prog 227 = some (1, false) := by kernel_rfl
@[go_sem] theorem Try.udef227 : (Try.prog.underlying 227).isSome = true := by kernel_rfl
@[go_sem] theorem Try.zero227 : zeroOf Try.prog 227 = some [.lit ((Go.Value.pointer none))] := by kernel_rfl
@[go_sem] theorem Try.tsz228 : tszOf Try.prog 228 = some (1, false) := by kernel_rfl
@[go_sem] theorem Try.udef228 : (Try.prog.underlying 228).isSome = true := by kernel_rfl
@[go_sem] theorem Try.zero228 : zeroOf Try.prog 228 = some [.lit ((Go.Value.nilFunc))] := by kernel_rfl
@[go_sem] theorem Try.tsz229 : tszOf Try.prog 229 = some (1, false) := by kernel_rfl
@[go_sem] theorem Try.udef229 : (Try.prog.underlying 229).isSome = true := by kernel_rfl
@[go_sem] theorem Try.zero229 : zeroOf Try.prog 229 = some [.lit ((Go.Value.nilFunc))] := by kernel_rfl
@[go_sem] theorem Try.tsz230 : tszOf Try.prog 230 = some (1, false) := by kernel_rfl
@[go_sem] theorem Try.udef230 : (Try.prog.underlying 230).isSome = true := by kernel_rfl
@[go_sem] theorem Try.zero230 : zeroOf Try.prog 230 = some [.lit ((Go.Value.nilFunc))] := by kernel_rfl
@[go_sem] theorem Try.tsz231 : tszOf Try.prog 231 = some (4, true) := by kernel_rfl
@[go_sem] theorem Try.udef231 : (Try.prog.underlying 231).isSome = true := by kernel_rfl
@[go_sem] theorem Try.zero231 : zeroOf Try.prog 231 = some [.lit ((Go.Value.pointer none)), .lit ((Go.Value.pointer none)), .lit ((Go.Value.pointer none)), .str ByteArray.empty] := by kernel_rfl
@[go_sem] theorem Try.pl231 : plOf Try.prog 231 = some [(0, 1), (1, 1), (2, 1), (3, 1)] := by kernel_rfl
@[go_sem] theorem Try.tsz232 : tszOf Try.prog 232 = some (4, true) := by kernel_rfl
@[go_sem] theorem Try.udef232 : (Try.prog.underlying 232).isSome = true := by kernel_rfl
@[go_sem] theorem Try.zero232 : zeroOf Try.prog 232 = some [.lit ((Go.Value.pointer none)), .lit ((Go.Value.pointer none)), .lit ((Go.Value.pointer none)), .str ByteArray.empty] := by kernel_rfl
@[go_sem] theorem Try.pl232 : plOf Try.prog 232 = some [(0, 1), (1, 1), (2, 1), (3, 1)] := by kernel_rfl
@[go_sem] theorem Try.tsz233 : tszOf Try.prog 233 = some (0, true) := by kernel_rfl
@[go_sem] theorem Try.udef233 : (Try.prog.underlying 233).isSome = true := by kernel_rfl
@[go_sem] theorem Try.zero233 : zeroOf Try.prog 233 = some [] := by kernel_rfl
@[go_sem] theorem Try.ar233 : arOf Try.prog 233 = some (0, 1, false) := by kernel_rfl
@[go_sem] theorem Try.pl233 : plOf Try.prog 233 = some [] := by kernel_rfl
@[go_sem] theorem Try.tsz234 : tszOf Try.prog 234 = some (0, true) := by kernel_rfl
@[go_sem] theorem Try.udef234 : (Try.prog.underlying 234).isSome = true := by kernel_rfl
@[go_sem] theorem Try.zero234 : zeroOf Try.prog 234 = some [] := by kernel_rfl
@[go_sem] theorem Try.pl234 : plOf Try.prog 234 = some [(0, 0)] := by kernel_rfl
@[go_sem] theorem Try.tsz235 : tszOf Try.prog 235 = some (0, true) := by kernel_rfl
@[go_sem] theorem Try.udef235 : (Try.prog.underlying 235).isSome = true := by kernel_rfl
@[go_sem] theorem Try.zero235 : zeroOf Try.prog 235 = some [] := by kernel_rfl
@[go_sem] theorem Try.pl235 : plOf Try.prog 235 = some [(0, 0)] := by kernel_rfl
@[go_sem] theorem Try.tsz236 : tszOf Try.prog 236 = some (1, false) := by kernel_rfl
@[go_sem] theorem Try.udef236 : (Try.prog.underlying 236).isSome = true := by kernel_rfl
@[go_sem] theorem Try.zero236 : zeroOf Try.prog 236 = some [.int .u8 0] := by kernel_rfl
@[go_sem] theorem Try.isInt236 : isIntT Try.prog 236 = some .u8 := by kernel_rfl
@[go_sem] theorem Try.tsz237 : tszOf Try.prog 237 = some (1, false) := by kernel_rfl
@[go_sem] theorem Try.udef237 : (Try.prog.underlying 237).isSome = true := by kernel_rfl
@[go_sem] theorem Try.zero237 : zeroOf Try.prog 237 = some [.int .u8 0] := by kernel_rfl
@[go_sem] theorem Try.isInt237 : isIntT Try.prog 237 = some .u8 := by kernel_rfl
@[go_sem] theorem Try.tsz238 : tszOf Try.prog 238 = some (1, false) := by kernel_rfl
@[go_sem] theorem Try.udef238 : (Try.prog.underlying 238).isSome = true := by kernel_rfl
@[go_sem] theorem Try.zero238 : zeroOf Try.prog 238 = some [.lit ((Go.Value.nilFunc))] := by kernel_rfl
@[go_sem] theorem Try.tsz239 : tszOf Try.prog 239 = some (1, false) := by kernel_rfl
@[go_sem] theorem Try.udef239 : (Try.prog.underlying 239).isSome = true := by kernel_rfl
@[go_sem] theorem Try.zero239 : zeroOf Try.prog 239 = some [.lit ((Go.Value.pointer none))] := by kernel_rfl
@[go_sem] theorem Try.tsz240 : tszOf Try.prog 240 = some (1, false) := by kernel_rfl
@[go_sem] theorem Try.udef240 : (Try.prog.underlying 240).isSome = true := by kernel_rfl
@[go_sem] theorem Try.zero240 : zeroOf Try.prog 240 = some [.int .i32 0] := by kernel_rfl
@[go_sem] theorem Try.isInt240 : isIntT Try.prog 240 = some .i32 := by kernel_rfl
@[go_sem] theorem Try.tsz241 : tszOf Try.prog 241 = some (1, false) := by kernel_rfl
@[go_sem] theorem Try.udef241 : (Try.prog.underlying 241).isSome = true := by kernel_rfl
@[go_sem] theorem Try.zero241 : zeroOf Try.prog 241 = some [.int .i32 0] := by kernel_rfl
@[go_sem] theorem Try.isInt241 : isIntT Try.prog 241 = some .i32 := by kernel_rfl
@[go_sem] theorem Try.tsz242 : tszOf Try.prog 242 = some (11, true) := by kernel_rfl
@[go_sem] theorem Try.udef242 : (Try.prog.underlying 242).isSome = true := by kernel_rfl
@[go_sem] theorem Try.zero242 : zeroOf Try.prog 242 = some [.int .u64 0, .int .u64 0, .int .u32 0, .int .u8 0, .int .u8 0, .int .u8 0, .int .u8 0, .lit ((Go.Value.nilFunc)), .lit ((Go.Value.pointer none)), .int .i32 0, .int .i32 0] := by kernel_rfl
@[go_sem] theorem Try.pl242 : plOf Try.prog 242 = some [(0, 1), (1, 1), (2, 1), (3, 1), (4, 1), (5, 1), (6, 1), (7, 1), (8, 1), (9, 1), (10, 1)] := by kernel_rfl
@[go_sem] theorem Try.tsz243 : tszOf Try.prog 243 = some (11, true) := by kernel_rfl
@[go_sem] theorem Try.udef243 : (Try.prog.underlying 243).isSome = true := by kernel_rfl
@[go_sem] theorem Try.zero243 : zeroOf Try.prog 243 = some [.int .u64 0, .int .u64 0, .int .u32 0, .int .u8 0, .int .u8 0, .int .u8 0, .int .u8 0, .lit ((Go.Value.nilFunc)), .lit ((Go.Value.pointer none)), .int .i32 0, .int .i32 0] := by kernel_rfl
@[go_sem] theorem Try.pl243 : plOf Try.prog 243 = some [(0, 1), (1, 1), (2, 1), (3, 1), (4, 1), (5, 1), (6, 1), (7, 1), (8, 1), (9, 1), (10, 1)] := by kernel_rfl
@[go_sem] theorem Try.tsz244 : tszOf Try.prog 244 = some (1, false) := by kernel_rfl
@[go_sem] theorem Try.udef244 : (Try.prog.underlying 244).isSome = true := by kernel_rfl
@[go_sem] theorem Try.zero244 : zeroOf Try.prog 244 = some [.lit ((Go.Value.pointer none))] := by kernel_rfl
@[go_sem] theorem Try.isPt3 : isPt Try.prog 3 = false := by kernel_rfl
@[go_sem] theorem Try.isPt22 : isPt Try.prog 22 = false := by kernel_rfl
@[go_sem] theorem Try.isPt24 : isPt Try.prog 24 = false := by kernel_rfl
@[go_sem] theorem Try.isPt27 : isPt Try.prog 27 = false := by kernel_rfl
@[go_sem] theorem Try.isPt34 : isPt Try.prog 34 = false := by kernel_rfl
@[go_sem] theorem Try.isPt36 : isPt Try.prog 36 = false := by kernel_rfl
@[go_sem] theorem Try.isPt37 : isPt Try.prog 37 = false := by kernel_rfl
@[go_sem] theorem Try.isPt39 : isPt Try.prog 39 = false := by kernel_rfl
@[go_sem] theorem Try.isPt49 : isPt Try.prog 49 = false := by kernel_rfl
@[go_sem] theorem Try.isPt55 : isPt Try.prog 55 = false := by kernel_rfl
@[go_sem] theorem Try.isPt58 : isPt Try.prog 58 = false := by kernel_rfl
@[go_sem] theorem Try.isPt65 : isPt Try.prog 65 = false := by kernel_rfl
@[go_sem] theorem Try.isPt82 : isPt Try.prog 82 = false := by kernel_rfl
@[go_sem] theorem Try.isPt84 : isPt Try.prog 84 = false := by kernel_rfl
@[go_sem] theorem Try.isPt86 : isPt Try.prog 86 = false := by kernel_rfl
@[go_sem] theorem Try.isPt97 : isPt Try.prog 97 = false := by kernel_rfl
@[go_sem] theorem Try.isPt108 : isPt Try.prog 108 = false := by kernel_rfl
@[go_sem] theorem Try.isPt110 : isPt Try.prog 110 = false := by kernel_rfl
@[go_sem] theorem Try.isPt113 : isPt Try.prog 113 = true := by kernel_rfl
@[go_sem] theorem Try.isPt114 : isPt Try.prog 114 = false := by kernel_rfl
@[go_sem] theorem Try.isPt125 : isPt Try.prog 125 = false := by kernel_rfl
@[go_sem] theorem Try.isPt188 : isPt Try.prog 188 = false := by kernel_rfl
@[go_sem] theorem Try.isPt211 : isPt Try.prog 211 = false := by kernel_rfl
@[go_sem] theorem Try.isPt213 : isPt Try.prog 213 = true := by kernel_rfl
@[go_sem] theorem Try.isPt219 : isPt Try.prog 219 = false := by kernel_rfl
theorem Try.okF5 : okF Try.prog 5 = true := by kernel_rfl
theorem Try.okF30 : okF Try.prog 30 = true := by kernel_rfl
theorem Try.okF31 : okF Try.prog 31 = true := by kernel_rfl
theorem Try.okF32 : okF Try.prog 32 = true := by kernel_rfl
theorem Try.okF33 : okF Try.prog 33 = true := by kernel_rfl
theorem Try.okF34 : okF Try.prog 34 = true := by kernel_rfl
theorem Try.okF35 : okF Try.prog 35 = true := by kernel_rfl
theorem Try.okF36 : okF Try.prog 36 = true := by kernel_rfl
theorem Try.okF37 : okF Try.prog 37 = true := by kernel_rfl
theorem Try.okF38 : okF Try.prog 38 = true := by kernel_rfl
theorem Try.okF39 : okF Try.prog 39 = true := by kernel_rfl
theorem Try.okF40 : okF Try.prog 40 = true := by kernel_rfl
theorem Try.okF41 : okF Try.prog 41 = true := by kernel_rfl
theorem Try.okF42 : okF Try.prog 42 = true := by kernel_rfl
theorem Try.okF43 : okF Try.prog 43 = true := by kernel_rfl
theorem Try.okF44 : okF Try.prog 44 = true := by kernel_rfl
theorem Try.okF45 : okF Try.prog 45 = true := by kernel_rfl
theorem Try.okF64 : okF Try.prog 64 = true := by kernel_rfl
theorem Try.okF67 : okF Try.prog 67 = true := by kernel_rfl
theorem Try.okF85 : okF Try.prog 85 = true := by kernel_rfl
theorem Try.okF90 : okF Try.prog 90 = true := by kernel_rfl
theorem Try.okF91 : okF Try.prog 91 = true := by kernel_rfl
theorem Try.okF95 : okF Try.prog 95 = true := by kernel_rfl
theorem Try.okF96 : okF Try.prog 96 = true := by kernel_rfl
theorem Try.okF97 : okF Try.prog 97 = true := by kernel_rfl
theorem Try.okF98 : okF Try.prog 98 = true := by kernel_rfl
theorem Try.okF99 : okF Try.prog 99 = true := by kernel_rfl
theorem Try.okF100 : okF Try.prog 100 = true := by kernel_rfl
theorem Try.okF101 : okF Try.prog 101 = true := by kernel_rfl
theorem Try.okF102 : okF Try.prog 102 = true := by kernel_rfl
theorem Try.okF103 : okF Try.prog 103 = true := by kernel_rfl
theorem Try.okF104 : okF Try.prog 104 = true := by kernel_rfl
theorem Try.okF105 : okF Try.prog 105 = true := by kernel_rfl
theorem Try.okF106 : okF Try.prog 106 = true := by kernel_rfl
theorem Try.okF107 : okF Try.prog 107 = true := by kernel_rfl
theorem Try.okF108 : okF Try.prog 108 = true := by kernel_rfl
theorem Try.okF109 : okF Try.prog 109 = true := by kernel_rfl
theorem Try.okF110 : okF Try.prog 110 = true := by kernel_rfl
theorem Try.okF111 : okF Try.prog 111 = true := by kernel_rfl
theorem Try.okF112 : okF Try.prog 112 = true := by kernel_rfl
theorem Try.okF113 : okF Try.prog 113 = true := by kernel_rfl
theorem Try.okF114 : okF Try.prog 114 = true := by kernel_rfl
theorem Try.okF115 : okF Try.prog 115 = true := by kernel_rfl
theorem Try.okF116 : okF Try.prog 116 = true := by kernel_rfl
theorem Try.okF117 : okF Try.prog 117 = true := by kernel_rfl
theorem Try.okF118 : okF Try.prog 118 = true := by kernel_rfl
theorem Try.okF119 : okF Try.prog 119 = true := by kernel_rfl
theorem Try.okF120 : okF Try.prog 120 = true := by kernel_rfl
theorem Try.okF143 : okF Try.prog 143 = true := by kernel_rfl
theorem Try.okF158 : okF Try.prog 158 = true := by kernel_rfl
theorem Try.okF161 : okF Try.prog 161 = true := by kernel_rfl
theorem Try.okF162 : okF Try.prog 162 = true := by kernel_rfl
theorem Try.okF163 : okF Try.prog 163 = true := by kernel_rfl
theorem Try.okF164 : okF Try.prog 164 = true := by kernel_rfl
theorem Try.okF165 : okF Try.prog 165 = true := by kernel_rfl
theorem Try.okF166 : okF Try.prog 166 = true := by kernel_rfl
theorem Try.okF167 : okF Try.prog 167 = true := by kernel_rfl
theorem Try.okF168 : okF Try.prog 168 = true := by kernel_rfl
theorem Try.okF169 : okF Try.prog 169 = true := by kernel_rfl
theorem Try.okF170 : okF Try.prog 170 = true := by kernel_rfl
theorem Try.okF189 : okF Try.prog 189 = true := by kernel_rfl
end Go.Proofs
end
section
set_option linter.unusedSimpArgs false
set_option linter.unusedVariables false
namespace Go.Lv

/-- The cells of a list, one element behind the other. -/
def rows {α : Type} (cs : α → List V) (L : List α) : List V := L.flatMap cs

section
variable {α : Type} {cs : α → List V} {w : Nat}

theorem rows_len (h : ∀ a, (cs a).length = w) (L : List α) : (rows cs L).length = L.length * w := by
  induction L with
  | nil => simp [rows]
  | cons a L ih => simp [rows, h] at ih ⊢; rw [ih, Nat.succ_mul, Nat.add_comm]

theorem rowsOf_append (L K : List α) : rows cs (L ++ K) = rows cs L ++ rows cs K := by simp [rows]
theorem rows_nil : rows cs ([] : List α) = [] := rfl
theorem rows_cons (a : α) (L : List α) : rows cs (a :: L) = cs a ++ rows cs L := by simp [rows]
theorem rows_one (a : α) : rows cs [a] = cs a := by simp [rows]

theorem rows_drop (h : ∀ a, (cs a).length = w) (L : List α) (i : Nat) : (rows cs L).drop (i * w) = rows cs (L.drop i) := by
  induction i generalizing L with
  | zero => simp
  | succ i ih =>
    cases L with
    | nil => simp [rows]
    | cons a L =>
      rw [rows_cons, Nat.succ_mul, Nat.add_comm, ← List.drop_drop, List.drop_append, h a, Nat.sub_self, List.drop_zero]
      rw [show (cs a).drop w = [] by simp [h]]
      simpa using ih L

theorem rows_take (h : ∀ a, (cs a).length = w) (L : List α) (i : Nat) : (rows cs L).take (i * w) = rows cs (L.take i) := by
  induction i generalizing L with
  | zero => simp [rows]
  | succ i ih =>
    cases L with
    | nil => simp [rows]
    | cons a L =>
      rw [rows_cons, List.take_succ_cons, rows_cons, Nat.succ_mul, Nat.add_comm, List.take_append, h a, Nat.add_sub_cancel_left, ih]
      rw [List.take_of_length_le (by simp [h])]

theorem rows_at (h : ∀ a, (cs a).length = w) {L : List α} {i : Nat} (hi : i < L.length) : ((rows cs L).drop (i * w)).take w = cs L[i] := by
  rw [rows_drop h, List.drop_eq_getElem_cons hi, rows_cons, List.take_append, h, Nat.sub_self, List.take_zero, List.append_nil, List.take_of_length_le (by simp [h])]

theorem rows_all {p : V → Bool} (h : ∀ a, (cs a).all p = true) (L : List α) : (rows cs L).all p = true := by
  induction L with
  | nil => rfl
  | cons a L ih => rw [rows_cons, List.all_append, h a, ih]; rfl

theorem map_ren (f : Nat → R) {d : Nat} {l : List V} (h : l.all (noOwn d) = true) : l.map (ren f d) = l := by
  rw [List.map_congr_left (g := id) (fun x hx => ren_noOwn f d x (List.all_eq_true.1 h x hx)), List.map_id]

theorem wrap_i64 {n : Int} (h0 : -9223372036854775808 ≤ n) (h1 : n ≤ 9223372036854775807) : IntKind.i64.wrap n = n := by
  rw [IntKind.wrap_i64]; omega

/-- What an argument's values keep to. -/
def i64R (z : Int) : Prop := -9223372036854775808 ≤ z ∧ z ≤ 9223372036854775807
def lstR (ok : α → Prop) (L : List α) : Prop := L.length ≤ 9223372036854775807 ∧ ∀ x ∈ L, ok x

/-- An encoder whose elements are rows of plain cells. -/
class FlatP (cs : α → List V) (w : outParam Nat) : Prop where
  len : ∀ a, (cs a).length = w
  plain : ∀ a d, (cs a).all (noOwn d) = true
  cell : ∀ a, (cs a).all isCell = true
  noro : ∀ a, (cs a).all (noRoB 0) = true

theorem rows_length [FlatP cs w] (L : List α) : (rows cs L).length = L.length * w := rows_len FlatP.len L
theorem map_ren_rows [FlatP cs w] (f : Nat → R) (d : Nat) (L : List α) : (rows cs L).map (ren f d) = rows cs L := map_ren f (rows_all (fun a => FlatP.plain a d) L)
theorem rows_cell [FlatP cs w] (L : List α) : (rows cs L).all isCell = true := rows_all FlatP.cell L
theorem rows_noRo [FlatP cs w] (L : List α) : (rows cs L).all (noRoB 0) = true := rows_all FlatP.noro L
theorem rows_noOwn [FlatP cs w] (L : List α) (d : Nat) : (rows cs L).all (noOwn d) = true := rows_all (fun a => FlatP.plain a d) L
theorem rows_refV [FlatP cs w] (p : Nat → Bool) (L : List α) (d : Nat) : (rows cs L).all (refV p d) = true := List.all_eq_true.2 fun x hx => refV_noOwn p d x (List.all_eq_true.1 (rows_noOwn (cs := cs) L d) x hx)
theorem noRoH_rows [FlatP cs w] (L : List α) : NoRoH [some (rows cs L)] := NoRoH.of (by simp only [hpNoRo, List.all_cons, List.all_nil, rows_noRo, Bool.and_self])
theorem take_rows [FlatP cs w] (L : List α) : (rows cs L).take (L.length * w) = rows cs L := List.take_of_length_le (by rw [rows_length]; exact Nat.le_refl _)

/-- A block of our own handed to a callee that only reads. -/
theorem le_snap [FlatP cs w] {h : Hp} {id : Nat} {L : List α} (hid : h[id]? = some (some (rows cs L))) : LeV (ren (snapR h 3) 3 (.osl id 0 L.length w)) (.sl L.length w (rows cs L)) := by
  refine .inl ?_
  simp only [ren, snapR, hid, map_ren_rows, List.drop_zero, take_rows]
theorem le_snap' [FlatP cs w] {h : Hp} {id n : Nat} {L : List α} (hid : h[id]? = some (some (rows cs L))) (hn : n = L.length) : LeV (ren (snapR h 3) 3 (.osl id 0 n w)) (.sl L.length w (rows cs L)) := by
  subst hn; exact le_snap hid
theorem le_nil {h : Hp} {w : Nat} : LeV (ren (snapR h 3) 3 .nilsl) (.sl 0 w []) := .inr (.inr (.inl ⟨rfl, w, rfl⟩))
theorem LeV.aggR {f : Nat → R} {d : Nat} {cs cs' : List V} (h : LeA (cs.map (ren f d)) cs') : LeV (ren f (d + 1) (.agg cs)) (.agg cs') := LeV.agg h
theorem leE_snap [FlatP cs w] {h : Hp} {id n n' : Nat} {L : List α} (hid : h[id]? = some (some (rows cs L))) (hn : n = L.length) (hn' : n' = L.length) : LeE (ren (snapR h 3) 2 (.osl id 0 n w)) (.sl n' w (rows cs L)) := by
  subst hn hn'
  refine .inl ?_
  simp only [ren, snapR, hid, map_ren_rows, List.drop_zero, take_rows]
theorem lend_one [FlatP cs w] {h : Hp} {id : Nat} {fz : Bool} {L : List α} (hid : h[id]? = some (some (rows cs L))) : pickH [id] h fz = [some (rows cs L)] := by
  simp only [pickH, List.map_cons, List.map_nil, pickB, hid, map_ren_rows]
theorem isMb_cells {l : List V} (h : l.all isCell = true) : isMb l = false := by
  match l, h with
  | [], _ => rfl
  | _ :: _ :: _, _ => rfl
  | [x], h => cases x <;> first | rfl | (simp [isCell] at h)
theorem isMb_rows [FlatP cs w] (L : List α) : isMb (rows cs L) = false := isMb_cells (rows_cell L)
theorem grown_one [FlatP cs w] {L L' : List α} (h : L.length = L'.length) : grown [some (rows cs L)] [some (rows cs L')] := by
  simp [grown, rows_length, h, isMb_rows]

/-- What a function hands back that gives a list or says no: with an empty list, or with nil. -/
def optO (w : Nat) (R : Option (List α)) : V := match R with
  | some M => .tup [.osl 0 0 M.length w, .bool true]
  | none => .tup [.osl 0 0 0 w, .bool false]
def optOh (cs : α → List V) (R : Option (List α)) : Hp := match R with
  | some M => [some (rows cs M)]
  | none => [some []]
def optN (w : Nat) (R : Option (List α)) : V := match R with
  | some M => .tup [.osl 0 0 M.length w, .bool true]
  | none => .tup [.nilsl, .bool false]
def optNh (cs : α → List V) (R : Option (List α)) : Hp := match R with
  | some M => [some (rows cs M)]
  | none => []
theorem rows_snoc (L : List α) (a : α) : rows cs L ++ cs a = rows cs (L ++ [a]) := by rw [rowsOf_append, rows_one]

theorem LeL_same {f : V → V} : ∀ {l : List V}, l.map f = l → LeL (l.map f) l
  | [], _ => trivial
  | a :: l, h => by
    simp only [List.map_cons, List.cons.injEq] at h
    exact ⟨.inl h.1.symm, LeL_same h.2⟩

/-- A map that is a set of integers. -/
def intSet (ks : List Int) : List (Value × Value) := ks.map fun k => (.int .i64 k, .bool true)
theorem intSet_has {k : Int} : ∀ {ks : List Int} (i : Nat), k ∈ ks → ∃ j, mpFind (.int .i64) (.int .i64 k) (intSet ks) i = some (some (j, .bool true))
  | x :: ks, i, h => by
    by_cases e : k = x
    · subst e
      exact ⟨i, by simp [intSet, mpFind, Instr.sameNow]⟩
    · obtain ⟨j, hj⟩ := intSet_has (i + 1) ((List.mem_cons.1 h).resolve_left e)
      have e' : (k == x) = false := by simp [e]
      exact ⟨j, by simpa [intSet, mpFind, Instr.sameNow, e'] using hj⟩
theorem intSet_not {k : Int} : ∀ {ks : List Int} (i : Nat), k ∉ ks → mpFind (.int .i64) (.int .i64 k) (intSet ks) i = some none
  | [], i, _ => rfl
  | x :: ks, i, h => by
    simp at h
    have := intSet_not (i + 1) h.2
    have e' : (k == x) = false := by simp [h.1]
    simpa [intSet, mpFind, Instr.sameNow, e'] using this
theorem intSet_put {k : Int} {ks : List Int} : mpPut (.int .i64 k) (.bool true) none (intSet ks) = intSet (ks ++ [k]) := by simp [mpPut, intSet]

theorem splice_mid {A M ns : List V} {n j : Nat} (h : A.length = n) : splice (A ++ M) (n + j) ns = A ++ splice M j ns := by
  subst h
  unfold splice
  rw [List.take_append, List.drop_append, List.take_of_length_le (by omega), List.drop_of_length_le (by omega)]
  simp only [Nat.add_sub_cancel_left, List.nil_append, List.append_assoc]
  congr 3
  congr 1
  omega
theorem splice_mid0 {A M ns : List V} {n : Nat} (h : A.length = n) : splice (A ++ M) n ns = A ++ splice M 0 ns := by
  have := splice_mid (M := M) (ns := ns) (j := 0) h
  rwa [Nat.add_zero] at this

theorem rows_drop_at (h : ∀ a, (cs a).length = w) {L : List α} {i : Nat} (hi : i < L.length) (j : Nat) : (rows cs L).drop (i * w + j) = (cs L[i] ++ rows cs (L.drop (i + 1))).drop j := by
  rw [← List.drop_drop, rows_drop h, List.drop_eq_getElem_cons hi, rows_cons]
/-- A list taken apart at an index. -/
theorem apart {L : List α} {i : Nat} (hi : i < L.length) : ∃ A B, L = A ++ L[i] :: B ∧ A.length = i ∧ A = L.take i ∧ B = L.drop (i + 1) := by
  refine ⟨L.take i, L.drop (i + 1), ?_, by simp; omega, rfl, rfl⟩
  rw [← List.drop_eq_getElem_cons hi, List.take_append_drop]

/-- What a list's element at an index must fulfil: it is valid, and its key is above the key ahead of it. -/
def listedQ (p : α → Bool) (k : α → Int) (L : List α) (i : Nat) : Bool :=
  match L[i]? with
  | none => true
  | some x => p x && match i with
    | 0 => true
    | j + 1 => match L[j]? with
      | none => true
      | some y => decide (k y < k x)

def listedB (p : α → Bool) (k : α → Int) (m : Nat) (L : List α) : Bool := (List.range L.length).all (listedQ p k L) && decide (L.length ≤ m)

theorem range_all_false {q : Nat → Bool} {n i : Nat} (hi : i < n) (h : q i = false) : (List.range n).all q = false := by
  rw [List.all_eq_false]
  exact ⟨i, by simpa using hi, by simp [h]⟩
theorem range_all_succ {q : Nat → Bool} {i : Nat} (h : (List.range i).all q = true) (h1 : q i = true) : (List.range (i + 1)).all q = true := by
  rw [List.range_succ, List.all_append, h]
  simp [h1]
theorem listedB_false {p : α → Bool} {k : α → Int} {m : Nat} {L : List α} {i : Nat} (hi : i < L.length) (h : listedQ p k L i = false) : listedB p k m L = false := by
  rw [listedB, range_all_false hi h]
  rfl
theorem listedQ_zero {p : α → Bool} {k : α → Int} {L : List α} (h0 : 0 < L.length) : listedQ p k L 0 = p L[0] := by simp [listedQ, h0]
theorem listedQ_succ {p : α → Bool} {k : α → Int} {L : List α} {j : Nat} (h : j + 1 < L.length) : listedQ p k L (j + 1) = (p L[j + 1] && decide (k (L[j]'(by omega)) < k L[j + 1])) := by
  have : j < L.length := by omega
  simp [listedQ, h, this]
end

/-- What a call's arguments may be, proved by what they look like. -/
theorem leA {x y : V} (h : LeV x y := by first | exact le_snap rfl | exact .inl rfl | exact le_nil | exact le_snap' rfl (by simp) | exact LeV.aggR (by first | ((repeat' (first | exact True.intro | exact leE_snap rfl (by simp) (by simp) | exact LeE.nil | exact LeE.refl _ | refine And.intro ?_ ?_)); done) | fail)) : LeV x y := h
theorem callT.at {P : Program} {h : Hp} {g : FuncId} {a c args : List V} {K : V → Hp → Prop} {x : Tag K} {as' : List V} {r : V} {hout : Hp} (hs : Ctr P g as' [] r hout) (hle : LeL ((a ++ args ++ c).map (ren (snapR h 3) 3)) as') (hk : K r hout)
    (hro : (a ++ args ++ c).all (noOwn 3) = true ∨ NoRo r ∧ NoRoH hout := by first | exact .inl rfl | exact .inr ⟨noRo_ok 3 rfl, by first | exact NoRoH.nil | exact noRoH_rows _ | exact NoRoH.of (by simp only [hpNoRo, List.all_cons, List.all_nil, rows_noRo, Bool.and_self])⟩)
    (hrf : refOk h 4 (.fn (.func g) a c) = true ∧ args.all (refOk h 3) = true := by first | exact ⟨rfl, rfl⟩ | exact ⟨rfl, by simp [refOk, refV, refB, noOwn, rows_noOwn, rows_refV]⟩ | simp [refOk, refV, refB, noOwn, rows_noOwn, rows_refV]) : callT P h (.fn (.func g) a c) args K x :=
  callT.intro hs hle hro hrf hk
theorem callS.at {P : Program} {t : List V} {h : Hp} {k : Nat} {dst : Option Tmp} {g : FuncId} {a c args : List V} {K : St → Prop} {x : Tag K} {as' : List V} {r : V} {hout : Hp} (hs : Ctr P g as' [] r hout)
    (hle : LeL ((a ++ args ++ c).map (ren (snapR h 3) 3)) as') (hk : K (afterCall ⟨t, h, k⟩ dst r hout))
    (hro : (a ++ args ++ c).all (noOwn 3) = true ∨ NoRo r ∧ NoRoH hout := by first | exact .inl rfl | exact .inr ⟨noRo_ok 3 rfl, by first | exact NoRoH.nil | exact noRoH_rows _ | exact NoRoH.of (by simp only [hpNoRo, List.all_cons, List.all_nil, rows_noRo, Bool.and_self])⟩) : callS P ⟨t, h, k⟩ dst (.fn (.func g) a c) args K x :=
  callS.intro hs hle hro hk
theorem lendA {sel : List Nat} {h hin : Hp} {fz : Bool} (hh : pickH sel h fz = hin := by first | exact lend_one rfl | rfl | (simp only [pickH, List.map_cons, List.map_nil, pickB, List.getElem?_cons_zero, List.getElem?_cons_succ, map_ren_rows]; done)) : pickH sel h fz = hin := hh
theorem leO {x y : V} (h : LeV x y := by first | exact .inl rfl | exact LeV.aggR (by first | ((repeat' (first | exact True.intro | exact LeE.nil | exact LeE.refl _ | refine And.intro ?_ ?_)); done) | fail)) : LeV x y := h
/-- A side condition. -/
theorem sideA {a b : Prop} (hb : b) (ha : a := by first | omega | with_reducible rfl | (show drawOk _ = true; kernel_rfl) | (simp only [rows_length, rows_cell, List.length_append, List.length_cons, List.length_nil, List.all_append, List.all_cons, List.all_nil, isCell, Nat.mul_one, Nat.one_mul, Bool.and_self]; first | done | omega)) : a ∧ b := ⟨ha, hb⟩
attribute [go_sem] Nat.le_refl Int.toNat_natCast beq_self_eq_true bne_self_eq_false decide_true decide_false eq_self ne_eq Option.some.injEq not_false_eq_true Option.map_some map_ren_rows
end Go.Lv
end
section
set_option linter.unusedSimpArgs false
set_option linter.unusedVariables false
set_option maxRecDepth 100000
namespace Go.Proofs
open Go.Lv
def inB' (n a b : Int) : Bool := decide (a ≤ n) && decide (n ≤ b)
theorem inB'_iff {n a b : Int} : inB' n a b = true ↔ a ≤ n ∧ n ≤ b := by simp [inB']
theorem in_ok (n a b : Int) : Ctr Try.prog 67 [.int .i64 n, .int .i64 a, .int .i64 b] [] (.bool (inB' n a b)) [] := by
  refine Ctr.intro Try.mixed Try.func67 rfl Try.okF67 ?_
  simp -implicitDefEqProofs -dsimp only [go_sem, Nat.reduceSub, Nat.reduceAdd, Nat.reduceMul, Nat.reduceLT, Nat.reduceLeDiff, Nat.reduceEqDiff, Nat.reduceDiv, Nat.reduceMod, Int.reduceToNat, Int.reduceLE, Int.reduceLT, Int.reduceBEq, Int.reduceBNe, Int.reduceNeg, Int.reduceAdd, Int.reduceSub, Int.reduceMul, reduceCtorEq, Try.ntmps67, Try.results67]
  refine guardT.splitT (fun h1 => ?_) (fun h1 => ?_) <;> simp -implicitDefEqProofs -dsimp only [go_sem, Nat.reduceSub, Nat.reduceAdd, Nat.reduceMul, Nat.reduceLT, Nat.reduceLeDiff, Nat.reduceEqDiff, Nat.reduceDiv, Nat.reduceMod, Int.reduceToNat, Int.reduceLE, Int.reduceLT, Int.reduceBEq, Int.reduceBNe, Int.reduceNeg, Int.reduceAdd, Int.reduceSub, Int.reduceMul, reduceCtorEq, h1]
  · exact WeakR.of_eq (by simp [inB', h1])
  · exact WeakR.of_eq (by simp [inB', h1])
theorem l1In_ok (n a b : Int) : Ctr Try.prog 64 [.int .i64 n, .int .i64 a, .int .i64 b] [] (.bool (inB' n a b)) [] := by
  refine Ctr.intro Try.mixed Try.func64 rfl Try.okF64 ?_
  simp -implicitDefEqProofs -dsimp only [go_sem, Nat.reduceSub, Nat.reduceAdd, Nat.reduceMul, Nat.reduceLT, Nat.reduceLeDiff, Nat.reduceEqDiff, Nat.reduceDiv, Nat.reduceMod, Int.reduceToNat, Int.reduceLE, Int.reduceLT, Int.reduceBEq, Int.reduceBNe, Int.reduceNeg, Int.reduceAdd, Int.reduceSub, Int.reduceMul, reduceCtorEq, Try.ntmps64, Try.results64]
  refine guardT.splitT (fun h1 => ?_) (fun h1 => ?_) <;> simp -implicitDefEqProofs -dsimp only [go_sem, Nat.reduceSub, Nat.reduceAdd, Nat.reduceMul, Nat.reduceLT, Nat.reduceLeDiff, Nat.reduceEqDiff, Nat.reduceDiv, Nat.reduceMod, Int.reduceToNat, Int.reduceLE, Int.reduceLT, Int.reduceBEq, Int.reduceBNe, Int.reduceNeg, Int.reduceAdd, Int.reduceSub, Int.reduceMul, reduceCtorEq, h1]
  · exact WeakR.of_eq (by simp [inB', h1])
  · exact WeakR.of_eq (by simp [inB', h1])
theorem l1Least_ok (a b : Int) : Ctr Try.prog 96 [.int .i64 a, .int .i64 b] [] (.int .i64 (min a b)) [] := by
  refine Ctr.intro Try.mixed Try.func96 rfl Try.okF96 ?_
  simp -implicitDefEqProofs -dsimp only [go_sem, Nat.reduceSub, Nat.reduceAdd, Nat.reduceMul, Nat.reduceLT, Nat.reduceLeDiff, Nat.reduceEqDiff, Nat.reduceDiv, Nat.reduceMod, Int.reduceToNat, Int.reduceLE, Int.reduceLT, Int.reduceBEq, Int.reduceBNe, Int.reduceNeg, Int.reduceAdd, Int.reduceSub, Int.reduceMul, reduceCtorEq, Try.ntmps96, Try.results96]
  refine condT.split (fun h1 => ?_) (fun h1 => ?_) <;> simp -implicitDefEqProofs -dsimp only [go_sem, Nat.reduceSub, Nat.reduceAdd, Nat.reduceMul, Nat.reduceLT, Nat.reduceLeDiff, Nat.reduceEqDiff, Nat.reduceDiv, Nat.reduceMod, Int.reduceToNat, Int.reduceLE, Int.reduceLT, Int.reduceBEq, Int.reduceBNe, Int.reduceNeg, Int.reduceAdd, Int.reduceSub, Int.reduceMul, reduceCtorEq, h1]
  · exact WeakR.of_eq (by simp at h1; congr 1; omega)
  · exact WeakR.of_eq (by simp at h1; congr 1; omega)
theorem abs_ok (n : Int) (h0 : -4611686018427387904 ≤ n) (h1 : n ≤ 4611686018427387904) : Ctr Try.prog 168 [.int .i64 n] [] (.int .i64 (n.natAbs)) [] := by
  refine Ctr.intro Try.mixed Try.func168 rfl Try.okF168 ?_
  simp -implicitDefEqProofs -dsimp only [go_sem, Nat.reduceSub, Nat.reduceAdd, Nat.reduceMul, Nat.reduceLT, Nat.reduceLeDiff, Nat.reduceEqDiff, Nat.reduceDiv, Nat.reduceMod, Int.reduceToNat, Int.reduceLE, Int.reduceLT, Int.reduceBEq, Int.reduceBNe, Int.reduceNeg, Int.reduceAdd, Int.reduceSub, Int.reduceMul, reduceCtorEq, Try.ntmps168, Try.results168]
  rw [wrap_i64 (by omega) (by omega)]
  exact WeakR.of_eq (by congr 1; split <;> omega)
theorem listedB_all {α : Type} {p : α → Bool} {k : α → Int} {m : Nat} {L : List α} (h : listedB p k m L = true) : (∀ x ∈ L, p x = true) ∧ L.length ≤ m := by
  simp only [listedB, Bool.and_eq_true, decide_eq_true_eq, List.all_eq_true, List.mem_range] at h
  refine ⟨fun x hx => ?_, h.2⟩
  obtain ⟨i, hi, rfl⟩ := List.getElem_of_mem hx
  have := h.1 i hi
  simp only [listedQ, List.getElem?_eq_getElem hi, Bool.and_eq_true] at this
  exact this.1
theorem listedB_lt {α : Type} {p : α → Bool} {k : α → Int} {m : Nat} {L : List α} (h : listedB p k m L = true) : (L.map k).Pairwise (· < ·) := by
  simp only [listedB, Bool.and_eq_true, List.all_eq_true, List.mem_range] at h
  have adj : ∀ j, (hj : j + 1 < L.length) → k (L[j]'(by omega)) < k L[j + 1] := by
    intro j hj
    have := h.1 (j + 1) hj
    rw [listedQ_succ hj] at this
    simp at this
    exact this.2
  rw [List.pairwise_iff_getElem]
  intro i j hi hj hij
  simp only [List.length_map] at hi hj
  simp only [List.getElem_map]
  induction j with
  | zero => omega
  | succ j ih =>
    have h1 := adj j hj
    rcases Nat.lt_succ_iff_lt_or_eq.1 hij with h2 | h2
    · have := ih (by simpa using (by omega : j < L.length)) h2 (by omega)
      omega
    · subst h2; exact h1
theorem nodup_get {α : Type} {L : List α} (h : L.Nodup) {i j : Nat} (hi : i < L.length) (hj : j < L.length) (e : L[i] = L[j]) : i = j := by
  have h2 := List.pairwise_iff_getElem.1 h
  rcases Nat.lt_trichotomy i j with h3 | h3 | h3
  · exact absurd e (h2 i j hi hj h3)
  · exact h3
  · exact absurd e.symm (h2 j i hj hi h3)
def psum {α : Type} (f : α → Int) (L : List α) : Int := (L.map f).sum
theorem psum_succ {α : Type} (f : α → Int) {L : List α} {i : Nat} (hi : i < L.length) : psum f (L.take (i + 1)) = psum f (L.take i) + f L[i] := by
  rw [psum, List.take_succ_eq_append_getElem hi, List.map_append, List.sum_append]
  show _ = (List.map f (List.take i L)).sum + f L[i]
  simp
theorem psum_bound {α : Type} {f : α → Int} {B : Int} : ∀ {L : List α}, (∀ x ∈ L, 0 ≤ f x ∧ f x ≤ B) → 0 ≤ psum f L ∧ psum f L ≤ L.length * B
  | [], _ => by simp [psum]
  | x :: L, h => by
    have h1 := h x (by simp)
    have h2 := psum_bound (L := L) (fun y hy => h y (by simp [hy]))
    have e : psum f (x :: L) = f x + psum f L := by simp [psum]
    rw [e, List.length_cons]
    have : ((L.length + 1 : Nat) : Int) * B = L.length * B + B := by rw [Int.natCast_add, Int.add_mul]; simp
    omega
end Go.Proofs
end
section
set_option linter.unusedSimpArgs false
set_option linter.unusedVariables false
set_option maxRecDepth 100000
namespace Go.Proofs
open Go.Lv
def placeB (x y : Int) : Bool := inB' x 0 999 && inB' y 0 999
theorem placeB_iff {x y : Int} : placeB x y = true ↔ (0 ≤ x ∧ x ≤ 999) ∧ 0 ≤ y ∧ y ≤ 999 := by simp [placeB, inB']
theorem mul_self_nonneg' (x : Int) : 0 ≤ x * x := by
  rcases Int.le_total 0 x with h | h
  · exact Int.mul_nonneg h h
  · exact Int.mul_nonneg_of_nonpos_of_nonpos h h
theorem sq_le {x : Int} {b : Int} (h : -b ≤ x ∧ x ≤ b) : x * x ≤ b * b := by
  have h1 := Int.mul_nonneg (show 0 ≤ b - x by omega) (show 0 ≤ b + x by omega)
  have e : (b - x) * (b + x) = b * b - x * x := by rw [Int.sub_mul, Int.mul_add, Int.mul_add, Int.mul_comm x b]; omega
  omega
theorem isTick_ok (n : Int) : Ctr Try.prog 85 [.int .i64 n] [] (.bool (inB' n 0 1000000)) [] := by
  refine Ctr.intro Try.mixed Try.func85 rfl Try.okF85 ?_
  simp -implicitDefEqProofs -dsimp only [go_sem, Nat.reduceSub, Nat.reduceAdd, Nat.reduceMul, Nat.reduceLT, Nat.reduceLeDiff, Nat.reduceEqDiff, Nat.reduceDiv, Nat.reduceMod, Int.reduceToNat, Int.reduceLE, Int.reduceLT, Int.reduceBEq, Int.reduceBNe, Int.reduceNeg, Int.reduceAdd, Int.reduceSub, Int.reduceMul, reduceCtorEq, Try.ntmps85, Try.results85]
  repeat' (first | (refine WeakR.drop' ?_ (by rfl); first | rfl | (simp [placeB, *]; done)) | ((first | refine callT.at (in_ok _ _ _) ⟨leA, leA, leA, trivial⟩ ?_ | refine callS.at (in_ok _ _ _) ⟨leA, leA, leA, trivial⟩ ?_); simp -implicitDefEqProofs -dsimp only [go_sem, Nat.reduceSub, Nat.reduceAdd, Nat.reduceMul, Nat.reduceLT, Nat.reduceLeDiff, Nat.reduceEqDiff, Nat.reduceDiv, Nat.reduceMod, Int.reduceToNat, Int.reduceLE, Int.reduceLT, Int.reduceBEq, Int.reduceBNe, Int.reduceNeg, Int.reduceAdd, Int.reduceSub, Int.reduceMul, reduceCtorEq, *]) | (refine guardT.splitT (fun _ => ?_) (fun _ => ?_) <;> simp -implicitDefEqProofs -dsimp only [go_sem, Nat.reduceSub, Nat.reduceAdd, Nat.reduceMul, Nat.reduceLT, Nat.reduceLeDiff, Nat.reduceEqDiff, Nat.reduceDiv, Nat.reduceMod, Int.reduceToNat, Int.reduceLE, Int.reduceLT, Int.reduceBEq, Int.reduceBNe, Int.reduceNeg, Int.reduceAdd, Int.reduceSub, Int.reduceMul, reduceCtorEq, *]) | (refine guardT.splitF (fun _ => ?_) (fun _ => ?_) <;> simp -implicitDefEqProofs -dsimp only [go_sem, Nat.reduceSub, Nat.reduceAdd, Nat.reduceMul, Nat.reduceLT, Nat.reduceLeDiff, Nat.reduceEqDiff, Nat.reduceDiv, Nat.reduceMod, Int.reduceToNat, Int.reduceLE, Int.reduceLT, Int.reduceBEq, Int.reduceBNe, Int.reduceNeg, Int.reduceAdd, Int.reduceSub, Int.reduceMul, reduceCtorEq, *]) | (refine condT.split (fun _ => ?_) (fun _ => ?_) <;> simp -implicitDefEqProofs -dsimp only [go_sem, Nat.reduceSub, Nat.reduceAdd, Nat.reduceMul, Nat.reduceLT, Nat.reduceLeDiff, Nat.reduceEqDiff, Nat.reduceDiv, Nat.reduceMod, Int.reduceToNat, Int.reduceLE, Int.reduceLT, Int.reduceBEq, Int.reduceBNe, Int.reduceNeg, Int.reduceAdd, Int.reduceSub, Int.reduceMul, reduceCtorEq, *]))
theorem l2Tick_ok (n : Int) : Ctr Try.prog 143 [.int .i64 n] [] (.bool (inB' n 0 1000000)) [] := by
  refine Ctr.intro Try.mixed Try.func143 rfl Try.okF143 ?_
  simp -implicitDefEqProofs -dsimp only [go_sem, Nat.reduceSub, Nat.reduceAdd, Nat.reduceMul, Nat.reduceLT, Nat.reduceLeDiff, Nat.reduceEqDiff, Nat.reduceDiv, Nat.reduceMod, Int.reduceToNat, Int.reduceLE, Int.reduceLT, Int.reduceBEq, Int.reduceBNe, Int.reduceNeg, Int.reduceAdd, Int.reduceSub, Int.reduceMul, reduceCtorEq, Try.ntmps143, Try.results143]
  repeat' (first | (refine WeakR.drop' ?_ (by rfl); first | rfl | (simp [placeB, *]; done)) | ((first | refine callT.at (l1In_ok _ _ _) ⟨leA, leA, leA, trivial⟩ ?_ | refine callS.at (l1In_ok _ _ _) ⟨leA, leA, leA, trivial⟩ ?_); simp -implicitDefEqProofs -dsimp only [go_sem, Nat.reduceSub, Nat.reduceAdd, Nat.reduceMul, Nat.reduceLT, Nat.reduceLeDiff, Nat.reduceEqDiff, Nat.reduceDiv, Nat.reduceMod, Int.reduceToNat, Int.reduceLE, Int.reduceLT, Int.reduceBEq, Int.reduceBNe, Int.reduceNeg, Int.reduceAdd, Int.reduceSub, Int.reduceMul, reduceCtorEq, *]) | (refine guardT.splitT (fun _ => ?_) (fun _ => ?_) <;> simp -implicitDefEqProofs -dsimp only [go_sem, Nat.reduceSub, Nat.reduceAdd, Nat.reduceMul, Nat.reduceLT, Nat.reduceLeDiff, Nat.reduceEqDiff, Nat.reduceDiv, Nat.reduceMod, Int.reduceToNat, Int.reduceLE, Int.reduceLT, Int.reduceBEq, Int.reduceBNe, Int.reduceNeg, Int.reduceAdd, Int.reduceSub, Int.reduceMul, reduceCtorEq, *]) | (refine guardT.splitF (fun _ => ?_) (fun _ => ?_) <;> simp -implicitDefEqProofs -dsimp only [go_sem, Nat.reduceSub, Nat.reduceAdd, Nat.reduceMul, Nat.reduceLT, Nat.reduceLeDiff, Nat.reduceEqDiff, Nat.reduceDiv, Nat.reduceMod, Int.reduceToNat, Int.reduceLE, Int.reduceLT, Int.reduceBEq, Int.reduceBNe, Int.reduceNeg, Int.reduceAdd, Int.reduceSub, Int.reduceMul, reduceCtorEq, *]) | (refine condT.split (fun _ => ?_) (fun _ => ?_) <;> simp -implicitDefEqProofs -dsimp only [go_sem, Nat.reduceSub, Nat.reduceAdd, Nat.reduceMul, Nat.reduceLT, Nat.reduceLeDiff, Nat.reduceEqDiff, Nat.reduceDiv, Nat.reduceMod, Int.reduceToNat, Int.reduceLE, Int.reduceLT, Int.reduceBEq, Int.reduceBNe, Int.reduceNeg, Int.reduceAdd, Int.reduceSub, Int.reduceMul, reduceCtorEq, *]))
theorem isPlace_ok (x y : Int) : Ctr Try.prog 117 [.int .i64 x, .int .i64 y] [] (.bool (placeB x y)) [] := by
  refine Ctr.intro Try.mixed Try.func117 rfl Try.okF117 ?_
  simp -implicitDefEqProofs -dsimp only [go_sem, Nat.reduceSub, Nat.reduceAdd, Nat.reduceMul, Nat.reduceLT, Nat.reduceLeDiff, Nat.reduceEqDiff, Nat.reduceDiv, Nat.reduceMod, Int.reduceToNat, Int.reduceLE, Int.reduceLT, Int.reduceBEq, Int.reduceBNe, Int.reduceNeg, Int.reduceAdd, Int.reduceSub, Int.reduceMul, reduceCtorEq, Try.ntmps117, Try.results117]
  repeat' (first | (refine WeakR.drop' ?_ (by rfl); first | rfl | (simp [placeB, *]; done)) | ((first | refine callT.at (in_ok _ _ _) ⟨leA, leA, leA, trivial⟩ ?_ | refine callS.at (in_ok _ _ _) ⟨leA, leA, leA, trivial⟩ ?_); simp -implicitDefEqProofs -dsimp only [go_sem, Nat.reduceSub, Nat.reduceAdd, Nat.reduceMul, Nat.reduceLT, Nat.reduceLeDiff, Nat.reduceEqDiff, Nat.reduceDiv, Nat.reduceMod, Int.reduceToNat, Int.reduceLE, Int.reduceLT, Int.reduceBEq, Int.reduceBNe, Int.reduceNeg, Int.reduceAdd, Int.reduceSub, Int.reduceMul, reduceCtorEq, *]) | (refine guardT.splitT (fun _ => ?_) (fun _ => ?_) <;> simp -implicitDefEqProofs -dsimp only [go_sem, Nat.reduceSub, Nat.reduceAdd, Nat.reduceMul, Nat.reduceLT, Nat.reduceLeDiff, Nat.reduceEqDiff, Nat.reduceDiv, Nat.reduceMod, Int.reduceToNat, Int.reduceLE, Int.reduceLT, Int.reduceBEq, Int.reduceBNe, Int.reduceNeg, Int.reduceAdd, Int.reduceSub, Int.reduceMul, reduceCtorEq, *]) | (refine guardT.splitF (fun _ => ?_) (fun _ => ?_) <;> simp -implicitDefEqProofs -dsimp only [go_sem, Nat.reduceSub, Nat.reduceAdd, Nat.reduceMul, Nat.reduceLT, Nat.reduceLeDiff, Nat.reduceEqDiff, Nat.reduceDiv, Nat.reduceMod, Int.reduceToNat, Int.reduceLE, Int.reduceLT, Int.reduceBEq, Int.reduceBNe, Int.reduceNeg, Int.reduceAdd, Int.reduceSub, Int.reduceMul, reduceCtorEq, *]) | (refine condT.split (fun _ => ?_) (fun _ => ?_) <;> simp -implicitDefEqProofs -dsimp only [go_sem, Nat.reduceSub, Nat.reduceAdd, Nat.reduceMul, Nat.reduceLT, Nat.reduceLeDiff, Nat.reduceEqDiff, Nat.reduceDiv, Nat.reduceMod, Int.reduceToNat, Int.reduceLE, Int.reduceLT, Int.reduceBEq, Int.reduceBNe, Int.reduceNeg, Int.reduceAdd, Int.reduceSub, Int.reduceMul, reduceCtorEq, *]))
theorem l2Place_ok (x y : Int) : Ctr Try.prog 119 [.int .i64 x, .int .i64 y] [] (.bool (placeB x y)) [] := by
  refine Ctr.intro Try.mixed Try.func119 rfl Try.okF119 ?_
  simp -implicitDefEqProofs -dsimp only [go_sem, Nat.reduceSub, Nat.reduceAdd, Nat.reduceMul, Nat.reduceLT, Nat.reduceLeDiff, Nat.reduceEqDiff, Nat.reduceDiv, Nat.reduceMod, Int.reduceToNat, Int.reduceLE, Int.reduceLT, Int.reduceBEq, Int.reduceBNe, Int.reduceNeg, Int.reduceAdd, Int.reduceSub, Int.reduceMul, reduceCtorEq, Try.ntmps119, Try.results119]
  repeat' (first | (refine WeakR.drop' ?_ (by rfl); first | rfl | (simp [placeB, *]; done)) | ((first | refine callT.at (l1In_ok _ _ _) ⟨leA, leA, leA, trivial⟩ ?_ | refine callS.at (l1In_ok _ _ _) ⟨leA, leA, leA, trivial⟩ ?_); simp -implicitDefEqProofs -dsimp only [go_sem, Nat.reduceSub, Nat.reduceAdd, Nat.reduceMul, Nat.reduceLT, Nat.reduceLeDiff, Nat.reduceEqDiff, Nat.reduceDiv, Nat.reduceMod, Int.reduceToNat, Int.reduceLE, Int.reduceLT, Int.reduceBEq, Int.reduceBNe, Int.reduceNeg, Int.reduceAdd, Int.reduceSub, Int.reduceMul, reduceCtorEq, *]) | (refine guardT.splitT (fun _ => ?_) (fun _ => ?_) <;> simp -implicitDefEqProofs -dsimp only [go_sem, Nat.reduceSub, Nat.reduceAdd, Nat.reduceMul, Nat.reduceLT, Nat.reduceLeDiff, Nat.reduceEqDiff, Nat.reduceDiv, Nat.reduceMod, Int.reduceToNat, Int.reduceLE, Int.reduceLT, Int.reduceBEq, Int.reduceBNe, Int.reduceNeg, Int.reduceAdd, Int.reduceSub, Int.reduceMul, reduceCtorEq, *]) | (refine guardT.splitF (fun _ => ?_) (fun _ => ?_) <;> simp -implicitDefEqProofs -dsimp only [go_sem, Nat.reduceSub, Nat.reduceAdd, Nat.reduceMul, Nat.reduceLT, Nat.reduceLeDiff, Nat.reduceEqDiff, Nat.reduceDiv, Nat.reduceMod, Int.reduceToNat, Int.reduceLE, Int.reduceLT, Int.reduceBEq, Int.reduceBNe, Int.reduceNeg, Int.reduceAdd, Int.reduceSub, Int.reduceMul, reduceCtorEq, *]) | (refine condT.split (fun _ => ?_) (fun _ => ?_) <;> simp -implicitDefEqProofs -dsimp only [go_sem, Nat.reduceSub, Nat.reduceAdd, Nat.reduceMul, Nat.reduceLT, Nat.reduceLeDiff, Nat.reduceEqDiff, Nat.reduceDiv, Nat.reduceMod, Int.reduceToNat, Int.reduceLE, Int.reduceLT, Int.reduceBEq, Int.reduceBNe, Int.reduceNeg, Int.reduceAdd, Int.reduceSub, Int.reduceMul, reduceCtorEq, *]))
theorem isRowSize_ok (n : Int) : Ctr Try.prog 114 [.int .i64 n] [] (.bool (inB' n (-100) 1000)) [] := by
  refine Ctr.intro Try.mixed Try.func114 rfl Try.okF114 ?_
  simp -implicitDefEqProofs -dsimp only [go_sem, Nat.reduceSub, Nat.reduceAdd, Nat.reduceMul, Nat.reduceLT, Nat.reduceLeDiff, Nat.reduceEqDiff, Nat.reduceDiv, Nat.reduceMod, Int.reduceToNat, Int.reduceLE, Int.reduceLT, Int.reduceBEq, Int.reduceBNe, Int.reduceNeg, Int.reduceAdd, Int.reduceSub, Int.reduceMul, reduceCtorEq, Try.ntmps114, Try.results114]
  repeat' (first | (refine WeakR.drop' ?_ (by rfl); first | rfl | (simp [placeB, *]; done)) | ((first | refine callT.at (in_ok _ _ _) ⟨leA, leA, leA, trivial⟩ ?_ | refine callS.at (in_ok _ _ _) ⟨leA, leA, leA, trivial⟩ ?_); simp -implicitDefEqProofs -dsimp only [go_sem, Nat.reduceSub, Nat.reduceAdd, Nat.reduceMul, Nat.reduceLT, Nat.reduceLeDiff, Nat.reduceEqDiff, Nat.reduceDiv, Nat.reduceMod, Int.reduceToNat, Int.reduceLE, Int.reduceLT, Int.reduceBEq, Int.reduceBNe, Int.reduceNeg, Int.reduceAdd, Int.reduceSub, Int.reduceMul, reduceCtorEq, *]) | (refine guardT.splitT (fun _ => ?_) (fun _ => ?_) <;> simp -implicitDefEqProofs -dsimp only [go_sem, Nat.reduceSub, Nat.reduceAdd, Nat.reduceMul, Nat.reduceLT, Nat.reduceLeDiff, Nat.reduceEqDiff, Nat.reduceDiv, Nat.reduceMod, Int.reduceToNat, Int.reduceLE, Int.reduceLT, Int.reduceBEq, Int.reduceBNe, Int.reduceNeg, Int.reduceAdd, Int.reduceSub, Int.reduceMul, reduceCtorEq, *]) | (refine guardT.splitF (fun _ => ?_) (fun _ => ?_) <;> simp -implicitDefEqProofs -dsimp only [go_sem, Nat.reduceSub, Nat.reduceAdd, Nat.reduceMul, Nat.reduceLT, Nat.reduceLeDiff, Nat.reduceEqDiff, Nat.reduceDiv, Nat.reduceMod, Int.reduceToNat, Int.reduceLE, Int.reduceLT, Int.reduceBEq, Int.reduceBNe, Int.reduceNeg, Int.reduceAdd, Int.reduceSub, Int.reduceMul, reduceCtorEq, *]) | (refine condT.split (fun _ => ?_) (fun _ => ?_) <;> simp -implicitDefEqProofs -dsimp only [go_sem, Nat.reduceSub, Nat.reduceAdd, Nat.reduceMul, Nat.reduceLT, Nat.reduceLeDiff, Nat.reduceEqDiff, Nat.reduceDiv, Nat.reduceMod, Int.reduceToNat, Int.reduceLE, Int.reduceLT, Int.reduceBEq, Int.reduceBNe, Int.reduceNeg, Int.reduceAdd, Int.reduceSub, Int.reduceMul, reduceCtorEq, *]))
theorem l24Size_ok (n : Int) : Ctr Try.prog 115 [.int .i64 n] [] (.bool (inB' n (-100) 1000)) [] := by
  refine Ctr.intro Try.mixed Try.func115 rfl Try.okF115 ?_
  simp -implicitDefEqProofs -dsimp only [go_sem, Nat.reduceSub, Nat.reduceAdd, Nat.reduceMul, Nat.reduceLT, Nat.reduceLeDiff, Nat.reduceEqDiff, Nat.reduceDiv, Nat.reduceMod, Int.reduceToNat, Int.reduceLE, Int.reduceLT, Int.reduceBEq, Int.reduceBNe, Int.reduceNeg, Int.reduceAdd, Int.reduceSub, Int.reduceMul, reduceCtorEq, Try.ntmps115, Try.results115]
  repeat' (first | (refine WeakR.drop' ?_ (by rfl); first | rfl | (simp [placeB, *]; done)) | ((first | refine callT.at (l1In_ok _ _ _) ⟨leA, leA, leA, trivial⟩ ?_ | refine callS.at (l1In_ok _ _ _) ⟨leA, leA, leA, trivial⟩ ?_); simp -implicitDefEqProofs -dsimp only [go_sem, Nat.reduceSub, Nat.reduceAdd, Nat.reduceMul, Nat.reduceLT, Nat.reduceLeDiff, Nat.reduceEqDiff, Nat.reduceDiv, Nat.reduceMod, Int.reduceToNat, Int.reduceLE, Int.reduceLT, Int.reduceBEq, Int.reduceBNe, Int.reduceNeg, Int.reduceAdd, Int.reduceSub, Int.reduceMul, reduceCtorEq, *]) | (refine guardT.splitT (fun _ => ?_) (fun _ => ?_) <;> simp -implicitDefEqProofs -dsimp only [go_sem, Nat.reduceSub, Nat.reduceAdd, Nat.reduceMul, Nat.reduceLT, Nat.reduceLeDiff, Nat.reduceEqDiff, Nat.reduceDiv, Nat.reduceMod, Int.reduceToNat, Int.reduceLE, Int.reduceLT, Int.reduceBEq, Int.reduceBNe, Int.reduceNeg, Int.reduceAdd, Int.reduceSub, Int.reduceMul, reduceCtorEq, *]) | (refine guardT.splitF (fun _ => ?_) (fun _ => ?_) <;> simp -implicitDefEqProofs -dsimp only [go_sem, Nat.reduceSub, Nat.reduceAdd, Nat.reduceMul, Nat.reduceLT, Nat.reduceLeDiff, Nat.reduceEqDiff, Nat.reduceDiv, Nat.reduceMod, Int.reduceToNat, Int.reduceLE, Int.reduceLT, Int.reduceBEq, Int.reduceBNe, Int.reduceNeg, Int.reduceAdd, Int.reduceSub, Int.reduceMul, reduceCtorEq, *]) | (refine condT.split (fun _ => ?_) (fun _ => ?_) <;> simp -implicitDefEqProofs -dsimp only [go_sem, Nat.reduceSub, Nat.reduceAdd, Nat.reduceMul, Nat.reduceLT, Nat.reduceLeDiff, Nat.reduceEqDiff, Nat.reduceDiv, Nat.reduceMod, Int.reduceToNat, Int.reduceLE, Int.reduceLT, Int.reduceBEq, Int.reduceBNe, Int.reduceNeg, Int.reduceAdd, Int.reduceSub, Int.reduceMul, reduceCtorEq, *]))
theorem square_ok (x y : Int) (hx : -1000000 ≤ x ∧ x ≤ 1000000) (hy : -1000000 ≤ y ∧ y ≤ 1000000) : Ctr Try.prog 118 [.int .i64 x, .int .i64 y] [] (.int .i64 (x * x + y * y)) [] := by
  refine Ctr.intro Try.mixed Try.func118 rfl Try.okF118 ?_
  simp -implicitDefEqProofs -dsimp only [go_sem, Nat.reduceSub, Nat.reduceAdd, Nat.reduceMul, Nat.reduceLT, Nat.reduceLeDiff, Nat.reduceEqDiff, Nat.reduceDiv, Nat.reduceMod, Int.reduceToNat, Int.reduceLE, Int.reduceLT, Int.reduceBEq, Int.reduceBNe, Int.reduceNeg, Int.reduceAdd, Int.reduceSub, Int.reduceMul, reduceCtorEq, Try.ntmps118, Try.results118]
  have h1 : 0 ≤ x * x ∧ x * x ≤ 1000000000000 := ⟨mul_self_nonneg' x, sq_le hx⟩
  have h2 : 0 ≤ y * y ∧ y * y ≤ 1000000000000 := ⟨mul_self_nonneg' y, sq_le hy⟩
  rw [wrap_i64 (n := x * x) (by omega) (by omega), wrap_i64 (n := y * y) (by omega) (by omega), wrap_i64 (by omega) (by omega)]
  exact WeakR.refl _ _ _
end Go.Proofs
end
section
set_option linter.unusedSimpArgs false
set_option linter.unusedVariables false
set_option maxRecDepth 100000
namespace Go.Proofs
open Go.Lv
structure QuakeRow where
  Id : Int
  Tick : Int
  X : Int
  Y : Int
  Deep : Int
  Size : Int
  Grade : Int
def QuakeRow.cs (r : QuakeRow) : List V := [.int .i64 r.Id, .int .i64 r.Tick, .int .i64 r.X, .int .i64 r.Y, .int .i64 r.Deep, .int .i64 r.Size, .int .i64 r.Grade]
def QuakeRow.v (r : QuakeRow) : V := .agg [.int .i64 r.Id, .int .i64 r.Tick, .int .i64 r.X, .int .i64 r.Y, .int .i64 r.Deep, .int .i64 r.Size, .int .i64 r.Grade]
theorem QuakeRow.csl (a : QuakeRow) : a.cs.length = 7 := rfl
instance : FlatP QuakeRow.cs 7 := ⟨fun _ => rfl, fun _ d => by cases d <;> rfl, fun _ => rfl, fun _ => rfl⟩
def QuakeRow.ok (r : QuakeRow) : Prop := i64R r.Id ∧ i64R r.Tick ∧ i64R r.X ∧ i64R r.Y ∧ i64R r.Deep ∧ i64R r.Size ∧ i64R r.Grade
abbrev QuakeRow.rows (L : List QuakeRow) : List V := Go.Lv.rows QuakeRow.cs L
abbrev QuakeRow.sl (L : List QuakeRow) : V := .sl L.length 7 (Go.Lv.rows QuakeRow.cs L)
abbrev QuakeRow.zs : List V := [.int .i64 0, .int .i64 0, .int .i64 0, .int .i64 0, .int .i64 0, .int .i64 0, .int .i64 0]
/-- What a mark writes. -/
def QuakeRow.mk1 (k : Int) : QuakeRow := ⟨k, k + 1, k + 1 + 1, k + 1 + 1 + 1, k + 1 + 1 + 1 + 1, k + 1 + 1 + 1 + 1 + 1, k + 1 + 1 + 1 + 1 + 1 + 1⟩
def QuakeRow.marks (k : Int) (n : Nat) : List QuakeRow := (List.range n).map fun i : Nat => QuakeRow.mk1 (k + 7 * (i : Int))
@[simp] theorem QuakeRow.marks_len (k : Int) (n : Nat) : (QuakeRow.marks k n).length = n := by simp [QuakeRow.marks]
theorem areListedQuakeRow_ok (L : List QuakeRow) (p : QuakeRow → Bool) (key : QuakeRow → Int) (most : Int) (fv fk : Nat) (vc kc : List V) (hvc : ∀ d, vc.all (noOwn d) = true) (hkc : ∀ d, kc.all (noOwn d) = true) (hv : ∀ x, Ctr Try.prog fv (QuakeRow.v x :: vc) [] (.bool (p x)) []) (hkey : ∀ x, Ctr Try.prog fk (QuakeRow.v x :: kc) [] (.int .i64 (key x)) []) (m : Nat) (hm : most = m) (hl : L.length ≤ 281474976710656) :
    Ctr Try.prog 163 [QuakeRow.sl L, .int .i64 most, .fn (.func fv) [] vc, .fn (.func fk) [] kc] [] (.bool (listedB p key m L)) [] := by
  subst hm
  refine Ctr.intro Try.mixed Try.func163 rfl Try.okF163 ?_
  simp -implicitDefEqProofs -dsimp only [go_sem, Nat.reduceSub, Nat.reduceAdd, Nat.reduceMul, Nat.reduceLT, Nat.reduceLeDiff, Nat.reduceEqDiff, Nat.reduceDiv, Nat.reduceMod, Int.reduceToNat, Int.reduceLE, Int.reduceLT, Int.reduceBEq, Int.reduceBNe, Int.reduceNeg, Int.reduceAdd, Int.reduceSub, Int.reduceMul, reduceCtorEq, Try.ntmps163, Try.results163]
  have hvc2 : ∀ f d, vc.map (ren f d) = vc := fun f d => map_ren f (hvc d)
  have hkc2 : ∀ f d, kc.map (ren f d) = kc := fun f d => map_ren f (hkc d)
  refine LoopT.intro (fun i : Nat => i ≤ L.length ∧ (List.range i).all (listedQ p key L) = true) (fun i => ⟨[QuakeRow.sl L, .int .i64 m, .fn (.func fv) [] vc, .fn (.func fk) [] kc, .undef, .undef, .undef, .undef, .undef, .undef, .undef, QuakeRow.sl L, .int .i64 L.length, .int .i64 i, .undef, .undef, .undef, .undef, .undef, .undef, .undef, .undef, .undef, .undef, .undef, .undef, .undef, .undef, .undef, .undef, .undef, .undef, .undef, .undef, .undef, .undef, .undef, .undef, .undef, .undef, .undef, .undef, .undef, .undef], [], 0⟩) (fun i => L.length - i) 0 ⟨Nat.zero_le _, rfl⟩ ?_ (fun i hi => ?_)
  · refine Weak.cut (0) (by simp) (by simp) ?_ ?_
    · simp [LeC, LeV, ren, cutF, hvc2, hkc2]
    · rfl
  simp -implicitDefEqProofs -dsimp only [go_sem, Nat.reduceSub, Nat.reduceAdd, Nat.reduceMul, Nat.reduceLT, Nat.reduceLeDiff, Nat.reduceEqDiff, Nat.reduceDiv, Nat.reduceMod, Int.reduceToNat, Int.reduceLE, Int.reduceLT, Int.reduceBEq, Int.reduceBNe, Int.reduceNeg, Int.reduceAdd, Int.reduceSub, Int.reduceMul, reduceCtorEq]
  refine condT.split (fun h1 => ?_) (fun h1 => ?_)
  · simp -implicitDefEqProofs -dsimp only [go_sem, Nat.reduceSub, Nat.reduceAdd, Nat.reduceMul, Nat.reduceLT, Nat.reduceLeDiff, Nat.reduceEqDiff, Nat.reduceDiv, Nat.reduceMod, Int.reduceToNat, Int.reduceLE, Int.reduceLT, Int.reduceBEq, Int.reduceBNe, Int.reduceNeg, Int.reduceAdd, Int.reduceSub, Int.reduceMul, reduceCtorEq, h1]
    have hi' : i < L.length := by simpa using h1
    have h5 := QuakeRow.csl L[i]
    have hr := rows_at QuakeRow.csl hi'
    (repeat1' (first | simp -implicitDefEqProofs -dsimp only [go_sem, Nat.reduceSub, Nat.reduceAdd, Nat.reduceMul, Nat.reduceLT, Nat.reduceLeDiff, Nat.reduceEqDiff, Nat.reduceDiv, Nat.reduceMod, Int.reduceToNat, Int.reduceLE, Int.reduceLT, Int.reduceBEq, Int.reduceBNe, Int.reduceNeg, Int.reduceAdd, Int.reduceSub, Int.reduceMul, reduceCtorEq, hr, QuakeRow.cs] | simp -implicitDefEqProofs -dsimp (disch := omega) only [wrap_i64]))
    repeat (with_reducible refine sideA ?_)
    refine callT.intro (hv L[i]) ⟨.inl rfl, LeL_same (hvc2 _ _)⟩ (.inl (by simp only [List.nil_append, List.cons_append, List.all_cons, hvc, Bool.and_true]; rfl)) ⟨refOk_fn (hvc 3), rfl⟩ ?_
    simp -implicitDefEqProofs -dsimp only [go_sem, Nat.reduceSub, Nat.reduceAdd, Nat.reduceMul, Nat.reduceLT, Nat.reduceLeDiff, Nat.reduceEqDiff, Nat.reduceDiv, Nat.reduceMod, Int.reduceToNat, Int.reduceLE, Int.reduceLT, Int.reduceBEq, Int.reduceBNe, Int.reduceNeg, Int.reduceAdd, Int.reduceSub, Int.reduceMul, reduceCtorEq]
    refine guardT.splitF (fun h2 => ?_) (fun h2 => ?_) <;> simp -implicitDefEqProofs -dsimp only [go_sem, Nat.reduceSub, Nat.reduceAdd, Nat.reduceMul, Nat.reduceLT, Nat.reduceLeDiff, Nat.reduceEqDiff, Nat.reduceDiv, Nat.reduceMod, Int.reduceToNat, Int.reduceLE, Int.reduceLT, Int.reduceBEq, Int.reduceBNe, Int.reduceNeg, Int.reduceAdd, Int.reduceSub, Int.reduceMul, reduceCtorEq, h2]
    · have hw : p L[i] = true := by simpa using h2
      refine guardT.splitT (fun h3 => ?_) (fun h3 => ?_) <;> simp -implicitDefEqProofs -dsimp only [go_sem, Nat.reduceSub, Nat.reduceAdd, Nat.reduceMul, Nat.reduceLT, Nat.reduceLeDiff, Nat.reduceEqDiff, Nat.reduceDiv, Nat.reduceMod, Int.reduceToNat, Int.reduceLE, Int.reduceLT, Int.reduceBEq, Int.reduceBNe, Int.reduceNeg, Int.reduceAdd, Int.reduceSub, Int.reduceMul, reduceCtorEq, h3]
      · obtain ⟨j, rfl⟩ : ∃ j, i = j + 1 := ⟨i - 1, by simp at h3; omega⟩
        have hj : j < L.length := by omega
        refine callT.intro (hkey L[j + 1]) ⟨.inl rfl, LeL_same (hkc2 _ _)⟩ (.inl (by simp only [List.nil_append, List.cons_append, List.all_cons, hkc, Bool.and_true]; rfl)) ⟨refOk_fn (hkc 3), rfl⟩ ?_
        have hw1 : IntKind.i64.wrap (((j + 1 : Nat) : Int) - 1) = (j : Int) := by rw [wrap_i64 (by omega) (by omega)]; omega
        have hr2 := rows_at QuakeRow.csl hj
        (repeat1' (first | simp -implicitDefEqProofs -dsimp only [go_sem, Nat.reduceSub, Nat.reduceAdd, Nat.reduceMul, Nat.reduceLT, Nat.reduceLeDiff, Nat.reduceEqDiff, Nat.reduceDiv, Nat.reduceMod, Int.reduceToNat, Int.reduceLE, Int.reduceLT, Int.reduceBEq, Int.reduceBNe, Int.reduceNeg, Int.reduceAdd, Int.reduceSub, Int.reduceMul, reduceCtorEq, hw1, hr2, QuakeRow.cs] | simp -implicitDefEqProofs -dsimp (disch := omega) only [wrap_i64]))
        repeat (with_reducible refine sideA ?_)
        refine callT.intro (hkey L[j]) ⟨.inl rfl, LeL_same (hkc2 _ _)⟩ (.inl (by simp only [List.nil_append, List.cons_append, List.all_cons, hkc, Bool.and_true]; rfl)) ⟨refOk_fn (hkc 3), rfl⟩ ?_
        (repeat1' (first | simp -implicitDefEqProofs -dsimp only [go_sem, Nat.reduceSub, Nat.reduceAdd, Nat.reduceMul, Nat.reduceLT, Nat.reduceLeDiff, Nat.reduceEqDiff, Nat.reduceDiv, Nat.reduceMod, Int.reduceToNat, Int.reduceLE, Int.reduceLT, Int.reduceBEq, Int.reduceBNe, Int.reduceNeg, Int.reduceAdd, Int.reduceSub, Int.reduceMul, reduceCtorEq] | simp -implicitDefEqProofs -dsimp (disch := omega) only [wrap_i64]))
        refine condT.split (fun h4 => ?_) (fun h4 => ?_) <;> simp -implicitDefEqProofs -dsimp only [go_sem, Nat.reduceSub, Nat.reduceAdd, Nat.reduceMul, Nat.reduceLT, Nat.reduceLeDiff, Nat.reduceEqDiff, Nat.reduceDiv, Nat.reduceMod, Int.reduceToNat, Int.reduceLE, Int.reduceLT, Int.reduceBEq, Int.reduceBNe, Int.reduceNeg, Int.reduceAdd, Int.reduceSub, Int.reduceMul, reduceCtorEq, h4]
        · refine WeakR.drop' ?_ rfl
          have hq : listedQ p key L (j + 1) = false := by
            rw [listedQ_succ hi', hw]
            simp at h4 ⊢
            omega
          rw [listedB_false hi' hq]
        · refine ⟨j + 1 + 1, ⟨hi', range_all_succ hi.2 (by rw [listedQ_succ hi', hw]; simp at h4 ⊢; omega)⟩, ?_, by omega⟩
          refine Weak.cut (0) (by simp) (by simp) ?_ ?_
          · rw [wrap_i64 (by omega) (by omega)]
            simp [LeC, LeV, ren, cutF, hvc2, hkc2]
          · rfl
      · have h0 : i = 0 := by simp at h3; omega
        refine ⟨i + 1, ⟨hi', range_all_succ hi.2 (by subst h0; rw [listedQ_zero hi', hw])⟩, ?_, by omega⟩
        refine Weak.cut (0) (by simp) (by simp) ?_ ?_
        · rw [wrap_i64 (by omega) (by omega)]
          simp [LeC, LeV, ren, cutF, hvc2, hkc2]
        · rfl
    · have hw : p L[i] = false := by simpa using h2
      refine WeakR.drop' ?_ rfl
      have hq : listedQ p key L i = false := by simp [listedQ, hi', hw]
      rw [listedB_false hi' hq]
  · simp -implicitDefEqProofs -dsimp only [go_sem, Nat.reduceSub, Nat.reduceAdd, Nat.reduceMul, Nat.reduceLT, Nat.reduceLeDiff, Nat.reduceEqDiff, Nat.reduceDiv, Nat.reduceMod, Int.reduceToNat, Int.reduceLE, Int.reduceLT, Int.reduceBEq, Int.reduceBNe, Int.reduceNeg, Int.reduceAdd, Int.reduceSub, Int.reduceMul, reduceCtorEq, h1]
    refine WeakR.drop' ?_ rfl
    have : i = L.length := by simp at h1; omega
    subst this
    rw [listedB, hi.2]
    simp
    try omega
theorem filterQuakeRow_ok (L : List QuakeRow) (p : QuakeRow → Bool) (fv : Nat) (vc : List V) (hvc : ∀ d, vc.all (noOwn d) = true) (hv : ∀ x, Ctr Try.prog fv (QuakeRow.v x :: vc) [] (.bool (p x)) []) (hl : L.length ≤ 16777216) :
    Ctr Try.prog 112 [QuakeRow.sl L, .fn (.func fv) [] vc] [] (.osl 0 0 (L.filter p).length 7) [some (rows QuakeRow.cs (L.filter p))] := by
  refine Ctr.intro Try.mixed Try.func112 rfl Try.okF112 ?_
  simp -implicitDefEqProofs -dsimp only [go_sem, Nat.reduceSub, Nat.reduceAdd, Nat.reduceMul, Nat.reduceLT, Nat.reduceLeDiff, Nat.reduceEqDiff, Nat.reduceDiv, Nat.reduceMod, Int.reduceToNat, Int.reduceLE, Int.reduceLT, Int.reduceBEq, Int.reduceBNe, Int.reduceNeg, Int.reduceAdd, Int.reduceSub, Int.reduceMul, reduceCtorEq, Try.ntmps112, Try.results112]
  have hvc2 : ∀ f d, vc.map (ren f d) = vc := fun f d => map_ren f (hvc d)
  have hstep : ∀ {i : Nat} (hi : i < L.length), (L.take (i + 1)).filter p = (L.take i).filter p ++ if p L[i] then [L[i]] else [] := fun {i} hi => by
    rw [List.take_succ_eq_append_getElem hi, List.filter_append]
    congr 1
    cases h : p L[i] <;> simp [h]
  refine LoopT.intro (fun i : Nat => i ≤ L.length) (fun i => ⟨[.undef, .fn (.func fv) [] vc, .undef, .undef, .undef, .osl 0 0 ((L.take i).filter p).length 7, .undef, .undef, .undef, QuakeRow.sl L, .int .i64 L.length, .int .i64 i, .undef, .undef, .undef, .undef, .undef, .undef, .undef, .undef, .undef, .undef, .undef, .undef], [some (rows QuakeRow.cs ((L.take i).filter p))], 0⟩) (fun i => L.length - i) 0 (Nat.zero_le _) ?_ (fun i hi => ?_)
  · refine Weak.cut (1) (by simp) (by simp) ?_ ?_
    · simp [LeC, LeV, ren, cutF, hvc2]
    · simp [cutH, cutB, rows]
  simp -implicitDefEqProofs -dsimp only [go_sem, Nat.reduceSub, Nat.reduceAdd, Nat.reduceMul, Nat.reduceLT, Nat.reduceLeDiff, Nat.reduceEqDiff, Nat.reduceDiv, Nat.reduceMod, Int.reduceToNat, Int.reduceLE, Int.reduceLT, Int.reduceBEq, Int.reduceBNe, Int.reduceNeg, Int.reduceAdd, Int.reduceSub, Int.reduceMul, reduceCtorEq]
  refine condT.split (fun h1 => ?_) (fun h1 => ?_)
  · simp -implicitDefEqProofs -dsimp only [go_sem, Nat.reduceSub, Nat.reduceAdd, Nat.reduceMul, Nat.reduceLT, Nat.reduceLeDiff, Nat.reduceEqDiff, Nat.reduceDiv, Nat.reduceMod, Int.reduceToNat, Int.reduceLE, Int.reduceLT, Int.reduceBEq, Int.reduceBNe, Int.reduceNeg, Int.reduceAdd, Int.reduceSub, Int.reduceMul, reduceCtorEq, h1]
    have hi' : i < L.length := by simpa using h1
    have hf : ((L.take i).filter p).length ≤ i := Nat.le_trans (List.length_filter_le _ _) (by simp; omega)
    have h5 := QuakeRow.csl L[i]
    have hr := rows_at QuakeRow.csl hi'
    (repeat1' (first | simp -implicitDefEqProofs -dsimp only [go_sem, Nat.reduceSub, Nat.reduceAdd, Nat.reduceMul, Nat.reduceLT, Nat.reduceLeDiff, Nat.reduceEqDiff, Nat.reduceDiv, Nat.reduceMod, Int.reduceToNat, Int.reduceLE, Int.reduceLT, Int.reduceBEq, Int.reduceBNe, Int.reduceNeg, Int.reduceAdd, Int.reduceSub, Int.reduceMul, reduceCtorEq, hr, QuakeRow.cs] | simp -implicitDefEqProofs -dsimp (disch := omega) only [wrap_i64]))
    repeat (with_reducible refine sideA ?_)
    refine callS.intro (hv L[i]) ⟨.inl rfl, LeL_same (hvc2 _ _)⟩ (.inl (by simp only [List.nil_append, List.cons_append, List.all_cons, hvc, Bool.and_true]; rfl)) ?_
    simp -implicitDefEqProofs -dsimp only [go_sem, Nat.reduceSub, Nat.reduceAdd, Nat.reduceMul, Nat.reduceLT, Nat.reduceLeDiff, Nat.reduceEqDiff, Nat.reduceDiv, Nat.reduceMod, Int.reduceToNat, Int.reduceLE, Int.reduceLT, Int.reduceBEq, Int.reduceBNe, Int.reduceNeg, Int.reduceAdd, Int.reduceSub, Int.reduceMul, reduceCtorEq]
    refine condT.split (fun h2 => ?_) (fun h2 => ?_) <;> simp -implicitDefEqProofs -dsimp only [go_sem, Nat.reduceSub, Nat.reduceAdd, Nat.reduceMul, Nat.reduceLT, Nat.reduceLeDiff, Nat.reduceEqDiff, Nat.reduceDiv, Nat.reduceMod, Int.reduceToNat, Int.reduceLE, Int.reduceLT, Int.reduceBEq, Int.reduceBNe, Int.reduceNeg, Int.reduceAdd, Int.reduceSub, Int.reduceMul, reduceCtorEq, h2]
    · try (repeat1' (first | simp -implicitDefEqProofs -dsimp only [go_sem, Nat.reduceSub, Nat.reduceAdd, Nat.reduceMul, Nat.reduceLT, Nat.reduceLeDiff, Nat.reduceEqDiff, Nat.reduceDiv, Nat.reduceMod, Int.reduceToNat, Int.reduceLE, Int.reduceLT, Int.reduceBEq, Int.reduceBNe, Int.reduceNeg, Int.reduceAdd, Int.reduceSub, Int.reduceMul, reduceCtorEq, rows_length, Nat.mul_one, rows_cell, List.length_append, List.length_cons, List.length_nil] | simp -implicitDefEqProofs -dsimp (disch := omega) only [wrap_i64]))
      repeat (with_reducible refine sideA ?_)
      refine ⟨i + 1, hi', ?_, by omega⟩
      refine Weak.cut (1) (by simp) (by simp) ?_ ?_
      · rw [hstep hi', h2]
        simp [LeC, LeV, ren, cutF, hvc2]
      · rw [hstep hi', h2, if_pos rfl, ← rows_snoc]
        simp [cutH, cutB, map_ren_rows, killC, ren, QuakeRow.cs]
    · refine ⟨i + 1, hi', ?_, by omega⟩
      refine Weak.cut (1) (by simp) (by simp) ?_ ?_
      · rw [hstep hi', h2, wrap_i64 (by omega) (by omega)]
        simp [LeC, LeV, ren, cutF, hvc2]
      · rw [hstep hi', h2]
        simp [cutH, cutB, map_ren_rows]
  · simp -implicitDefEqProofs -dsimp only [go_sem, Nat.reduceSub, Nat.reduceAdd, Nat.reduceMul, Nat.reduceLT, Nat.reduceLeDiff, Nat.reduceEqDiff, Nat.reduceDiv, Nat.reduceMod, Int.reduceToNat, Int.reduceLE, Int.reduceLT, Int.reduceBEq, Int.reduceBNe, Int.reduceNeg, Int.reduceAdd, Int.reduceSub, Int.reduceMul, reduceCtorEq, h1]
    have hi' : i = L.length := by simp at h1; omega
    subst hi'
    rw [List.take_length]
    exact WeakR.refl _ _ _
theorem differQuakeRow_ok (L : List QuakeRow) (key : QuakeRow → Int) (fk : Nat) (hkey : ∀ x, Ctr Try.prog fk [QuakeRow.v x] [] (.int .i64 (key x)) []) (hl : L.length ≤ 281474976710656) :
    Ctr Try.prog 166 [QuakeRow.sl L, .fn (.func fk) [] []] [] (.bool (decide (L.map key).Nodup)) [] := by
  refine Ctr.intro Try.mixed Try.func166 rfl Try.okF166 ?_
  simp -implicitDefEqProofs -dsimp only [go_sem, Nat.reduceSub, Nat.reduceAdd, Nat.reduceMul, Nat.reduceLT, Nat.reduceLeDiff, Nat.reduceEqDiff, Nat.reduceDiv, Nat.reduceMod, Int.reduceToNat, Int.reduceLE, Int.reduceLT, Int.reduceBEq, Int.reduceBNe, Int.reduceNeg, Int.reduceAdd, Int.reduceSub, Int.reduceMul, reduceCtorEq, Try.ntmps166, Try.results166]
  refine LoopT.intro (fun i : Nat => i ≤ L.length ∧ ((L.take i).map key).Nodup) (fun i => ⟨[.undef, .fn (.func fk) [] [], .undef, .undef, .undef, .mp 0, .undef, .undef, .undef, QuakeRow.sl L, .int .i64 L.length, .int .i64 i, .undef, .undef, .undef, .undef, .undef, .undef, .undef, .undef, .undef, .undef, .undef, .undef, .undef], [some [.mb (intSet ((L.take i).map key))]], 0⟩) (fun i => L.length - i) 0 ⟨Nat.zero_le _, by simp⟩ ?_ (fun i hi => ?_)
  · refine Weak.cut (1) (by simp) (by simp) ?_ ?_
    · simp [LeC, LeV, ren, cutF]
    · simp [cutH, cutB, ren, intSet]
  simp -implicitDefEqProofs -dsimp only [go_sem, Nat.reduceSub, Nat.reduceAdd, Nat.reduceMul, Nat.reduceLT, Nat.reduceLeDiff, Nat.reduceEqDiff, Nat.reduceDiv, Nat.reduceMod, Int.reduceToNat, Int.reduceLE, Int.reduceLT, Int.reduceBEq, Int.reduceBNe, Int.reduceNeg, Int.reduceAdd, Int.reduceSub, Int.reduceMul, reduceCtorEq]
  refine condT.split (fun h1 => ?_) (fun h1 => ?_)
  · simp -implicitDefEqProofs -dsimp only [go_sem, Nat.reduceSub, Nat.reduceAdd, Nat.reduceMul, Nat.reduceLT, Nat.reduceLeDiff, Nat.reduceEqDiff, Nat.reduceDiv, Nat.reduceMod, Int.reduceToNat, Int.reduceLE, Int.reduceLT, Int.reduceBEq, Int.reduceBNe, Int.reduceNeg, Int.reduceAdd, Int.reduceSub, Int.reduceMul, reduceCtorEq, h1]
    have hi' : i < L.length := by simpa using h1
    have h5 := QuakeRow.csl L[i]
    have hr := rows_at QuakeRow.csl hi'
    have ht : (L.take (i + 1)).map key = (L.take i).map key ++ [key L[i]] := by rw [List.take_succ_eq_append_getElem hi', List.map_append]; rfl
    (repeat1' (first | simp -implicitDefEqProofs -dsimp only [go_sem, Nat.reduceSub, Nat.reduceAdd, Nat.reduceMul, Nat.reduceLT, Nat.reduceLeDiff, Nat.reduceEqDiff, Nat.reduceDiv, Nat.reduceMod, Int.reduceToNat, Int.reduceLE, Int.reduceLT, Int.reduceBEq, Int.reduceBNe, Int.reduceNeg, Int.reduceAdd, Int.reduceSub, Int.reduceMul, reduceCtorEq, hr, QuakeRow.cs] | simp -implicitDefEqProofs -dsimp (disch := omega) only [wrap_i64]))
    repeat (with_reducible refine sideA ?_)
    (first | refine callT.at (hkey L[i]) ⟨.inl rfl, trivial⟩ ?_ | refine callS.at (hkey L[i]) ⟨.inl rfl, trivial⟩ ?_)
    simp -implicitDefEqProofs -dsimp only [go_sem, Nat.reduceSub, Nat.reduceAdd, Nat.reduceMul, Nat.reduceLT, Nat.reduceLeDiff, Nat.reduceEqDiff, Nat.reduceDiv, Nat.reduceMod, Int.reduceToNat, Int.reduceLE, Int.reduceLT, Int.reduceBEq, Int.reduceBNe, Int.reduceNeg, Int.reduceAdd, Int.reduceSub, Int.reduceMul, reduceCtorEq]
    by_cases hm : key L[i] ∈ (L.take i).map key
    · obtain ⟨j, hj⟩ := intSet_has 0 hm
      simp -implicitDefEqProofs -dsimp only [go_sem, Nat.reduceSub, Nat.reduceAdd, Nat.reduceMul, Nat.reduceLT, Nat.reduceLeDiff, Nat.reduceEqDiff, Nat.reduceDiv, Nat.reduceMod, Int.reduceToNat, Int.reduceLE, Int.reduceLT, Int.reduceBEq, Int.reduceBNe, Int.reduceNeg, Int.reduceAdd, Int.reduceSub, Int.reduceMul, reduceCtorEq, hj]
      refine WeakR.drop' ?_ (by rfl)
      have : ¬ (L.map key).Nodup := by
        intro hn
        have h2 : ((L.take (i + 1)).map key).Nodup := (List.map_take ▸ hn.sublist (List.take_sublist _ _))
        rw [ht] at h2
        have := (List.nodup_append.1 h2).2.2 _ hm (key L[i]) (by simp)
        exact this rfl
      rw [decide_eq_false this]
    · have hj := intSet_not 0 hm
      simp -implicitDefEqProofs -dsimp only [go_sem, Nat.reduceSub, Nat.reduceAdd, Nat.reduceMul, Nat.reduceLT, Nat.reduceLeDiff, Nat.reduceEqDiff, Nat.reduceDiv, Nat.reduceMod, Int.reduceToNat, Int.reduceLE, Int.reduceLT, Int.reduceBEq, Int.reduceBNe, Int.reduceNeg, Int.reduceAdd, Int.reduceSub, Int.reduceMul, reduceCtorEq, hj]
      (first | refine callT.at (hkey L[i]) ⟨.inl rfl, trivial⟩ ?_ | refine callS.at (hkey L[i]) ⟨.inl rfl, trivial⟩ ?_)
      simp -implicitDefEqProofs -dsimp only [go_sem, Nat.reduceSub, Nat.reduceAdd, Nat.reduceMul, Nat.reduceLT, Nat.reduceLeDiff, Nat.reduceEqDiff, Nat.reduceDiv, Nat.reduceMod, Int.reduceToNat, Int.reduceLE, Int.reduceLT, Int.reduceBEq, Int.reduceBNe, Int.reduceNeg, Int.reduceAdd, Int.reduceSub, Int.reduceMul, reduceCtorEq, hj, intSet_put]
      refine ⟨i + 1, ⟨hi', ?_⟩, ?_, by omega⟩
      · rw [ht, List.nodup_append]
        exact ⟨hi.2, by simp, fun a ha b hb => by simp at hb; subst hb; rintro rfl; exact hm ha⟩
      refine Weak.cut (1) (by simp) (by simp) ?_ ?_
      · rw [wrap_i64 (by omega) (by omega)]
        simp [LeC, LeV, ren, cutF]
      · rw [ht]
        simp [cutH, cutB, ren]
  · simp -implicitDefEqProofs -dsimp only [go_sem, Nat.reduceSub, Nat.reduceAdd, Nat.reduceMul, Nat.reduceLT, Nat.reduceLeDiff, Nat.reduceEqDiff, Nat.reduceDiv, Nat.reduceMod, Int.reduceToNat, Int.reduceLE, Int.reduceLT, Int.reduceBEq, Int.reduceBNe, Int.reduceNeg, Int.reduceAdd, Int.reduceSub, Int.reduceMul, reduceCtorEq, h1]
    have hi' : i = L.length := by simp at h1; omega
    subst hi'
    have h2 := hi.2
    rw [List.take_length] at h2
    exact WeakR.drop' (by rw [decide_eq_true h2]) (by rfl)
end Go.Proofs
end
section
set_option linter.unusedSimpArgs false
set_option linter.unusedVariables false
set_option maxRecDepth 100000
namespace Go.Proofs
open Go.Lv
def qrB (r : QuakeRow) : Bool := inB' r.Id 1 9999 && inB' r.Tick 0 1000000 && placeB r.X r.Y && inB' r.Deep 0 700 && inB' r.Size (-100) 1000 && inB' r.Grade 1 4
theorem qrB_iff {r : QuakeRow} : qrB r = true ↔ (1 ≤ r.Id ∧ r.Id ≤ 9999) ∧ (0 ≤ r.Tick ∧ r.Tick ≤ 1000000) ∧ ((0 ≤ r.X ∧ r.X ≤ 999) ∧ 0 ≤ r.Y ∧ r.Y ≤ 999) ∧ (0 ≤ r.Deep ∧ r.Deep ≤ 700) ∧ (-100 ≤ r.Size ∧ r.Size ≤ 1000) ∧ 1 ≤ r.Grade ∧ r.Grade ≤ 4 := by
  simp [qrB, placeB, inB', and_assoc]
theorem l24One_ok (r : QuakeRow) : Ctr Try.prog 162 [r.v] [] (.bool (qrB r)) [] := by
  refine Ctr.intro Try.mixed Try.func162 rfl Try.okF162 ?_
  simp -implicitDefEqProofs -dsimp only [go_sem, Nat.reduceSub, Nat.reduceAdd, Nat.reduceMul, Nat.reduceLT, Nat.reduceLeDiff, Nat.reduceEqDiff, Nat.reduceDiv, Nat.reduceMod, Int.reduceToNat, Int.reduceLE, Int.reduceLT, Int.reduceBEq, Int.reduceBNe, Int.reduceNeg, Int.reduceAdd, Int.reduceSub, Int.reduceMul, reduceCtorEq, Try.ntmps162, Try.results162]
  simp -implicitDefEqProofs -dsimp only [go_sem, Nat.reduceSub, Nat.reduceAdd, Nat.reduceMul, Nat.reduceLT, Nat.reduceLeDiff, Nat.reduceEqDiff, Nat.reduceDiv, Nat.reduceMod, Int.reduceToNat, Int.reduceLE, Int.reduceLT, Int.reduceBEq, Int.reduceBNe, Int.reduceNeg, Int.reduceAdd, Int.reduceSub, Int.reduceMul, reduceCtorEq, QuakeRow.v]
  repeat' (first | (refine WeakR.drop' ?_ (by rfl); first | rfl | (simp [qrB, *]; done)) | ((first | refine callT.at (l1In_ok _ _ _) ⟨leA, leA, leA, trivial⟩ ?_ | refine callS.at (l1In_ok _ _ _) ⟨leA, leA, leA, trivial⟩ ?_); simp -implicitDefEqProofs -dsimp only [go_sem, Nat.reduceSub, Nat.reduceAdd, Nat.reduceMul, Nat.reduceLT, Nat.reduceLeDiff, Nat.reduceEqDiff, Nat.reduceDiv, Nat.reduceMod, Int.reduceToNat, Int.reduceLE, Int.reduceLT, Int.reduceBEq, Int.reduceBNe, Int.reduceNeg, Int.reduceAdd, Int.reduceSub, Int.reduceMul, reduceCtorEq, *]) | ((first | refine callT.at (l2Tick_ok _) ⟨leA, trivial⟩ ?_ | refine callS.at (l2Tick_ok _) ⟨leA, trivial⟩ ?_); simp -implicitDefEqProofs -dsimp only [go_sem, Nat.reduceSub, Nat.reduceAdd, Nat.reduceMul, Nat.reduceLT, Nat.reduceLeDiff, Nat.reduceEqDiff, Nat.reduceDiv, Nat.reduceMod, Int.reduceToNat, Int.reduceLE, Int.reduceLT, Int.reduceBEq, Int.reduceBNe, Int.reduceNeg, Int.reduceAdd, Int.reduceSub, Int.reduceMul, reduceCtorEq, *]) | ((first | refine callT.at (l2Place_ok _ _) ⟨leA, leA, trivial⟩ ?_ | refine callS.at (l2Place_ok _ _) ⟨leA, leA, trivial⟩ ?_); simp -implicitDefEqProofs -dsimp only [go_sem, Nat.reduceSub, Nat.reduceAdd, Nat.reduceMul, Nat.reduceLT, Nat.reduceLeDiff, Nat.reduceEqDiff, Nat.reduceDiv, Nat.reduceMod, Int.reduceToNat, Int.reduceLE, Int.reduceLT, Int.reduceBEq, Int.reduceBNe, Int.reduceNeg, Int.reduceAdd, Int.reduceSub, Int.reduceMul, reduceCtorEq, *]) | ((first | refine callT.at (l24Size_ok _) ⟨leA, trivial⟩ ?_ | refine callS.at (l24Size_ok _) ⟨leA, trivial⟩ ?_); simp -implicitDefEqProofs -dsimp only [go_sem, Nat.reduceSub, Nat.reduceAdd, Nat.reduceMul, Nat.reduceLT, Nat.reduceLeDiff, Nat.reduceEqDiff, Nat.reduceDiv, Nat.reduceMod, Int.reduceToNat, Int.reduceLE, Int.reduceLT, Int.reduceBEq, Int.reduceBNe, Int.reduceNeg, Int.reduceAdd, Int.reduceSub, Int.reduceMul, reduceCtorEq, *]) | (refine guardT.splitT (fun _ => ?_) (fun _ => ?_) <;> simp -implicitDefEqProofs -dsimp only [go_sem, Nat.reduceSub, Nat.reduceAdd, Nat.reduceMul, Nat.reduceLT, Nat.reduceLeDiff, Nat.reduceEqDiff, Nat.reduceDiv, Nat.reduceMod, Int.reduceToNat, Int.reduceLE, Int.reduceLT, Int.reduceBEq, Int.reduceBNe, Int.reduceNeg, Int.reduceAdd, Int.reduceSub, Int.reduceMul, reduceCtorEq, *]) | (refine guardT.splitF (fun _ => ?_) (fun _ => ?_) <;> simp -implicitDefEqProofs -dsimp only [go_sem, Nat.reduceSub, Nat.reduceAdd, Nat.reduceMul, Nat.reduceLT, Nat.reduceLeDiff, Nat.reduceEqDiff, Nat.reduceDiv, Nat.reduceMod, Int.reduceToNat, Int.reduceLE, Int.reduceLT, Int.reduceBEq, Int.reduceBNe, Int.reduceNeg, Int.reduceAdd, Int.reduceSub, Int.reduceMul, reduceCtorEq, *]) | (refine condT.split (fun _ => ?_) (fun _ => ?_) <;> simp -implicitDefEqProofs -dsimp only [go_sem, Nat.reduceSub, Nat.reduceAdd, Nat.reduceMul, Nat.reduceLT, Nat.reduceLeDiff, Nat.reduceEqDiff, Nat.reduceDiv, Nat.reduceMod, Int.reduceToNat, Int.reduceLE, Int.reduceLT, Int.reduceBEq, Int.reduceBNe, Int.reduceNeg, Int.reduceAdd, Int.reduceSub, Int.reduceMul, reduceCtorEq, *]))
theorem iIsQuakeRow_ok (r : QuakeRow) : Ctr Try.prog 164 [r.v] [] (.bool (qrB r)) [] := by
  refine Ctr.intro Try.mixed Try.func164 rfl Try.okF164 ?_
  simp -implicitDefEqProofs -dsimp only [go_sem, Nat.reduceSub, Nat.reduceAdd, Nat.reduceMul, Nat.reduceLT, Nat.reduceLeDiff, Nat.reduceEqDiff, Nat.reduceDiv, Nat.reduceMod, Int.reduceToNat, Int.reduceLE, Int.reduceLT, Int.reduceBEq, Int.reduceBNe, Int.reduceNeg, Int.reduceAdd, Int.reduceSub, Int.reduceMul, reduceCtorEq, Try.ntmps164, Try.results164]
  simp -implicitDefEqProofs -dsimp only [go_sem, Nat.reduceSub, Nat.reduceAdd, Nat.reduceMul, Nat.reduceLT, Nat.reduceLeDiff, Nat.reduceEqDiff, Nat.reduceDiv, Nat.reduceMod, Int.reduceToNat, Int.reduceLE, Int.reduceLT, Int.reduceBEq, Int.reduceBNe, Int.reduceNeg, Int.reduceAdd, Int.reduceSub, Int.reduceMul, reduceCtorEq, QuakeRow.v]
  repeat' (first | (refine WeakR.drop' ?_ (by rfl); first | rfl | (simp [qrB, *]; done)) | ((first | refine callT.at (in_ok _ _ _) ⟨leA, leA, leA, trivial⟩ ?_ | refine callS.at (in_ok _ _ _) ⟨leA, leA, leA, trivial⟩ ?_); simp -implicitDefEqProofs -dsimp only [go_sem, Nat.reduceSub, Nat.reduceAdd, Nat.reduceMul, Nat.reduceLT, Nat.reduceLeDiff, Nat.reduceEqDiff, Nat.reduceDiv, Nat.reduceMod, Int.reduceToNat, Int.reduceLE, Int.reduceLT, Int.reduceBEq, Int.reduceBNe, Int.reduceNeg, Int.reduceAdd, Int.reduceSub, Int.reduceMul, reduceCtorEq, *]) | ((first | refine callT.at (isTick_ok _) ⟨leA, trivial⟩ ?_ | refine callS.at (isTick_ok _) ⟨leA, trivial⟩ ?_); simp -implicitDefEqProofs -dsimp only [go_sem, Nat.reduceSub, Nat.reduceAdd, Nat.reduceMul, Nat.reduceLT, Nat.reduceLeDiff, Nat.reduceEqDiff, Nat.reduceDiv, Nat.reduceMod, Int.reduceToNat, Int.reduceLE, Int.reduceLT, Int.reduceBEq, Int.reduceBNe, Int.reduceNeg, Int.reduceAdd, Int.reduceSub, Int.reduceMul, reduceCtorEq, *]) | ((first | refine callT.at (isPlace_ok _ _) ⟨leA, leA, trivial⟩ ?_ | refine callS.at (isPlace_ok _ _) ⟨leA, leA, trivial⟩ ?_); simp -implicitDefEqProofs -dsimp only [go_sem, Nat.reduceSub, Nat.reduceAdd, Nat.reduceMul, Nat.reduceLT, Nat.reduceLeDiff, Nat.reduceEqDiff, Nat.reduceDiv, Nat.reduceMod, Int.reduceToNat, Int.reduceLE, Int.reduceLT, Int.reduceBEq, Int.reduceBNe, Int.reduceNeg, Int.reduceAdd, Int.reduceSub, Int.reduceMul, reduceCtorEq, *]) | ((first | refine callT.at (isRowSize_ok _) ⟨leA, trivial⟩ ?_ | refine callS.at (isRowSize_ok _) ⟨leA, trivial⟩ ?_); simp -implicitDefEqProofs -dsimp only [go_sem, Nat.reduceSub, Nat.reduceAdd, Nat.reduceMul, Nat.reduceLT, Nat.reduceLeDiff, Nat.reduceEqDiff, Nat.reduceDiv, Nat.reduceMod, Int.reduceToNat, Int.reduceLE, Int.reduceLT, Int.reduceBEq, Int.reduceBNe, Int.reduceNeg, Int.reduceAdd, Int.reduceSub, Int.reduceMul, reduceCtorEq, *]) | (refine guardT.splitT (fun _ => ?_) (fun _ => ?_) <;> simp -implicitDefEqProofs -dsimp only [go_sem, Nat.reduceSub, Nat.reduceAdd, Nat.reduceMul, Nat.reduceLT, Nat.reduceLeDiff, Nat.reduceEqDiff, Nat.reduceDiv, Nat.reduceMod, Int.reduceToNat, Int.reduceLE, Int.reduceLT, Int.reduceBEq, Int.reduceBNe, Int.reduceNeg, Int.reduceAdd, Int.reduceSub, Int.reduceMul, reduceCtorEq, *]) | (refine guardT.splitF (fun _ => ?_) (fun _ => ?_) <;> simp -implicitDefEqProofs -dsimp only [go_sem, Nat.reduceSub, Nat.reduceAdd, Nat.reduceMul, Nat.reduceLT, Nat.reduceLeDiff, Nat.reduceEqDiff, Nat.reduceDiv, Nat.reduceMod, Int.reduceToNat, Int.reduceLE, Int.reduceLT, Int.reduceBEq, Int.reduceBNe, Int.reduceNeg, Int.reduceAdd, Int.reduceSub, Int.reduceMul, reduceCtorEq, *]) | (refine condT.split (fun _ => ?_) (fun _ => ?_) <;> simp -implicitDefEqProofs -dsimp only [go_sem, Nat.reduceSub, Nat.reduceAdd, Nat.reduceMul, Nat.reduceLT, Nat.reduceLeDiff, Nat.reduceEqDiff, Nat.reduceDiv, Nat.reduceMod, Int.reduceToNat, Int.reduceLE, Int.reduceLT, Int.reduceBEq, Int.reduceBNe, Int.reduceNeg, Int.reduceAdd, Int.reduceSub, Int.reduceMul, reduceCtorEq, *]))
theorem tickOf_ok (r : QuakeRow) : Ctr Try.prog 165 [r.v] [] (.int .i64 r.Tick) [] := by
  refine Ctr.intro Try.mixed Try.func165 rfl Try.okF165 ?_
  simp -implicitDefEqProofs -dsimp only [go_sem, Nat.reduceSub, Nat.reduceAdd, Nat.reduceMul, Nat.reduceLT, Nat.reduceLeDiff, Nat.reduceEqDiff, Nat.reduceDiv, Nat.reduceMod, Int.reduceToNat, Int.reduceLE, Int.reduceLT, Int.reduceBEq, Int.reduceBNe, Int.reduceNeg, Int.reduceAdd, Int.reduceSub, Int.reduceMul, reduceCtorEq, Try.ntmps165, Try.results165]
  simp -implicitDefEqProofs -dsimp only [go_sem, Nat.reduceSub, Nat.reduceAdd, Nat.reduceMul, Nat.reduceLT, Nat.reduceLeDiff, Nat.reduceEqDiff, Nat.reduceDiv, Nat.reduceMod, Int.reduceToNat, Int.reduceLE, Int.reduceLT, Int.reduceBEq, Int.reduceBNe, Int.reduceNeg, Int.reduceAdd, Int.reduceSub, Int.reduceMul, reduceCtorEq, QuakeRow.v]
  exact WeakR.drop' rfl rfl
theorem idOf_ok (r : QuakeRow) : Ctr Try.prog 167 [r.v] [] (.int .i64 r.Id) [] := by
  refine Ctr.intro Try.mixed Try.func167 rfl Try.okF167 ?_
  simp -implicitDefEqProofs -dsimp only [go_sem, Nat.reduceSub, Nat.reduceAdd, Nat.reduceMul, Nat.reduceLT, Nat.reduceLeDiff, Nat.reduceEqDiff, Nat.reduceDiv, Nat.reduceMod, Int.reduceToNat, Int.reduceLE, Int.reduceLT, Int.reduceBEq, Int.reduceBNe, Int.reduceNeg, Int.reduceAdd, Int.reduceSub, Int.reduceMul, reduceCtorEq, Try.ntmps167, Try.results167]
  simp -implicitDefEqProofs -dsimp only [go_sem, Nat.reduceSub, Nat.reduceAdd, Nat.reduceMul, Nat.reduceLT, Nat.reduceLeDiff, Nat.reduceEqDiff, Nat.reduceDiv, Nat.reduceMod, Int.reduceToNat, Int.reduceLE, Int.reduceLT, Int.reduceBEq, Int.reduceBNe, Int.reduceNeg, Int.reduceAdd, Int.reduceSub, Int.reduceMul, reduceCtorEq, QuakeRow.v]
  exact WeakR.drop' rfl rfl
def bulB (L : List QuakeRow) : Bool := listedB qrB QuakeRow.Tick 12 L && decide (L.map QuakeRow.Id).Nodup
theorem bulB_all {L : List QuakeRow} (h : bulB L = true) : (∀ x ∈ L, qrB x = true) ∧ L.length ≤ 12 := by
  simp only [bulB, Bool.and_eq_true] at h
  exact listedB_all h.1
theorem iIsBulletin_ok (L : List QuakeRow) (hl : L.length ≤ 281474976710656) : Ctr Try.prog 99 [QuakeRow.sl L] [] (.bool (bulB L)) [] := by
  refine Ctr.intro Try.mixed Try.func99 rfl Try.okF99 ?_
  simp -implicitDefEqProofs -dsimp only [go_sem, Nat.reduceSub, Nat.reduceAdd, Nat.reduceMul, Nat.reduceLT, Nat.reduceLeDiff, Nat.reduceEqDiff, Nat.reduceDiv, Nat.reduceMod, Int.reduceToNat, Int.reduceLE, Int.reduceLT, Int.reduceBEq, Int.reduceBNe, Int.reduceNeg, Int.reduceAdd, Int.reduceSub, Int.reduceMul, reduceCtorEq, Try.ntmps99, Try.results99]
  refine callS.intro (areListedQuakeRow_ok L qrB QuakeRow.Tick 12 _ _ [] [] (fun _ => rfl) (fun _ => rfl) iIsQuakeRow_ok tickOf_ok 12 rfl hl) ⟨.inl rfl, .inl rfl, .inl rfl, .inl rfl, trivial⟩ (.inl rfl) ?_
  simp -implicitDefEqProofs -dsimp only [go_sem, Nat.reduceSub, Nat.reduceAdd, Nat.reduceMul, Nat.reduceLT, Nat.reduceLeDiff, Nat.reduceEqDiff, Nat.reduceDiv, Nat.reduceMod, Int.reduceToNat, Int.reduceLE, Int.reduceLT, Int.reduceBEq, Int.reduceBNe, Int.reduceNeg, Int.reduceAdd, Int.reduceSub, Int.reduceMul, reduceCtorEq]
  refine guardT.splitT (fun h1 => ?_) (fun h1 => ?_) <;> simp -implicitDefEqProofs -dsimp only [go_sem, Nat.reduceSub, Nat.reduceAdd, Nat.reduceMul, Nat.reduceLT, Nat.reduceLeDiff, Nat.reduceEqDiff, Nat.reduceDiv, Nat.reduceMod, Int.reduceToNat, Int.reduceLE, Int.reduceLT, Int.reduceBEq, Int.reduceBNe, Int.reduceNeg, Int.reduceAdd, Int.reduceSub, Int.reduceMul, reduceCtorEq, h1]
  · (first | refine callT.at (differQuakeRow_ok L QuakeRow.Id _ idOf_ok hl) ⟨leA, leA, trivial⟩ ?_ | refine callS.at (differQuakeRow_ok L QuakeRow.Id _ idOf_ok hl) ⟨leA, leA, trivial⟩ ?_)
    simp -implicitDefEqProofs -dsimp only [go_sem, Nat.reduceSub, Nat.reduceAdd, Nat.reduceMul, Nat.reduceLT, Nat.reduceLeDiff, Nat.reduceEqDiff, Nat.reduceDiv, Nat.reduceMod, Int.reduceToNat, Int.reduceLE, Int.reduceLT, Int.reduceBEq, Int.reduceBNe, Int.reduceNeg, Int.reduceAdd, Int.reduceSub, Int.reduceMul, reduceCtorEq, h1]
    exact WeakR.drop' (by simp [bulB, h1]) (by rfl)
  · exact WeakR.drop' (by simp [bulB, h1]) (by rfl)
theorem l24Good_ok (L : List QuakeRow) (hl : L.length ≤ 281474976710656) : Ctr Try.prog 98 [QuakeRow.sl L] [] (.bool (bulB L)) [] := by
  refine Ctr.intro Try.mixed Try.func98 rfl Try.okF98 ?_
  simp -implicitDefEqProofs -dsimp only [go_sem, Nat.reduceSub, Nat.reduceAdd, Nat.reduceMul, Nat.reduceLT, Nat.reduceLeDiff, Nat.reduceEqDiff, Nat.reduceDiv, Nat.reduceMod, Int.reduceToNat, Int.reduceLE, Int.reduceLT, Int.reduceBEq, Int.reduceBNe, Int.reduceNeg, Int.reduceAdd, Int.reduceSub, Int.reduceMul, reduceCtorEq, Try.ntmps98, Try.results98]
  refine LoopT.intro (fun i : Nat => i ≤ L.length ∧ i ≤ 13 ∧ (List.range i).all (listedQ qrB QuakeRow.Tick L) = true ∧ ((L.take i).map QuakeRow.Id).Nodup) (fun i => ⟨[QuakeRow.sl L, .undef, .undef, .int .i64 i, .undef, .undef, .undef, .undef, .undef, .undef, .undef, .undef, .undef, .undef, .undef, .undef, .undef, .undef, .undef, .undef, .undef, .undef, .undef, .undef, .undef, .undef, .undef, .undef, .undef, .undef, .undef, .undef, .undef, .undef, .undef, .undef, .undef, .undef, .undef, .undef, .undef, .undef, .undef, .undef, .undef, .undef, .undef, .undef, .undef, .undef, .undef, .undef, .undef, .undef, .undef, .undef, .undef, .undef], [], 0⟩) (fun i => L.length - i) 0 ⟨Nat.zero_le _, by omega, rfl, by simp⟩ ?_ (fun i hi => ?_)
  · refine Weak.cut (0) (by simp) (by simp) ?_ ?_
    · simp [LeC, LeV, ren, cutF]
    · rfl
  obtain ⟨hi0, hi1, hi2, hi3⟩ := hi
  have hend : ∀ b : Bool, (i = L.length ∨ i = 13) → b = decide ((L.length : Int) ≤ 12) → b = bulB L := by
    intro b h1 h2
    subst h2
    rcases h1 with h1 | h1
    · subst h1
      rw [List.take_length] at hi3
      rw [bulB, listedB, hi2, decide_eq_true hi3]
      simp
      omega
    · have : ¬ L.length ≤ 12 := by omega
      rw [bulB, listedB, decide_eq_false this, decide_eq_false (by omega)]
      simp
  simp -implicitDefEqProofs -dsimp only [go_sem, Nat.reduceSub, Nat.reduceAdd, Nat.reduceMul, Nat.reduceLT, Nat.reduceLeDiff, Nat.reduceEqDiff, Nat.reduceDiv, Nat.reduceMod, Int.reduceToNat, Int.reduceLE, Int.reduceLT, Int.reduceBEq, Int.reduceBNe, Int.reduceNeg, Int.reduceAdd, Int.reduceSub, Int.reduceMul, reduceCtorEq]
  refine guardT.splitT (fun h1 => ?_) (fun h1 => ?_) <;> simp -implicitDefEqProofs -dsimp only [go_sem, Nat.reduceSub, Nat.reduceAdd, Nat.reduceMul, Nat.reduceLT, Nat.reduceLeDiff, Nat.reduceEqDiff, Nat.reduceDiv, Nat.reduceMod, Int.reduceToNat, Int.reduceLE, Int.reduceLT, Int.reduceBEq, Int.reduceBNe, Int.reduceNeg, Int.reduceAdd, Int.reduceSub, Int.reduceMul, reduceCtorEq, h1]
  · have hi' : i < L.length := by simpa using h1
    refine condT.split (fun h2 => ?_) (fun h2 => ?_) <;> simp -implicitDefEqProofs -dsimp only [go_sem, Nat.reduceSub, Nat.reduceAdd, Nat.reduceMul, Nat.reduceLT, Nat.reduceLeDiff, Nat.reduceEqDiff, Nat.reduceDiv, Nat.reduceMod, Int.reduceToNat, Int.reduceLE, Int.reduceLT, Int.reduceBEq, Int.reduceBNe, Int.reduceNeg, Int.reduceAdd, Int.reduceSub, Int.reduceMul, reduceCtorEq, h2]
    · have hi12 : i ≤ 12 := by simp at h2; omega
      have h5 := QuakeRow.csl L[i]
      have hr := rows_at QuakeRow.csl hi'
      have hbad : listedQ qrB QuakeRow.Tick L i = false → V.bool false = V.bool (bulB L) := by
        intro hq
        rw [bulB, listedB_false hi' hq, Bool.false_and]
      simp -implicitDefEqProofs -dsimp only [go_sem, Nat.reduceSub, Nat.reduceAdd, Nat.reduceMul, Nat.reduceLT, Nat.reduceLeDiff, Nat.reduceEqDiff, Nat.reduceDiv, Nat.reduceMod, Int.reduceToNat, Int.reduceLE, Int.reduceLT, Int.reduceBEq, Int.reduceBNe, Int.reduceNeg, Int.reduceAdd, Int.reduceSub, Int.reduceMul, reduceCtorEq, hr]
      repeat (with_reducible refine sideA ?_)
      (first | refine callT.at (l24One_ok L[i]) ⟨.inl rfl, trivial⟩ ?_ | refine callS.at (l24One_ok L[i]) ⟨.inl rfl, trivial⟩ ?_)
      simp -implicitDefEqProofs -dsimp only [go_sem, Nat.reduceSub, Nat.reduceAdd, Nat.reduceMul, Nat.reduceLT, Nat.reduceLeDiff, Nat.reduceEqDiff, Nat.reduceDiv, Nat.reduceMod, Int.reduceToNat, Int.reduceLE, Int.reduceLT, Int.reduceBEq, Int.reduceBNe, Int.reduceNeg, Int.reduceAdd, Int.reduceSub, Int.reduceMul, reduceCtorEq]
      -- the inner loop
      have inner : ∀ (t : List V), listedQ qrB QuakeRow.Tick L i = true → True := fun _ _ => trivial
      refine guardT.splitF (fun h3 => ?_) (fun h3 => ?_) <;> simp -implicitDefEqProofs -dsimp only [go_sem, Nat.reduceSub, Nat.reduceAdd, Nat.reduceMul, Nat.reduceLT, Nat.reduceLeDiff, Nat.reduceEqDiff, Nat.reduceDiv, Nat.reduceMod, Int.reduceToNat, Int.reduceLE, Int.reduceLT, Int.reduceBEq, Int.reduceBNe, Int.reduceNeg, Int.reduceAdd, Int.reduceSub, Int.reduceMul, reduceCtorEq, h3]
      · have hw : qrB L[i] = true := by simpa using h3
        refine guardT.splitT (fun h4 => ?_) (fun h4 => ?_) <;> simp -implicitDefEqProofs -dsimp only [go_sem, Nat.reduceSub, Nat.reduceAdd, Nat.reduceMul, Nat.reduceLT, Nat.reduceLeDiff, Nat.reduceEqDiff, Nat.reduceDiv, Nat.reduceMod, Int.reduceToNat, Int.reduceLE, Int.reduceLT, Int.reduceBEq, Int.reduceBNe, Int.reduceNeg, Int.reduceAdd, Int.reduceSub, Int.reduceMul, reduceCtorEq, h4]
        · obtain ⟨j, rfl⟩ : ∃ j, i = j + 1 := ⟨i - 1, by simp at h4; omega⟩
          have hj : j < L.length := by omega
          have hw1 : IntKind.i64.wrap (((j + 1 : Nat) : Int) - 1) = (j : Int) := by rw [wrap_i64 (by omega) (by omega)]; omega
          have hr2 := rows_at QuakeRow.csl hj
          simp -implicitDefEqProofs -dsimp only [go_sem, Nat.reduceSub, Nat.reduceAdd, Nat.reduceMul, Nat.reduceLT, Nat.reduceLeDiff, Nat.reduceEqDiff, Nat.reduceDiv, Nat.reduceMod, Int.reduceToNat, Int.reduceLE, Int.reduceLT, Int.reduceBEq, Int.reduceBNe, Int.reduceNeg, Int.reduceAdd, Int.reduceSub, Int.reduceMul, reduceCtorEq, hw1, hr, hr2, QuakeRow.cs]
          repeat (with_reducible refine sideA ?_)
          refine condT.split (fun h6 => ?_) (fun h6 => ?_) <;> simp -implicitDefEqProofs -dsimp only [go_sem, Nat.reduceSub, Nat.reduceAdd, Nat.reduceMul, Nat.reduceLT, Nat.reduceLeDiff, Nat.reduceEqDiff, Nat.reduceDiv, Nat.reduceMod, Int.reduceToNat, Int.reduceLE, Int.reduceLT, Int.reduceBEq, Int.reduceBNe, Int.reduceNeg, Int.reduceAdd, Int.reduceSub, Int.reduceMul, reduceCtorEq, h6]
          · exact WeakR.drop' (hbad (by rw [listedQ_succ hi', hw]; simp at h6 ⊢; omega)) (by rfl)
          · have hq : listedQ qrB QuakeRow.Tick L (j + 1) = true := by rw [listedQ_succ hi', hw]; simp at h6 ⊢; omega
            refine LoopT.intro (fun k : Nat => k ≤ (j + 1) ∧ ∀ q, q < k → ∀ hq : q < L.length, (L[q]).Id ≠ (L[(j + 1)]).Id) (fun k => ⟨[QuakeRow.sl L, .undef, .undef, .int .i64 ((j + 1) : Nat), .int .i64 k, .undef, .undef, .undef, .undef, .undef, .undef, .undef, .undef, .undef, .undef, .undef, .undef, .undef, .undef, .undef, .undef, .undef, .undef, .undef, .undef, .undef, .undef, .undef, .undef, .undef, .undef, .undef, .undef, .undef, .undef, .undef, .undef, .undef, .undef, .undef, .undef, .undef, .undef, .undef, .undef, .undef, .undef, .undef, .undef, .undef, .undef, .undef, .undef, .undef, .undef, .undef, .undef, .undef], [], 0⟩) (fun k => (j + 1) - k) 0 ⟨Nat.zero_le _, fun q hq => by omega⟩ ?_ (fun k hk => ?_)
            · refine Weak.cut (0) (by simp) (by simp) ?_ ?_
              · simp [LeC, LeV, ren, cutF]
              · rfl
            simp -implicitDefEqProofs -dsimp only [go_sem, Nat.reduceSub, Nat.reduceAdd, Nat.reduceMul, Nat.reduceLT, Nat.reduceLeDiff, Nat.reduceEqDiff, Nat.reduceDiv, Nat.reduceMod, Int.reduceToNat, Int.reduceLE, Int.reduceLT, Int.reduceBEq, Int.reduceBNe, Int.reduceNeg, Int.reduceAdd, Int.reduceSub, Int.reduceMul, reduceCtorEq]
            refine condT.split (fun h7 => ?_) (fun h7 => ?_) <;> simp -implicitDefEqProofs -dsimp only [go_sem, Nat.reduceSub, Nat.reduceAdd, Nat.reduceMul, Nat.reduceLT, Nat.reduceLeDiff, Nat.reduceEqDiff, Nat.reduceDiv, Nat.reduceMod, Int.reduceToNat, Int.reduceLE, Int.reduceLT, Int.reduceBEq, Int.reduceBNe, Int.reduceNeg, Int.reduceAdd, Int.reduceSub, Int.reduceMul, reduceCtorEq, h7]
            · have hk' : k < (j + 1) := by simp at h7; omega
              have hkl : k < L.length := by omega
              have hr3 := rows_at QuakeRow.csl hkl
              have hr4 := rows_at QuakeRow.csl hi'
              simp -implicitDefEqProofs -dsimp only [go_sem, Nat.reduceSub, Nat.reduceAdd, Nat.reduceMul, Nat.reduceLT, Nat.reduceLeDiff, Nat.reduceEqDiff, Nat.reduceDiv, Nat.reduceMod, Int.reduceToNat, Int.reduceLE, Int.reduceLT, Int.reduceBEq, Int.reduceBNe, Int.reduceNeg, Int.reduceAdd, Int.reduceSub, Int.reduceMul, reduceCtorEq, hr3, hr4, QuakeRow.cs]
              repeat (with_reducible refine sideA ?_)
              refine condT.split (fun h8 => ?_) (fun h8 => ?_) <;> simp -implicitDefEqProofs -dsimp only [go_sem, Nat.reduceSub, Nat.reduceAdd, Nat.reduceMul, Nat.reduceLT, Nat.reduceLeDiff, Nat.reduceEqDiff, Nat.reduceDiv, Nat.reduceMod, Int.reduceToNat, Int.reduceLE, Int.reduceLT, Int.reduceBEq, Int.reduceBNe, Int.reduceNeg, Int.reduceAdd, Int.reduceSub, Int.reduceMul, reduceCtorEq, h8]
              · refine WeakR.drop' ?_ (by rfl)
                have hid : (L[k]).Id = (L[(j + 1)]).Id := by simpa using h8
                have : ¬ (L.map QuakeRow.Id).Nodup := by
                  intro hn
                  have h9 := nodup_get hn (i := k) (j := (j + 1)) (by simp; omega) (by simp; omega) (by simpa using hid)
                  omega
                rw [bulB, decide_eq_false this, Bool.and_false]
              · refine ⟨k + 1, ⟨hk', fun q hq hql => ?_⟩, ?_, by omega⟩
                · rcases Nat.lt_succ_iff_lt_or_eq.1 hq with h | rfl
                  · exact hk.2 q h hql
                  · simpa using h8
                refine Weak.cut (0) (by simp) (by simp) ?_ ?_
                · rw [wrap_i64 (by omega) (by omega)]
                  simp [LeC, LeV, ren, cutF]
                · rfl
            · have hk' : k = (j + 1) := by simp at h7; omega
              refine ⟨(j + 1) + 1, ⟨hi', by omega, range_all_succ hi2 hq, ?_⟩, ?_, by omega⟩
              · rw [List.take_succ_eq_append_getElem hi', List.map_append, List.nodup_append]
                refine ⟨hi3, by simp, fun a ha b hb => ?_⟩
                simp at hb; subst hb
                obtain ⟨x, hx, rfl⟩ := List.mem_map.1 ha
                obtain ⟨q, hq1, rfl⟩ := List.getElem_of_mem hx
                simp only [List.getElem_take]
                simp at hq1
                exact hk.2 q (by omega) (by omega)
              refine Weak.cut (0) (by simp) (by simp) ?_ ?_
              · rw [wrap_i64 (by omega) (by omega)]
                simp [LeC, LeV, ren, cutF]
              · rfl
        · have h0 : i = 0 := by simp at h4; omega
          have hq : listedQ qrB QuakeRow.Tick L i = true := by subst h0; rw [listedQ_zero hi', hw]
          refine LoopT.intro (fun k : Nat => k ≤ i ∧ ∀ q, q < k → ∀ hq : q < L.length, (L[q]).Id ≠ (L[i]).Id) (fun k => ⟨[QuakeRow.sl L, .undef, .undef, .int .i64 (i : Nat), .int .i64 k, .undef, .undef, .undef, .undef, .undef, .undef, .undef, .undef, .undef, .undef, .undef, .undef, .undef, .undef, .undef, .undef, .undef, .undef, .undef, .undef, .undef, .undef, .undef, .undef, .undef, .undef, .undef, .undef, .undef, .undef, .undef, .undef, .undef, .undef, .undef, .undef, .undef, .undef, .undef, .undef, .undef, .undef, .undef, .undef, .undef, .undef, .undef, .undef, .undef, .undef, .undef, .undef, .undef], [], 0⟩) (fun k => i - k) 0 ⟨Nat.zero_le _, fun q hq => by omega⟩ ?_ (fun k hk => ?_)
          · refine Weak.cut (0) (by simp) (by simp) ?_ ?_
            · simp [LeC, LeV, ren, cutF]
            · rfl
          simp -implicitDefEqProofs -dsimp only [go_sem, Nat.reduceSub, Nat.reduceAdd, Nat.reduceMul, Nat.reduceLT, Nat.reduceLeDiff, Nat.reduceEqDiff, Nat.reduceDiv, Nat.reduceMod, Int.reduceToNat, Int.reduceLE, Int.reduceLT, Int.reduceBEq, Int.reduceBNe, Int.reduceNeg, Int.reduceAdd, Int.reduceSub, Int.reduceMul, reduceCtorEq]
          refine condT.split (fun h7 => ?_) (fun h7 => ?_) <;> simp -implicitDefEqProofs -dsimp only [go_sem, Nat.reduceSub, Nat.reduceAdd, Nat.reduceMul, Nat.reduceLT, Nat.reduceLeDiff, Nat.reduceEqDiff, Nat.reduceDiv, Nat.reduceMod, Int.reduceToNat, Int.reduceLE, Int.reduceLT, Int.reduceBEq, Int.reduceBNe, Int.reduceNeg, Int.reduceAdd, Int.reduceSub, Int.reduceMul, reduceCtorEq, h7]
          · have hk' : k < i := by simp at h7; omega
            have hkl : k < L.length := by omega
            have hr3 := rows_at QuakeRow.csl hkl
            have hr4 := rows_at QuakeRow.csl hi'
            simp -implicitDefEqProofs -dsimp only [go_sem, Nat.reduceSub, Nat.reduceAdd, Nat.reduceMul, Nat.reduceLT, Nat.reduceLeDiff, Nat.reduceEqDiff, Nat.reduceDiv, Nat.reduceMod, Int.reduceToNat, Int.reduceLE, Int.reduceLT, Int.reduceBEq, Int.reduceBNe, Int.reduceNeg, Int.reduceAdd, Int.reduceSub, Int.reduceMul, reduceCtorEq, hr3, hr4, QuakeRow.cs]
            repeat (with_reducible refine sideA ?_)
            refine condT.split (fun h8 => ?_) (fun h8 => ?_) <;> simp -implicitDefEqProofs -dsimp only [go_sem, Nat.reduceSub, Nat.reduceAdd, Nat.reduceMul, Nat.reduceLT, Nat.reduceLeDiff, Nat.reduceEqDiff, Nat.reduceDiv, Nat.reduceMod, Int.reduceToNat, Int.reduceLE, Int.reduceLT, Int.reduceBEq, Int.reduceBNe, Int.reduceNeg, Int.reduceAdd, Int.reduceSub, Int.reduceMul, reduceCtorEq, h8]
            · refine WeakR.drop' ?_ (by rfl)
              have hid : (L[k]).Id = (L[i]).Id := by simpa using h8
              have : ¬ (L.map QuakeRow.Id).Nodup := by
                intro hn
                have h9 := nodup_get hn (i := k) (j := i) (by simp; omega) (by simp; omega) (by simpa using hid)
                omega
              rw [bulB, decide_eq_false this, Bool.and_false]
            · refine ⟨k + 1, ⟨hk', fun q hq hql => ?_⟩, ?_, by omega⟩
              · rcases Nat.lt_succ_iff_lt_or_eq.1 hq with h | rfl
                · exact hk.2 q h hql
                · simpa using h8
              refine Weak.cut (0) (by simp) (by simp) ?_ ?_
              · rw [wrap_i64 (by omega) (by omega)]
                simp [LeC, LeV, ren, cutF]
              · rfl
          · have hk' : k = i := by simp at h7; omega
            refine ⟨i + 1, ⟨hi', by omega, range_all_succ hi2 hq, ?_⟩, ?_, by omega⟩
            · rw [List.take_succ_eq_append_getElem hi', List.map_append, List.nodup_append]
              refine ⟨hi3, by simp, fun a ha b hb => ?_⟩
              simp at hb; subst hb
              obtain ⟨x, hx, rfl⟩ := List.mem_map.1 ha
              obtain ⟨q, hq1, rfl⟩ := List.getElem_of_mem hx
              simp only [List.getElem_take]
              simp at hq1
              exact hk.2 q (by omega) (by omega)
            refine Weak.cut (0) (by simp) (by simp) ?_ ?_
            · rw [wrap_i64 (by omega) (by omega)]
              simp [LeC, LeV, ren, cutF]
            · rfl
      · have hw : qrB L[i] = false := by simpa using h3
        exact WeakR.drop' (hbad (by simp [listedQ, hi', hw])) (by rfl)
    · have : i = 13 := by simp at h2; omega
      exact WeakR.drop' (by rw [hend _ (.inr this) rfl]) (by rfl)
  · have : i = L.length := by simp at h1; omega
    exact WeakR.drop' (by rw [hend _ (.inl this) rfl]) (by rfl)
end Go.Proofs
end
section
set_option linter.unusedSimpArgs false
set_option linter.unusedVariables false
set_option maxRecDepth 100000
namespace Go.Proofs
open Go.Lv
def IntS.cs (x : Int) : List V := [.int .i64 x]
instance : FlatP IntS.cs 1 := ⟨fun _ => rfl, fun _ d => by cases d <;> rfl, fun _ => rfl, fun _ => rfl⟩
theorem IntS.csl (a : Int) : (IntS.cs a).length = 1 := rfl
abbrev IntS.ok (x : Int) : Prop := i64R x
abbrev IntS.sl (L : List Int) : V := .sl L.length 1 (Go.Lv.rows IntS.cs L)
abbrev IntS.zs : List V := [.int .i64 0]
def IntS.marks (k : Int) (n : Nat) : List Int := (List.range n).map fun i : Nat => k + (i : Int)
@[simp] theorem IntS.marks_len (k : Int) (n : Nat) : (IntS.marks k n).length = n := by simp [IntS.marks]
abbrev IntS.v (x : Int) : V := .int .i64 x
theorem areListedInt_ok (L : List Int) (p : Int → Bool) (key : Int → Int) (most : Int) (fv fk : Nat) (vc kc : List V) (hvc : ∀ d, vc.all (noOwn d) = true) (hkc : ∀ d, kc.all (noOwn d) = true) (hv : ∀ x, Ctr Try.prog fv (IntS.v x :: vc) [] (.bool (p x)) []) (hkey : ∀ x, Ctr Try.prog fk (IntS.v x :: kc) [] (.int .i64 (key x)) []) (m : Nat) (hm : most = m) (hl : L.length ≤ 281474976710656) :
    Ctr Try.prog 109 [IntS.sl L, .int .i64 most, .fn (.func fv) [] vc, .fn (.func fk) [] kc] [] (.bool (listedB p key m L)) [] := by
  subst hm
  refine Ctr.intro Try.mixed Try.func109 rfl Try.okF109 ?_
  simp -implicitDefEqProofs -dsimp only [go_sem, Nat.reduceSub, Nat.reduceAdd, Nat.reduceMul, Nat.reduceLT, Nat.reduceLeDiff, Nat.reduceEqDiff, Nat.reduceDiv, Nat.reduceMod, Int.reduceToNat, Int.reduceLE, Int.reduceLT, Int.reduceBEq, Int.reduceBNe, Int.reduceNeg, Int.reduceAdd, Int.reduceSub, Int.reduceMul, reduceCtorEq, Try.ntmps109, Try.results109]
  have hvc2 : ∀ f d, vc.map (ren f d) = vc := fun f d => map_ren f (hvc d)
  have hkc2 : ∀ f d, kc.map (ren f d) = kc := fun f d => map_ren f (hkc d)
  refine LoopT.intro (fun i : Nat => i ≤ L.length ∧ (List.range i).all (listedQ p key L) = true) (fun i => ⟨[IntS.sl L, .int .i64 m, .fn (.func fv) [] vc, .fn (.func fk) [] kc, .undef, .undef, .undef, .undef, .undef, .undef, .undef, IntS.sl L, .int .i64 L.length, .int .i64 i, .undef, .undef, .undef, .undef, .undef, .undef, .undef, .undef, .undef, .undef, .undef, .undef, .undef, .undef, .undef, .undef, .undef, .undef, .undef, .undef, .undef, .undef, .undef, .undef, .undef, .undef, .undef, .undef, .undef, .undef], [], 0⟩) (fun i => L.length - i) 0 ⟨Nat.zero_le _, rfl⟩ ?_ (fun i hi => ?_)
  · refine Weak.cut (0) (by simp) (by simp) ?_ ?_
    · simp [LeC, LeV, ren, cutF, hvc2, hkc2]
    · rfl
  simp -implicitDefEqProofs -dsimp only [go_sem, Nat.reduceSub, Nat.reduceAdd, Nat.reduceMul, Nat.reduceLT, Nat.reduceLeDiff, Nat.reduceEqDiff, Nat.reduceDiv, Nat.reduceMod, Int.reduceToNat, Int.reduceLE, Int.reduceLT, Int.reduceBEq, Int.reduceBNe, Int.reduceNeg, Int.reduceAdd, Int.reduceSub, Int.reduceMul, reduceCtorEq]
  refine condT.split (fun h1 => ?_) (fun h1 => ?_)
  · simp -implicitDefEqProofs -dsimp only [go_sem, Nat.reduceSub, Nat.reduceAdd, Nat.reduceMul, Nat.reduceLT, Nat.reduceLeDiff, Nat.reduceEqDiff, Nat.reduceDiv, Nat.reduceMod, Int.reduceToNat, Int.reduceLE, Int.reduceLT, Int.reduceBEq, Int.reduceBNe, Int.reduceNeg, Int.reduceAdd, Int.reduceSub, Int.reduceMul, reduceCtorEq, h1]
    have hi' : i < L.length := by simpa using h1
    have h5 := IntS.csl L[i]
    have hr := rows_at IntS.csl hi'
    (repeat1' (first | simp -implicitDefEqProofs -dsimp only [go_sem, Nat.reduceSub, Nat.reduceAdd, Nat.reduceMul, Nat.reduceLT, Nat.reduceLeDiff, Nat.reduceEqDiff, Nat.reduceDiv, Nat.reduceMod, Int.reduceToNat, Int.reduceLE, Int.reduceLT, Int.reduceBEq, Int.reduceBNe, Int.reduceNeg, Int.reduceAdd, Int.reduceSub, Int.reduceMul, reduceCtorEq, hr, IntS.cs] | simp -implicitDefEqProofs -dsimp (disch := omega) only [wrap_i64]))
    repeat (with_reducible refine sideA ?_)
    refine callT.intro (hv L[i]) ⟨.inl rfl, LeL_same (hvc2 _ _)⟩ (.inl (by simp only [List.nil_append, List.cons_append, List.all_cons, hvc, Bool.and_true]; rfl)) ⟨refOk_fn (hvc 3), rfl⟩ ?_
    simp -implicitDefEqProofs -dsimp only [go_sem, Nat.reduceSub, Nat.reduceAdd, Nat.reduceMul, Nat.reduceLT, Nat.reduceLeDiff, Nat.reduceEqDiff, Nat.reduceDiv, Nat.reduceMod, Int.reduceToNat, Int.reduceLE, Int.reduceLT, Int.reduceBEq, Int.reduceBNe, Int.reduceNeg, Int.reduceAdd, Int.reduceSub, Int.reduceMul, reduceCtorEq]
    refine guardT.splitF (fun h2 => ?_) (fun h2 => ?_) <;> simp -implicitDefEqProofs -dsimp only [go_sem, Nat.reduceSub, Nat.reduceAdd, Nat.reduceMul, Nat.reduceLT, Nat.reduceLeDiff, Nat.reduceEqDiff, Nat.reduceDiv, Nat.reduceMod, Int.reduceToNat, Int.reduceLE, Int.reduceLT, Int.reduceBEq, Int.reduceBNe, Int.reduceNeg, Int.reduceAdd, Int.reduceSub, Int.reduceMul, reduceCtorEq, h2]
    · have hw : p L[i] = true := by simpa using h2
      refine guardT.splitT (fun h3 => ?_) (fun h3 => ?_) <;> simp -implicitDefEqProofs -dsimp only [go_sem, Nat.reduceSub, Nat.reduceAdd, Nat.reduceMul, Nat.reduceLT, Nat.reduceLeDiff, Nat.reduceEqDiff, Nat.reduceDiv, Nat.reduceMod, Int.reduceToNat, Int.reduceLE, Int.reduceLT, Int.reduceBEq, Int.reduceBNe, Int.reduceNeg, Int.reduceAdd, Int.reduceSub, Int.reduceMul, reduceCtorEq, h3]
      · obtain ⟨j, rfl⟩ : ∃ j, i = j + 1 := ⟨i - 1, by simp at h3; omega⟩
        have hj : j < L.length := by omega
        try (repeat1' (first | simp -implicitDefEqProofs -dsimp only [go_sem, Nat.reduceSub, Nat.reduceAdd, Nat.reduceMul, Nat.reduceLT, Nat.reduceLeDiff, Nat.reduceEqDiff, Nat.reduceDiv, Nat.reduceMod, Int.reduceToNat, Int.reduceLE, Int.reduceLT, Int.reduceBEq, Int.reduceBNe, Int.reduceNeg, Int.reduceAdd, Int.reduceSub, Int.reduceMul, reduceCtorEq, hr, IntS.cs] | simp -implicitDefEqProofs -dsimp (disch := omega) only [wrap_i64]))
        refine callT.intro (hkey L[j + 1]) ⟨.inl rfl, LeL_same (hkc2 _ _)⟩ (.inl (by simp only [List.nil_append, List.cons_append, List.all_cons, hkc, Bool.and_true]; rfl)) ⟨refOk_fn (hkc 3), rfl⟩ ?_
        have hw1 : IntKind.i64.wrap (((j + 1 : Nat) : Int) - 1) = (j : Int) := by rw [wrap_i64 (by omega) (by omega)]; omega
        have hr2 := rows_at IntS.csl hj
        (repeat1' (first | simp -implicitDefEqProofs -dsimp only [go_sem, Nat.reduceSub, Nat.reduceAdd, Nat.reduceMul, Nat.reduceLT, Nat.reduceLeDiff, Nat.reduceEqDiff, Nat.reduceDiv, Nat.reduceMod, Int.reduceToNat, Int.reduceLE, Int.reduceLT, Int.reduceBEq, Int.reduceBNe, Int.reduceNeg, Int.reduceAdd, Int.reduceSub, Int.reduceMul, reduceCtorEq, hw1, hr2, IntS.cs] | simp -implicitDefEqProofs -dsimp (disch := omega) only [wrap_i64]))
        repeat (with_reducible refine sideA ?_)
        refine callT.intro (hkey L[j]) ⟨.inl rfl, LeL_same (hkc2 _ _)⟩ (.inl (by simp only [List.nil_append, List.cons_append, List.all_cons, hkc, Bool.and_true]; rfl)) ⟨refOk_fn (hkc 3), rfl⟩ ?_
        (repeat1' (first | simp -implicitDefEqProofs -dsimp only [go_sem, Nat.reduceSub, Nat.reduceAdd, Nat.reduceMul, Nat.reduceLT, Nat.reduceLeDiff, Nat.reduceEqDiff, Nat.reduceDiv, Nat.reduceMod, Int.reduceToNat, Int.reduceLE, Int.reduceLT, Int.reduceBEq, Int.reduceBNe, Int.reduceNeg, Int.reduceAdd, Int.reduceSub, Int.reduceMul, reduceCtorEq] | simp -implicitDefEqProofs -dsimp (disch := omega) only [wrap_i64]))
        refine condT.split (fun h4 => ?_) (fun h4 => ?_) <;> simp -implicitDefEqProofs -dsimp only [go_sem, Nat.reduceSub, Nat.reduceAdd, Nat.reduceMul, Nat.reduceLT, Nat.reduceLeDiff, Nat.reduceEqDiff, Nat.reduceDiv, Nat.reduceMod, Int.reduceToNat, Int.reduceLE, Int.reduceLT, Int.reduceBEq, Int.reduceBNe, Int.reduceNeg, Int.reduceAdd, Int.reduceSub, Int.reduceMul, reduceCtorEq, h4]
        · refine WeakR.drop' ?_ rfl
          have hq : listedQ p key L (j + 1) = false := by
            rw [listedQ_succ hi', hw]
            simp at h4 ⊢
            omega
          rw [listedB_false hi' hq]
        · refine ⟨j + 1 + 1, ⟨hi', range_all_succ hi.2 (by rw [listedQ_succ hi', hw]; simp at h4 ⊢; omega)⟩, ?_, by omega⟩
          refine Weak.cut (0) (by simp) (by simp) ?_ ?_
          · rw [wrap_i64 (by omega) (by omega)]
            simp [LeC, LeV, ren, cutF, hvc2, hkc2]
          · rfl
      · have h0 : i = 0 := by simp at h3; omega
        refine ⟨i + 1, ⟨hi', range_all_succ hi.2 (by subst h0; rw [listedQ_zero hi', hw])⟩, ?_, by omega⟩
        refine Weak.cut (0) (by simp) (by simp) ?_ ?_
        · rw [wrap_i64 (by omega) (by omega)]
          simp [LeC, LeV, ren, cutF, hvc2, hkc2]
        · rfl
    · have hw : p L[i] = false := by simpa using h2
      refine WeakR.drop' ?_ rfl
      have hq : listedQ p key L i = false := by simp [listedQ, hi', hw]
      rw [listedB_false hi' hq]
  · simp -implicitDefEqProofs -dsimp only [go_sem, Nat.reduceSub, Nat.reduceAdd, Nat.reduceMul, Nat.reduceLT, Nat.reduceLeDiff, Nat.reduceEqDiff, Nat.reduceDiv, Nat.reduceMod, Int.reduceToNat, Int.reduceLE, Int.reduceLT, Int.reduceBEq, Int.reduceBNe, Int.reduceNeg, Int.reduceAdd, Int.reduceSub, Int.reduceMul, reduceCtorEq, h1]
    refine WeakR.drop' ?_ rfl
    have : i = L.length := by simp at h1; omega
    subst this
    rw [listedB, hi.2]
    simp
    try omega
end Go.Proofs
end
section
set_option linter.unusedSimpArgs false
set_option linter.unusedVariables false
set_option maxRecDepth 100000
namespace Go.Proofs
open Go.Lv
def nearB (x y far : Int) (r : QuakeRow) : Bool := decide ((r.X - x) * (r.X - x) + (r.Y - y) * (r.Y - y) ≤ far * far)
def nearTo (x y far : Int) (L : List QuakeRow) (i : Nat) : List Int := ((L.take i).filter (nearB x y far)).map QuakeRow.Id
def nearR (L : List QuakeRow) (x y far : Int) : Option (List Int) := if bulB L = true ∧ placeB x y = true ∧ inB' far 0 1500 = true then some ((L.filter (nearB x y far)).map QuakeRow.Id) else none
theorem nearTo_succ {x y far : Int} {L : List QuakeRow} {i : Nat} (hi : i < L.length) : nearTo x y far L (i + 1) = nearTo x y far L i ++ if nearB x y far L[i] then [L[i].Id] else [] := by
  rw [nearTo, List.take_succ_eq_append_getElem hi, List.filter_append, List.map_append]
  congr 1
  cases h : nearB x y far L[i] <;> simp [h]
theorem nearTo_len (x y far : Int) (L : List QuakeRow) (i : Nat) : (nearTo x y far L i).length ≤ i := by
  rw [nearTo, List.length_map]
  exact Nat.le_trans (List.length_filter_le _ _) (by simp; omega)
theorem l24Square_ok (r : QuakeRow) (x y : Int) (h1 : -1000000 ≤ r.X - x ∧ r.X - x ≤ 1000000) (h2 : -1000000 ≤ r.Y - y ∧ r.Y - y ≤ 1000000) : Ctr Try.prog 120 [r.v, .int .i64 x, .int .i64 y] [] (.int .i64 ((r.X - x) * (r.X - x) + (r.Y - y) * (r.Y - y))) [] := by
  refine Ctr.intro Try.mixed Try.func120 rfl Try.okF120 ?_
  simp -implicitDefEqProofs -dsimp only [go_sem, Nat.reduceSub, Nat.reduceAdd, Nat.reduceMul, Nat.reduceLT, Nat.reduceLeDiff, Nat.reduceEqDiff, Nat.reduceDiv, Nat.reduceMod, Int.reduceToNat, Int.reduceLE, Int.reduceLT, Int.reduceBEq, Int.reduceBNe, Int.reduceNeg, Int.reduceAdd, Int.reduceSub, Int.reduceMul, reduceCtorEq, Try.ntmps120, Try.results120]
  have g1 : 0 ≤ (r.X - x) * (r.X - x) ∧ (r.X - x) * (r.X - x) ≤ 1000000000000 := ⟨mul_self_nonneg' _, sq_le h1⟩
  have g2 : 0 ≤ (r.Y - y) * (r.Y - y) ∧ (r.Y - y) * (r.Y - y) ≤ 1000000000000 := ⟨mul_self_nonneg' _, sq_le h2⟩
  (repeat1' (first | simp -implicitDefEqProofs -dsimp only [go_sem, Nat.reduceSub, Nat.reduceAdd, Nat.reduceMul, Nat.reduceLT, Nat.reduceLeDiff, Nat.reduceEqDiff, Nat.reduceDiv, Nat.reduceMod, Int.reduceToNat, Int.reduceLE, Int.reduceLT, Int.reduceBEq, Int.reduceBNe, Int.reduceNeg, Int.reduceAdd, Int.reduceSub, Int.reduceMul, reduceCtorEq, QuakeRow.v] | simp -implicitDefEqProofs -dsimp (disch := omega) only [wrap_i64]))
  exact WeakR.drop' rfl (by rfl)
theorem sQuakesNear_ok (L : List QuakeRow) (x y far : Int) (hl : L.length ≤ 281474976710656) : Ctr Try.prog 45 [QuakeRow.sl L, .int .i64 x, .int .i64 y, .int .i64 far] [] (optO 1 (nearR L x y far)) (optOh IntS.cs (nearR L x y far)) := by
  refine Ctr.intro Try.mixed Try.func45 rfl Try.okF45 ?_
  simp -implicitDefEqProofs -dsimp only [go_sem, Nat.reduceSub, Nat.reduceAdd, Nat.reduceMul, Nat.reduceLT, Nat.reduceLeDiff, Nat.reduceEqDiff, Nat.reduceDiv, Nat.reduceMod, Int.reduceToNat, Int.reduceLE, Int.reduceLT, Int.reduceBEq, Int.reduceBNe, Int.reduceNeg, Int.reduceAdd, Int.reduceSub, Int.reduceMul, reduceCtorEq, Try.ntmps45, Try.results45]
  have bad : (bulB L = false ∨ placeB x y = false ∨ inB' far 0 1500 = false) → nearR L x y far = none := by
    intro h
    rw [nearR, if_neg]
    rintro ⟨h1, h2, h3⟩
    simp [h1, h2, h3] at h
  (first | refine callT.at (l24Good_ok L hl) ⟨leA, trivial⟩ ?_ | refine callS.at (l24Good_ok L hl) ⟨leA, trivial⟩ ?_)
  simp -implicitDefEqProofs -dsimp only [go_sem, Nat.reduceSub, Nat.reduceAdd, Nat.reduceMul, Nat.reduceLT, Nat.reduceLeDiff, Nat.reduceEqDiff, Nat.reduceDiv, Nat.reduceMod, Int.reduceToNat, Int.reduceLE, Int.reduceLT, Int.reduceBEq, Int.reduceBNe, Int.reduceNeg, Int.reduceAdd, Int.reduceSub, Int.reduceMul, reduceCtorEq]
  refine guardT.splitF (fun h1 => ?_) (fun h1 => ?_) <;> simp -implicitDefEqProofs -dsimp only [go_sem, Nat.reduceSub, Nat.reduceAdd, Nat.reduceMul, Nat.reduceLT, Nat.reduceLeDiff, Nat.reduceEqDiff, Nat.reduceDiv, Nat.reduceMod, Int.reduceToNat, Int.reduceLE, Int.reduceLT, Int.reduceBEq, Int.reduceBNe, Int.reduceNeg, Int.reduceAdd, Int.reduceSub, Int.reduceMul, reduceCtorEq, h1]
  rotate_left
  · rw [bad (.inl (by simpa using h1))]
    exact WeakR.refl _ _ _
  (first | refine callT.at (l2Place_ok x y) ⟨leA, leA, trivial⟩ ?_ | refine callS.at (l2Place_ok x y) ⟨leA, leA, trivial⟩ ?_)
  simp -implicitDefEqProofs -dsimp only [go_sem, Nat.reduceSub, Nat.reduceAdd, Nat.reduceMul, Nat.reduceLT, Nat.reduceLeDiff, Nat.reduceEqDiff, Nat.reduceDiv, Nat.reduceMod, Int.reduceToNat, Int.reduceLE, Int.reduceLT, Int.reduceBEq, Int.reduceBNe, Int.reduceNeg, Int.reduceAdd, Int.reduceSub, Int.reduceMul, reduceCtorEq]
  refine guardT.splitF (fun h2 => ?_) (fun h2 => ?_) <;> simp -implicitDefEqProofs -dsimp only [go_sem, Nat.reduceSub, Nat.reduceAdd, Nat.reduceMul, Nat.reduceLT, Nat.reduceLeDiff, Nat.reduceEqDiff, Nat.reduceDiv, Nat.reduceMod, Int.reduceToNat, Int.reduceLE, Int.reduceLT, Int.reduceBEq, Int.reduceBNe, Int.reduceNeg, Int.reduceAdd, Int.reduceSub, Int.reduceMul, reduceCtorEq, h2]
  rotate_left
  · rw [bad (.inr (.inl (by simpa using h2)))]
    exact WeakR.refl _ _ _
  (first | refine callT.at (l1In_ok far 0 1500) ⟨leA, leA, leA, trivial⟩ ?_ | refine callS.at (l1In_ok far 0 1500) ⟨leA, leA, leA, trivial⟩ ?_)
  simp -implicitDefEqProofs -dsimp only [go_sem, Nat.reduceSub, Nat.reduceAdd, Nat.reduceMul, Nat.reduceLT, Nat.reduceLeDiff, Nat.reduceEqDiff, Nat.reduceDiv, Nat.reduceMod, Int.reduceToNat, Int.reduceLE, Int.reduceLT, Int.reduceBEq, Int.reduceBNe, Int.reduceNeg, Int.reduceAdd, Int.reduceSub, Int.reduceMul, reduceCtorEq]
  refine condT.split (fun h3 => ?_) (fun h3 => ?_) <;> simp -implicitDefEqProofs -dsimp only [go_sem, Nat.reduceSub, Nat.reduceAdd, Nat.reduceMul, Nat.reduceLT, Nat.reduceLeDiff, Nat.reduceEqDiff, Nat.reduceDiv, Nat.reduceMod, Int.reduceToNat, Int.reduceLE, Int.reduceLT, Int.reduceBEq, Int.reduceBNe, Int.reduceNeg, Int.reduceAdd, Int.reduceSub, Int.reduceMul, reduceCtorEq, h3]
  · rw [bad (.inr (.inr (by simpa using h3)))]
    exact WeakR.refl _ _ _
  have h1' : bulB L = true := by simpa using h1
  have h2' : placeB x y = true := by simpa using h2
  have h3' : inB' far 0 1500 = true := by simpa using h3
  obtain ⟨hv, hlen⟩ := bulB_all h1'
  have hp := placeB_iff.1 h2'
  have hf := inB'_iff.1 h3'
  have hff : 0 ≤ far * far ∧ far * far ≤ 2250000 := ⟨mul_self_nonneg' _, sq_le (b := 1500) (by omega)⟩
  refine LoopT.intro (fun i : Nat => i ≤ L.length) (fun i => ⟨[QuakeRow.sl L, .int .i64 x, .int .i64 y, .int .i64 far, .undef, .undef, .undef, .undef, .undef, .undef, .osl 0 0 (nearTo x y far L i).length 1, .int .i64 i, .undef, .undef, .undef, .undef, .undef, .undef, .undef, .undef, .undef, .undef, .undef, .undef, .undef, .undef, .undef, .undef, .undef, .undef, .undef, .undef, .undef, .undef, .undef, .undef, .undef, .undef, .undef, .undef, .undef, .undef, .undef, .undef, .undef, .undef, .undef, .undef, .undef, .undef, .undef, .undef, .undef, .undef], [some (rows IntS.cs (nearTo x y far L i))], 0⟩) (fun i => L.length - i) 0 (Nat.zero_le _) ?_ (fun i hi => ?_)
  · refine Weak.cut (1) (by simp) (by simp) ?_ ?_
    · simp [LeC, LeV, ren, cutF, nearTo]
    · simp [cutH, cutB, nearTo, rows]
  simp -implicitDefEqProofs -dsimp only [go_sem, Nat.reduceSub, Nat.reduceAdd, Nat.reduceMul, Nat.reduceLT, Nat.reduceLeDiff, Nat.reduceEqDiff, Nat.reduceDiv, Nat.reduceMod, Int.reduceToNat, Int.reduceLE, Int.reduceLT, Int.reduceBEq, Int.reduceBNe, Int.reduceNeg, Int.reduceAdd, Int.reduceSub, Int.reduceMul, reduceCtorEq]
  refine condT.split (fun h4 => ?_) (fun h4 => ?_)
  · simp -implicitDefEqProofs -dsimp only [go_sem, Nat.reduceSub, Nat.reduceAdd, Nat.reduceMul, Nat.reduceLT, Nat.reduceLeDiff, Nat.reduceEqDiff, Nat.reduceDiv, Nat.reduceMod, Int.reduceToNat, Int.reduceLE, Int.reduceLT, Int.reduceBEq, Int.reduceBNe, Int.reduceNeg, Int.reduceAdd, Int.reduceSub, Int.reduceMul, reduceCtorEq, h4]
    have hi' : i < L.length := by simpa using h4
    have hr := rows_at QuakeRow.csl hi'
    have h5 := QuakeRow.csl L[i]
    have hvi := qrB_iff.1 (hv _ (List.getElem_mem hi'))
    have hnl := nearTo_len x y far L i
    (repeat ((repeat1' (first | simp -implicitDefEqProofs -dsimp only [go_sem, Nat.reduceSub, Nat.reduceAdd, Nat.reduceMul, Nat.reduceLT, Nat.reduceLeDiff, Nat.reduceEqDiff, Nat.reduceDiv, Nat.reduceMod, Int.reduceToNat, Int.reduceLE, Int.reduceLT, Int.reduceBEq, Int.reduceBNe, Int.reduceNeg, Int.reduceAdd, Int.reduceSub, Int.reduceMul, reduceCtorEq, hr, QuakeRow.cs] | simp -implicitDefEqProofs -dsimp (disch := omega) only [wrap_i64])); repeat (with_reducible refine sideA ?_)))
    (first | refine callT.at (l24Square_ok L[i] x y (by omega) (by omega)) ⟨leA, leA, leA, trivial⟩ ?_ | refine callS.at (l24Square_ok L[i] x y (by omega) (by omega)) ⟨leA, leA, leA, trivial⟩ ?_)
    (repeat ((repeat1' (first | simp -implicitDefEqProofs -dsimp only [go_sem, Nat.reduceSub, Nat.reduceAdd, Nat.reduceMul, Nat.reduceLT, Nat.reduceLeDiff, Nat.reduceEqDiff, Nat.reduceDiv, Nat.reduceMod, Int.reduceToNat, Int.reduceLE, Int.reduceLT, Int.reduceBEq, Int.reduceBNe, Int.reduceNeg, Int.reduceAdd, Int.reduceSub, Int.reduceMul, reduceCtorEq, QuakeRow.cs] | simp -implicitDefEqProofs -dsimp (disch := omega) only [wrap_i64])); repeat (with_reducible refine sideA ?_)))
    refine condT.split (fun h6 => ?_) (fun h6 => ?_) <;> simp -implicitDefEqProofs -dsimp only [go_sem, Nat.reduceSub, Nat.reduceAdd, Nat.reduceMul, Nat.reduceLT, Nat.reduceLeDiff, Nat.reduceEqDiff, Nat.reduceDiv, Nat.reduceMod, Int.reduceToNat, Int.reduceLE, Int.reduceLT, Int.reduceBEq, Int.reduceBNe, Int.reduceNeg, Int.reduceAdd, Int.reduceSub, Int.reduceMul, reduceCtorEq, h6]
    · have hb : nearB x y far L[i] = true := by simpa [nearB] using h6
      (repeat ((repeat1' (first | simp -implicitDefEqProofs -dsimp only [go_sem, Nat.reduceSub, Nat.reduceAdd, Nat.reduceMul, Nat.reduceLT, Nat.reduceLeDiff, Nat.reduceEqDiff, Nat.reduceDiv, Nat.reduceMod, Int.reduceToNat, Int.reduceLE, Int.reduceLT, Int.reduceBEq, Int.reduceBNe, Int.reduceNeg, Int.reduceAdd, Int.reduceSub, Int.reduceMul, reduceCtorEq, hr, QuakeRow.cs, rows_length, Nat.mul_one, rows_cell] | simp -implicitDefEqProofs -dsimp (disch := omega) only [wrap_i64])); repeat (with_reducible refine sideA ?_)))
      refine ⟨i + 1, hi', ?_, by omega⟩
      refine Weak.cut (1) (by simp) (by simp) ?_ ?_
      · rw [nearTo_succ hi', hb]
        simp [LeC, LeV, ren, cutF]
      · rw [nearTo_succ hi', hb, if_pos rfl, ← rows_snoc]
        simp [cutH, cutB, map_ren_rows, killC, ren, IntS.cs]
    · have hb : nearB x y far L[i] = false := by simp at h6; simp [nearB]; omega
      try (repeat1' (first | simp -implicitDefEqProofs -dsimp only [go_sem, Nat.reduceSub, Nat.reduceAdd, Nat.reduceMul, Nat.reduceLT, Nat.reduceLeDiff, Nat.reduceEqDiff, Nat.reduceDiv, Nat.reduceMod, Int.reduceToNat, Int.reduceLE, Int.reduceLT, Int.reduceBEq, Int.reduceBNe, Int.reduceNeg, Int.reduceAdd, Int.reduceSub, Int.reduceMul, reduceCtorEq] | simp -implicitDefEqProofs -dsimp (disch := omega) only [wrap_i64]))
      refine ⟨i + 1, hi', ?_, by omega⟩
      refine Weak.cut (1) (by simp) (by simp) ?_ ?_
      · rw [nearTo_succ hi', hb]
        simp [LeC, LeV, ren, cutF]
      · rw [nearTo_succ hi', hb]
        simp [cutH, cutB, map_ren_rows]
  · simp -implicitDefEqProofs -dsimp only [go_sem, Nat.reduceSub, Nat.reduceAdd, Nat.reduceMul, Nat.reduceLT, Nat.reduceLeDiff, Nat.reduceEqDiff, Nat.reduceDiv, Nat.reduceMod, Int.reduceToNat, Int.reduceLE, Int.reduceLT, Int.reduceBEq, Int.reduceBNe, Int.reduceNeg, Int.reduceAdd, Int.reduceSub, Int.reduceMul, reduceCtorEq, h4]
    have hi' : i = L.length := by simp at h4; omega
    subst hi'
    have e : nearR L x y far = some (nearTo x y far L L.length) := by rw [nearR, if_pos ⟨h1', h2', h3'⟩, nearTo, List.take_length]
    rw [e]
    exact WeakR.refl _ _ _
theorem iQuakesNear_ok (L : List QuakeRow) (x y far : Int) (hl : L.length ≤ 281474976710656) : Ctr Try.prog 44 [QuakeRow.sl L, .int .i64 x, .int .i64 y, .int .i64 far] [] (optN 1 (nearR L x y far)) (optNh IntS.cs (nearR L x y far)) := by
  refine Ctr.intro Try.mixed Try.func44 rfl Try.okF44 ?_
  simp -implicitDefEqProofs -dsimp only [go_sem, Nat.reduceSub, Nat.reduceAdd, Nat.reduceMul, Nat.reduceLT, Nat.reduceLeDiff, Nat.reduceEqDiff, Nat.reduceDiv, Nat.reduceMod, Int.reduceToNat, Int.reduceLE, Int.reduceLT, Int.reduceBEq, Int.reduceBNe, Int.reduceNeg, Int.reduceAdd, Int.reduceSub, Int.reduceMul, reduceCtorEq, Try.ntmps44, Try.results44]
  have bad : (bulB L = false ∨ placeB x y = false ∨ inB' far 0 1500 = false) → nearR L x y far = none := by
    intro h
    rw [nearR, if_neg]
    rintro ⟨h1, h2, h3⟩
    simp [h1, h2, h3] at h
  (first | refine callT.at (iIsBulletin_ok L hl) ⟨leA, trivial⟩ ?_ | refine callS.at (iIsBulletin_ok L hl) ⟨leA, trivial⟩ ?_)
  simp -implicitDefEqProofs -dsimp only [go_sem, Nat.reduceSub, Nat.reduceAdd, Nat.reduceMul, Nat.reduceLT, Nat.reduceLeDiff, Nat.reduceEqDiff, Nat.reduceDiv, Nat.reduceMod, Int.reduceToNat, Int.reduceLE, Int.reduceLT, Int.reduceBEq, Int.reduceBNe, Int.reduceNeg, Int.reduceAdd, Int.reduceSub, Int.reduceMul, reduceCtorEq]
  refine guardT.splitF (fun h1 => ?_) (fun h1 => ?_) <;> simp -implicitDefEqProofs -dsimp only [go_sem, Nat.reduceSub, Nat.reduceAdd, Nat.reduceMul, Nat.reduceLT, Nat.reduceLeDiff, Nat.reduceEqDiff, Nat.reduceDiv, Nat.reduceMod, Int.reduceToNat, Int.reduceLE, Int.reduceLT, Int.reduceBEq, Int.reduceBNe, Int.reduceNeg, Int.reduceAdd, Int.reduceSub, Int.reduceMul, reduceCtorEq, h1]
  rotate_left
  · rw [bad (.inl (by simpa using h1))]
    exact WeakR.refl _ _ _
  (first | refine callT.at (isPlace_ok x y) ⟨leA, leA, trivial⟩ ?_ | refine callS.at (isPlace_ok x y) ⟨leA, leA, trivial⟩ ?_)
  simp -implicitDefEqProofs -dsimp only [go_sem, Nat.reduceSub, Nat.reduceAdd, Nat.reduceMul, Nat.reduceLT, Nat.reduceLeDiff, Nat.reduceEqDiff, Nat.reduceDiv, Nat.reduceMod, Int.reduceToNat, Int.reduceLE, Int.reduceLT, Int.reduceBEq, Int.reduceBNe, Int.reduceNeg, Int.reduceAdd, Int.reduceSub, Int.reduceMul, reduceCtorEq]
  refine guardT.splitF (fun h2 => ?_) (fun h2 => ?_) <;> simp -implicitDefEqProofs -dsimp only [go_sem, Nat.reduceSub, Nat.reduceAdd, Nat.reduceMul, Nat.reduceLT, Nat.reduceLeDiff, Nat.reduceEqDiff, Nat.reduceDiv, Nat.reduceMod, Int.reduceToNat, Int.reduceLE, Int.reduceLT, Int.reduceBEq, Int.reduceBNe, Int.reduceNeg, Int.reduceAdd, Int.reduceSub, Int.reduceMul, reduceCtorEq, h2]
  rotate_left
  · rw [bad (.inr (.inl (by simpa using h2)))]
    exact WeakR.refl _ _ _
  (first | refine callT.at (in_ok far 0 1500) ⟨leA, leA, leA, trivial⟩ ?_ | refine callS.at (in_ok far 0 1500) ⟨leA, leA, leA, trivial⟩ ?_)
  simp -implicitDefEqProofs -dsimp only [go_sem, Nat.reduceSub, Nat.reduceAdd, Nat.reduceMul, Nat.reduceLT, Nat.reduceLeDiff, Nat.reduceEqDiff, Nat.reduceDiv, Nat.reduceMod, Int.reduceToNat, Int.reduceLE, Int.reduceLT, Int.reduceBEq, Int.reduceBNe, Int.reduceNeg, Int.reduceAdd, Int.reduceSub, Int.reduceMul, reduceCtorEq]
  refine condT.split (fun h3 => ?_) (fun h3 => ?_) <;> simp -implicitDefEqProofs -dsimp only [go_sem, Nat.reduceSub, Nat.reduceAdd, Nat.reduceMul, Nat.reduceLT, Nat.reduceLeDiff, Nat.reduceEqDiff, Nat.reduceDiv, Nat.reduceMod, Int.reduceToNat, Int.reduceLE, Int.reduceLT, Int.reduceBEq, Int.reduceBNe, Int.reduceNeg, Int.reduceAdd, Int.reduceSub, Int.reduceMul, reduceCtorEq, h3]
  · rw [bad (.inr (.inr (by simpa using h3)))]
    exact WeakR.refl _ _ _
  have h1' : bulB L = true := by simpa using h1
  have h2' : placeB x y = true := by simpa using h2
  have h3' : inB' far 0 1500 = true := by simpa using h3
  obtain ⟨hv, hlen⟩ := bulB_all h1'
  have hp := placeB_iff.1 h2'
  have hf := inB'_iff.1 h3'
  have hff : 0 ≤ far * far ∧ far * far ≤ 2250000 := ⟨mul_self_nonneg' _, sq_le (b := 1500) (by omega)⟩
  refine LoopT.intro (fun i : Nat => i ≤ L.length) (fun i => ⟨[.undef, .int .i64 x, .int .i64 y, .int .i64 far, .undef, .undef, .undef, .undef, .undef, .undef, .osl 0 0 (nearTo x y far L i).length 1, .undef, .undef, .undef, .undef, .undef, .undef, .undef, .undef, .undef, .undef, .undef, .undef, .undef, .undef, .undef, .undef, .undef, QuakeRow.sl L, .int .i64 L.length, .int .i64 i, .undef, .undef, .undef, .undef, .undef, .undef, .undef, .undef, .undef, .undef, .undef, .undef, .undef, .undef, .undef, .undef, .undef, .undef, .undef, .undef, .undef, .undef, .undef], [some (rows IntS.cs (nearTo x y far L i))], 0⟩) (fun i => L.length - i) 0 (Nat.zero_le _) ?_ (fun i hi => ?_)
  · refine Weak.cut (1) (by simp) (by simp) ?_ ?_
    · simp [LeC, LeV, ren, cutF, nearTo]
    · simp [cutH, cutB, nearTo, rows]
  simp -implicitDefEqProofs -dsimp only [go_sem, Nat.reduceSub, Nat.reduceAdd, Nat.reduceMul, Nat.reduceLT, Nat.reduceLeDiff, Nat.reduceEqDiff, Nat.reduceDiv, Nat.reduceMod, Int.reduceToNat, Int.reduceLE, Int.reduceLT, Int.reduceBEq, Int.reduceBNe, Int.reduceNeg, Int.reduceAdd, Int.reduceSub, Int.reduceMul, reduceCtorEq]
  refine condT.split (fun h4 => ?_) (fun h4 => ?_)
  · simp -implicitDefEqProofs -dsimp only [go_sem, Nat.reduceSub, Nat.reduceAdd, Nat.reduceMul, Nat.reduceLT, Nat.reduceLeDiff, Nat.reduceEqDiff, Nat.reduceDiv, Nat.reduceMod, Int.reduceToNat, Int.reduceLE, Int.reduceLT, Int.reduceBEq, Int.reduceBNe, Int.reduceNeg, Int.reduceAdd, Int.reduceSub, Int.reduceMul, reduceCtorEq, h4]
    have hi' : i < L.length := by simpa using h4
    have hr := rows_at QuakeRow.csl hi'
    have h5 := QuakeRow.csl L[i]
    have hvi := qrB_iff.1 (hv _ (List.getElem_mem hi'))
    have hnl := nearTo_len x y far L i
    (repeat ((repeat1' (first | simp -implicitDefEqProofs -dsimp only [go_sem, Nat.reduceSub, Nat.reduceAdd, Nat.reduceMul, Nat.reduceLT, Nat.reduceLeDiff, Nat.reduceEqDiff, Nat.reduceDiv, Nat.reduceMod, Int.reduceToNat, Int.reduceLE, Int.reduceLT, Int.reduceBEq, Int.reduceBNe, Int.reduceNeg, Int.reduceAdd, Int.reduceSub, Int.reduceMul, reduceCtorEq, hr, QuakeRow.cs] | simp -implicitDefEqProofs -dsimp (disch := omega) only [wrap_i64])); repeat (with_reducible refine sideA ?_)))
    (first | refine callT.at (square_ok (L[i].X - x) (L[i].Y - y) (by omega) (by omega)) ⟨leA, leA, trivial⟩ ?_ | refine callS.at (square_ok (L[i].X - x) (L[i].Y - y) (by omega) (by omega)) ⟨leA, leA, trivial⟩ ?_)
    (repeat ((repeat1' (first | simp -implicitDefEqProofs -dsimp only [go_sem, Nat.reduceSub, Nat.reduceAdd, Nat.reduceMul, Nat.reduceLT, Nat.reduceLeDiff, Nat.reduceEqDiff, Nat.reduceDiv, Nat.reduceMod, Int.reduceToNat, Int.reduceLE, Int.reduceLT, Int.reduceBEq, Int.reduceBNe, Int.reduceNeg, Int.reduceAdd, Int.reduceSub, Int.reduceMul, reduceCtorEq, QuakeRow.cs] | simp -implicitDefEqProofs -dsimp (disch := omega) only [wrap_i64])); repeat (with_reducible refine sideA ?_)))
    refine condT.split (fun h6 => ?_) (fun h6 => ?_) <;> simp -implicitDefEqProofs -dsimp only [go_sem, Nat.reduceSub, Nat.reduceAdd, Nat.reduceMul, Nat.reduceLT, Nat.reduceLeDiff, Nat.reduceEqDiff, Nat.reduceDiv, Nat.reduceMod, Int.reduceToNat, Int.reduceLE, Int.reduceLT, Int.reduceBEq, Int.reduceBNe, Int.reduceNeg, Int.reduceAdd, Int.reduceSub, Int.reduceMul, reduceCtorEq, h6]
    · have hb : nearB x y far L[i] = true := by simpa [nearB] using h6
      (repeat ((repeat1' (first | simp -implicitDefEqProofs -dsimp only [go_sem, Nat.reduceSub, Nat.reduceAdd, Nat.reduceMul, Nat.reduceLT, Nat.reduceLeDiff, Nat.reduceEqDiff, Nat.reduceDiv, Nat.reduceMod, Int.reduceToNat, Int.reduceLE, Int.reduceLT, Int.reduceBEq, Int.reduceBNe, Int.reduceNeg, Int.reduceAdd, Int.reduceSub, Int.reduceMul, reduceCtorEq, hr, QuakeRow.cs, rows_length, Nat.mul_one, rows_cell] | simp -implicitDefEqProofs -dsimp (disch := omega) only [wrap_i64])); repeat (with_reducible refine sideA ?_)))
      refine ⟨i + 1, hi', ?_, by omega⟩
      refine Weak.cut (1) (by simp) (by simp) ?_ ?_
      · rw [nearTo_succ hi', hb]
        simp [LeC, LeV, ren, cutF]
      · rw [nearTo_succ hi', hb, if_pos rfl, ← rows_snoc]
        simp [cutH, cutB, map_ren_rows, killC, ren, IntS.cs]
    · have hb : nearB x y far L[i] = false := by simp at h6; simp [nearB]; omega
      try (repeat1' (first | simp -implicitDefEqProofs -dsimp only [go_sem, Nat.reduceSub, Nat.reduceAdd, Nat.reduceMul, Nat.reduceLT, Nat.reduceLeDiff, Nat.reduceEqDiff, Nat.reduceDiv, Nat.reduceMod, Int.reduceToNat, Int.reduceLE, Int.reduceLT, Int.reduceBEq, Int.reduceBNe, Int.reduceNeg, Int.reduceAdd, Int.reduceSub, Int.reduceMul, reduceCtorEq] | simp -implicitDefEqProofs -dsimp (disch := omega) only [wrap_i64]))
      refine ⟨i + 1, hi', ?_, by omega⟩
      refine Weak.cut (1) (by simp) (by simp) ?_ ?_
      · rw [nearTo_succ hi', hb]
        simp [LeC, LeV, ren, cutF]
      · rw [nearTo_succ hi', hb]
        simp [cutH, cutB, map_ren_rows]
  · simp -implicitDefEqProofs -dsimp only [go_sem, Nat.reduceSub, Nat.reduceAdd, Nat.reduceMul, Nat.reduceLT, Nat.reduceLeDiff, Nat.reduceEqDiff, Nat.reduceDiv, Nat.reduceMod, Int.reduceToNat, Int.reduceLE, Int.reduceLT, Int.reduceBEq, Int.reduceBNe, Int.reduceNeg, Int.reduceAdd, Int.reduceSub, Int.reduceMul, reduceCtorEq, h4]
    have hi' : i = L.length := by simp at h4; omega
    subst hi'
    have e : nearR L x y far = some (nearTo x y far L L.length) := by rw [nearR, if_pos ⟨h1', h2', h3'⟩, nearTo, List.take_length]
    rw [e]
    exact WeakR.refl _ _ _
end Go.Proofs
end
section
set_option linter.unusedSimpArgs false
set_option linter.unusedVariables false
namespace Go.Lv
def idxI {α : Type} (p : α → Bool) (L : List α) : Int := match L.findIdx? p with
  | some i => i
  | none => -1
theorem idxI_found {α : Type} {p : α → Bool} {L : List α} {i : Nat} (h : i < L.length) (h0 : (L.take i).any p = false) (h1 : p L[i] = true) : idxI p L = i := by
  have : L.findIdx? p = some i := by
    rw [List.findIdx?_eq_some_iff_getElem]
    refine ⟨h, h1, fun j hj => ?_⟩
    have := List.any_eq_false.1 h0 L[j] (by rw [List.mem_take_iff_getElem]; exact ⟨j, by omega, rfl⟩)
    simpa using this
  simp [idxI, this]
theorem idxI_none {α : Type} {p : α → Bool} {L : List α} (h : L.any p = false) : idxI p L = -1 := by
  have : L.findIdx? p = none := by
    rw [List.findIdx?_eq_none_iff]
    intro x hx
    have := List.any_eq_false.1 h x hx
    simpa using this
  simp [idxI, this]
end Go.Lv
end
section
set_option linter.unusedSimpArgs false
set_option linter.unusedVariables false
set_option maxRecDepth 100000
namespace Go.Proofs
open Go.Lv
theorem indexFuncQuakeRow_ok (L : List QuakeRow) (p : QuakeRow → Bool) (fv : Nat) (vc : List V) (hvc : ∀ d, vc.all (noOwn d) = true) (hv : ∀ x ∈ L, Ctr Try.prog fv (QuakeRow.v x :: vc) [] (.bool (p x)) []) (hl : L.length ≤ 281474976710656) :
    Ctr Try.prog 101 [QuakeRow.sl L, .fn (.func fv) [] vc] [] (.int .i64 (idxI p L)) [] := by
  refine Ctr.intro Try.mixed Try.func101 rfl Try.okF101 ?_
  simp -implicitDefEqProofs -dsimp only [go_sem, Nat.reduceSub, Nat.reduceAdd, Nat.reduceMul, Nat.reduceLT, Nat.reduceLeDiff, Nat.reduceEqDiff, Nat.reduceDiv, Nat.reduceMod, Int.reduceToNat, Int.reduceLE, Int.reduceLT, Int.reduceBEq, Int.reduceBNe, Int.reduceNeg, Int.reduceAdd, Int.reduceSub, Int.reduceMul, reduceCtorEq, Try.ntmps101, Try.results101]
  have hvc2 : ∀ f d, vc.map (ren f d) = vc := fun f d => map_ren f (hvc d)
  refine LoopT.intro (fun i : Nat => i ≤ L.length ∧ (L.take i).any p = false) (fun i => ⟨[QuakeRow.sl L, .fn (.func fv) [] vc, .undef, .undef, .undef, .undef, .undef, .int .i64 L.length, .int .i64 i, .undef, .undef, .undef, .undef, .undef, .undef, .undef, .undef, .undef, .undef], [], 0⟩) (fun i => L.length - i) 0 ⟨Nat.zero_le _, rfl⟩ ?_ (fun i hi => ?_)
  · refine Weak.cut (0) (by simp) (by simp) ?_ ?_
    · simp [LeC, LeV, ren, cutF, hvc2]
    · rfl
  simp -implicitDefEqProofs -dsimp only [go_sem, Nat.reduceSub, Nat.reduceAdd, Nat.reduceMul, Nat.reduceLT, Nat.reduceLeDiff, Nat.reduceEqDiff, Nat.reduceDiv, Nat.reduceMod, Int.reduceToNat, Int.reduceLE, Int.reduceLT, Int.reduceBEq, Int.reduceBNe, Int.reduceNeg, Int.reduceAdd, Int.reduceSub, Int.reduceMul, reduceCtorEq]
  refine condT.split (fun h1 => ?_) (fun h1 => ?_)
  · simp -implicitDefEqProofs -dsimp only [go_sem, Nat.reduceSub, Nat.reduceAdd, Nat.reduceMul, Nat.reduceLT, Nat.reduceLeDiff, Nat.reduceEqDiff, Nat.reduceDiv, Nat.reduceMod, Int.reduceToNat, Int.reduceLE, Int.reduceLT, Int.reduceBEq, Int.reduceBNe, Int.reduceNeg, Int.reduceAdd, Int.reduceSub, Int.reduceMul, reduceCtorEq, h1]
    have hi' : i < L.length := by simpa using h1
    have h5 := QuakeRow.csl L[i]
    have hr := rows_at QuakeRow.csl hi'
    (repeat1' (first | simp -implicitDefEqProofs -dsimp only [go_sem, Nat.reduceSub, Nat.reduceAdd, Nat.reduceMul, Nat.reduceLT, Nat.reduceLeDiff, Nat.reduceEqDiff, Nat.reduceDiv, Nat.reduceMod, Int.reduceToNat, Int.reduceLE, Int.reduceLT, Int.reduceBEq, Int.reduceBNe, Int.reduceNeg, Int.reduceAdd, Int.reduceSub, Int.reduceMul, reduceCtorEq, hr, QuakeRow.cs] | simp -implicitDefEqProofs -dsimp (disch := omega) only [wrap_i64]))
    repeat (with_reducible refine sideA ?_)
    refine callS.intro (hv L[i] (List.getElem_mem hi')) ⟨.inl rfl, LeL_same (hvc2 _ _)⟩ (.inl (by simp only [List.nil_append, List.cons_append, List.all_cons, hvc, Bool.and_true]; rfl)) ?_
    simp -implicitDefEqProofs -dsimp only [go_sem, Nat.reduceSub, Nat.reduceAdd, Nat.reduceMul, Nat.reduceLT, Nat.reduceLeDiff, Nat.reduceEqDiff, Nat.reduceDiv, Nat.reduceMod, Int.reduceToNat, Int.reduceLE, Int.reduceLT, Int.reduceBEq, Int.reduceBNe, Int.reduceNeg, Int.reduceAdd, Int.reduceSub, Int.reduceMul, reduceCtorEq]
    refine condT.split (fun h2 => ?_) (fun h2 => ?_) <;> simp -implicitDefEqProofs -dsimp only [go_sem, Nat.reduceSub, Nat.reduceAdd, Nat.reduceMul, Nat.reduceLT, Nat.reduceLeDiff, Nat.reduceEqDiff, Nat.reduceDiv, Nat.reduceMod, Int.reduceToNat, Int.reduceLE, Int.reduceLT, Int.reduceBEq, Int.reduceBNe, Int.reduceNeg, Int.reduceAdd, Int.reduceSub, Int.reduceMul, reduceCtorEq, h2]
    · exact WeakR.drop' (by rw [idxI_found hi' hi.2 h2]) (by rfl)
    · refine ⟨i + 1, ⟨hi', by rw [List.take_succ_eq_append_getElem hi']; simp only [List.any_append, hi.2, List.any_cons, h2, List.any_nil, Bool.or_self]⟩, ?_, by omega⟩
      refine Weak.cut (0) (by simp) (by simp) ?_ ?_
      · rw [wrap_i64 (by omega) (by omega)]
        simp [LeC, LeV, ren, cutF, hvc2]
      · rfl
  · simp -implicitDefEqProofs -dsimp only [go_sem, Nat.reduceSub, Nat.reduceAdd, Nat.reduceMul, Nat.reduceLT, Nat.reduceLeDiff, Nat.reduceEqDiff, Nat.reduceDiv, Nat.reduceMod, Int.reduceToNat, Int.reduceLE, Int.reduceLT, Int.reduceBEq, Int.reduceBNe, Int.reduceNeg, Int.reduceAdd, Int.reduceSub, Int.reduceMul, reduceCtorEq, h1]
    have hi' : i = L.length := by simp at h1; omega
    subst hi'
    have h2 := hi.2
    rw [List.take_length] at h2
    exact WeakR.drop' (by rw [idxI_none h2]) (by rfl)
end Go.Proofs
end
section
set_option linter.unusedSimpArgs false
set_option linter.unusedVariables false
namespace Go.Lv
variable {α : Type}
/-- Where x comes to stand among the first k: behind the last one that it is not less than. -/
def posK (lt : α → α → Bool) (S : List α) (x : α) : Nat → Nat
  | 0 => 0
  | k + 1 => match S[k]? with
    | some y => if lt x y then posK lt S x k else k + 1
    | none => k + 1
theorem posK_down {lt : α → α → Bool} {S : List α} {x : α} {k : Nat} (hk : k < S.length) (h : lt x S[k] = true) : posK lt S x (k + 1) = posK lt S x k := by
  simp [posK, hk, h]
theorem posK_stay {lt : α → α → Bool} {S : List α} {x : α} {k : Nat} (hk : k < S.length) (h : lt x S[k] = false) : posK lt S x (k + 1) = k + 1 := by
  simp [posK, hk, h]
/-- The list with x laid in at a place. -/
def putAt (S : List α) (x : α) (j : Nat) : List α := S.take j ++ x :: S.drop j
theorem putAt_len (S : List α) (x : α) (j : Nat) : (putAt S x j).length = S.length + 1 := by
  simp [putAt]; omega
theorem putAt_end (S : List α) (x : α) : putAt S x S.length = S ++ [x] := by simp [putAt]
def ins (lt : α → α → Bool) (S : List α) (x : α) : List α := putAt S x (posK lt S x S.length)
def insSort (lt : α → α → Bool) (L : List α) : List α := L.foldl (ins lt) []
theorem ins_len (lt : α → α → Bool) (S : List α) (x : α) : (ins lt S x).length = S.length + 1 := putAt_len _ _ _
theorem insSort_snoc (lt : α → α → Bool) (L : List α) (x : α) : insSort lt (L ++ [x]) = ins lt (insSort lt L) x := by simp [insSort]
theorem insSort_take {lt : α → α → Bool} {L : List α} {i : Nat} (hi : i < L.length) : insSort lt (L.take (i + 1)) = ins lt (insSort lt (L.take i)) L[i] := by
  rw [List.take_succ_eq_append_getElem hi, insSort_snoc]
theorem insSort_len (lt : α → α → Bool) (L : List α) : (insSort lt L).length = L.length := by
  have key : ∀ (L S : List α), (L.foldl (ins lt) S).length = S.length + L.length := by
    intro L
    induction L with
    | nil => intro S; simp
    | cons a L ih => intro S; rw [List.foldl_cons, ih, ins_len]; simp; omega
  have := key L []
  simpa [insSort] using this
theorem insSort_one (lt : α → α → Bool) (L : List α) (h : L.length ≤ 1) : insSort lt L = L := by
  match L, h with
  | [], _ => rfl
  | [a], _ => rfl
/-- In the midst of an insertion in place: S sorted, x at j of it, R behind. -/
def midS (S R : List α) (x : α) (j : Nat) : List α := putAt S x j ++ R
theorem midS_len (S R : List α) (x : α) (j : Nat) : (midS S R x j).length = S.length + 1 + R.length := by simp [midS, putAt_len]
theorem midS_get {S R : List α} {x : α} {j : Nat} (hj : j ≤ S.length) (h : j < (midS S R x j).length) : (midS S R x j)[j] = x := by
  have : (midS S R x j)[j]? = some x := by
    rw [midS, putAt, List.append_assoc, List.getElem?_append_right (by simp; omega)]
    simp [Nat.min_eq_left hj]
  rw [List.getElem?_eq_getElem h] at this
  exact Option.some.inj this
theorem midS_get_below {S R : List α} {x : α} {j : Nat} (hj : j < S.length) (h : j < (midS S R x (j + 1)).length) : (midS S R x (j + 1))[j] = S[j] := by
  have : (midS S R x (j + 1))[j]? = some S[j] := by
    rw [midS, putAt, List.append_assoc, List.getElem?_append_left (by simp; omega), List.getElem?_take_of_lt (by omega), List.getElem?_eq_getElem hj]
  rw [List.getElem?_eq_getElem h] at this
  exact Option.some.inj this
theorem midS_swap {S R : List α} {x : α} {j : Nat} (hj : j < S.length) : ((midS S R x (j + 1)).set (j + 1) S[j]).set j x = midS S R x j := by
  have hd : S.drop j = S[j] :: S.drop (j + 1) := List.drop_eq_getElem_cons hj
  have ht : S.take (j + 1) = S.take j ++ [S[j]] := List.take_succ_eq_append_getElem hj
  have hl : (S.take j).length = j := by simp; omega
  simp only [midS, putAt, ht, hd, List.append_assoc, List.cons_append, List.nil_append, List.singleton_append]
  rw [List.set_append_right _ _ (by omega), hl, List.set_append_right _ _ (by omega), hl]
  simp
/-- What lies in the block when the first i are sorted. -/
def srtS (lt : α → α → Bool) (L : List α) (i : Nat) : List α := insSort lt (L.take i) ++ L.drop i
theorem srtS_one (lt : α → α → Bool) (L : List α) : srtS lt L 1 = L := by
  rw [srtS, insSort_one lt _ (by simp; omega), List.take_append_drop]
theorem srtS_end (lt : α → α → Bool) (L : List α) {i : Nat} (h : L.length ≤ i) : srtS lt L i = insSort lt L := by
  simp [srtS, List.take_of_length_le h, List.drop_eq_nil_of_le h]
theorem srtS_mid {lt : α → α → Bool} {L : List α} {i : Nat} (hi : i < L.length) : srtS lt L i = midS (insSort lt (L.take i)) (L.drop (i + 1)) L[i] i := by
  have hl : (insSort lt (L.take i)).length = i := by rw [insSort_len]; simp; omega
  rw [srtS, List.drop_eq_getElem_cons hi, midS]
  have := putAt_end (insSort lt (L.take i)) L[i]
  rw [hl] at this
  rw [this]; simp
theorem srtS_next {lt : α → α → Bool} {L : List α} {i j : Nat} (hi : i < L.length) (h : posK lt (insSort lt (L.take i)) L[i] i = j) : midS (insSort lt (L.take i)) (L.drop (i + 1)) L[i] j = srtS lt L (i + 1) := by
  have hl : (insSort lt (L.take i)).length = i := by rw [insSort_len]; simp; omega
  rw [srtS, insSort_take hi, ins, hl, h, midS]
end Go.Lv
end
section
set_option linter.unusedSimpArgs false
set_option linter.unusedVariables false
namespace Go.Lv
theorem splice_row {α : Type} {cs : α → List V} {w : Nat} (hw : ∀ a, (cs a).length = w) {L : List α} {i : Nat} (hi : i < L.length) (x : α) : splice (rows cs L) (i * w) (cs x) = rows cs (L.set i x) := by
  have e : L = L.take i ++ L[i] :: L.drop (i + 1) := by rw [← List.drop_eq_getElem_cons hi, List.take_append_drop]
  have e2 : L.set i x = L.take i ++ x :: L.drop (i + 1) := by rw [List.set_eq_take_append_cons_drop, if_pos hi]
  have hA : (rows cs (L.take i)).length = i * w := by rw [rows_len hw, List.length_take, Nat.min_eq_left (by omega)]
  rw [e2, rowsOf_append, rows_cons]
  conv => lhs; rw [e, rowsOf_append, rows_cons]
  rw [splice_mid0 hA, splice_zero]
  congr 2
  rw [List.drop_append_of_le_length (by rw [hw, hw]; exact Nat.le_refl _), List.drop_of_length_le (by rw [hw, hw]; exact Nat.le_refl _)]
  rfl
end Go.Lv
end
section
set_option linter.unusedSimpArgs false
set_option linter.unusedVariables false
set_option maxRecDepth 100000
set_option maxHeartbeats 1000000
namespace Go.Proofs
open Go.Lv
theorem insertionQuakeRow_ok (L : List QuakeRow) (c : QuakeRow → QuakeRow → Int) (fc : Nat) (hv : ∀ x y, Ctr Try.prog fc [QuakeRow.v x, QuakeRow.v y] [] (.int .i64 (c x y)) []) (hl : L.length ≤ 19) :
    Ctr Try.prog 189 [.osl 0 0 L.length 7, .int .i64 0, .int .i64 L.length, .fn (.func fc) [] []] [some (rows QuakeRow.cs L)] (.tup []) [some (rows QuakeRow.cs (insSort (fun x y => decide (c x y < 0)) L))] := by
  generalize hlt : (fun x y => decide (c x y < 0)) = lt
  have ltv : ∀ x y, lt x y = decide (c x y < 0) := fun x y => by rw [← hlt]
  refine Ctr.intro Try.mixed Try.func189 rfl Try.okF189 ?_
  simp -implicitDefEqProofs -dsimp only [go_sem, Nat.reduceSub, Nat.reduceAdd, Nat.reduceMul, Nat.reduceLT, Nat.reduceLeDiff, Nat.reduceEqDiff, Nat.reduceDiv, Nat.reduceMod, Int.reduceToNat, Int.reduceLE, Int.reduceLT, Int.reduceBEq, Int.reduceBNe, Int.reduceNeg, Int.reduceAdd, Int.reduceSub, Int.reduceMul, reduceCtorEq, Try.ntmps189, Try.results189]
  refine LoopT.intro (fun i : Nat => 1 ≤ i ∧ (i ≤ 1 ∨ i ≤ L.length)) (fun i => ⟨[.osl 0 0 L.length 7, .int .i64 0, .int .i64 L.length, .fn (.func fc) [] [], .undef, .undef, .undef, .undef, .int .i64 i, .undef, .undef, .undef, .undef, .undef, .undef, .undef, .undef, .undef, .undef, .undef, .undef, .undef, .undef, .undef, .undef, .undef, .undef, .undef, .undef, .undef, .undef, .undef, .undef, .undef, .undef, .undef, .undef, .undef, .undef, .undef, .undef, .undef, .undef, .undef, .undef, .undef, .undef, .undef, .undef, .undef, .undef, .undef, .undef], [some (rows QuakeRow.cs (srtS lt L i))], 1⟩) (fun i => L.length - i) 1 ⟨Nat.le_refl _, .inl (Nat.le_refl _)⟩ ?_ (fun i hi => ?_)
  · refine Weak.cut (1) (by simp) (by simp) ?_ ?_
    · (simp [LeC, LeV, ren, cutF]; rfl)
    · rw [srtS_one]; simp [cutH, cutB, map_ren_rows]
  simp -implicitDefEqProofs -dsimp only [go_sem, Nat.reduceSub, Nat.reduceAdd, Nat.reduceMul, Nat.reduceLT, Nat.reduceLeDiff, Nat.reduceEqDiff, Nat.reduceDiv, Nat.reduceMod, Int.reduceToNat, Int.reduceLE, Int.reduceLT, Int.reduceBEq, Int.reduceBNe, Int.reduceNeg, Int.reduceAdd, Int.reduceSub, Int.reduceMul, reduceCtorEq]
  refine condT.split (fun h1 => ?_) (fun h1 => ?_)
  · simp -implicitDefEqProofs -dsimp only [go_sem, Nat.reduceSub, Nat.reduceAdd, Nat.reduceMul, Nat.reduceLT, Nat.reduceLeDiff, Nat.reduceEqDiff, Nat.reduceDiv, Nat.reduceMod, Int.reduceToNat, Int.reduceLE, Int.reduceLT, Int.reduceBEq, Int.reduceBNe, Int.reduceNeg, Int.reduceAdd, Int.reduceSub, Int.reduceMul, reduceCtorEq, h1]
    have hi' : i < L.length := by simpa using h1
    have hS : (insSort lt (L.take i)).length = i := by rw [insSort_len]; simp; omega
    rw [srtS_mid hi']
    refine LoopT.intro (fun j : Nat => j ≤ i ∧ posK lt (insSort lt (L.take i)) L[i] i = posK lt (insSort lt (L.take i)) L[i] j) (fun j => ⟨[.osl 0 0 L.length 7, .int .i64 0, .int .i64 L.length, .fn (.func fc) [] [], .undef, .undef, .undef, .undef, .int .i64 i, .int .i64 j, .undef, .undef, .undef, .undef, .undef, .undef, .undef, .undef, .undef, .undef, .undef, .undef, .undef, .undef, .undef, .undef, .undef, .undef, .undef, .undef, .undef, .undef, .undef, .undef, .undef, .undef, .undef, .undef, .undef, .undef, .undef, .undef, .undef, .undef, .undef, .undef, .undef, .undef, .undef, .undef, .undef, .undef, .undef], [some (rows QuakeRow.cs (midS (insSort lt (L.take i)) (L.drop (i + 1)) L[i] j))], 1⟩) (fun j => j) i ⟨Nat.le_refl _, rfl⟩ ?_ (fun j hj => ?_)
    · refine Weak.cut (1) (by simp) (by simp) ?_ ?_
      · simp [LeC, LeV, ren, cutF]
      · simp [cutH, cutB, map_ren_rows]
    have hml : ∀ j, (midS (insSort lt (L.take i)) (L.drop (i + 1)) L[i] j).length = L.length := fun j => by rw [midS_len, hS, List.length_drop]; omega
    simp -implicitDefEqProofs -dsimp only [go_sem, Nat.reduceSub, Nat.reduceAdd, Nat.reduceMul, Nat.reduceLT, Nat.reduceLeDiff, Nat.reduceEqDiff, Nat.reduceDiv, Nat.reduceMod, Int.reduceToNat, Int.reduceLE, Int.reduceLT, Int.reduceBEq, Int.reduceBNe, Int.reduceNeg, Int.reduceAdd, Int.reduceSub, Int.reduceMul, reduceCtorEq]
    refine ⟨by kernel_rfl, ?_⟩
    cases j with
    | zero =>
      have hz : ((0 : Nat) : Int) = 0 := rfl
      (repeat ((repeat1' (first | simp -implicitDefEqProofs -dsimp only [go_sem, Nat.reduceSub, Nat.reduceAdd, Nat.reduceMul, Nat.reduceLT, Nat.reduceLeDiff, Nat.reduceEqDiff, Nat.reduceDiv, Nat.reduceMod, Int.reduceToNat, Int.reduceLE, Int.reduceLT, Int.reduceBEq, Int.reduceBNe, Int.reduceNeg, Int.reduceAdd, Int.reduceSub, Int.reduceMul, reduceCtorEq, hz] | simp -implicitDefEqProofs -dsimp (disch := omega) only [wrap_i64])); repeat (with_reducible refine sideA ?_)))
      refine ⟨i + 1, ⟨by omega, .inr hi'⟩, ?_, by omega⟩
      refine Weak.cut (1) (by simp) (by simp) ?_ ?_
      · simp [LeC, LeV, ren, cutF]
      · rw [srtS_next (j := 0) hi' hj.2]
        simp [cutH, cutB, map_ren_rows]
    | succ j =>
      have hjS : j < (insSort lt (L.take i)).length := by rw [hS]; omega
      have hg : decide ((0 : Int) < ((j + 1 : Nat) : Int)) = true := decide_eq_true (by omega)
      have hw1 : IntKind.i64.wrap (((j + 1 : Nat) : Int) - 1) = (j : Int) := by rw [wrap_i64 (by omega) (by omega)]; omega
      have hk1 : j + 1 < (midS (insSort lt (L.take i)) (L.drop (i + 1)) L[i] (j + 1)).length := by rw [hml]; omega
      have hk0 : j < (midS (insSort lt (L.take i)) (L.drop (i + 1)) L[i] (j + 1)).length := by rw [hml]; omega
      have g1 := midS_get (S := insSort lt (L.take i)) (R := L.drop (i + 1)) (x := L[i]) (j := j + 1) (by omega) hk1
      have g0 := midS_get_below (R := L.drop (i + 1)) (x := L[i]) hjS hk0
      have hr1 := rows_at QuakeRow.csl hk1
      have hr0 := rows_at QuakeRow.csl hk0
      have hlr := rows_len (w := 7) QuakeRow.csl (midS (insSort lt (L.take i)) (L.drop (i + 1)) L[i] (j + 1))
      rw [g1] at hr1
      rw [g0] at hr0
      rw [hml] at hlr
      (repeat ((repeat1' (first | simp -implicitDefEqProofs -dsimp only [go_sem, Nat.reduceSub, Nat.reduceAdd, Nat.reduceMul, Nat.reduceLT, Nat.reduceLeDiff, Nat.reduceEqDiff, Nat.reduceDiv, Nat.reduceMod, Int.reduceToNat, Int.reduceLE, Int.reduceLT, Int.reduceBEq, Int.reduceBNe, Int.reduceNeg, Int.reduceAdd, Int.reduceSub, Int.reduceMul, reduceCtorEq, hg, hw1, hr1, hr0, hlr, QuakeRow.cs] | simp -implicitDefEqProofs -dsimp (disch := omega) only [wrap_i64])); repeat (with_reducible refine sideA ?_)))
      (first | refine callT.at (hv L[i] (insSort lt (L.take i))[j]) ⟨leA, leA, trivial⟩ ?_ | refine callS.at (hv L[i] (insSort lt (L.take i))[j]) ⟨leA, leA, trivial⟩ ?_)
      simp -implicitDefEqProofs -dsimp only [go_sem, Nat.reduceSub, Nat.reduceAdd, Nat.reduceMul, Nat.reduceLT, Nat.reduceLeDiff, Nat.reduceEqDiff, Nat.reduceDiv, Nat.reduceMod, Int.reduceToNat, Int.reduceLE, Int.reduceLT, Int.reduceBEq, Int.reduceBNe, Int.reduceNeg, Int.reduceAdd, Int.reduceSub, Int.reduceMul, reduceCtorEq]
      have hlx := ltv L[i] (insSort lt (L.take i))[j]
      rw [← hlx]
      refine condT.split (fun h2 => ?_) (fun h2 => ?_)
      · have s1 := splice_row QuakeRow.csl hk1 (insSort lt (L.take i))[j]
        have s2 := splice_row (L := (midS (insSort lt (L.take i)) (L.drop (i + 1)) L[i] (j + 1)).set (j + 1) (insSort lt (L.take i))[j]) QuakeRow.csl (by rw [List.length_set]; exact hk0) L[i]
        rw [midS_swap hjS] at s2
        simp only [QuakeRow.cs] at s1 s2
        (repeat ((repeat1' (first | simp -implicitDefEqProofs -dsimp only [go_sem, Nat.reduceSub, Nat.reduceAdd, Nat.reduceMul, Nat.reduceLT, Nat.reduceLeDiff, Nat.reduceEqDiff, Nat.reduceDiv, Nat.reduceMod, Int.reduceToNat, Int.reduceLE, Int.reduceLT, Int.reduceBEq, Int.reduceBNe, Int.reduceNeg, Int.reduceAdd, Int.reduceSub, Int.reduceMul, reduceCtorEq, h2, hw1, hr1, hr0, hlr, QuakeRow.cs] | simp -implicitDefEqProofs -dsimp (disch := omega) only [wrap_i64])); repeat (with_reducible refine sideA ?_)))
        have hl2 : (rows QuakeRow.cs ((midS (insSort lt (L.take i)) (L.drop (i + 1)) L[i] (j + 1)).set (j + 1) (insSort lt (L.take i))[j])).length = L.length * 7 := by rw [rows_len (w := 7) QuakeRow.csl, List.length_set, hml]
        rw [s1, s2]
        refine ⟨by rw [hl2]; omega, j, ⟨by omega, hj.2.trans (posK_down hjS h2)⟩, ?_, by omega⟩
        refine Weak.cut (1) (by simp) (by simp) ?_ ?_
        · simp [LeC, LeV, ren, cutF]
        · simp [cutH, cutB, map_ren_rows]
      · simp -implicitDefEqProofs -dsimp only [go_sem, Nat.reduceSub, Nat.reduceAdd, Nat.reduceMul, Nat.reduceLT, Nat.reduceLeDiff, Nat.reduceEqDiff, Nat.reduceDiv, Nat.reduceMod, Int.reduceToNat, Int.reduceLE, Int.reduceLT, Int.reduceBEq, Int.reduceBNe, Int.reduceNeg, Int.reduceAdd, Int.reduceSub, Int.reduceMul, reduceCtorEq, h2]
        have hp := posK_stay hjS h2
        refine ⟨i + 1, ⟨by omega, .inr hi'⟩, ?_, by omega⟩
        refine Weak.cut (1) (by simp) (by simp) ?_ ?_
        · rw [wrap_i64 (by omega) (by omega)]; simp [LeC, LeV, ren, cutF]
        · rw [srtS_next hi' (hj.2.trans hp)]
          simp [cutH, cutB, map_ren_rows]
  · simp -implicitDefEqProofs -dsimp only [go_sem, Nat.reduceSub, Nat.reduceAdd, Nat.reduceMul, Nat.reduceLT, Nat.reduceLeDiff, Nat.reduceEqDiff, Nat.reduceDiv, Nat.reduceMod, Int.reduceToNat, Int.reduceLE, Int.reduceLT, Int.reduceBEq, Int.reduceBNe, Int.reduceNeg, Int.reduceAdd, Int.reduceSub, Int.reduceMul, reduceCtorEq, h1]
    have h1' : L.length ≤ i := by simp at h1; omega
    rw [srtS_end lt L h1']
    exact WeakR.refl _ _ _
theorem stableQuakeRow_ok (L : List QuakeRow) (c : QuakeRow → QuakeRow → Int) (fc : Nat) (hv : ∀ x y, Ctr Try.prog fc [QuakeRow.v x, QuakeRow.v y] [] (.int .i64 (c x y)) []) (hl : L.length ≤ 19) :
    Ctr Try.prog 169 [.osl 0 0 L.length 7, .int .i64 L.length, .fn (.func fc) [] []] [some (rows QuakeRow.cs L)] (.tup []) [some (rows QuakeRow.cs (insSort (fun x y => decide (c x y < 0)) L))] := by
  refine Ctr.intro Try.mixed Try.func169 rfl Try.okF169 ?_
  simp -implicitDefEqProofs -dsimp only [go_sem, Nat.reduceSub, Nat.reduceAdd, Nat.reduceMul, Nat.reduceLT, Nat.reduceLeDiff, Nat.reduceEqDiff, Nat.reduceDiv, Nat.reduceMod, Int.reduceToNat, Int.reduceLE, Int.reduceLT, Int.reduceBEq, Int.reduceBNe, Int.reduceNeg, Int.reduceAdd, Int.reduceSub, Int.reduceMul, reduceCtorEq, Try.ntmps169, Try.results169]
  have c0 : decide ((20 : Int) ≤ L.length) = false := decide_eq_false (by omega)
  have c1 : decide ((20 : Int) < L.length) = false := decide_eq_false (by omega)
  refine LoopT.intro (fun _ : Unit => True) (fun _ => ⟨[.osl 0 0 L.length 7, .int .i64 L.length, .fn (.func fc) [] [], .undef, .undef, .undef, .int .i64 20, .int .i64 0, .int .i64 20, .undef, .undef, .undef, .undef, .undef, .undef, .undef, .undef, .undef, .undef, .undef, .undef, .undef, .undef, .undef, .undef, .undef, .undef, .undef, .undef, .undef, .undef, .undef, .undef, .undef, .undef, .undef, .undef, .undef, .undef, .undef, .undef, .undef, .undef, .undef, .undef, .undef, .undef, .undef, .undef, .undef, .undef, .undef, .undef, .undef, .undef, .undef, .undef, .undef, .undef, .undef, .undef, .undef, .undef], [some (rows QuakeRow.cs L)], 1⟩) (fun _ => 0) () trivial ?_ (fun _ _ => ?_)
  · refine Weak.cut (1) (by simp) (by simp) ?_ ?_
    · simp [LeC, LeV, ren, cutF]
    · simp [cutH, cutB, map_ren_rows]
  simp -implicitDefEqProofs -dsimp only [go_sem, Nat.reduceSub, Nat.reduceAdd, Nat.reduceMul, Nat.reduceLT, Nat.reduceLeDiff, Nat.reduceEqDiff, Nat.reduceDiv, Nat.reduceMod, Int.reduceToNat, Int.reduceLE, Int.reduceLT, Int.reduceBEq, Int.reduceBNe, Int.reduceNeg, Int.reduceAdd, Int.reduceSub, Int.reduceMul, reduceCtorEq, c0]
  refine callS.lend [0] false ( insertionQuakeRow_ok L c fc hv hl) (by decide) ⟨leO, leO, leO, leO, trivial⟩ lendA ( grown_one (by simp [rows_length, insSort_len])) (.inl rfl) ?_
  simp -implicitDefEqProofs -dsimp only [go_sem, Nat.reduceSub, Nat.reduceAdd, Nat.reduceMul, Nat.reduceLT, Nat.reduceLeDiff, Nat.reduceEqDiff, Nat.reduceDiv, Nat.reduceMod, Int.reduceToNat, Int.reduceLE, Int.reduceLT, Int.reduceBEq, Int.reduceBNe, Int.reduceNeg, Int.reduceAdd, Int.reduceSub, Int.reduceMul, reduceCtorEq]
  refine LoopT.intro (fun _ : Unit => True) (fun _ => ⟨[.osl 0 0 L.length 7, .int .i64 L.length, .fn (.func fc) [] [], .undef, .undef, .undef, .int .i64 20, .undef, .undef, .undef, .undef, .undef, .undef, .undef, .undef, .undef, .undef, .undef, .undef, .undef, .undef, .undef, .undef, .undef, .undef, .undef, .undef, .undef, .undef, .undef, .undef, .undef, .undef, .undef, .undef, .undef, .undef, .undef, .undef, .undef, .undef, .undef, .undef, .undef, .undef, .undef, .undef, .undef, .undef, .undef, .undef, .undef, .undef, .undef, .undef, .undef, .undef, .undef, .undef, .undef, .undef, .undef, .undef], [some (rows QuakeRow.cs (insSort (fun x y => decide (c x y < 0)) L))], 1⟩) (fun _ => 0) () trivial ?_ (fun _ _ => ?_)
  · refine Weak.cut (1) (by simp) (by simp) ?_ ?_
    · simp [LeC, LeV, ren, cutF]
    · simp [cutH, cutB, map_ren_rows]
  simp -implicitDefEqProofs -dsimp only [go_sem, Nat.reduceSub, Nat.reduceAdd, Nat.reduceMul, Nat.reduceLT, Nat.reduceLeDiff, Nat.reduceEqDiff, Nat.reduceDiv, Nat.reduceMod, Int.reduceToNat, Int.reduceLE, Int.reduceLT, Int.reduceBEq, Int.reduceBNe, Int.reduceNeg, Int.reduceAdd, Int.reduceSub, Int.reduceMul, reduceCtorEq, c1]
  exact WeakR.refl _ _ _
theorem sortStableQuakeRow_ok (L : List QuakeRow) (c : QuakeRow → QuakeRow → Int) (fc : Nat) (hv : ∀ x y, Ctr Try.prog fc [QuakeRow.v x, QuakeRow.v y] [] (.int .i64 (c x y)) []) (hl : L.length ≤ 19) :
    Ctr Try.prog 104 [.osl 0 0 L.length 7, .fn (.func fc) [] []] [some (rows QuakeRow.cs L)] (.tup []) [some (rows QuakeRow.cs (insSort (fun x y => decide (c x y < 0)) L))] := by
  refine Ctr.intro Try.mixed Try.func104 rfl Try.okF104 ?_
  simp -implicitDefEqProofs -dsimp only [go_sem, Nat.reduceSub, Nat.reduceAdd, Nat.reduceMul, Nat.reduceLT, Nat.reduceLeDiff, Nat.reduceEqDiff, Nat.reduceDiv, Nat.reduceMod, Int.reduceToNat, Int.reduceLE, Int.reduceLT, Int.reduceBEq, Int.reduceBNe, Int.reduceNeg, Int.reduceAdd, Int.reduceSub, Int.reduceMul, reduceCtorEq, Try.ntmps104, Try.results104]
  refine callS.lend [0] false ( stableQuakeRow_ok L c fc hv hl) (by decide) ⟨leO, leO, leO, trivial⟩ lendA ( grown_one (by simp [rows_length, insSort_len])) (.inl rfl) ?_
  simp -implicitDefEqProofs -dsimp only [go_sem, Nat.reduceSub, Nat.reduceAdd, Nat.reduceMul, Nat.reduceLT, Nat.reduceLeDiff, Nat.reduceEqDiff, Nat.reduceDiv, Nat.reduceMod, Int.reduceToNat, Int.reduceLE, Int.reduceLT, Int.reduceBEq, Int.reduceBNe, Int.reduceNeg, Int.reduceAdd, Int.reduceSub, Int.reduceMul, reduceCtorEq]
  exact WeakR.refl _ _ _
end Go.Proofs
end
section
set_option linter.unusedSimpArgs false
set_option linter.unusedVariables false
set_option maxRecDepth 100000
namespace Go.Proofs
open Go.Lv
structure Post where
  Station : Int
  Up : Bool
  Since : Int
def Post.cs (r : Post) : List V := [.int .i64 r.Station, .bool r.Up, .int .i64 r.Since]
def Post.v (r : Post) : V := .agg [.int .i64 r.Station, .bool r.Up, .int .i64 r.Since]
theorem Post.csl (a : Post) : a.cs.length = 3 := rfl
instance : FlatP Post.cs 3 := ⟨fun _ => rfl, fun _ d => by cases d <;> rfl, fun _ => rfl, fun _ => rfl⟩
def Post.ok (r : Post) : Prop := i64R r.Station ∧ i64R r.Since
abbrev Post.rows (L : List Post) : List V := Go.Lv.rows Post.cs L
abbrev Post.sl (L : List Post) : V := .sl L.length 3 (Go.Lv.rows Post.cs L)
abbrev Post.zs : List V := [.int .i64 0, .bool false, .int .i64 0]
/-- What a mark writes. -/
def Post.mk1 (k : Int) : Post := ⟨k, ((k + 1).tmod 3 == 0), k + 1 + 1⟩
def Post.marks (k : Int) (n : Nat) : List Post := (List.range n).map fun i : Nat => Post.mk1 (k + 3 * (i : Int))
@[simp] theorem Post.marks_len (k : Int) (n : Nat) : (Post.marks k n).length = n := by simp [Post.marks]
end Go.Proofs
end
section
set_option linter.unusedSimpArgs false
set_option linter.unusedVariables false
set_option maxRecDepth 100000
namespace Go.Proofs
open Go.Lv
structure Shock where
  Number : Int
  State : Int
  Seen : Int
  Size : Int
  Tick : Int
def Shock.cs (r : Shock) : List V := [.int .i64 r.Number, .int .i64 r.State, .int .i64 r.Seen, .int .i64 r.Size, .int .i64 r.Tick]
def Shock.v (r : Shock) : V := .agg [.int .i64 r.Number, .int .i64 r.State, .int .i64 r.Seen, .int .i64 r.Size, .int .i64 r.Tick]
theorem Shock.csl (a : Shock) : a.cs.length = 5 := rfl
instance : FlatP Shock.cs 5 := ⟨fun _ => rfl, fun _ d => by cases d <;> rfl, fun _ => rfl, fun _ => rfl⟩
def Shock.ok (r : Shock) : Prop := i64R r.Number ∧ i64R r.State ∧ i64R r.Seen ∧ i64R r.Size ∧ i64R r.Tick
abbrev Shock.rows (L : List Shock) : List V := Go.Lv.rows Shock.cs L
abbrev Shock.sl (L : List Shock) : V := .sl L.length 5 (Go.Lv.rows Shock.cs L)
abbrev Shock.zs : List V := [.int .i64 0, .int .i64 0, .int .i64 0, .int .i64 0, .int .i64 0]
/-- What a mark writes. -/
def Shock.mk1 (k : Int) : Shock := ⟨k, k + 1, k + 1 + 1, k + 1 + 1 + 1, k + 1 + 1 + 1 + 1⟩
def Shock.marks (k : Int) (n : Nat) : List Shock := (List.range n).map fun i : Nat => Shock.mk1 (k + 5 * (i : Int))
@[simp] theorem Shock.marks_len (k : Int) (n : Nat) : (Shock.marks k n).length = n := by simp [Shock.marks]
end Go.Proofs
end
section
set_option linter.unusedSimpArgs false
set_option linter.unusedVariables false
set_option maxRecDepth 100000
namespace Go.Proofs
open Go.Lv
structure Watch where
  Now : Int
  Posts : List Post
  Shocks : List Shock
  Next : Int
  Archived : Int
def Watch.cs (r : Watch) : List V := [.int .i64 r.Now, .sl r.Posts.length 3 (Go.Lv.rows Post.cs r.Posts), .sl r.Shocks.length 5 (Go.Lv.rows Shock.cs r.Shocks), .int .i64 r.Next, .int .i64 r.Archived]
def Watch.v (r : Watch) : V := .agg [.int .i64 r.Now, .sl r.Posts.length 3 (Go.Lv.rows Post.cs r.Posts), .sl r.Shocks.length 5 (Go.Lv.rows Shock.cs r.Shocks), .int .i64 r.Next, .int .i64 r.Archived]
/-- The same, its lists in blocks of our own. -/
def Watch.o (r : Watch) (i0 i1 : Nat) : V := .agg [.int .i64 r.Now, .osl i0 0 r.Posts.length 3, .osl i1 0 r.Shocks.length 5, .int .i64 r.Next, .int .i64 r.Archived]
theorem Watch.csl (a : Watch) : a.cs.length = 5 := rfl
def Watch.ok (r : Watch) : Prop := i64R r.Now ∧ lstR Post.ok r.Posts ∧ lstR Shock.ok r.Shocks ∧ i64R r.Next ∧ i64R r.Archived
theorem Watch.le {h : Hp} {r : Watch} {i0 i1 : Nat} (h0 : h[i0]? = some (some (rows Post.cs r.Posts))) (h1 : h[i1]? = some (some (rows Shock.cs r.Shocks))) : LeV (ren (snapR h 3) 3 (r.o i0 i1)) r.v := by
  refine .inl ?_
  simp only [Watch.o, Watch.v, ren, List.map_cons, List.map_nil, snapR, h0, h1, map_ren_rows, List.drop_zero, take_rows]
end Go.Proofs
end
section
set_option linter.unusedSimpArgs false
set_option linter.unusedVariables false
set_option maxRecDepth 100000
set_option maxHeartbeats 1000000
namespace Go.Proofs
open Go.Lv
def cmpI (a b : Int) : Int := if a < b then -1 else if b < a then 1 else 0
theorem cmpI_neg (a b : Int) : decide (cmpI a b < 0) = decide (a < b) := by
  unfold cmpI
  split
  · rename_i h; simp [h]
  · rename_i h; split <;> simp [h]
theorem isNaNInt_ok (a : Int) : Ctr Try.prog 170 [.int .i64 a] [] (.bool false) [] := by
  refine Ctr.intro Try.mixed Try.func170 rfl Try.okF170 ?_
  simp -implicitDefEqProofs -dsimp only [go_sem, Nat.reduceSub, Nat.reduceAdd, Nat.reduceMul, Nat.reduceLT, Nat.reduceLeDiff, Nat.reduceEqDiff, Nat.reduceDiv, Nat.reduceMod, Int.reduceToNat, Int.reduceLE, Int.reduceLT, Int.reduceBEq, Int.reduceBNe, Int.reduceNeg, Int.reduceAdd, Int.reduceSub, Int.reduceMul, reduceCtorEq, Try.ntmps170, Try.results170]
  exact WeakR.drop' (by simp) (by rfl)
theorem compareInt_ok (a b : Int) : Ctr Try.prog 106 [.int .i64 a, .int .i64 b] [] (.int .i64 (cmpI a b)) [] := by
  refine Ctr.intro Try.mixed Try.func106 rfl Try.okF106 ?_
  simp -implicitDefEqProofs -dsimp only [go_sem, Nat.reduceSub, Nat.reduceAdd, Nat.reduceMul, Nat.reduceLT, Nat.reduceLeDiff, Nat.reduceEqDiff, Nat.reduceDiv, Nat.reduceMod, Int.reduceToNat, Int.reduceLE, Int.reduceLT, Int.reduceBEq, Int.reduceBNe, Int.reduceNeg, Int.reduceAdd, Int.reduceSub, Int.reduceMul, reduceCtorEq, Try.ntmps106, Try.results106]
  (first | refine callT.at (isNaNInt_ok a) ⟨leA, trivial⟩ ?_ | refine callS.at (isNaNInt_ok a) ⟨leA, trivial⟩ ?_)
  simp -implicitDefEqProofs -dsimp only [go_sem, Nat.reduceSub, Nat.reduceAdd, Nat.reduceMul, Nat.reduceLT, Nat.reduceLeDiff, Nat.reduceEqDiff, Nat.reduceDiv, Nat.reduceMod, Int.reduceToNat, Int.reduceLE, Int.reduceLT, Int.reduceBEq, Int.reduceBNe, Int.reduceNeg, Int.reduceAdd, Int.reduceSub, Int.reduceMul, reduceCtorEq]
  (first | refine callT.at (isNaNInt_ok b) ⟨leA, trivial⟩ ?_ | refine callS.at (isNaNInt_ok b) ⟨leA, trivial⟩ ?_)
  simp -implicitDefEqProofs -dsimp only [go_sem, Nat.reduceSub, Nat.reduceAdd, Nat.reduceMul, Nat.reduceLT, Nat.reduceLeDiff, Nat.reduceEqDiff, Nat.reduceDiv, Nat.reduceMod, Int.reduceToNat, Int.reduceLE, Int.reduceLT, Int.reduceBEq, Int.reduceBNe, Int.reduceNeg, Int.reduceAdd, Int.reduceSub, Int.reduceMul, reduceCtorEq]
  refine condT.split (fun h1 => ?_) (fun h1 => ?_) <;> simp -implicitDefEqProofs -dsimp only [go_sem, Nat.reduceSub, Nat.reduceAdd, Nat.reduceMul, Nat.reduceLT, Nat.reduceLeDiff, Nat.reduceEqDiff, Nat.reduceDiv, Nat.reduceMod, Int.reduceToNat, Int.reduceLE, Int.reduceLT, Int.reduceBEq, Int.reduceBNe, Int.reduceNeg, Int.reduceAdd, Int.reduceSub, Int.reduceMul, reduceCtorEq, h1]
  · exact WeakR.drop' (by rw [cmpI, if_pos (of_decide_eq_true h1)]) (by rfl)
  · refine condT.split (fun h2 => ?_) (fun h2 => ?_) <;> simp -implicitDefEqProofs -dsimp only [go_sem, Nat.reduceSub, Nat.reduceAdd, Nat.reduceMul, Nat.reduceLT, Nat.reduceLeDiff, Nat.reduceEqDiff, Nat.reduceDiv, Nat.reduceMod, Int.reduceToNat, Int.reduceLE, Int.reduceLT, Int.reduceBEq, Int.reduceBNe, Int.reduceNeg, Int.reduceAdd, Int.reduceSub, Int.reduceMul, reduceCtorEq, h2]
    · exact WeakR.drop' (by rw [cmpI, if_neg (of_decide_eq_false h1), if_pos (of_decide_eq_true h2)]) (by rfl)
    · exact WeakR.drop' (by rw [cmpI, if_neg (of_decide_eq_false h1), if_neg (of_decide_eq_false h2)]) (by rfl)
end Go.Proofs
end
