/-
  A part of the proof: texts put together by a program of the prover. Conditions: none.
-/
import Derived.Test.YtfnlgojocgdmcaaZWatchesLaw3
import Derived.Test.YtfnlgojocgdmcaaProg
import Derived.KernelRfl
set_option linter.unusedSimpArgs false
set_option linter.unusedVariables false
section
namespace Go.Proofs
open Go.Lv

theorem Try.mixed : Try.prog.follows .mixedOrders = true := by kernel_rfl
@[go_sem] theorem Try.tsz1 : tszOf Try.prog 1 = some (1, false) := by kernel_rfl
@[go_sem] theorem Try.udef1 : (Try.prog.underlying 1).isSome = true := by kernel_rfl
@[go_sem] theorem Try.zero1 : zeroOf Try.prog 1 = some [.lit ((Go.Value.nilFunc))] := by kernel_rfl
@[go_sem] theorem Try.tsz2 : tszOf Try.prog 2 = some (1, false) := by kernel_rfl
@[go_sem] theorem Try.udef2 : (Try.prog.underlying 2).isSome = true := by kernel_rfl
@[go_sem] theorem Try.zero2 : zeroOf Try.prog 2 = some [.int .i64 0] := by kernel_rfl
@[go_sem] theorem Try.isInt2 : isIntT Try.prog 2 = some .i64 := by kernel_rfl
@[go_sem] theorem Try.tsz3 : tszOf Try.prog 3 = some (1, false) := by kernel_rfl
@[go_sem] theorem Try.udef3 : (Try.prog.underlying 3).isSome = true := by kernel_rfl
@[go_sem] theorem Try.zero3 : zeroOf Try.prog 3 = some [.int .i64 0] := by kernel_rfl
@[go_sem] theorem Try.isInt3 : isIntT Try.prog 3 = some .i64 := by kernel_rfl
@[go_sem] theorem Try.tsz4 : tszOf Try.prog 4 = some (1, false) := by kernel_rfl
@[go_sem] theorem Try.udef4 : (Try.prog.underlying 4).isSome = true := by kernel_rfl
@[go_sem] theorem Try.zero4 : zeroOf Try.prog 4 = some [.bool false] := by kernel_rfl
@[go_sem] theorem Try.isBool4 : isBoolT Try.prog 4 = true := by kernel_rfl
@[go_sem] theorem Try.tsz5 : tszOf Try.prog 5 = some (1, false) := by kernel_rfl
theorem Try.cz5 : Try.prog.cellsOf 5 = 1 := by kernel_rfl
@[go_sem] theorem Try.udef5 : (Try.prog.underlying 5).isSome = true := by kernel_rfl
@[go_sem] theorem Try.zero5 : zeroOf Try.prog 5 = some [.int .u8 0] := by kernel_rfl
@[go_sem] theorem Try.isInt5 : isIntT Try.prog 5 = some .u8 := by kernel_rfl
@[go_sem] theorem Try.tsz6 : tszOf Try.prog 6 = some (1, false) := by kernel_rfl
@[go_sem] theorem Try.udef6 : (Try.prog.underlying 6).isSome = true := by kernel_rfl
@[go_sem] theorem Try.zero6 : zeroOf Try.prog 6 = some [.int .u8 0] := by kernel_rfl
@[go_sem] theorem Try.isInt6 : isIntT Try.prog 6 = some .u8 := by kernel_rfl
@[go_sem] theorem Try.tsz7 : tszOf Try.prog 7 = some (4, true) := by kernel_rfl
@[go_sem] theorem Try.udef7 : (Try.prog.underlying 7).isSome = true := by kernel_rfl
@[go_sem] theorem Try.zero7 : zeroOf Try.prog 7 = some [.int .i64 0, .int .i64 0, .bool false, .int .u8 0] := by kernel_rfl
@[go_sem] theorem Try.pl7 : plOf Try.prog 7 = some [(0, 1), (1, 1), (2, 1), (3, 1)] := by kernel_rfl
@[go_sem] theorem Try.tsz8 : tszOf Try.prog 8 = some (4, true) := by kernel_rfl
@[go_sem] theorem Try.udef8 : (Try.prog.underlying 8).isSome = true := by kernel_rfl
@[go_sem] theorem Try.zero8 : zeroOf Try.prog 8 = some [.int .i64 0, .int .i64 0, .bool false, .int .u8 0] := by kernel_rfl
@[go_sem] theorem Try.pl8 : plOf Try.prog 8 = some [(0, 1), (1, 1), (2, 1), (3, 1)] := by kernel_rfl
@[go_sem] theorem Try.tsz9 : tszOf Try.prog 9 = some (1, false) := by kernel_rfl
@[go_sem] theorem Try.udef9 : (Try.prog.underlying 9).isSome = true := by kernel_rfl
@[go_sem] theorem Try.zero9 : zeroOf Try.prog 9 = some [.str ByteArray.empty] := by kernel_rfl
@[go_sem] theorem Try.isU8S9 : isU8S Try.prog 9 = false := by kernel_rfl
@[go_sem] theorem Try.isIntN9 : isIntT Try.prog 9 = none := by kernel_rfl
@[go_sem] theorem Try.isStr9 : isStr Try.prog 9 = true := by kernel_rfl
@[go_sem] theorem Try.tsz10 : tszOf Try.prog 10 = some (1, false) := by kernel_rfl
@[go_sem] theorem Try.udef10 : (Try.prog.underlying 10).isSome = true := by kernel_rfl
@[go_sem] theorem Try.zero10 : zeroOf Try.prog 10 = some [.str ByteArray.empty] := by kernel_rfl
@[go_sem] theorem Try.isU8S10 : isU8S Try.prog 10 = false := by kernel_rfl
@[go_sem] theorem Try.isIntN10 : isIntT Try.prog 10 = none := by kernel_rfl
@[go_sem] theorem Try.isStr10 : isStr Try.prog 10 = true := by kernel_rfl
@[go_sem] theorem Try.tsz11 : tszOf Try.prog 11 = some (1, false) := by kernel_rfl
@[go_sem] theorem Try.udef11 : (Try.prog.underlying 11).isSome = true := by kernel_rfl
@[go_sem] theorem Try.zero11 : zeroOf Try.prog 11 = some [.str ByteArray.empty] := by kernel_rfl
@[go_sem] theorem Try.isU8S11 : isU8S Try.prog 11 = false := by kernel_rfl
@[go_sem] theorem Try.isIntN11 : isIntT Try.prog 11 = none := by kernel_rfl
@[go_sem] theorem Try.isStr11 : isStr Try.prog 11 = true := by kernel_rfl
@[go_sem] theorem Try.tsz12 : tszOf Try.prog 12 = some (1, false) := by kernel_rfl
@[go_sem] theorem Try.udef12 : (Try.prog.underlying 12).isSome = true := by kernel_rfl
@[go_sem] theorem Try.zero12 : zeroOf Try.prog 12 = some [.int .u64 0] := by kernel_rfl
@[go_sem] theorem Try.isInt12 : isIntT Try.prog 12 = some .u64 := by kernel_rfl
@[go_sem] theorem Try.tsz13 : tszOf Try.prog 13 = some (2, true) := by kernel_rfl
@[go_sem] theorem Try.udef13 : (Try.prog.underlying 13).isSome = true := by kernel_rfl
@[go_sem] theorem Try.zero13 : zeroOf Try.prog 13 = some [.str ByteArray.empty, .int .u64 0] := by kernel_rfl
@[go_sem] theorem Try.pl13 : plOf Try.prog 13 = some [(0, 1), (1, 1)] := by kernel_rfl
@[go_sem] theorem Try.tsz14 : tszOf Try.prog 14 = some (2, true) := by kernel_rfl
@[go_sem] theorem Try.udef14 : (Try.prog.underlying 14).isSome = true := by kernel_rfl
@[go_sem] theorem Try.zero14 : zeroOf Try.prog 14 = some [.str ByteArray.empty, .int .u64 0] := by kernel_rfl
@[go_sem] theorem Try.pl14 : plOf Try.prog 14 = some [(0, 1), (1, 1)] := by kernel_rfl
@[go_sem] theorem Try.tsz15 : tszOf Try.prog 15 = some (1, false) := by kernel_rfl
@[go_sem] theorem Try.udef15 : (Try.prog.underlying 15).isSome = true := by kernel_rfl
@[go_sem] theorem Try.zero15 : zeroOf Try.prog 15 = some [.lit ((Go.Value.pointer none))] := by kernel_rfl
@[go_sem] theorem Try.tsz16 : tszOf Try.prog 16 = some (1, false) := by kernel_rfl
@[go_sem] theorem Try.udef16 : (Try.prog.underlying 16).isSome = true := by kernel_rfl
@[go_sem] theorem Try.zero16 : zeroOf Try.prog 16 = some [.lit ((Go.Value.pointer none))] := by kernel_rfl
@[go_sem] theorem Try.tsz17 : tszOf Try.prog 17 = some (1, false) := by kernel_rfl
@[go_sem] theorem Try.udef17 : (Try.prog.underlying 17).isSome = true := by kernel_rfl
@[go_sem] theorem Try.zero17 : zeroOf Try.prog 17 = some [.lit ((Go.Value.pointer none))] := by kernel_rfl
@[go_sem] theorem Try.tsz18 : tszOf Try.prog 18 = some (1, true) := by kernel_rfl
@[go_sem] theorem Try.udef18 : (Try.prog.underlying 18).isSome = true := by kernel_rfl
@[go_sem] theorem Try.zero18 : zeroOf Try.prog 18 = some [.lit ((Go.Value.pointer none))] := by kernel_rfl
@[go_sem] theorem Try.pl18 : plOf Try.prog 18 = some [(0, 1)] := by kernel_rfl
@[go_sem] theorem Try.tsz19 : tszOf Try.prog 19 = some (1, true) := by kernel_rfl
@[go_sem] theorem Try.udef19 : (Try.prog.underlying 19).isSome = true := by kernel_rfl
@[go_sem] theorem Try.zero19 : zeroOf Try.prog 19 = some [.lit ((Go.Value.pointer none))] := by kernel_rfl
@[go_sem] theorem Try.pl19 : plOf Try.prog 19 = some [(0, 1)] := by kernel_rfl
@[go_sem] theorem Try.tsz20 : tszOf Try.prog 20 = some (1, false) := by kernel_rfl
@[go_sem] theorem Try.udef20 : (Try.prog.underlying 20).isSome = true := by kernel_rfl
@[go_sem] theorem Try.zero20 : zeroOf Try.prog 20 = some [.lit ((Go.Value.nilIface))] := by kernel_rfl
@[go_sem] theorem Try.tsz21 : tszOf Try.prog 21 = some (1, false) := by kernel_rfl
@[go_sem] theorem Try.udef21 : (Try.prog.underlying 21).isSome = true := by kernel_rfl
@[go_sem] theorem Try.zero21 : zeroOf Try.prog 21 = some [.int .i32 0] := by kernel_rfl
@[go_sem] theorem Try.isInt21 : isIntT Try.prog 21 = some .i32 := by kernel_rfl
@[go_sem] theorem Try.tsz22 : tszOf Try.prog 22 = some (1, false) := by kernel_rfl
@[go_sem] theorem Try.udef22 : (Try.prog.underlying 22).isSome = true := by kernel_rfl
@[go_sem] theorem Try.zero22 : zeroOf Try.prog 22 = some [.nilsl] := by kernel_rfl
@[go_sem] theorem Try.el22 : elOf Try.prog 22 = some (110, 5, 40) := by kernel_rfl
@[go_sem] theorem Try.isSl22 : isSl Try.prog 22 = true := by kernel_rfl
@[go_sem] theorem Try.tsz23 : tszOf Try.prog 23 = some (1, false) := by kernel_rfl
@[go_sem] theorem Try.udef23 : (Try.prog.underlying 23).isSome = true := by kernel_rfl
@[go_sem] theorem Try.zero23 : zeroOf Try.prog 23 = some [.lit ((Go.Value.nilFunc))] := by kernel_rfl
@[go_sem] theorem Try.tsz24 : tszOf Try.prog 24 = some (1, false) := by kernel_rfl
@[go_sem] theorem Try.udef24 : (Try.prog.underlying 24).isSome = true := by kernel_rfl
@[go_sem] theorem Try.zero24 : zeroOf Try.prog 24 = some [.nilsl] := by kernel_rfl
@[go_sem] theorem Try.el24 : elOf Try.prog 24 = some (55, 1, 24) := by kernel_rfl
@[go_sem] theorem Try.isSl24 : isSl Try.prog 24 = true := by kernel_rfl
@[go_sem] theorem Try.tsz26 : tszOf Try.prog 26 = some (1, false) := by kernel_rfl
@[go_sem] theorem Try.udef26 : (Try.prog.underlying 26).isSome = true := by kernel_rfl
@[go_sem] theorem Try.zero26 : zeroOf Try.prog 26 = some [.lit ((Go.Value.nilFunc))] := by kernel_rfl
@[go_sem] theorem Try.tsz27 : tszOf Try.prog 27 = some (1, false) := by kernel_rfl
@[go_sem] theorem Try.udef27 : (Try.prog.underlying 27).isSome = true := by kernel_rfl
@[go_sem] theorem Try.zero27 : zeroOf Try.prog 27 = some [.nilsl] := by kernel_rfl
@[go_sem] theorem Try.el27 : elOf Try.prog 27 = some (108, 5, 40) := by kernel_rfl
@[go_sem] theorem Try.isSl27 : isSl Try.prog 27 = true := by kernel_rfl
@[go_sem] theorem Try.tsz28 : tszOf Try.prog 28 = some (1, false) := by kernel_rfl
@[go_sem] theorem Try.udef28 : (Try.prog.underlying 28).isSome = true := by kernel_rfl
@[go_sem] theorem Try.zero28 : zeroOf Try.prog 28 = some [.lit ((Go.Value.nilFunc))] := by kernel_rfl
@[go_sem] theorem Try.tsz29 : tszOf Try.prog 29 = some (1, false) := by kernel_rfl
@[go_sem] theorem Try.udef29 : (Try.prog.underlying 29).isSome = true := by kernel_rfl
@[go_sem] theorem Try.zero29 : zeroOf Try.prog 29 = some [.lit ((Go.Value.nilFunc))] := by kernel_rfl
@[go_sem] theorem Try.tsz30 : tszOf Try.prog 30 = some (1, false) := by kernel_rfl
@[go_sem] theorem Try.udef30 : (Try.prog.underlying 30).isSome = true := by kernel_rfl
@[go_sem] theorem Try.zero30 : zeroOf Try.prog 30 = some [.lit ((Go.Value.nilFunc))] := by kernel_rfl
@[go_sem] theorem Try.tsz31 : tszOf Try.prog 31 = some (1, false) := by kernel_rfl
@[go_sem] theorem Try.udef31 : (Try.prog.underlying 31).isSome = true := by kernel_rfl
@[go_sem] theorem Try.zero31 : zeroOf Try.prog 31 = some [.lit ((Go.Value.nilFunc))] := by kernel_rfl
@[go_sem] theorem Try.tsz32 : tszOf Try.prog 32 = some (1, false) := by kernel_rfl
@[go_sem] theorem Try.udef32 : (Try.prog.underlying 32).isSome = true := by kernel_rfl
@[go_sem] theorem Try.zero32 : zeroOf Try.prog 32 = some [.lit ((Go.Value.nilFunc))] := by kernel_rfl
@[go_sem] theorem Try.tsz33 : tszOf Try.prog 33 = some (1, false) := by kernel_rfl
@[go_sem] theorem Try.udef33 : (Try.prog.underlying 33).isSome = true := by kernel_rfl
@[go_sem] theorem Try.zero33 : zeroOf Try.prog 33 = some [.lit ((Go.Value.nilFunc))] := by kernel_rfl
@[go_sem] theorem Try.tsz34 : tszOf Try.prog 34 = some (1, false) := by kernel_rfl
@[go_sem] theorem Try.udef34 : (Try.prog.underlying 34).isSome = true := by kernel_rfl
@[go_sem] theorem Try.zero34 : zeroOf Try.prog 34 = some [.nilsl] := by kernel_rfl
@[go_sem] theorem Try.el34 : elOf Try.prog 34 = some (5, 1, 1) := by kernel_rfl
@[go_sem] theorem Try.isSl34 : isSl Try.prog 34 = true := by kernel_rfl
@[go_sem] theorem Try.isU8S34 : isU8S Try.prog 34 = true := by kernel_rfl
@[go_sem] theorem Try.tsz35 : tszOf Try.prog 35 = some (1, false) := by kernel_rfl
@[go_sem] theorem Try.udef35 : (Try.prog.underlying 35).isSome = true := by kernel_rfl
@[go_sem] theorem Try.zero35 : zeroOf Try.prog 35 = some [.lit ((Go.Value.nilFunc))] := by kernel_rfl
@[go_sem] theorem Try.tsz36 : tszOf Try.prog 36 = some (1, false) := by kernel_rfl
@[go_sem] theorem Try.udef36 : (Try.prog.underlying 36).isSome = true := by kernel_rfl
@[go_sem] theorem Try.zero36 : zeroOf Try.prog 36 = some [.nilsl] := by kernel_rfl
@[go_sem] theorem Try.el36 : elOf Try.prog 36 = some (125, 3, 24) := by kernel_rfl
@[go_sem] theorem Try.isSl36 : isSl Try.prog 36 = true := by kernel_rfl
@[go_sem] theorem Try.tsz37 : tszOf Try.prog 37 = some (1, false) := by kernel_rfl
@[go_sem] theorem Try.udef37 : (Try.prog.underlying 37).isSome = true := by kernel_rfl
@[go_sem] theorem Try.zero37 : zeroOf Try.prog 37 = some [.nilsl] := by kernel_rfl
@[go_sem] theorem Try.el37 : elOf Try.prog 37 = some (49, 5, 40) := by kernel_rfl
@[go_sem] theorem Try.isSl37 : isSl Try.prog 37 = true := by kernel_rfl
@[go_sem] theorem Try.tsz38 : tszOf Try.prog 38 = some (5, true) := by kernel_rfl
@[go_sem] theorem Try.udef38 : (Try.prog.underlying 38).isSome = true := by kernel_rfl
@[go_sem] theorem Try.zero38 : zeroOf Try.prog 38 = some [.int .i64 0, .nilsl, .nilsl, .int .i64 0, .int .i64 0] := by kernel_rfl
@[go_sem] theorem Try.pl38 : plOf Try.prog 38 = some [(0, 1), (1, 1), (2, 1), (3, 1), (4, 1)] := by kernel_rfl
@[go_sem] theorem Try.tsz39 : tszOf Try.prog 39 = some (5, true) := by kernel_rfl
@[go_sem] theorem Try.udef39 : (Try.prog.underlying 39).isSome = true := by kernel_rfl
@[go_sem] theorem Try.zero39 : zeroOf Try.prog 39 = some [.int .i64 0, .nilsl, .nilsl, .int .i64 0, .int .i64 0] := by kernel_rfl
@[go_sem] theorem Try.pl39 : plOf Try.prog 39 = some [(0, 1), (1, 1), (2, 1), (3, 1), (4, 1)] := by kernel_rfl
@[go_sem] theorem Try.fd39_0 : fdOf Try.prog 39 0 = some (0, 1, false) := by kernel_rfl
@[go_sem] theorem Try.fd39_1 : fdOf Try.prog 39 1 = some (1, 1, false) := by kernel_rfl
@[go_sem] theorem Try.fd39_2 : fdOf Try.prog 39 2 = some (2, 1, false) := by kernel_rfl
@[go_sem] theorem Try.fd39_3 : fdOf Try.prog 39 3 = some (3, 1, false) := by kernel_rfl
@[go_sem] theorem Try.fd39_4 : fdOf Try.prog 39 4 = some (4, 1, false) := by kernel_rfl
@[go_sem] theorem Try.tsz40 : tszOf Try.prog 40 = some (3, true) := by kernel_rfl
@[go_sem] theorem Try.udef40 : (Try.prog.underlying 40).isSome = true := by kernel_rfl
@[go_sem] theorem Try.zero40 : zeroOf Try.prog 40 = some [.int .i64 0, .int .i64 0, .int .i64 0] := by kernel_rfl
@[go_sem] theorem Try.pl40 : plOf Try.prog 40 = some [(0, 1), (1, 1), (2, 1)] := by kernel_rfl
@[go_sem] theorem Try.tsz41 : tszOf Try.prog 41 = some (3, true) := by kernel_rfl
@[go_sem] theorem Try.udef41 : (Try.prog.underlying 41).isSome = true := by kernel_rfl
@[go_sem] theorem Try.zero41 : zeroOf Try.prog 41 = some [.int .i64 0, .int .i64 0, .int .i64 0] := by kernel_rfl
@[go_sem] theorem Try.flatEq41 : flatEq Try.prog 41 = some [.int .i64, .int .i64, .int .i64] := by kernel_rfl
@[go_sem] theorem Try.pl41 : plOf Try.prog 41 = some [(0, 1), (1, 1), (2, 1)] := by kernel_rfl
@[go_sem] theorem Try.fd41_0 : fdOf Try.prog 41 0 = some (0, 1, false) := by kernel_rfl
@[go_sem] theorem Try.fd41_1 : fdOf Try.prog 41 1 = some (1, 1, false) := by kernel_rfl
@[go_sem] theorem Try.fd41_2 : fdOf Try.prog 41 2 = some (2, 1, false) := by kernel_rfl
@[go_sem] theorem Try.tsz43 : tszOf Try.prog 43 = some (1, false) := by kernel_rfl
@[go_sem] theorem Try.udef43 : (Try.prog.underlying 43).isSome = true := by kernel_rfl
@[go_sem] theorem Try.zero43 : zeroOf Try.prog 43 = some [.lit ((Go.Value.nilFunc))] := by kernel_rfl
@[go_sem] theorem Try.tsz45 : tszOf Try.prog 45 = some (1, false) := by kernel_rfl
@[go_sem] theorem Try.udef45 : (Try.prog.underlying 45).isSome = true := by kernel_rfl
@[go_sem] theorem Try.zero45 : zeroOf Try.prog 45 = some [.lit ((Go.Value.nilFunc))] := by kernel_rfl
@[go_sem] theorem Try.tsz46 : tszOf Try.prog 46 = some (1, false) := by kernel_rfl
@[go_sem] theorem Try.udef46 : (Try.prog.underlying 46).isSome = true := by kernel_rfl
@[go_sem] theorem Try.zero46 : zeroOf Try.prog 46 = some [.lit ((Go.Value.nilFunc))] := by kernel_rfl
@[go_sem] theorem Try.tsz47 : tszOf Try.prog 47 = some (1, false) := by kernel_rfl
@[go_sem] theorem Try.udef47 : (Try.prog.underlying 47).isSome = true := by kernel_rfl
@[go_sem] theorem Try.zero47 : zeroOf Try.prog 47 = some [.lit ((Go.Value.nilFunc))] := by kernel_rfl
@[go_sem] theorem Try.tsz48 : tszOf Try.prog 48 = some (5, true) := by kernel_rfl
@[go_sem] theorem Try.udef48 : (Try.prog.underlying 48).isSome = true := by kernel_rfl
@[go_sem] theorem Try.zero48 : zeroOf Try.prog 48 = some [.int .i64 0, .int .i64 0, .int .i64 0, .int .i64 0, .int .i64 0] := by kernel_rfl
@[go_sem] theorem Try.pl48 : plOf Try.prog 48 = some [(0, 1), (1, 1), (2, 1), (3, 1), (4, 1)] := by kernel_rfl
@[go_sem] theorem Try.tsz49 : tszOf Try.prog 49 = some (5, true) := by kernel_rfl
@[go_sem] theorem Try.udef49 : (Try.prog.underlying 49).isSome = true := by kernel_rfl
@[go_sem] theorem Try.zero49 : zeroOf Try.prog 49 = some [.int .i64 0, .int .i64 0, .int .i64 0, .int .i64 0, .int .i64 0] := by kernel_rfl
@[go_sem] theorem Try.flatEq49 : flatEq Try.prog 49 = some [.int .i64, .int .i64, .int .i64, .int .i64, .int .i64] := by kernel_rfl
@[go_sem] theorem Try.pl49 : plOf Try.prog 49 = some [(0, 1), (1, 1), (2, 1), (3, 1), (4, 1)] := by kernel_rfl
@[go_sem] theorem Try.fd49_0 : fdOf Try.prog 49 0 = some (0, 1, false) := by kernel_rfl
@[go_sem] theorem Try.fd49_1 : fdOf Try.prog 49 1 = some (1, 1, false) := by kernel_rfl
@[go_sem] theorem Try.fd49_2 : fdOf Try.prog 49 2 = some (2, 1, false) := by kernel_rfl
@[go_sem] theorem Try.fd49_3 : fdOf Try.prog 49 3 = some (3, 1, false) := by kernel_rfl
@[go_sem] theorem Try.fd49_4 : fdOf Try.prog 49 4 = some (4, 1, false) := by kernel_rfl
@[go_sem] theorem Try.tsz50 : tszOf Try.prog 50 = some (1, false) := by kernel_rfl
@[go_sem] theorem Try.udef50 : (Try.prog.underlying 50).isSome = true := by kernel_rfl
@[go_sem] theorem Try.zero50 : zeroOf Try.prog 50 = some [.nilsl] := by kernel_rfl
@[go_sem] theorem Try.el50 : elOf Try.prog 50 = some (41, 3, 24) := by kernel_rfl
@[go_sem] theorem Try.isSl50 : isSl Try.prog 50 = true := by kernel_rfl
@[go_sem] theorem Try.tsz52 : tszOf Try.prog 52 = some (1, false) := by kernel_rfl
@[go_sem] theorem Try.udef52 : (Try.prog.underlying 52).isSome = true := by kernel_rfl
@[go_sem] theorem Try.zero52 : zeroOf Try.prog 52 = some [.lit ((Go.Value.nilFunc))] := by kernel_rfl
@[go_sem] theorem Try.tsz54 : tszOf Try.prog 54 = some (1, false) := by kernel_rfl
@[go_sem] theorem Try.udef54 : (Try.prog.underlying 54).isSome = true := by kernel_rfl
@[go_sem] theorem Try.zero54 : zeroOf Try.prog 54 = some [.lit ((Go.Value.nilFunc))] := by kernel_rfl
@[go_sem] theorem Try.tsz55 : tszOf Try.prog 55 = some (1, false) := by kernel_rfl
@[go_sem] theorem Try.udef55 : (Try.prog.underlying 55).isSome = true := by kernel_rfl
@[go_sem] theorem Try.zero55 : zeroOf Try.prog 55 = some [.nilsl] := by kernel_rfl
@[go_sem] theorem Try.el55 : elOf Try.prog 55 = some (3, 1, 8) := by kernel_rfl
@[go_sem] theorem Try.isSl55 : isSl Try.prog 55 = true := by kernel_rfl
@[go_sem] theorem Try.tsz56 : tszOf Try.prog 56 = some (1, false) := by kernel_rfl
@[go_sem] theorem Try.udef56 : (Try.prog.underlying 56).isSome = true := by kernel_rfl
@[go_sem] theorem Try.zero56 : zeroOf Try.prog 56 = some [.lit ((Go.Value.nilFunc))] := by kernel_rfl
@[go_sem] theorem Try.tsz57 : tszOf Try.prog 57 = some (1, false) := by kernel_rfl
@[go_sem] theorem Try.udef57 : (Try.prog.underlying 57).isSome = true := by kernel_rfl
@[go_sem] theorem Try.zero57 : zeroOf Try.prog 57 = some [.lit ((Go.Value.nilFunc))] := by kernel_rfl
@[go_sem] theorem Try.tsz58 : tszOf Try.prog 58 = some (1, false) := by kernel_rfl
@[go_sem] theorem Try.udef58 : (Try.prog.underlying 58).isSome = true := by kernel_rfl
@[go_sem] theorem Try.zero58 : zeroOf Try.prog 58 = some [.nilsl] := by kernel_rfl
@[go_sem] theorem Try.el58 : elOf Try.prog 58 = some (65, 7, 56) := by kernel_rfl
@[go_sem] theorem Try.isSl58 : isSl Try.prog 58 = true := by kernel_rfl
@[go_sem] theorem Try.tsz60 : tszOf Try.prog 60 = some (1, false) := by kernel_rfl
@[go_sem] theorem Try.udef60 : (Try.prog.underlying 60).isSome = true := by kernel_rfl
@[go_sem] theorem Try.zero60 : zeroOf Try.prog 60 = some [.lit ((Go.Value.nilFunc))] := by kernel_rfl
@[go_sem] theorem Try.tsz62 : tszOf Try.prog 62 = some (1, false) := by kernel_rfl
@[go_sem] theorem Try.udef62 : (Try.prog.underlying 62).isSome = true := by kernel_rfl
@[go_sem] theorem Try.zero62 : zeroOf Try.prog 62 = some [.lit ((Go.Value.nilFunc))] := by kernel_rfl
@[go_sem] theorem Try.tsz63 : tszOf Try.prog 63 = some (1, false) := by kernel_rfl
@[go_sem] theorem Try.udef63 : (Try.prog.underlying 63).isSome = true := by kernel_rfl
@[go_sem] theorem Try.zero63 : zeroOf Try.prog 63 = some [.lit ((Go.Value.nilFunc))] := by kernel_rfl
@[go_sem] theorem Try.tsz64 : tszOf Try.prog 64 = some (7, true) := by kernel_rfl
@[go_sem] theorem Try.udef64 : (Try.prog.underlying 64).isSome = true := by kernel_rfl
@[go_sem] theorem Try.zero64 : zeroOf Try.prog 64 = some [.int .i64 0, .int .i64 0, .int .i64 0, .int .i64 0, .int .i64 0, .int .i64 0, .int .i64 0] := by kernel_rfl
@[go_sem] theorem Try.pl64 : plOf Try.prog 64 = some [(0, 1), (1, 1), (2, 1), (3, 1), (4, 1), (5, 1), (6, 1)] := by kernel_rfl
@[go_sem] theorem Try.tsz65 : tszOf Try.prog 65 = some (7, true) := by kernel_rfl
@[go_sem] theorem Try.udef65 : (Try.prog.underlying 65).isSome = true := by kernel_rfl
@[go_sem] theorem Try.zero65 : zeroOf Try.prog 65 = some [.int .i64 0, .int .i64 0, .int .i64 0, .int .i64 0, .int .i64 0, .int .i64 0, .int .i64 0] := by kernel_rfl
@[go_sem] theorem Try.flatEq65 : flatEq Try.prog 65 = some [.int .i64, .int .i64, .int .i64, .int .i64, .int .i64, .int .i64, .int .i64] := by kernel_rfl
@[go_sem] theorem Try.pl65 : plOf Try.prog 65 = some [(0, 1), (1, 1), (2, 1), (3, 1), (4, 1), (5, 1), (6, 1)] := by kernel_rfl
@[go_sem] theorem Try.fd65_0 : fdOf Try.prog 65 0 = some (0, 1, false) := by kernel_rfl
@[go_sem] theorem Try.fd65_1 : fdOf Try.prog 65 1 = some (1, 1, false) := by kernel_rfl
@[go_sem] theorem Try.fd65_2 : fdOf Try.prog 65 2 = some (2, 1, false) := by kernel_rfl
@[go_sem] theorem Try.fd65_3 : fdOf Try.prog 65 3 = some (3, 1, false) := by kernel_rfl
@[go_sem] theorem Try.fd65_4 : fdOf Try.prog 65 4 = some (4, 1, false) := by kernel_rfl
@[go_sem] theorem Try.fd65_5 : fdOf Try.prog 65 5 = some (5, 1, false) := by kernel_rfl
@[go_sem] theorem Try.fd65_6 : fdOf Try.prog 65 6 = some (6, 1, false) := by kernel_rfl
@[go_sem] theorem Try.tsz67 : tszOf Try.prog 67 = some (1, false) := by kernel_rfl
@[go_sem] theorem Try.udef67 : (Try.prog.underlying 67).isSome = true := by kernel_rfl
@[go_sem] theorem Try.zero67 : zeroOf Try.prog 67 = some [.lit ((Go.Value.nilFunc))] := by kernel_rfl
@[go_sem] theorem Try.tsz69 : tszOf Try.prog 69 = some (1, false) := by kernel_rfl
@[go_sem] theorem Try.udef69 : (Try.prog.underlying 69).isSome = true := by kernel_rfl
@[go_sem] theorem Try.zero69 : zeroOf Try.prog 69 = some [.lit ((Go.Value.nilFunc))] := by kernel_rfl
@[go_sem] theorem Try.tsz70 : tszOf Try.prog 70 = some (1, false) := by kernel_rfl
@[go_sem] theorem Try.udef70 : (Try.prog.underlying 70).isSome = true := by kernel_rfl
@[go_sem] theorem Try.zero70 : zeroOf Try.prog 70 = some [.lit ((Go.Value.nilFunc))] := by kernel_rfl
@[go_sem] theorem Try.tsz71 : tszOf Try.prog 71 = some (1, false) := by kernel_rfl
@[go_sem] theorem Try.udef71 : (Try.prog.underlying 71).isSome = true := by kernel_rfl
@[go_sem] theorem Try.zero71 : zeroOf Try.prog 71 = some [.lit ((Go.Value.nilFunc))] := by kernel_rfl
@[go_sem] theorem Try.tsz73 : tszOf Try.prog 73 = some (1, false) := by kernel_rfl
@[go_sem] theorem Try.udef73 : (Try.prog.underlying 73).isSome = true := by kernel_rfl
@[go_sem] theorem Try.zero73 : zeroOf Try.prog 73 = some [.lit ((Go.Value.nilFunc))] := by kernel_rfl
@[go_sem] theorem Try.tsz75 : tszOf Try.prog 75 = some (1, false) := by kernel_rfl
@[go_sem] theorem Try.udef75 : (Try.prog.underlying 75).isSome = true := by kernel_rfl
@[go_sem] theorem Try.zero75 : zeroOf Try.prog 75 = some [.lit ((Go.Value.nilFunc))] := by kernel_rfl
@[go_sem] theorem Try.tsz77 : tszOf Try.prog 77 = some (1, false) := by kernel_rfl
@[go_sem] theorem Try.udef77 : (Try.prog.underlying 77).isSome = true := by kernel_rfl
@[go_sem] theorem Try.zero77 : zeroOf Try.prog 77 = some [.lit ((Go.Value.nilFunc))] := by kernel_rfl
@[go_sem] theorem Try.tsz78 : tszOf Try.prog 78 = some (1, false) := by kernel_rfl
@[go_sem] theorem Try.udef78 : (Try.prog.underlying 78).isSome = true := by kernel_rfl
@[go_sem] theorem Try.zero78 : zeroOf Try.prog 78 = some [.lit ((Go.Value.nilFunc))] := by kernel_rfl
@[go_sem] theorem Try.tsz80 : tszOf Try.prog 80 = some (1, false) := by kernel_rfl
@[go_sem] theorem Try.udef80 : (Try.prog.underlying 80).isSome = true := by kernel_rfl
@[go_sem] theorem Try.zero80 : zeroOf Try.prog 80 = some [.lit ((Go.Value.nilFunc))] := by kernel_rfl
@[go_sem] theorem Try.tsz81 : tszOf Try.prog 81 = some (1, false) := by kernel_rfl
@[go_sem] theorem Try.udef81 : (Try.prog.underlying 81).isSome = true := by kernel_rfl
@[go_sem] theorem Try.zero81 : zeroOf Try.prog 81 = some [.lit ((Go.Value.nilFunc))] := by kernel_rfl
@[go_sem] theorem Try.tsz82 : tszOf Try.prog 82 = some (1, false) := by kernel_rfl
@[go_sem] theorem Try.udef82 : (Try.prog.underlying 82).isSome = true := by kernel_rfl
@[go_sem] theorem Try.zero82 : zeroOf Try.prog 82 = some [.nilsl] := by kernel_rfl
@[go_sem] theorem Try.el82 : elOf Try.prog 82 = some (97, 2, 16) := by kernel_rfl
@[go_sem] theorem Try.isSl82 : isSl Try.prog 82 = true := by kernel_rfl
@[go_sem] theorem Try.tsz83 : tszOf Try.prog 83 = some (5, true) := by kernel_rfl
@[go_sem] theorem Try.udef83 : (Try.prog.underlying 83).isSome = true := by kernel_rfl
@[go_sem] theorem Try.zero83 : zeroOf Try.prog 83 = some [.int .i64 0, .int .i64 0, .nilsl, .int .i64 0, .int .i64 0] := by kernel_rfl
@[go_sem] theorem Try.pl83 : plOf Try.prog 83 = some [(0, 1), (1, 1), (2, 1), (3, 1), (4, 1)] := by kernel_rfl
@[go_sem] theorem Try.tsz84 : tszOf Try.prog 84 = some (5, true) := by kernel_rfl
@[go_sem] theorem Try.udef84 : (Try.prog.underlying 84).isSome = true := by kernel_rfl
@[go_sem] theorem Try.zero84 : zeroOf Try.prog 84 = some [.int .i64 0, .int .i64 0, .nilsl, .int .i64 0, .int .i64 0] := by kernel_rfl
@[go_sem] theorem Try.pl84 : plOf Try.prog 84 = some [(0, 1), (1, 1), (2, 1), (3, 1), (4, 1)] := by kernel_rfl
@[go_sem] theorem Try.fd84_0 : fdOf Try.prog 84 0 = some (0, 1, false) := by kernel_rfl
@[go_sem] theorem Try.fd84_1 : fdOf Try.prog 84 1 = some (1, 1, false) := by kernel_rfl
@[go_sem] theorem Try.fd84_2 : fdOf Try.prog 84 2 = some (2, 1, false) := by kernel_rfl
@[go_sem] theorem Try.fd84_3 : fdOf Try.prog 84 3 = some (3, 1, false) := by kernel_rfl
@[go_sem] theorem Try.fd84_4 : fdOf Try.prog 84 4 = some (4, 1, false) := by kernel_rfl
@[go_sem] theorem Try.tsz85 : tszOf Try.prog 85 = some (2, true) := by kernel_rfl
@[go_sem] theorem Try.udef85 : (Try.prog.underlying 85).isSome = true := by kernel_rfl
@[go_sem] theorem Try.zero85 : zeroOf Try.prog 85 = some [.int .i64 0, .int .i64 0] := by kernel_rfl
@[go_sem] theorem Try.pl85 : plOf Try.prog 85 = some [(0, 1), (1, 1)] := by kernel_rfl
@[go_sem] theorem Try.tsz86 : tszOf Try.prog 86 = some (2, true) := by kernel_rfl
@[go_sem] theorem Try.udef86 : (Try.prog.underlying 86).isSome = true := by kernel_rfl
@[go_sem] theorem Try.zero86 : zeroOf Try.prog 86 = some [.int .i64 0, .int .i64 0] := by kernel_rfl
@[go_sem] theorem Try.flatEq86 : flatEq Try.prog 86 = some [.int .i64, .int .i64] := by kernel_rfl
@[go_sem] theorem Try.pl86 : plOf Try.prog 86 = some [(0, 1), (1, 1)] := by kernel_rfl
@[go_sem] theorem Try.fd86_0 : fdOf Try.prog 86 0 = some (0, 1, false) := by kernel_rfl
@[go_sem] theorem Try.fd86_1 : fdOf Try.prog 86 1 = some (1, 1, false) := by kernel_rfl
@[go_sem] theorem Try.tsz88 : tszOf Try.prog 88 = some (1, false) := by kernel_rfl
@[go_sem] theorem Try.udef88 : (Try.prog.underlying 88).isSome = true := by kernel_rfl
@[go_sem] theorem Try.zero88 : zeroOf Try.prog 88 = some [.lit ((Go.Value.nilFunc))] := by kernel_rfl
@[go_sem] theorem Try.tsz90 : tszOf Try.prog 90 = some (1, false) := by kernel_rfl
@[go_sem] theorem Try.udef90 : (Try.prog.underlying 90).isSome = true := by kernel_rfl
@[go_sem] theorem Try.zero90 : zeroOf Try.prog 90 = some [.lit ((Go.Value.nilFunc))] := by kernel_rfl
@[go_sem] theorem Try.tsz91 : tszOf Try.prog 91 = some (1, false) := by kernel_rfl
@[go_sem] theorem Try.udef91 : (Try.prog.underlying 91).isSome = true := by kernel_rfl
@[go_sem] theorem Try.zero91 : zeroOf Try.prog 91 = some [.lit ((Go.Value.nilFunc))] := by kernel_rfl
@[go_sem] theorem Try.tsz92 : tszOf Try.prog 92 = some (1, false) := by kernel_rfl
@[go_sem] theorem Try.udef92 : (Try.prog.underlying 92).isSome = true := by kernel_rfl
@[go_sem] theorem Try.zero92 : zeroOf Try.prog 92 = some [.lit ((Go.Value.nilFunc))] := by kernel_rfl
@[go_sem] theorem Try.tsz93 : tszOf Try.prog 93 = some (1, false) := by kernel_rfl
@[go_sem] theorem Try.udef93 : (Try.prog.underlying 93).isSome = true := by kernel_rfl
@[go_sem] theorem Try.zero93 : zeroOf Try.prog 93 = some [.lit ((Go.Value.nilFunc))] := by kernel_rfl
@[go_sem] theorem Try.tsz95 : tszOf Try.prog 95 = some (1, false) := by kernel_rfl
@[go_sem] theorem Try.udef95 : (Try.prog.underlying 95).isSome = true := by kernel_rfl
@[go_sem] theorem Try.zero95 : zeroOf Try.prog 95 = some [.lit ((Go.Value.nilFunc))] := by kernel_rfl
@[go_sem] theorem Try.tsz96 : tszOf Try.prog 96 = some (2, true) := by kernel_rfl
@[go_sem] theorem Try.udef96 : (Try.prog.underlying 96).isSome = true := by kernel_rfl
@[go_sem] theorem Try.zero96 : zeroOf Try.prog 96 = some [.int .i64 0, .int .i64 0] := by kernel_rfl
@[go_sem] theorem Try.pl96 : plOf Try.prog 96 = some [(0, 1), (1, 1)] := by kernel_rfl
@[go_sem] theorem Try.tsz97 : tszOf Try.prog 97 = some (2, true) := by kernel_rfl
@[go_sem] theorem Try.udef97 : (Try.prog.underlying 97).isSome = true := by kernel_rfl
@[go_sem] theorem Try.zero97 : zeroOf Try.prog 97 = some [.int .i64 0, .int .i64 0] := by kernel_rfl
@[go_sem] theorem Try.flatEq97 : flatEq Try.prog 97 = some [.int .i64, .int .i64] := by kernel_rfl
@[go_sem] theorem Try.pl97 : plOf Try.prog 97 = some [(0, 1), (1, 1)] := by kernel_rfl
@[go_sem] theorem Try.fd97_0 : fdOf Try.prog 97 0 = some (0, 1, false) := by kernel_rfl
@[go_sem] theorem Try.fd97_1 : fdOf Try.prog 97 1 = some (1, 1, false) := by kernel_rfl
@[go_sem] theorem Try.tsz98 : tszOf Try.prog 98 = some (1, false) := by kernel_rfl
@[go_sem] theorem Try.udef98 : (Try.prog.underlying 98).isSome = true := by kernel_rfl
@[go_sem] theorem Try.zero98 : zeroOf Try.prog 98 = some [.nilsl] := by kernel_rfl
@[go_sem] theorem Try.el98 : elOf Try.prog 98 = some (86, 2, 16) := by kernel_rfl
@[go_sem] theorem Try.isSl98 : isSl Try.prog 98 = true := by kernel_rfl
@[go_sem] theorem Try.tsz100 : tszOf Try.prog 100 = some (1, false) := by kernel_rfl
@[go_sem] theorem Try.udef100 : (Try.prog.underlying 100).isSome = true := by kernel_rfl
@[go_sem] theorem Try.zero100 : zeroOf Try.prog 100 = some [.lit ((Go.Value.nilFunc))] := by kernel_rfl
@[go_sem] theorem Try.tsz102 : tszOf Try.prog 102 = some (1, false) := by kernel_rfl
@[go_sem] theorem Try.udef102 : (Try.prog.underlying 102).isSome = true := by kernel_rfl
@[go_sem] theorem Try.zero102 : zeroOf Try.prog 102 = some [.lit ((Go.Value.nilFunc))] := by kernel_rfl
@[go_sem] theorem Try.tsz103 : tszOf Try.prog 103 = some (1, false) := by kernel_rfl
@[go_sem] theorem Try.udef103 : (Try.prog.underlying 103).isSome = true := by kernel_rfl
@[go_sem] theorem Try.zero103 : zeroOf Try.prog 103 = some [.lit ((Go.Value.nilFunc))] := by kernel_rfl
@[go_sem] theorem Try.tsz104 : tszOf Try.prog 104 = some (1, false) := by kernel_rfl
@[go_sem] theorem Try.udef104 : (Try.prog.underlying 104).isSome = true := by kernel_rfl
@[go_sem] theorem Try.zero104 : zeroOf Try.prog 104 = some [.lit ((Go.Value.nilFunc))] := by kernel_rfl
@[go_sem] theorem Try.tsz105 : tszOf Try.prog 105 = some (1, false) := by kernel_rfl
@[go_sem] theorem Try.udef105 : (Try.prog.underlying 105).isSome = true := by kernel_rfl
@[go_sem] theorem Try.zero105 : zeroOf Try.prog 105 = some [.lit ((Go.Value.nilFunc))] := by kernel_rfl
@[go_sem] theorem Try.tsz106 : tszOf Try.prog 106 = some (1, false) := by kernel_rfl
@[go_sem] theorem Try.udef106 : (Try.prog.underlying 106).isSome = true := by kernel_rfl
@[go_sem] theorem Try.zero106 : zeroOf Try.prog 106 = some [.lit ((Go.Value.nilFunc))] := by kernel_rfl
@[go_sem] theorem Try.tsz107 : tszOf Try.prog 107 = some (5, true) := by kernel_rfl
@[go_sem] theorem Try.udef107 : (Try.prog.underlying 107).isSome = true := by kernel_rfl
@[go_sem] theorem Try.zero107 : zeroOf Try.prog 107 = some [.int .i64 0, .int .i64 0, .int .i64 0, .int .i64 0, .int .i64 0] := by kernel_rfl
@[go_sem] theorem Try.pl107 : plOf Try.prog 107 = some [(0, 1), (1, 1), (2, 1), (3, 1), (4, 1)] := by kernel_rfl
@[go_sem] theorem Try.tsz108 : tszOf Try.prog 108 = some (5, true) := by kernel_rfl
@[go_sem] theorem Try.udef108 : (Try.prog.underlying 108).isSome = true := by kernel_rfl
@[go_sem] theorem Try.zero108 : zeroOf Try.prog 108 = some [.int .i64 0, .int .i64 0, .int .i64 0, .int .i64 0, .int .i64 0] := by kernel_rfl
@[go_sem] theorem Try.flatEq108 : flatEq Try.prog 108 = some [.int .i64, .int .i64, .int .i64, .int .i64, .int .i64] := by kernel_rfl
@[go_sem] theorem Try.pl108 : plOf Try.prog 108 = some [(0, 1), (1, 1), (2, 1), (3, 1), (4, 1)] := by kernel_rfl
@[go_sem] theorem Try.fd108_0 : fdOf Try.prog 108 0 = some (0, 1, false) := by kernel_rfl
@[go_sem] theorem Try.fd108_1 : fdOf Try.prog 108 1 = some (1, 1, false) := by kernel_rfl
@[go_sem] theorem Try.fd108_2 : fdOf Try.prog 108 2 = some (2, 1, false) := by kernel_rfl
@[go_sem] theorem Try.fd108_3 : fdOf Try.prog 108 3 = some (3, 1, false) := by kernel_rfl
@[go_sem] theorem Try.fd108_4 : fdOf Try.prog 108 4 = some (4, 1, false) := by kernel_rfl
@[go_sem] theorem Try.tsz109 : tszOf Try.prog 109 = some (1, false) := by kernel_rfl
@[go_sem] theorem Try.udef109 : (Try.prog.underlying 109).isSome = true := by kernel_rfl
@[go_sem] theorem Try.zero109 : zeroOf Try.prog 109 = some [.lit ((Go.Value.nilFunc))] := by kernel_rfl
@[go_sem] theorem Try.tsz110 : tszOf Try.prog 110 = some (5, true) := by kernel_rfl
@[go_sem] theorem Try.udef110 : (Try.prog.underlying 110).isSome = true := by kernel_rfl
@[go_sem] theorem Try.zero110 : zeroOf Try.prog 110 = some [.int .i64 0, .int .i64 0, .int .i64 0, .int .i64 0, .int .i64 0] := by kernel_rfl
@[go_sem] theorem Try.flatEq110 : flatEq Try.prog 110 = some [.int .i64, .int .i64, .int .i64, .int .i64, .int .i64] := by kernel_rfl
@[go_sem] theorem Try.pl110 : plOf Try.prog 110 = some [(0, 1), (1, 1), (2, 1), (3, 1), (4, 1)] := by kernel_rfl
@[go_sem] theorem Try.fd110_0 : fdOf Try.prog 110 0 = some (0, 1, false) := by kernel_rfl
@[go_sem] theorem Try.fd110_1 : fdOf Try.prog 110 1 = some (1, 1, false) := by kernel_rfl
@[go_sem] theorem Try.fd110_2 : fdOf Try.prog 110 2 = some (2, 1, false) := by kernel_rfl
@[go_sem] theorem Try.fd110_3 : fdOf Try.prog 110 3 = some (3, 1, false) := by kernel_rfl
@[go_sem] theorem Try.fd110_4 : fdOf Try.prog 110 4 = some (4, 1, false) := by kernel_rfl
@[go_sem] theorem Try.tsz111 : tszOf Try.prog 111 = some (1, false) := by kernel_rfl
@[go_sem] theorem Try.udef111 : (Try.prog.underlying 111).isSome = true := by kernel_rfl
@[go_sem] theorem Try.zero111 : zeroOf Try.prog 111 = some [.lit ((Go.Value.nilFunc))] := by kernel_rfl
@[go_sem] theorem Try.tsz112 : tszOf Try.prog 112 = some (1, false) := by kernel_rfl
@[go_sem] theorem Try.udef112 : (Try.prog.underlying 112).isSome = true := by kernel_rfl
@[go_sem] theorem Try.zero112 : zeroOf Try.prog 112 = some [.lit ((Go.Value.nilFunc))] := by kernel_rfl
@[go_sem] theorem Try.tsz113 : tszOf Try.prog 113 = some (1, false) := by kernel_rfl
@[go_sem] theorem Try.udef113 : (Try.prog.underlying 113).isSome = true := by kernel_rfl
@[go_sem] theorem Try.zero113 : zeroOf Try.prog 113 = some [.lit ((Go.Value.pointer none))] := by kernel_rfl
@[go_sem] theorem Try.tsz114 : tszOf Try.prog 114 = some (1, false) := by kernel_rfl
@[go_sem] theorem Try.udef114 : (Try.prog.underlying 114).isSome = true := by kernel_rfl
@[go_sem] theorem Try.zero114 : zeroOf Try.prog 114 = some [.int .u64 0] := by kernel_rfl
@[go_sem] theorem Try.isInt114 : isIntT Try.prog 114 = some .u64 := by kernel_rfl
@[go_sem] theorem Try.tsz115 : tszOf Try.prog 115 = some (3, true) := by kernel_rfl
@[go_sem] theorem Try.udef115 : (Try.prog.underlying 115).isSome = true := by kernel_rfl
@[go_sem] theorem Try.zero115 : zeroOf Try.prog 115 = some [.nilsl, .int .i64 0, .int .u64 0] := by kernel_rfl
@[go_sem] theorem Try.pl115 : plOf Try.prog 115 = some [(0, 1), (1, 1), (2, 1)] := by kernel_rfl
@[go_sem] theorem Try.tsz116 : tszOf Try.prog 116 = some (3, true) := by kernel_rfl
@[go_sem] theorem Try.udef116 : (Try.prog.underlying 116).isSome = true := by kernel_rfl
@[go_sem] theorem Try.zero116 : zeroOf Try.prog 116 = some [.nilsl, .int .i64 0, .int .u64 0] := by kernel_rfl
@[go_sem] theorem Try.pl116 : plOf Try.prog 116 = some [(0, 1), (1, 1), (2, 1)] := by kernel_rfl
@[go_sem] theorem Try.fd116_0 : fdOf Try.prog 116 0 = some (0, 1, false) := by kernel_rfl
@[go_sem] theorem Try.fd116_1 : fdOf Try.prog 116 1 = some (1, 1, false) := by kernel_rfl
@[go_sem] theorem Try.fd116_2 : fdOf Try.prog 116 2 = some (2, 1, false) := by kernel_rfl
@[go_sem] theorem Try.tsz117 : tszOf Try.prog 117 = some (1, false) := by kernel_rfl
@[go_sem] theorem Try.udef117 : (Try.prog.underlying 117).isSome = true := by kernel_rfl
@[go_sem] theorem Try.zero117 : zeroOf Try.prog 117 = some [.lit ((Go.Value.nilFunc))] := by kernel_rfl
@[go_sem] theorem Try.tsz118 : tszOf Try.prog 118 = some (1, false) := by kernel_rfl
@[go_sem] theorem Try.udef118 : (Try.prog.underlying 118).isSome = true := by kernel_rfl
@[go_sem] theorem Try.zero118 : zeroOf Try.prog 118 = some [.lit ((Go.Value.nilFunc))] := by kernel_rfl
@[go_sem] theorem Try.tsz119 : tszOf Try.prog 119 = some (1, false) := by kernel_rfl
@[go_sem] theorem Try.udef119 : (Try.prog.underlying 119).isSome = true := by kernel_rfl
@[go_sem] theorem Try.zero119 : zeroOf Try.prog 119 = some [.lit ((Go.Value.nilFunc))] := by kernel_rfl
@[go_sem] theorem Try.tsz120 : tszOf Try.prog 120 = some (1, false) := by kernel_rfl
@[go_sem] theorem Try.udef120 : (Try.prog.underlying 120).isSome = true := by kernel_rfl
@[go_sem] theorem Try.zero120 : zeroOf Try.prog 120 = some [.lit ((Go.Value.nilFunc))] := by kernel_rfl
@[go_sem] theorem Try.tsz121 : tszOf Try.prog 121 = some (1, false) := by kernel_rfl
@[go_sem] theorem Try.udef121 : (Try.prog.underlying 121).isSome = true := by kernel_rfl
@[go_sem] theorem Try.zero121 : zeroOf Try.prog 121 = some [.lit ((Go.Value.nilFunc))] := by kernel_rfl
@[go_sem] theorem Try.tsz122 : tszOf Try.prog 122 = some (1, false) := by kernel_rfl
@[go_sem] theorem Try.udef122 : (Try.prog.underlying 122).isSome = true := by kernel_rfl
@[go_sem] theorem Try.zero122 : zeroOf Try.prog 122 = some [.lit ((Go.Value.nilFunc))] := by kernel_rfl
@[go_sem] theorem Try.tsz123 : tszOf Try.prog 123 = some (1, false) := by kernel_rfl
@[go_sem] theorem Try.udef123 : (Try.prog.underlying 123).isSome = true := by kernel_rfl
@[go_sem] theorem Try.zero123 : zeroOf Try.prog 123 = some [.lit ((Go.Value.nilFunc))] := by kernel_rfl
@[go_sem] theorem Try.tsz124 : tszOf Try.prog 124 = some (3, true) := by kernel_rfl
@[go_sem] theorem Try.udef124 : (Try.prog.underlying 124).isSome = true := by kernel_rfl
@[go_sem] theorem Try.zero124 : zeroOf Try.prog 124 = some [.int .i64 0, .bool false, .int .i64 0] := by kernel_rfl
@[go_sem] theorem Try.pl124 : plOf Try.prog 124 = some [(0, 1), (1, 1), (2, 1)] := by kernel_rfl
@[go_sem] theorem Try.tsz125 : tszOf Try.prog 125 = some (3, true) := by kernel_rfl
@[go_sem] theorem Try.udef125 : (Try.prog.underlying 125).isSome = true := by kernel_rfl
@[go_sem] theorem Try.zero125 : zeroOf Try.prog 125 = some [.int .i64 0, .bool false, .int .i64 0] := by kernel_rfl
@[go_sem] theorem Try.flatEq125 : flatEq Try.prog 125 = some [.int .i64, .bool, .int .i64] := by kernel_rfl
@[go_sem] theorem Try.pl125 : plOf Try.prog 125 = some [(0, 1), (1, 1), (2, 1)] := by kernel_rfl
@[go_sem] theorem Try.fd125_0 : fdOf Try.prog 125 0 = some (0, 1, false) := by kernel_rfl
@[go_sem] theorem Try.fd125_1 : fdOf Try.prog 125 1 = some (1, 1, false) := by kernel_rfl
@[go_sem] theorem Try.fd125_2 : fdOf Try.prog 125 2 = some (2, 1, false) := by kernel_rfl
@[go_sem] theorem Try.tsz126 : tszOf Try.prog 126 = some (1, false) := by kernel_rfl
@[go_sem] theorem Try.udef126 : (Try.prog.underlying 126).isSome = true := by kernel_rfl
@[go_sem] theorem Try.zero126 : zeroOf Try.prog 126 = some [.lit ((Go.Value.nilFunc))] := by kernel_rfl
@[go_sem] theorem Try.tsz127 : tszOf Try.prog 127 = some (1, false) := by kernel_rfl
@[go_sem] theorem Try.udef127 : (Try.prog.underlying 127).isSome = true := by kernel_rfl
@[go_sem] theorem Try.zero127 : zeroOf Try.prog 127 = some [.lit ((Go.Value.nilFunc))] := by kernel_rfl
@[go_sem] theorem Try.tsz128 : tszOf Try.prog 128 = some (1, false) := by kernel_rfl
@[go_sem] theorem Try.udef128 : (Try.prog.underlying 128).isSome = true := by kernel_rfl
@[go_sem] theorem Try.zero128 : zeroOf Try.prog 128 = some [.lit ((Go.Value.nilFunc))] := by kernel_rfl
@[go_sem] theorem Try.tsz129 : tszOf Try.prog 129 = some (1, false) := by kernel_rfl
@[go_sem] theorem Try.udef129 : (Try.prog.underlying 129).isSome = true := by kernel_rfl
@[go_sem] theorem Try.zero129 : zeroOf Try.prog 129 = some [.lit ((Go.Value.nilFunc))] := by kernel_rfl
@[go_sem] theorem Try.tsz130 : tszOf Try.prog 130 = some (1, false) := by kernel_rfl
@[go_sem] theorem Try.udef130 : (Try.prog.underlying 130).isSome = true := by kernel_rfl
@[go_sem] theorem Try.zero130 : zeroOf Try.prog 130 = some [.lit ((Go.Value.nilFunc))] := by kernel_rfl
@[go_sem] theorem Try.tsz131 : tszOf Try.prog 131 = some (1, false) := by kernel_rfl
@[go_sem] theorem Try.udef131 : (Try.prog.underlying 131).isSome = true := by kernel_rfl
@[go_sem] theorem Try.zero131 : zeroOf Try.prog 131 = some [.lit ((Go.Value.nilFunc))] := by kernel_rfl
@[go_sem] theorem Try.tsz132 : tszOf Try.prog 132 = some (1, false) := by kernel_rfl
@[go_sem] theorem Try.udef132 : (Try.prog.underlying 132).isSome = true := by kernel_rfl
@[go_sem] theorem Try.zero132 : zeroOf Try.prog 132 = some [.lit ((Go.Value.nilFunc))] := by kernel_rfl
@[go_sem] theorem Try.tsz133 : tszOf Try.prog 133 = some (1, false) := by kernel_rfl
@[go_sem] theorem Try.udef133 : (Try.prog.underlying 133).isSome = true := by kernel_rfl
@[go_sem] theorem Try.zero133 : zeroOf Try.prog 133 = some [.lit ((Go.Value.nilFunc))] := by kernel_rfl
@[go_sem] theorem Try.tsz134 : tszOf Try.prog 134 = some (1, false) := by kernel_rfl
@[go_sem] theorem Try.udef134 : (Try.prog.underlying 134).isSome = true := by kernel_rfl
@[go_sem] theorem Try.zero134 : zeroOf Try.prog 134 = some [.lit ((Go.Value.nilFunc))] := by kernel_rfl
@[go_sem] theorem Try.tsz135 : tszOf Try.prog 135 = some (1, false) := by kernel_rfl
@[go_sem] theorem Try.udef135 : (Try.prog.underlying 135).isSome = true := by kernel_rfl
@[go_sem] theorem Try.zero135 : zeroOf Try.prog 135 = some [.lit ((Go.Value.nilFunc))] := by kernel_rfl
@[go_sem] theorem Try.tsz136 : tszOf Try.prog 136 = some (1, false) := by kernel_rfl
@[go_sem] theorem Try.udef136 : (Try.prog.underlying 136).isSome = true := by kernel_rfl
@[go_sem] theorem Try.zero136 : zeroOf Try.prog 136 = some [.lit ((Go.Value.nilFunc))] := by kernel_rfl
@[go_sem] theorem Try.tsz137 : tszOf Try.prog 137 = some (1, false) := by kernel_rfl
@[go_sem] theorem Try.udef137 : (Try.prog.underlying 137).isSome = true := by kernel_rfl
@[go_sem] theorem Try.zero137 : zeroOf Try.prog 137 = some [.lit ((Go.Value.nilFunc))] := by kernel_rfl
@[go_sem] theorem Try.tsz138 : tszOf Try.prog 138 = some (1, false) := by kernel_rfl
@[go_sem] theorem Try.udef138 : (Try.prog.underlying 138).isSome = true := by kernel_rfl
@[go_sem] theorem Try.zero138 : zeroOf Try.prog 138 = some [.lit ((Go.Value.nilFunc))] := by kernel_rfl
@[go_sem] theorem Try.tsz139 : tszOf Try.prog 139 = some (1, false) := by kernel_rfl
@[go_sem] theorem Try.udef139 : (Try.prog.underlying 139).isSome = true := by kernel_rfl
@[go_sem] theorem Try.zero139 : zeroOf Try.prog 139 = some [.lit ((Go.Value.nilFunc))] := by kernel_rfl
@[go_sem] theorem Try.tsz140 : tszOf Try.prog 140 = some (1, false) := by kernel_rfl
@[go_sem] theorem Try.udef140 : (Try.prog.underlying 140).isSome = true := by kernel_rfl
@[go_sem] theorem Try.zero140 : zeroOf Try.prog 140 = some [.lit ((Go.Value.nilFunc))] := by kernel_rfl
@[go_sem] theorem Try.tsz141 : tszOf Try.prog 141 = some (1, false) := by kernel_rfl
@[go_sem] theorem Try.udef141 : (Try.prog.underlying 141).isSome = true := by kernel_rfl
@[go_sem] theorem Try.zero141 : zeroOf Try.prog 141 = some [.lit ((Go.Value.nilFunc))] := by kernel_rfl
@[go_sem] theorem Try.tsz142 : tszOf Try.prog 142 = some (1, false) := by kernel_rfl
@[go_sem] theorem Try.udef142 : (Try.prog.underlying 142).isSome = true := by kernel_rfl
@[go_sem] theorem Try.zero142 : zeroOf Try.prog 142 = some [.lit ((Go.Value.nilFunc))] := by kernel_rfl
@[go_sem] theorem Try.tsz143 : tszOf Try.prog 143 = some (1, false) := by kernel_rfl
@[go_sem] theorem Try.udef143 : (Try.prog.underlying 143).isSome = true := by kernel_rfl
@[go_sem] theorem Try.zero143 : zeroOf Try.prog 143 = some [.lit ((Go.Value.nilFunc))] := by kernel_rfl
@[go_sem] theorem Try.tsz144 : tszOf Try.prog 144 = some (1, false) := by kernel_rfl
@[go_sem] theorem Try.udef144 : (Try.prog.underlying 144).isSome = true := by kernel_rfl
@[go_sem] theorem Try.zero144 : zeroOf Try.prog 144 = some [.lit ((Go.Value.nilFunc))] := by kernel_rfl
@[go_sem] theorem Try.tsz145 : tszOf Try.prog 145 = some (1, false) := by kernel_rfl
@[go_sem] theorem Try.udef145 : (Try.prog.underlying 145).isSome = true := by kernel_rfl
@[go_sem] theorem Try.zero145 : zeroOf Try.prog 145 = some [.lit ((Go.Value.nilFunc))] := by kernel_rfl
@[go_sem] theorem Try.tsz146 : tszOf Try.prog 146 = some (1, false) := by kernel_rfl
@[go_sem] theorem Try.udef146 : (Try.prog.underlying 146).isSome = true := by kernel_rfl
@[go_sem] theorem Try.zero146 : zeroOf Try.prog 146 = some [.lit ((Go.Value.nilFunc))] := by kernel_rfl
@[go_sem] theorem Try.tsz147 : tszOf Try.prog 147 = some (1, false) := by kernel_rfl
@[go_sem] theorem Try.udef147 : (Try.prog.underlying 147).isSome = true := by kernel_rfl
@[go_sem] theorem Try.zero147 : zeroOf Try.prog 147 = some [.lit ((Go.Value.nilFunc))] := by kernel_rfl
@[go_sem] theorem Try.tsz149 : tszOf Try.prog 149 = some (1, false) := by kernel_rfl
@[go_sem] theorem Try.udef149 : (Try.prog.underlying 149).isSome = true := by kernel_rfl
@[go_sem] theorem Try.zero149 : zeroOf Try.prog 149 = some [.lit ((Go.Value.nilFunc))] := by kernel_rfl
@[go_sem] theorem Try.tsz150 : tszOf Try.prog 150 = some (1, false) := by kernel_rfl
@[go_sem] theorem Try.udef150 : (Try.prog.underlying 150).isSome = true := by kernel_rfl
@[go_sem] theorem Try.zero150 : zeroOf Try.prog 150 = some [.lit ((Go.Value.nilFunc))] := by kernel_rfl
@[go_sem] theorem Try.tsz151 : tszOf Try.prog 151 = some (1, false) := by kernel_rfl
@[go_sem] theorem Try.udef151 : (Try.prog.underlying 151).isSome = true := by kernel_rfl
@[go_sem] theorem Try.zero151 : zeroOf Try.prog 151 = some [.lit ((Go.Value.nilFunc))] := by kernel_rfl
@[go_sem] theorem Try.tsz152 : tszOf Try.prog 152 = some (1, false) := by kernel_rfl
@[go_sem] theorem Try.udef152 : (Try.prog.underlying 152).isSome = true := by kernel_rfl
@[go_sem] theorem Try.zero152 : zeroOf Try.prog 152 = some [.lit ((Go.Value.nilFunc))] := by kernel_rfl
@[go_sem] theorem Try.tsz153 : tszOf Try.prog 153 = some (1, false) := by kernel_rfl
@[go_sem] theorem Try.udef153 : (Try.prog.underlying 153).isSome = true := by kernel_rfl
@[go_sem] theorem Try.zero153 : zeroOf Try.prog 153 = some [.lit ((Go.Value.nilFunc))] := by kernel_rfl
@[go_sem] theorem Try.tsz154 : tszOf Try.prog 154 = some (1, false) := by kernel_rfl
@[go_sem] theorem Try.udef154 : (Try.prog.underlying 154).isSome = true := by kernel_rfl
@[go_sem] theorem Try.zero154 : zeroOf Try.prog 154 = some [.lit ((Go.Value.nilFunc))] := by kernel_rfl
@[go_sem] theorem Try.tsz155 : tszOf Try.prog 155 = some (1, false) := by kernel_rfl
@[go_sem] theorem Try.udef155 : (Try.prog.underlying 155).isSome = true := by kernel_rfl
@[go_sem] theorem Try.zero155 : zeroOf Try.prog 155 = some [.lit ((Go.Value.nilFunc))] := by kernel_rfl
@[go_sem] theorem Try.tsz156 : tszOf Try.prog 156 = some (1, false) := by kernel_rfl
@[go_sem] theorem Try.udef156 : (Try.prog.underlying 156).isSome = true := by kernel_rfl
@[go_sem] theorem Try.zero156 : zeroOf Try.prog 156 = some [.lit ((Go.Value.nilFunc))] := by kernel_rfl
@[go_sem] theorem Try.tsz157 : tszOf Try.prog 157 = some (1, false) := by kernel_rfl
@[go_sem] theorem Try.udef157 : (Try.prog.underlying 157).isSome = true := by kernel_rfl
@[go_sem] theorem Try.zero157 : zeroOf Try.prog 157 = some [.lit ((Go.Value.nilFunc))] := by kernel_rfl
@[go_sem] theorem Try.tsz158 : tszOf Try.prog 158 = some (1, false) := by kernel_rfl
@[go_sem] theorem Try.udef158 : (Try.prog.underlying 158).isSome = true := by kernel_rfl
@[go_sem] theorem Try.zero158 : zeroOf Try.prog 158 = some [.lit ((Go.Value.nilFunc))] := by kernel_rfl
@[go_sem] theorem Try.tsz159 : tszOf Try.prog 159 = some (1, false) := by kernel_rfl
@[go_sem] theorem Try.udef159 : (Try.prog.underlying 159).isSome = true := by kernel_rfl
@[go_sem] theorem Try.zero159 : zeroOf Try.prog 159 = some [.lit ((Go.Value.nilFunc))] := by kernel_rfl
@[go_sem] theorem Try.tsz160 : tszOf Try.prog 160 = some (1, false) := by kernel_rfl
@[go_sem] theorem Try.udef160 : (Try.prog.underlying 160).isSome = true := by kernel_rfl
@[go_sem] theorem Try.zero160 : zeroOf Try.prog 160 = some [.lit ((Go.Value.nilFunc))] := by kernel_rfl
@[go_sem] theorem Try.tsz161 : tszOf Try.prog 161 = some (1, false) := by kernel_rfl
@[go_sem] theorem Try.udef161 : (Try.prog.underlying 161).isSome = true := by kernel_rfl
@[go_sem] theorem Try.zero161 : zeroOf Try.prog 161 = some [.lit ((Go.Value.nilFunc))] := by kernel_rfl
@[go_sem] theorem Try.tsz162 : tszOf Try.prog 162 = some (1, false) := by kernel_rfl
@[go_sem] theorem Try.udef162 : (Try.prog.underlying 162).isSome = true := by kernel_rfl
@[go_sem] theorem Try.zero162 : zeroOf Try.prog 162 = some [.lit ((Go.Value.nilFunc))] := by kernel_rfl
@[go_sem] theorem Try.tsz163 : tszOf Try.prog 163 = some (1, false) := by kernel_rfl
@[go_sem] theorem Try.udef163 : (Try.prog.underlying 163).isSome = true := by kernel_rfl
@[go_sem] theorem Try.zero163 : zeroOf Try.prog 163 = some [.lit ((Go.Value.nilFunc))] := by kernel_rfl
@[go_sem] theorem Try.tsz164 : tszOf Try.prog 164 = some (1, false) := by kernel_rfl
@[go_sem] theorem Try.udef164 : (Try.prog.underlying 164).isSome = true := by kernel_rfl
@[go_sem] theorem Try.zero164 : zeroOf Try.prog 164 = some [.lit ((Go.Value.nilFunc))] := by kernel_rfl
@[go_sem] theorem Try.tsz165 : tszOf Try.prog 165 = some (1, false) := by kernel_rfl
@[go_sem] theorem Try.udef165 : (Try.prog.underlying 165).isSome = true := by kernel_rfl
@[go_sem] theorem Try.zero165 : zeroOf Try.prog 165 = some [.lit ((Go.Value.nilFunc))] := by kernel_rfl
@[go_sem] theorem Try.tsz166 : tszOf Try.prog 166 = some (1, false) := by kernel_rfl
@[go_sem] theorem Try.udef166 : (Try.prog.underlying 166).isSome = true := by kernel_rfl
@[go_sem] theorem Try.zero166 : zeroOf Try.prog 166 = some [.lit ((Go.Value.nilFunc))] := by kernel_rfl
@[go_sem] theorem Try.tsz167 : tszOf Try.prog 167 = some (1, false) := by kernel_rfl
@[go_sem] theorem Try.udef167 : (Try.prog.underlying 167).isSome = true := by kernel_rfl
@[go_sem] theorem Try.zero167 : zeroOf Try.prog 167 = some [.lit ((Go.Value.nilFunc))] := by kernel_rfl
@[go_sem] theorem Try.tsz168 : tszOf Try.prog 168 = some (1, false) := by kernel_rfl
@[go_sem] theorem Try.udef168 : (Try.prog.underlying 168).isSome = true := by kernel_rfl
@[go_sem] theorem Try.zero168 : zeroOf Try.prog 168 = some [.lit ((Go.Value.nilFunc))] := by kernel_rfl
@[go_sem] theorem Try.tsz169 : tszOf Try.prog 169 = some (1, false) := by kernel_rfl
@[go_sem] theorem Try.udef169 : (Try.prog.underlying 169).isSome = true := by kernel_rfl
@[go_sem] theorem Try.zero169 : zeroOf Try.prog 169 = some [.lit ((Go.Value.nilFunc))] := by kernel_rfl
@[go_sem] theorem Try.tsz170 : tszOf Try.prog 170 = some (1, false) := by kernel_rfl
@[go_sem] theorem Try.udef170 : (Try.prog.underlying 170).isSome = true := by kernel_rfl
@[go_sem] theorem Try.zero170 : zeroOf Try.prog 170 = some [.lit ((Go.Value.nilFunc))] := by kernel_rfl
@[go_sem] theorem Try.tsz171 : tszOf Try.prog 171 = some (1, false) := by kernel_rfl
@[go_sem] theorem Try.udef171 : (Try.prog.underlying 171).isSome = true := by kernel_rfl
@[go_sem] theorem Try.zero171 : zeroOf Try.prog 171 = some [.lit ((Go.Value.nilFunc))] := by kernel_rfl
@[go_sem] theorem Try.tsz172 : tszOf Try.prog 172 = some (1, false) := by kernel_rfl
@[go_sem] theorem Try.udef172 : (Try.prog.underlying 172).isSome = true := by kernel_rfl
@[go_sem] theorem Try.zero172 : zeroOf Try.prog 172 = some [.lit ((Go.Value.nilFunc))] := by kernel_rfl
@[go_sem] theorem Try.tsz173 : tszOf Try.prog 173 = some (1, false) := by kernel_rfl
@[go_sem] theorem Try.udef173 : (Try.prog.underlying 173).isSome = true := by kernel_rfl
@[go_sem] theorem Try.zero173 : zeroOf Try.prog 173 = some [.lit ((Go.Value.nilFunc))] := by kernel_rfl
@[go_sem] theorem Try.tsz174 : tszOf Try.prog 174 = some (1, false) := by kernel_rfl
@[go_sem] theorem Try.udef174 : (Try.prog.underlying 174).isSome = true := by kernel_rfl
@[go_sem] theorem Try.zero174 : zeroOf Try.prog 174 = some [.lit ((Go.Value.nilFunc))] := by kernel_rfl
@[go_sem] theorem Try.tsz175 : tszOf Try.prog 175 = some (1, false) := by kernel_rfl
@[go_sem] theorem Try.udef175 : (Try.prog.underlying 175).isSome = true := by kernel_rfl
@[go_sem] theorem Try.zero175 : zeroOf Try.prog 175 = some [.lit ((Go.Value.nilFunc))] := by kernel_rfl
@[go_sem] theorem Try.tsz176 : tszOf Try.prog 176 = some (1, false) := by kernel_rfl
@[go_sem] theorem Try.udef176 : (Try.prog.underlying 176).isSome = true := by kernel_rfl
@[go_sem] theorem Try.zero176 : zeroOf Try.prog 176 = some [.lit ((Go.Value.nilFunc))] := by kernel_rfl
@[go_sem] theorem Try.tsz178 : tszOf Try.prog 178 = some (1, false) := by kernel_rfl
@[go_sem] theorem Try.udef178 : (Try.prog.underlying 178).isSome = true := by kernel_rfl
@[go_sem] theorem Try.zero178 : zeroOf Try.prog 178 = some [.lit ((Go.Value.nilFunc))] := by kernel_rfl
@[go_sem] theorem Try.tsz179 : tszOf Try.prog 179 = some (1, false) := by kernel_rfl
@[go_sem] theorem Try.udef179 : (Try.prog.underlying 179).isSome = true := by kernel_rfl
@[go_sem] theorem Try.zero179 : zeroOf Try.prog 179 = some [.lit ((Go.Value.nilFunc))] := by kernel_rfl
@[go_sem] theorem Try.tsz180 : tszOf Try.prog 180 = some (1, false) := by kernel_rfl
@[go_sem] theorem Try.udef180 : (Try.prog.underlying 180).isSome = true := by kernel_rfl
@[go_sem] theorem Try.zero180 : zeroOf Try.prog 180 = some [.lit ((Go.Value.nilFunc))] := by kernel_rfl
@[go_sem] theorem Try.tsz181 : tszOf Try.prog 181 = some (1, false) := by kernel_rfl
@[go_sem] theorem Try.udef181 : (Try.prog.underlying 181).isSome = true := by kernel_rfl
@[go_sem] theorem Try.zero181 : zeroOf Try.prog 181 = some [.lit ((Go.Value.nilFunc))] := by kernel_rfl
@[go_sem] theorem Try.tsz182 : tszOf Try.prog 182 = some (1, false) := by kernel_rfl
@[go_sem] theorem Try.udef182 : (Try.prog.underlying 182).isSome = true := by kernel_rfl
@[go_sem] theorem Try.zero182 : zeroOf Try.prog 182 = some [.lit ((Go.Value.nilFunc))] := by kernel_rfl
@[go_sem] theorem Try.tsz183 : tszOf Try.prog 183 = some (1, false) := by kernel_rfl
@[go_sem] theorem Try.udef183 : (Try.prog.underlying 183).isSome = true := by kernel_rfl
@[go_sem] theorem Try.zero183 : zeroOf Try.prog 183 = some [.lit ((Go.Value.nilFunc))] := by kernel_rfl
@[go_sem] theorem Try.tsz184 : tszOf Try.prog 184 = some (1, false) := by kernel_rfl
@[go_sem] theorem Try.udef184 : (Try.prog.underlying 184).isSome = true := by kernel_rfl
@[go_sem] theorem Try.zero184 : zeroOf Try.prog 184 = some [.lit ((Go.Value.nilFunc))] := by kernel_rfl
@[go_sem] theorem Try.tsz185 : tszOf Try.prog 185 = some (1, false) := by kernel_rfl
@[go_sem] theorem Try.udef185 : (Try.prog.underlying 185).isSome = true := by kernel_rfl
@[go_sem] theorem Try.zero185 : zeroOf Try.prog 185 = some [.lit ((Go.Value.nilFunc))] := by kernel_rfl
@[go_sem] theorem Try.tsz186 : tszOf Try.prog 186 = some (1, false) := by kernel_rfl
@[go_sem] theorem Try.udef186 : (Try.prog.underlying 186).isSome = true := by kernel_rfl
@[go_sem] theorem Try.zero186 : zeroOf Try.prog 186 = some [.lit ((Go.Value.nilFunc))] := by kernel_rfl
@[go_sem] theorem Try.tsz187 : tszOf Try.prog 187 = some (1, false) := by kernel_rfl
@[go_sem] theorem Try.udef187 : (Try.prog.underlying 187).isSome = true := by kernel_rfl
@[go_sem] theorem Try.zero187 : zeroOf Try.prog 187 = some [.lit ((Go.Value.nilFunc))] := by kernel_rfl
@[go_sem] theorem Try.tsz188 : tszOf Try.prog 188 = some (1, false) := by kernel_rfl
@[go_sem] theorem Try.udef188 : (Try.prog.underlying 188).isSome = true := by kernel_rfl
@[go_sem] theorem Try.zero188 : zeroOf Try.prog 188 = some [.int .u64 0] := by kernel_rfl
@[go_sem] theorem Try.isInt188 : isIntT Try.prog 188 = some .u64 := by kernel_rfl
@[go_sem] theorem Try.tsz189 : tszOf Try.prog 189 = some (1, false) := by kernel_rfl
@[go_sem] theorem Try.udef189 : (Try.prog.underlying 189).isSome = true := by kernel_rfl
@[go_sem] theorem Try.zero189 : zeroOf Try.prog 189 = some [.lit ((Go.Value.nilFunc))] := by kernel_rfl
@[go_sem] theorem Try.tsz190 : tszOf Try.prog 190 = some (1, false) := by kernel_rfl
@[go_sem] theorem Try.udef190 : (Try.prog.underlying 190).isSome = true := by kernel_rfl
@[go_sem] theorem Try.zero190 : zeroOf Try.prog 190 = some [.lit ((Go.Value.nilFunc))] := by kernel_rfl
@[go_sem] theorem Try.tsz191 : tszOf Try.prog 191 = some (1, false) := by kernel_rfl
@[go_sem] theorem Try.udef191 : (Try.prog.underlying 191).isSome = true := by kernel_rfl
@[go_sem] theorem Try.zero191 : zeroOf Try.prog 191 = some [.lit ((Go.Value.nilFunc))] := by kernel_rfl
@[go_sem] theorem Try.tsz192 : tszOf Try.prog 192 = some (1, false) := by kernel_rfl
@[go_sem] theorem Try.udef192 : (Try.prog.underlying 192).isSome = true := by kernel_rfl
@[go_sem] theorem Try.zero192 : zeroOf Try.prog 192 = some [.lit ((Go.Value.map none))] := by kernel_rfl
@[go_sem] theorem Try.mapOf192 : mapOf Try.prog 192 = some (.int .i64, .bool false) := by kernel_rfl
@[go_sem] theorem Try.tsz193 : tszOf Try.prog 193 = some (1, false) := by kernel_rfl
@[go_sem] theorem Try.udef193 : (Try.prog.underlying 193).isSome = true := by kernel_rfl
@[go_sem] theorem Try.zero193 : zeroOf Try.prog 193 = some [.lit ((Go.Value.nilFunc))] := by kernel_rfl
@[go_sem] theorem Try.tsz194 : tszOf Try.prog 194 = some (1, false) := by kernel_rfl
@[go_sem] theorem Try.udef194 : (Try.prog.underlying 194).isSome = true := by kernel_rfl
@[go_sem] theorem Try.zero194 : zeroOf Try.prog 194 = some [.lit ((Go.Value.nilFunc))] := by kernel_rfl
@[go_sem] theorem Try.tsz195 : tszOf Try.prog 195 = some (1, false) := by kernel_rfl
@[go_sem] theorem Try.udef195 : (Try.prog.underlying 195).isSome = true := by kernel_rfl
@[go_sem] theorem Try.zero195 : zeroOf Try.prog 195 = some [.lit ((Go.Value.nilFunc))] := by kernel_rfl
@[go_sem] theorem Try.tsz196 : tszOf Try.prog 196 = some (1, false) := by kernel_rfl
@[go_sem] theorem Try.udef196 : (Try.prog.underlying 196).isSome = true := by kernel_rfl
@[go_sem] theorem Try.zero196 : zeroOf Try.prog 196 = some [.lit ((Go.Value.nilFunc))] := by kernel_rfl
@[go_sem] theorem Try.tsz197 : tszOf Try.prog 197 = some (1, false) := by kernel_rfl
@[go_sem] theorem Try.udef197 : (Try.prog.underlying 197).isSome = true := by kernel_rfl
@[go_sem] theorem Try.zero197 : zeroOf Try.prog 197 = some [.lit ((Go.Value.nilFunc))] := by kernel_rfl
@[go_sem] theorem Try.tsz198 : tszOf Try.prog 198 = some (1, false) := by kernel_rfl
@[go_sem] theorem Try.udef198 : (Try.prog.underlying 198).isSome = true := by kernel_rfl
@[go_sem] theorem Try.zero198 : zeroOf Try.prog 198 = some [.lit ((Go.Value.pointer none))] := by kernel_rfl
@[go_sem] theorem Try.tsz199 : tszOf Try.prog 199 = some (1, false) := by kernel_rfl
@[go_sem] theorem Try.udef199 : (Try.prog.underlying 199).isSome = true := by kernel_rfl
@[go_sem] theorem Try.zero199 : zeroOf Try.prog 199 = some [.lit ((Go.Value.pointer none))] := by kernel_rfl
@[go_sem] theorem Try.tsz200 : tszOf Try.prog 200 = some (1, false) := by kernel_rfl
@[go_sem] theorem Try.udef200 : (Try.prog.underlying 200).isSome = true := by kernel_rfl
@[go_sem] theorem Try.zero200 : zeroOf Try.prog 200 = some [.lit ((Go.Value.nilFunc))] := by kernel_rfl
@[go_sem] theorem Try.tsz201 : tszOf Try.prog 201 = some (1, false) := by kernel_rfl
@[go_sem] theorem Try.udef201 : (Try.prog.underlying 201).isSome = true := by kernel_rfl
@[go_sem] theorem Try.zero201 : zeroOf Try.prog 201 = some [.lit ((Go.Value.nilFunc))] := by kernel_rfl
@[go_sem] theorem Try.tsz202 : tszOf Try.prog 202 = some (1, false) := by kernel_rfl
@[go_sem] theorem Try.udef202 : (Try.prog.underlying 202).isSome = true := by kernel_rfl
@[go_sem] theorem Try.zero202 : zeroOf Try.prog 202 = some [.lit ((Go.Value.nilFunc))] := by kernel_rfl
@[go_sem] theorem Try.tsz203 : tszOf Try.prog 203 = some (1, false) := by kernel_rfl
@[go_sem] theorem Try.udef203 : (Try.prog.underlying 203).isSome = true := by kernel_rfl
@[go_sem] theorem Try.zero203 : zeroOf Try.prog 203 = some [.lit ((Go.Value.nilFunc))] := by kernel_rfl
@[go_sem] theorem Try.tsz204 : tszOf Try.prog 204 = some (1, false) := by kernel_rfl
@[go_sem] theorem Try.udef204 : (Try.prog.underlying 204).isSome = true := by kernel_rfl
@[go_sem] theorem Try.zero204 : zeroOf Try.prog 204 = some [.int .i64 0] := by kernel_rfl
@[go_sem] theorem Try.isInt204 : isIntT Try.prog 204 = some .i64 := by kernel_rfl
@[go_sem] theorem Try.tsz206 : tszOf Try.prog 206 = some (1, false) := by kernel_rfl
@[go_sem] theorem Try.udef206 : (Try.prog.underlying 206).isSome = true := by kernel_rfl
@[go_sem] theorem Try.zero206 : zeroOf Try.prog 206 = some [.lit ((Go.Value.nilFunc))] := by kernel_rfl
@[go_sem] theorem Try.tsz207 : tszOf Try.prog 207 = some (1, false) := by kernel_rfl
@[go_sem] theorem Try.udef207 : (Try.prog.underlying 207).isSome = true := by kernel_rfl
@[go_sem] theorem Try.zero207 : zeroOf Try.prog 207 = some [.lit ((Go.Value.nilFunc))] := by kernel_rfl
@[go_sem] theorem Try.tsz208 : tszOf Try.prog 208 = some (1, false) := by kernel_rfl
@[go_sem] theorem Try.udef208 : (Try.prog.underlying 208).isSome = true := by kernel_rfl
@[go_sem] theorem Try.zero208 : zeroOf Try.prog 208 = some [.lit ((Go.Value.nilFunc))] := by kernel_rfl
@[go_sem] theorem Try.tsz209 : tszOf Try.prog 209 = some (1, false) := by kernel_rfl
@[go_sem] theorem Try.udef209 : (Try.prog.underlying 209).isSome = true := by kernel_rfl
@[go_sem] theorem Try.zero209 : zeroOf Try.prog 209 = some [.lit ((Go.Value.nilFunc))] := by kernel_rfl
@[go_sem] theorem Try.tsz210 : tszOf Try.prog 210 = some (1, false) := by kernel_rfl
@[go_sem] theorem Try.udef210 : (Try.prog.underlying 210).isSome = true := by kernel_rfl
@[go_sem] theorem Try.zero210 : zeroOf Try.prog 210 = some [.lit ((Go.Value.nilFunc))] := by kernel_rfl
@[go_sem] theorem Try.tsz211 : tszOf Try.prog 211 = some (1, false) := by kernel_rfl
@[go_sem] theorem Try.udef211 : (Try.prog.underlying 211).isSome = true := by kernel_rfl
@[go_sem] theorem Try.zero211 : zeroOf Try.prog 211 = some [.int .u32 0] := by kernel_rfl
@[go_sem] theorem Try.isInt211 : isIntT Try.prog 211 = some .u32 := by kernel_rfl
@[go_sem] theorem Try.tsz212 : tszOf Try.prog 212 = some (1, false) := by kernel_rfl
@[go_sem] theorem Try.udef212 : (Try.prog.underlying 212).isSome = true := by kernel_rfl
@[go_sem] theorem Try.zero212 : zeroOf Try.prog 212 = some [.lit ((Go.Value.nilFunc))] := by kernel_rfl
@[go_sem] theorem Try.tsz213 : tszOf Try.prog 213 = some (1, false) := by kernel_rfl
@[go_sem] theorem Try.udef213 : (Try.prog.underlying 213).isSome = true := by kernel_rfl
@[go_sem] theorem Try.zero213 : zeroOf Try.prog 213 = some [.lit ((Go.Value.pointer none))] := by kernel_rfl
@[go_sem] theorem Try.tsz214 : tszOf Try.prog 214 = some (1, false) := by kernel_rfl
@[go_sem] theorem Try.udef214 : (Try.prog.underlying 214).isSome = true := by kernel_rfl
@[go_sem] theorem Try.zero214 : zeroOf Try.prog 214 = some [.lit ((Go.Value.nilFunc))] := by kernel_rfl
@[go_sem] theorem Try.tsz215 : tszOf Try.prog 215 = some (1, false) := by kernel_rfl
@[go_sem] theorem Try.udef215 : (Try.prog.underlying 215).isSome = true := by kernel_rfl
@[go_sem] theorem Try.zero215 : zeroOf Try.prog 215 = some [.lit ((Go.Value.nilFunc))] := by kernel_rfl
@[go_sem] theorem Try.tsz216 : tszOf Try.prog 216 = some (1, false) := by kernel_rfl
@[go_sem] theorem Try.udef216 : (Try.prog.underlying 216).isSome = true := by kernel_rfl
@[go_sem] theorem Try.zero216 : zeroOf Try.prog 216 = some [.lit ((Go.Value.nilFunc))] := by kernel_rfl
@[go_sem] theorem Try.tsz217 : tszOf Try.prog 217 = some (1, false) := by kernel_rfl
@[go_sem] theorem Try.udef217 : (Try.prog.underlying 217).isSome = true := by kernel_rfl
@[go_sem] theorem Try.zero217 : zeroOf Try.prog 217 = some [.lit ((Go.Value.nilFunc))] := by kernel_rfl
@[go_sem] theorem Try.tsz218 : tszOf Try.prog 218 = some (1, false) := by kernel_rfl
@[go_sem] theorem Try.udef218 : (Try.prog.underlying 218).isSome = true := by kernel_rfl
@[go_sem] theorem Try.zero218 : zeroOf Try.prog 218 = some [.lit ((Go.Value.nilFunc))] := by kernel_rfl
@[go_sem] theorem Try.tsz219 : tszOf Try.prog 219 = some (1, false) := by kernel_rfl
@[go_sem] theorem Try.udef219 : (Try.prog.underlying 219).isSome = true := by kernel_rfl
@[go_sem] theorem Try.zero219 : zeroOf Try.prog 219 = some [.int .u64 0] := by kernel_rfl
@[go_sem] theorem Try.isInt219 : isIntT Try.prog 219 = some .u64 := by kernel_rfl
@[go_sem] theorem Try.tsz220 : tszOf Try.prog 220 = some (1, false) := by kernel_rfl
@[go_sem] theorem Try.udef220 : (Try.prog.underlying 220).isSome = true := by kernel_rfl
@[go_sem] theorem Try.zero220 : zeroOf Try.prog 220 = some [.lit ((Go.Value.nilFunc))] := by kernel_rfl
@[go_sem] theorem Try.tsz221 : tszOf Try.prog 221 = some (1, false) := by kernel_rfl
@[go_sem] theorem Try.udef221 : (Try.prog.underlying 221).isSome = true := by kernel_rfl
@[go_sem] theorem Try.zero221 : zeroOf Try.prog 221 = some [.lit ((Go.Value.nilFunc))] := by kernel_rfl
@[go_sem] theorem Try.tsz222 : tszOf Try.prog 222 = some (1, false) := by kernel_rfl
@[go_sem] theorem Try.udef222 : (Try.prog.underlying 222).isSome = true := by kernel_rfl
@[go_sem] theorem Try.zero222 : zeroOf Try.prog 222 = some [.lit ((Go.Value.nilFunc))] := by kernel_rfl
@[go_sem] theorem Try.tsz223 : tszOf Try.prog 223 = some (1, false) := by kernel_rfl
@[go_sem] theorem Try.udef223 : (Try.prog.underlying 223).isSome = true := by kernel_rfl
@[go_sem] theorem Try.zero223 : zeroOf Try.prog 223 = some [.lit ((Go.Value.pointer none))] := by kernel_rfl
@[go_sem] theorem Try.tsz224 : tszOf Try.prog 224 = some (1, false) := by kernel_rfl
@[go_sem] theorem Try.udef224 : (Try.prog.underlying 224).isSome = true := by kernel_rfl
@[go_sem] theorem Try.zero224 : zeroOf Try.prog 224 = some [.lit ((Go.Value.nilFunc))] := by kernel_rfl
@[go_sem] theorem Try.tsz225 : tszOf Try.prog 225 = some (1, false) := by kernel_rfl
@[go_sem] theorem Try.udef225 : (Try.prog.underlying 225).isSome = true := by kernel_rfl
@[go_sem] theorem Try.zero225 : zeroOf Try.prog 225 = some [.lit ((Go.Value.nilFunc))] := by kernel_rfl
@[go_sem] theorem Try.tsz226 : tszOf Try.prog 226 = some (1, false) := by kernel_rfl
@[go_sem] theorem Try.udef226 : (Try.prog.underlying 226).isSome = true := by kernel_rfl
@[go_sem] theorem Try.zero226 : zeroOf Try.prog 226 = some [.lit ((Go.Value.nilFunc))] := by kernel_rfl
@[go_sem] theorem Try.tsz227 : tszOf Try.prog 227 = some (1, false) := by kernel_rfl
@[go_sem] theorem Try.udef227 : (Try.prog.underlying 227).isSome = true := by kernel_rfl
@[go_sem] theorem Try.zero227 : zeroOf Try.prog 227 = some [.lit ((Go.Value.pointer none))] := by kernel_rfl
@[go_sem] theorem Try.tsz228 : tszOf Try.prog 228 = some (1, false) := by kernel_rfl
@[go_sem] theorem Try.udef228 : (Try.prog.underlying 228).isSome = true := by kernel_rfl
@[go_sem] theorem Try.zero228 : zeroOf Try.prog 228 = some [.lit ((Go.Value.nilFunc))] := by kernel_rfl
@[go_sem] theorem Try.tsz229 : tszOf Try.prog 229 = some (1, false) := by kernel_rfl
@[go_sem] theorem Try.udef229 : (Try.prog.underlying 229).isSome = true := by kernel_rfl
@[go_sem] theorem Try.zero229 : zeroOf Try.prog 229 = some [.lit ((Go.Value.nilFunc))] := by kernel_rfl
@[go_sem] theorem Try.tsz230 : tszOf Try.prog 230 = some (1, false) := by kernel_rfl
@[go_sem] theorem Try.udef230 : (Try.prog.underlying 230).isSome = true := by kernel_rfl
@[go_sem] theorem Try.zero230 : zeroOf Try.prog 230 = some [.lit ((Go.Value.nilFunc))] := by kernel_rfl
@[go_sem] theorem Try.tsz231 : tszOf Try.prog 231 = some (4, true) := by kernel_rfl
@[go_sem] theorem Try.udef231 : (Try.prog.underlying 231).isSome = true := by kernel_rfl
@[go_sem] theorem Try.zero231 : zeroOf Try.prog 231 = some [.lit ((Go.Value.pointer none)), .lit ((Go.Value.pointer none)), .lit ((Go.Value.pointer none)), .str ByteArray.empty] := by kernel_rfl
@[go_sem] theorem Try.pl231 : plOf Try.prog 231 = some [(0, 1), (1, 1), (2, 1), (3, 1)] := by kernel_rfl
@[go_sem] theorem Try.tsz232 : tszOf Try.prog 232 = some (4, true) := by kernel_rfl
@[go_sem] theorem Try.udef232 : (Try.prog.underlying 232).isSome = true := by kernel_rfl
@[go_sem] theorem Try.zero232 : zeroOf Try.prog 232 = some [.lit ((Go.Value.pointer none)), .lit ((Go.Value.pointer none)), .lit ((Go.Value.pointer none)), .str ByteArray.empty] := by kernel_rfl
@[go_sem] theorem Try.pl232 : plOf Try.prog 232 = some [(0, 1), (1, 1), (2, 1), (3, 1)] := by kernel_rfl
@[go_sem] theorem Try.tsz233 : tszOf Try.prog 233 = some (0, true) := by kernel_rfl
@[go_sem] theorem Try.udef233 : (Try.prog.underlying 233).isSome = true := by kernel_rfl
@[go_sem] theorem Try.zero233 : zeroOf Try.prog 233 = some [] := by kernel_rfl
@[go_sem] theorem Try.ar233 : arOf Try.prog 233 = some (0, 1, false) := by kernel_rfl
@[go_sem] theorem Try.pl233 : plOf Try.prog 233 = some [] := by kernel_rfl
@[go_sem] theorem Try.tsz234 : tszOf Try.prog 234 = some (0, true) := by kernel_rfl
@[go_sem] theorem Try.udef234 : (Try.prog.underlying 234).isSome = true := by kernel_rfl
@[go_sem] theorem Try.zero234 : zeroOf Try.prog 234 = some [] := by kernel_rfl
@[go_sem] theorem Try.pl234 : plOf Try.prog 234 = some [(0, 0)] := by kernel_rfl
@[go_sem] theorem Try.tsz235 : tszOf Try.prog 235 = some (0, true) := by kernel_rfl
@[go_sem] theorem Try.udef235 : (Try.prog.underlying 235).isSome = true := by kernel_rfl
@[go_sem] theorem Try.zero235 : zeroOf Try.prog 235 = some [] := by kernel_rfl
@[go_sem] theorem Try.pl235 : plOf Try.prog 235 = some [(0, 0)] := by kernel_rfl
@[go_sem] theorem Try.tsz236 : tszOf Try.prog 236 = some (1, false) := by kernel_rfl
@[go_sem] theorem Try.udef236 : (Try.prog.underlying 236).isSome = true := by kernel_rfl
@[go_sem] theorem Try.zero236 : zeroOf Try.prog 236 = some [.int .u8 0] := by kernel_rfl
@[go_sem] theorem Try.isInt236 : isIntT Try.prog 236 = some .u8 := by kernel_rfl
@[go_sem] theorem Try.tsz237 : tszOf Try.prog 237 = some (1, false) := by kernel_rfl
@[go_sem] theorem Try.udef237 : (Try.prog.underlying 237).isSome = true := by kernel_rfl
@[go_sem] theorem Try.zero237 : zeroOf Try.prog 237 = some [.int .u8 0] := by kernel_rfl
@[go_sem] theorem Try.isInt237 : isIntT Try.prog 237 = some .u8 := by kernel_rfl
@[go_sem] theorem Try.tsz238 : tszOf Try.prog 238 = some (1, false) := by kernel_rfl
@[go_sem] theorem Try.udef238 : (Try.prog.underlying 238).isSome = true := by kernel_rfl
@[go_sem] theorem Try.zero238 : zeroOf Try.prog 238 = some [.lit ((Go.Value.nilFunc))] := by kernel_rfl
@[go_sem] theorem Try.tsz239 : tszOf Try.prog 239 = some (1, false) := by kernel_rfl
@[go_sem] theorem Try.udef239 : (Try.prog.underlying 239).isSome = true := by kernel_rfl
@[go_sem] theorem Try.zero239 : zeroOf Try.prog 239 = some [.lit ((Go.Value.pointer none))] := by kernel_rfl
@[go_sem] theorem Try.tsz240 : tszOf Try.prog 240 = some (1, false) := by kernel_rfl
@[go_sem] theorem Try.udef240 : (Try.prog.underlying 240).isSome = true := by kernel_rfl
@[go_sem] theorem Try.zero240 : zeroOf Try.prog 240 = some [.int .i32 0] := by kernel_rfl
@[go_sem] theorem Try.isInt240 : isIntT Try.prog 240 = some .i32 := by kernel_rfl
@[go_sem] theorem Try.tsz241 : tszOf Try.prog 241 = some (1, false) := by kernel_rfl
@[go_sem] theorem Try.udef241 : (Try.prog.underlying 241).isSome = true := by kernel_rfl
@[go_sem] theorem Try.zero241 : zeroOf Try.prog 241 = some [.int .i32 0] := by kernel_rfl
@[go_sem] theorem Try.isInt241 : isIntT Try.prog 241 = some .i32 := by kernel_rfl
@[go_sem] theorem Try.tsz242 : tszOf Try.prog 242 = some (11, true) := by kernel_rfl
@[go_sem] theorem Try.udef242 : (Try.prog.underlying 242).isSome = true := by kernel_rfl
@[go_sem] theorem Try.zero242 : zeroOf Try.prog 242 = some [.int .u64 0, .int .u64 0, .int .u32 0, .int .u8 0, .int .u8 0, .int .u8 0, .int .u8 0, .lit ((Go.Value.nilFunc)), .lit ((Go.Value.pointer none)), .int .i32 0, .int .i32 0] := by kernel_rfl
@[go_sem] theorem Try.pl242 : plOf Try.prog 242 = some [(0, 1), (1, 1), (2, 1), (3, 1), (4, 1), (5, 1), (6, 1), (7, 1), (8, 1), (9, 1), (10, 1)] := by kernel_rfl
@[go_sem] theorem Try.tsz243 : tszOf Try.prog 243 = some (11, true) := by kernel_rfl
@[go_sem] theorem Try.udef243 : (Try.prog.underlying 243).isSome = true := by kernel_rfl
@[go_sem] theorem Try.zero243 : zeroOf Try.prog 243 = some [.int .u64 0, .int .u64 0, .int .u32 0, .int .u8 0, .int .u8 0, .int .u8 0, .int .u8 0, .lit ((Go.Value.nilFunc)), .lit ((Go.Value.pointer none)), .int .i32 0, .int .i32 0] := by kernel_rfl
@[go_sem] theorem Try.pl243 : plOf Try.prog 243 = some [(0, 1), (1, 1), (2, 1), (3, 1), (4, 1), (5, 1), (6, 1), (7, 1), (8, 1), (9, 1), (10, 1)] := by kernel_rfl
@[go_sem] theorem Try.tsz244 : tszOf Try.prog 244 = some (1, false) := by kernel_rfl
@[go_sem] theorem Try.udef244 : (Try.prog.underlying 244).isSome = true := by kernel_rfl
@[go_sem] theorem Try.zero244 : zeroOf Try.prog 244 = some [.lit ((Go.Value.pointer none))] := by kernel_rfl
@[go_sem] theorem Try.isPt3 : isPt Try.prog 3 = false := by kernel_rfl
@[go_sem] theorem Try.isPt22 : isPt Try.prog 22 = false := by kernel_rfl
@[go_sem] theorem Try.isPt24 : isPt Try.prog 24 = false := by kernel_rfl
@[go_sem] theorem Try.isPt27 : isPt Try.prog 27 = false := by kernel_rfl
@[go_sem] theorem Try.isPt34 : isPt Try.prog 34 = false := by kernel_rfl
@[go_sem] theorem Try.isPt36 : isPt Try.prog 36 = false := by kernel_rfl
@[go_sem] theorem Try.isPt37 : isPt Try.prog 37 = false := by kernel_rfl
@[go_sem] theorem Try.isPt39 : isPt Try.prog 39 = false := by kernel_rfl
@[go_sem] theorem Try.isPt49 : isPt Try.prog 49 = false := by kernel_rfl
@[go_sem] theorem Try.isPt55 : isPt Try.prog 55 = false := by kernel_rfl
@[go_sem] theorem Try.isPt58 : isPt Try.prog 58 = false := by kernel_rfl
@[go_sem] theorem Try.isPt65 : isPt Try.prog 65 = false := by kernel_rfl
@[go_sem] theorem Try.isPt82 : isPt Try.prog 82 = false := by kernel_rfl
@[go_sem] theorem Try.isPt84 : isPt Try.prog 84 = false := by kernel_rfl
@[go_sem] theorem Try.isPt86 : isPt Try.prog 86 = false := by kernel_rfl
@[go_sem] theorem Try.isPt97 : isPt Try.prog 97 = false := by kernel_rfl
@[go_sem] theorem Try.isPt108 : isPt Try.prog 108 = false := by kernel_rfl
@[go_sem] theorem Try.isPt110 : isPt Try.prog 110 = false := by kernel_rfl
@[go_sem] theorem Try.isPt113 : isPt Try.prog 113 = true := by kernel_rfl
@[go_sem] theorem Try.isPt114 : isPt Try.prog 114 = false := by kernel_rfl
@[go_sem] theorem Try.isPt125 : isPt Try.prog 125 = false := by kernel_rfl
@[go_sem] theorem Try.isPt188 : isPt Try.prog 188 = false := by kernel_rfl
@[go_sem] theorem Try.isPt211 : isPt Try.prog 211 = false := by kernel_rfl
@[go_sem] theorem Try.isPt213 : isPt Try.prog 213 = true := by kernel_rfl
@[go_sem] theorem Try.isPt219 : isPt Try.prog 219 = false := by kernel_rfl
theorem Try.okF4 : okF Try.prog 4 = true := by kernel_rfl
theorem Try.okF17 : okF Try.prog 17 = true := by kernel_rfl
theorem Try.okF18 : okF Try.prog 18 = true := by kernel_rfl
theorem Try.okF19 : okF Try.prog 19 = true := by kernel_rfl
theorem Try.okF20 : okF Try.prog 20 = true := by kernel_rfl
theorem Try.okF21 : okF Try.prog 21 = true := by kernel_rfl
theorem Try.okF22 : okF Try.prog 22 = true := by kernel_rfl
theorem Try.okF23 : okF Try.prog 23 = true := by kernel_rfl
theorem Try.okF24 : okF Try.prog 24 = true := by kernel_rfl
theorem Try.okF25 : okF Try.prog 25 = true := by kernel_rfl
theorem Try.okF26 : okF Try.prog 26 = true := by kernel_rfl
theorem Try.okF27 : okF Try.prog 27 = true := by kernel_rfl
theorem Try.okF28 : okF Try.prog 28 = true := by kernel_rfl
theorem Try.okF29 : okF Try.prog 29 = true := by kernel_rfl
theorem Try.okF64 : okF Try.prog 64 = true := by kernel_rfl
theorem Try.okF67 : okF Try.prog 67 = true := by kernel_rfl
theorem Try.okF72 : okF Try.prog 72 = true := by kernel_rfl
theorem Try.okF73 : okF Try.prog 73 = true := by kernel_rfl
theorem Try.okF74 : okF Try.prog 74 = true := by kernel_rfl
theorem Try.okF75 : okF Try.prog 75 = true := by kernel_rfl
theorem Try.okF76 : okF Try.prog 76 = true := by kernel_rfl
theorem Try.okF77 : okF Try.prog 77 = true := by kernel_rfl
theorem Try.okF78 : okF Try.prog 78 = true := by kernel_rfl
theorem Try.okF79 : okF Try.prog 79 = true := by kernel_rfl
theorem Try.okF80 : okF Try.prog 80 = true := by kernel_rfl
theorem Try.okF81 : okF Try.prog 81 = true := by kernel_rfl
theorem Try.okF82 : okF Try.prog 82 = true := by kernel_rfl
theorem Try.okF83 : okF Try.prog 83 = true := by kernel_rfl
theorem Try.okF84 : okF Try.prog 84 = true := by kernel_rfl
theorem Try.okF85 : okF Try.prog 85 = true := by kernel_rfl
theorem Try.okF86 : okF Try.prog 86 = true := by kernel_rfl
theorem Try.okF87 : okF Try.prog 87 = true := by kernel_rfl
theorem Try.okF88 : okF Try.prog 88 = true := by kernel_rfl
theorem Try.okF89 : okF Try.prog 89 = true := by kernel_rfl
theorem Try.okF90 : okF Try.prog 90 = true := by kernel_rfl
theorem Try.okF91 : okF Try.prog 91 = true := by kernel_rfl
theorem Try.okF92 : okF Try.prog 92 = true := by kernel_rfl
theorem Try.okF93 : okF Try.prog 93 = true := by kernel_rfl
theorem Try.okF94 : okF Try.prog 94 = true := by kernel_rfl
theorem Try.okF97 : okF Try.prog 97 = true := by kernel_rfl
theorem Try.okF143 : okF Try.prog 143 = true := by kernel_rfl
theorem Try.okF148 : okF Try.prog 148 = true := by kernel_rfl
theorem Try.okF149 : okF Try.prog 149 = true := by kernel_rfl
theorem Try.okF150 : okF Try.prog 150 = true := by kernel_rfl
theorem Try.okF151 : okF Try.prog 151 = true := by kernel_rfl
theorem Try.okF152 : okF Try.prog 152 = true := by kernel_rfl
theorem Try.okF153 : okF Try.prog 153 = true := by kernel_rfl
theorem Try.okF154 : okF Try.prog 154 = true := by kernel_rfl
theorem Try.okF155 : okF Try.prog 155 = true := by kernel_rfl
theorem Try.okF156 : okF Try.prog 156 = true := by kernel_rfl
theorem Try.okF157 : okF Try.prog 157 = true := by kernel_rfl
theorem Try.okF158 : okF Try.prog 158 = true := by kernel_rfl
theorem Try.okF159 : okF Try.prog 159 = true := by kernel_rfl
theorem Try.okF160 : okF Try.prog 160 = true := by kernel_rfl
theorem Try.okF184 : okF Try.prog 184 = true := by kernel_rfl
theorem Try.okF185 : okF Try.prog 185 = true := by kernel_rfl
theorem Try.okF186 : okF Try.prog 186 = true := by kernel_rfl
theorem Try.okF187 : okF Try.prog 187 = true := by kernel_rfl
end Go.Proofs
end
section
set_option linter.unusedSimpArgs false
set_option linter.unusedVariables false
namespace Go.Lv

def rows {α : Type} (cs : α → List V) (L : List α) : List V := L.flatMap cs

section
variable {α : Type} {cs : α → List V} {w : Nat}

theorem rows_len (h : ∀ a, (cs a).length = w) (L : List α) : (rows cs L).length = L.length * w := by
 induction L with
 | nil => simp [rows]
 | cons a L ih => simp [rows, h] at ih ⊢; rw [ih, Nat.succ_mul, Nat.add_comm]

theorem rowsOf_append (L K : List α) : rows cs (L ++ K) = rows cs L ++ rows cs K := by simp [rows]
theorem rows_nil : rows cs ([] : List α) = [] := rfl
theorem rows_cons (a : α) (L : List α) : rows cs (a :: L) = cs a ++ rows cs L := by simp [rows]
theorem rows_one (a : α) : rows cs [a] = cs a := by simp [rows]

theorem rows_drop (h : ∀ a, (cs a).length = w) (L : List α) (i : Nat) : (rows cs L).drop (i * w) = rows cs (L.drop i) := by
 induction i generalizing L with
 | zero => simp
 | succ i ih =>
   cases L with
   | nil => simp [rows]
   | cons a L =>
     rw [rows_cons, Nat.succ_mul, Nat.add_comm, ← List.drop_drop, List.drop_append, h a, Nat.sub_self, List.drop_zero]
     rw [show (cs a).drop w = [] by simp [h]]
     simpa using ih L

theorem rows_take (h : ∀ a, (cs a).length = w) (L : List α) (i : Nat) : (rows cs L).take (i * w) = rows cs (L.take i) := by
 induction i generalizing L with
 | zero => simp [rows]
 | succ i ih =>
   cases L with
   | nil => simp [rows]
   | cons a L =>
     rw [rows_cons, List.take_succ_cons, rows_cons, Nat.succ_mul, Nat.add_comm, List.take_append, h a, Nat.add_sub_cancel_left, ih]
     rw [List.take_of_length_le (by simp [h])]

theorem rows_at (h : ∀ a, (cs a).length = w) {L : List α} {i : Nat} (hi : i < L.length) : ((rows cs L).drop (i * w)).take w = cs L[i] := by
 rw [rows_drop h, List.drop_eq_getElem_cons hi, rows_cons, List.take_append, h, Nat.sub_self, List.take_zero, List.append_nil, List.take_of_length_le (by simp [h])]

theorem rows_all {p : V → Bool} (h : ∀ a, (cs a).all p = true) (L : List α) : (rows cs L).all p = true := by
 induction L with
 | nil => rfl
 | cons a L ih => rw [rows_cons, List.all_append, h a, ih]; rfl

theorem map_ren (f : Nat → R) {d : Nat} {l : List V} (h : l.all (noOwn d) = true) : l.map (ren f d) = l := by
 rw [List.map_congr_left (g := id) (fun x hx => ren_noOwn f d x (List.all_eq_true.1 h x hx)), List.map_id]

theorem wrap_i64 {n : Int} (h0 : -9223372036854775808 ≤ n) (h1 : n ≤ 9223372036854775807) : IntKind.i64.wrap n = n := by
 rw [IntKind.wrap_i64]; omega

def i64R (z : Int) : Prop := -9223372036854775808 ≤ z ∧ z ≤ 9223372036854775807
def lstR (ok : α → Prop) (L : List α) : Prop := L.length ≤ 9223372036854775807 ∧ ∀ x ∈ L, ok x

class FlatP (cs : α → List V) (w : outParam Nat) : Prop where
 len : ∀ a, (cs a).length = w
 plain : ∀ a d, (cs a).all (noOwn d) = true
 cell : ∀ a, (cs a).all isCell = true
 noro : ∀ a, (cs a).all (noRoB 0) = true

theorem rows_length [FlatP cs w] (L : List α) : (rows cs L).length = L.length * w := rows_len FlatP.len L
theorem map_ren_rows [FlatP cs w] (f : Nat → R) (d : Nat) (L : List α) : (rows cs L).map (ren f d) = rows cs L := map_ren f (rows_all (fun a => FlatP.plain a d) L)
theorem rows_cell [FlatP cs w] (L : List α) : (rows cs L).all isCell = true := rows_all FlatP.cell L
theorem rows_noRo [FlatP cs w] (L : List α) : (rows cs L).all (noRoB 0) = true := rows_all FlatP.noro L
theorem rows_noOwn [FlatP cs w] (L : List α) (d : Nat) : (rows cs L).all (noOwn d) = true := rows_all (fun a => FlatP.plain a d) L
theorem rows_refV [FlatP cs w] (p : Nat → Bool) (L : List α) (d : Nat) : (rows cs L).all (refV p d) = true := List.all_eq_true.2 fun x hx => refV_noOwn p d x (List.all_eq_true.1 (rows_noOwn (cs := cs) L d) x hx)
theorem noRoH_rows [FlatP cs w] (L : List α) : NoRoH [some (rows cs L)] := NoRoH.of (by simp only [hpNoRo, List.all_cons, List.all_nil, rows_noRo, Bool.and_self])
theorem take_rows [FlatP cs w] (L : List α) : (rows cs L).take (L.length * w) = rows cs L := List.take_of_length_le (by rw [rows_length]; exact Nat.le_refl _)

theorem le_snap [FlatP cs w] {h : Hp} {id : Nat} {L : List α} (hid : h[id]? = some (some (rows cs L))) : LeV (ren (snapR h 3) 3 (.osl id 0 L.length w)) (.sl L.length w (rows cs L)) := by
 refine .inl ?_
 simp only [ren, snapR, hid, map_ren_rows, List.drop_zero, take_rows]
theorem le_snap' [FlatP cs w] {h : Hp} {id n : Nat} {L : List α} (hid : h[id]? = some (some (rows cs L))) (hn : n = L.length) : LeV (ren (snapR h 3) 3 (.osl id 0 n w)) (.sl L.length w (rows cs L)) := by
 subst hn; exact le_snap hid
theorem le_nil {h : Hp} {w : Nat} : LeV (ren (snapR h 3) 3 .nilsl) (.sl 0 w []) := .inr (.inr (.inl ⟨rfl, w, rfl⟩))
theorem LeV.aggR {f : Nat → R} {d : Nat} {cs cs' : List V} (h : LeA (cs.map (ren f d)) cs') : LeV (ren f (d + 1) (.agg cs)) (.agg cs') := LeV.agg h
theorem leE_snap [FlatP cs w] {h : Hp} {id n n' : Nat} {L : List α} (hid : h[id]? = some (some (rows cs L))) (hn : n = L.length) (hn' : n' = L.length) : LeE (ren (snapR h 3) 2 (.osl id 0 n w)) (.sl n' w (rows cs L)) := by
 subst hn hn'
 refine .inl ?_
 simp only [ren, snapR, hid, map_ren_rows, List.drop_zero, take_rows]
theorem lend_one [FlatP cs w] {h : Hp} {id : Nat} {fz : Bool} {L : List α} (hid : h[id]? = some (some (rows cs L))) : pickH [id] h fz = [some (rows cs L)] := by
 simp only [pickH, List.map_cons, List.map_nil, pickB, hid, map_ren_rows]
theorem isMb_cells {l : List V} (h : l.all isCell = true) : isMb l = false := by
 match l, h with
 | [], _ => rfl
 | _ :: _ :: _, _ => rfl
 | [x], h => cases x <;> first | rfl | (simp [isCell] at h)
theorem isMb_rows [FlatP cs w] (L : List α) : isMb (rows cs L) = false := isMb_cells (rows_cell L)
theorem rows_snoc (L : List α) (a : α) : rows cs L ++ cs a = rows cs (L ++ [a]) := by rw [rowsOf_append, rows_one]

theorem LeL_same {f : V → V} : ∀ {l : List V}, l.map f = l → LeL (l.map f) l
 | [], _ => trivial
 | a :: l, h => by
   simp only [List.map_cons, List.cons.injEq] at h
   exact ⟨.inl h.1.symm, LeL_same h.2⟩

theorem splice_mid {A M ns : List V} {n j : Nat} (h : A.length = n) : splice (A ++ M) (n + j) ns = A ++ splice M j ns := by
 subst h
 unfold splice
 rw [List.take_append, List.drop_append, List.take_of_length_le (by omega), List.drop_of_length_le (by omega)]
 simp only [Nat.add_sub_cancel_left, List.nil_append, List.append_assoc]
 congr 3
 congr 1
 omega
theorem splice_mid0 {A M ns : List V} {n : Nat} (h : A.length = n) : splice (A ++ M) n ns = A ++ splice M 0 ns := by
 have := splice_mid (M := M) (ns := ns) (j := 0) h
 rwa [Nat.add_zero] at this

theorem rows_drop_at (h : ∀ a, (cs a).length = w) {L : List α} {i : Nat} (hi : i < L.length) (j : Nat) : (rows cs L).drop (i * w + j) = (cs L[i] ++ rows cs (L.drop (i + 1))).drop j := by
 rw [← List.drop_drop, rows_drop h, List.drop_eq_getElem_cons hi, rows_cons]
theorem rows_drop_at0 (h : ∀ a, (cs a).length = w) {L : List α} {i : Nat} (hi : i < L.length) : (rows cs L).drop (i * w) = cs L[i] ++ rows cs (L.drop (i + 1)) := by
 rw [rows_drop h, List.drop_eq_getElem_cons hi, rows_cons]

theorem apart {L : List α} {i : Nat} (hi : i < L.length) : ∃ A B, L = A ++ L[i] :: B ∧ A.length = i ∧ A = L.take i ∧ B = L.drop (i + 1) := by
 refine ⟨L.take i, L.drop (i + 1), ?_, by simp; omega, rfl, rfl⟩
 rw [← List.drop_eq_getElem_cons hi, List.take_append_drop]

def listedQ (p : α → Bool) (k : α → Int) (L : List α) (i : Nat) : Bool :=
 match L[i]? with
 | none => true
 | some x => p x && match i with
   | 0 => true
   | j + 1 => match L[j]? with
     | none => true
     | some y => decide (k y < k x)

def listedB (p : α → Bool) (k : α → Int) (m : Nat) (L : List α) : Bool := (List.range L.length).all (listedQ p k L) && decide (L.length ≤ m)

theorem range_all_false {q : Nat → Bool} {n i : Nat} (hi : i < n) (h : q i = false) : (List.range n).all q = false := by
 rw [List.all_eq_false]
 exact ⟨i, by simpa using hi, by simp [h]⟩
theorem range_all_succ {q : Nat → Bool} {i : Nat} (h : (List.range i).all q = true) (h1 : q i = true) : (List.range (i + 1)).all q = true := by
 rw [List.range_succ, List.all_append, h]
 simp [h1]
theorem listedB_false {p : α → Bool} {k : α → Int} {m : Nat} {L : List α} {i : Nat} (hi : i < L.length) (h : listedQ p k L i = false) : listedB p k m L = false := by
 rw [listedB, range_all_false hi h]
 rfl
theorem listedQ_zero {p : α → Bool} {k : α → Int} {L : List α} (h0 : 0 < L.length) : listedQ p k L 0 = p L[0] := by simp [listedQ, h0]
theorem listedQ_succ {p : α → Bool} {k : α → Int} {L : List α} {j : Nat} (h : j + 1 < L.length) : listedQ p k L (j + 1) = (p L[j + 1] && decide (k (L[j]'(by omega)) < k L[j + 1])) := by
 have : j < L.length := by omega
 simp [listedQ, h, this]
end

theorem leA {x y : V} (h : LeV x y := by first | exact le_snap rfl | exact .inl rfl | exact le_nil | exact le_snap' rfl (by simp) | exact LeV.aggR (by first | ((repeat' (first | exact True.intro | exact leE_snap rfl (by simp) (by simp) | exact LeE.nil | exact LeE.refl _ | refine And.intro ?_ ?_)); done) | fail)) : LeV x y := h
theorem callT.at {P : Program} {h : Hp} {g : FuncId} {a c args : List V} {K : V → Hp → Prop} {x : Tag K} {as' : List V} {r : V} {hout : Hp} (hs : Ctr P g as' [] r hout) (hle : LeL ((a ++ args ++ c).map (ren (snapR h 3) 3)) as') (hk : K r hout)
   (hro : (a ++ args ++ c).all (noOwn 3) = true ∨ NoRo r ∧ NoRoH hout := by first | exact .inl rfl | exact .inr ⟨noRo_ok 3 rfl, by first | exact NoRoH.nil | exact noRoH_rows _ | exact NoRoH.of (by simp only [hpNoRo, List.all_cons, List.all_nil, rows_noRo, Bool.and_self])⟩)
   (hrf : refOk h 4 (.fn (.func g) a c) = true ∧ args.all (refOk h 3) = true := by first | exact ⟨rfl, rfl⟩ | exact ⟨rfl, by simp [refOk, refV, refB, noOwn, rows_noOwn, rows_refV]⟩ | simp [refOk, refV, refB, noOwn, rows_noOwn, rows_refV]) : callT P h (.fn (.func g) a c) args K x :=
 callT.intro hs hle hro hrf hk
theorem callS.at {P : Program} {t : List V} {h : Hp} {k : Nat} {dst : Option Tmp} {g : FuncId} {a c args : List V} {K : St → Prop} {x : Tag K} {as' : List V} {r : V} {hout : Hp} (hs : Ctr P g as' [] r hout)
   (hle : LeL ((a ++ args ++ c).map (ren (snapR h 3) 3)) as') (hk : K (afterCall ⟨t, h, k⟩ dst r hout))
   (hro : (a ++ args ++ c).all (noOwn 3) = true ∨ NoRo r ∧ NoRoH hout := by first | exact .inl rfl | exact .inr ⟨noRo_ok 3 rfl, by first | exact NoRoH.nil | exact noRoH_rows _ | exact NoRoH.of (by simp only [hpNoRo, List.all_cons, List.all_nil, rows_noRo, Bool.and_self])⟩) : callS P ⟨t, h, k⟩ dst (.fn (.func g) a c) args K x :=
 callS.intro hs hle hro hk
theorem lendA {sel : List Nat} {h hin : Hp} {fz : Bool} (hh : pickH sel h fz = hin := by first | exact lend_one rfl | rfl | (simp only [pickH, List.map_cons, List.map_nil, pickB, List.getElem?_cons_zero, List.getElem?_cons_succ, map_ren_rows]; done)) : pickH sel h fz = hin := hh
theorem leO {x y : V} (h : LeV x y := by first | exact .inl rfl | exact LeV.aggR (by first | ((repeat' (first | exact True.intro | exact LeE.nil | exact LeE.refl _ | refine And.intro ?_ ?_)); done) | fail)) : LeV x y := h
theorem sideA {a b : Prop} (hb : b) (ha : a := by first | omega | with_reducible rfl | (show drawOk _ = true; kernel_rfl) | (simp only [rows_length, rows_cell, List.length_append, List.length_cons, List.length_nil, List.all_append, List.all_cons, List.all_nil, isCell, Nat.mul_one, Nat.one_mul, Bool.and_self]; first | done | omega)) : a ∧ b := ⟨ha, hb⟩
attribute [go_sem] Nat.le_refl Int.toNat_natCast beq_self_eq_true bne_self_eq_false decide_true decide_false eq_self ne_eq Option.some.injEq not_false_eq_true Option.map_some map_ren_rows
theorem Weak.pk {t t2 : List V} {h h2 : Hp} {k : Nat} (sel : List Nat) (ht : LeG (ren (pickF sel h true) 3) t t2) (hh : pickH sel h true = h2) (hn : sel.Nodup := by decide) (hk : ∀ j, j < k → sel[j]? = some j := by (intro j hj; cases j <;> simp_all)) : Weak ⟨t, h, k⟩ ⟨t2, h2, k⟩ := Weak.pick sel hn hk ht hh
attribute [go_sem] Nat.reduceSub Nat.reduceAdd Nat.reduceMul Nat.reduceLT Nat.reduceLeDiff Nat.reduceEqDiff Nat.reduceDiv Nat.reduceMod Int.reduceToNat Int.reduceLE Int.reduceLT Int.reduceBEq Int.reduceBNe Int.reduceNeg Int.reduceAdd Int.reduceSub Int.reduceMul reduceCtorEq
end Go.Lv
end
section
set_option linter.unusedSimpArgs false
set_option linter.unusedVariables false
set_option maxRecDepth 100000
namespace Go.Proofs
open Go.Lv
def inB' (n a b : Int) : Bool := decide (a ≤ n) && decide (n ≤ b)
theorem in_ok (n a b : Int) : Ctr Try.prog 67 [.int .i64 n, .int .i64 a, .int .i64 b] [] (.bool (inB' n a b)) [] := by
 refine Ctr.intro Try.mixed Try.func67 rfl Try.okF67 ?_
 simp -implicitDefEqProofs -dsimp only [go_sem, Try.ntmps67, Try.results67]
 refine guardT.splitT (fun h1 => ?_) (fun h1 => ?_) <;> simp -implicitDefEqProofs -dsimp only [go_sem, h1]
 · exact WeakR.of_eq (by simp [inB', h1])
 · exact WeakR.of_eq (by simp [inB', h1])
theorem l1In_ok (n a b : Int) : Ctr Try.prog 64 [.int .i64 n, .int .i64 a, .int .i64 b] [] (.bool (inB' n a b)) [] := by
 refine Ctr.intro Try.mixed Try.func64 rfl Try.okF64 ?_
 simp -implicitDefEqProofs -dsimp only [go_sem, Try.ntmps64, Try.results64]
 refine guardT.splitT (fun h1 => ?_) (fun h1 => ?_) <;> simp -implicitDefEqProofs -dsimp only [go_sem, h1]
 · exact WeakR.of_eq (by simp [inB', h1])
 · exact WeakR.of_eq (by simp [inB', h1])
theorem listedB_all {α : Type} {p : α → Bool} {k : α → Int} {m : Nat} {L : List α} (h : listedB p k m L = true) : (∀ x ∈ L, p x = true) ∧ L.length ≤ m := by
 simp only [listedB, Bool.and_eq_true, decide_eq_true_eq, List.all_eq_true, List.mem_range] at h
 refine ⟨fun x hx => ?_, h.2⟩
 obtain ⟨i, hi, rfl⟩ := List.getElem_of_mem hx
 have := h.1 i hi
 simp only [listedQ, List.getElem?_eq_getElem hi, Bool.and_eq_true] at this
 exact this.1
theorem listedB_lt {α : Type} {p : α → Bool} {k : α → Int} {m : Nat} {L : List α} (h : listedB p k m L = true) : (L.map k).Pairwise (· < ·) := by
 simp only [listedB, Bool.and_eq_true, List.all_eq_true, List.mem_range] at h
 have adj : ∀ j, (hj : j + 1 < L.length) → k (L[j]'(by omega)) < k L[j + 1] := by
   intro j hj
   have := h.1 (j + 1) hj
   rw [listedQ_succ hj] at this
   simp at this
   exact this.2
 rw [List.pairwise_iff_getElem]
 intro i j hi hj hij
 simp only [List.length_map] at hi hj
 simp only [List.getElem_map]
 induction j with
 | zero => omega
 | succ j ih =>
   have h1 := adj j hj
   rcases Nat.lt_succ_iff_lt_or_eq.1 hij with h2 | h2
   · have := ih (by simpa using (by omega : j < L.length)) h2 (by omega)
     omega
   · subst h2; exact h1
end Go.Proofs
end
section
set_option linter.unusedSimpArgs false
set_option linter.unusedVariables false
set_option maxRecDepth 100000
namespace Go.Proofs
open Go.Lv
def placeB (x y : Int) : Bool := inB' x 0 999 && inB' y 0 999
theorem isTick_ok (n : Int) : Ctr Try.prog 85 [.int .i64 n] [] (.bool (inB' n 0 1000000)) [] := by
 refine Ctr.intro Try.mixed Try.func85 rfl Try.okF85 ?_
 simp -implicitDefEqProofs -dsimp only [go_sem, Try.ntmps85, Try.results85]
 repeat' (first | (refine WeakR.drop' ?_ (by rfl); first | rfl | (simp [placeB, *]; done)) | ((first | refine callT.at (in_ok _ _ _) ⟨leA, leA, leA, trivial⟩ ?_ | refine callS.at (in_ok _ _ _) ⟨leA, leA, leA, trivial⟩ ?_); simp -implicitDefEqProofs -dsimp only [go_sem, *]) | (refine guardT.splitT (fun _ => ?_) (fun _ => ?_) <;> simp -implicitDefEqProofs -dsimp only [go_sem, *]) | (refine guardT.splitF (fun _ => ?_) (fun _ => ?_) <;> simp -implicitDefEqProofs -dsimp only [go_sem, *]) | (refine condT.split (fun _ => ?_) (fun _ => ?_) <;> simp -implicitDefEqProofs -dsimp only [go_sem, *]))
theorem l2Tick_ok (n : Int) : Ctr Try.prog 143 [.int .i64 n] [] (.bool (inB' n 0 1000000)) [] := by
 refine Ctr.intro Try.mixed Try.func143 rfl Try.okF143 ?_
 simp -implicitDefEqProofs -dsimp only [go_sem, Try.ntmps143, Try.results143]
 repeat' (first | (refine WeakR.drop' ?_ (by rfl); first | rfl | (simp [placeB, *]; done)) | ((first | refine callT.at (l1In_ok _ _ _) ⟨leA, leA, leA, trivial⟩ ?_ | refine callS.at (l1In_ok _ _ _) ⟨leA, leA, leA, trivial⟩ ?_); simp -implicitDefEqProofs -dsimp only [go_sem, *]) | (refine guardT.splitT (fun _ => ?_) (fun _ => ?_) <;> simp -implicitDefEqProofs -dsimp only [go_sem, *]) | (refine guardT.splitF (fun _ => ?_) (fun _ => ?_) <;> simp -implicitDefEqProofs -dsimp only [go_sem, *]) | (refine condT.split (fun _ => ?_) (fun _ => ?_) <;> simp -implicitDefEqProofs -dsimp only [go_sem, *]))
theorem isStationId_ok (n : Int) : Ctr Try.prog 82 [.int .i64 n] [] (.bool (inB' n 1 99)) [] := by
 refine Ctr.intro Try.mixed Try.func82 rfl Try.okF82 ?_
 simp -implicitDefEqProofs -dsimp only [go_sem, Try.ntmps82, Try.results82]
 repeat' (first | (refine WeakR.drop' ?_ (by rfl); first | rfl | (simp [placeB, *]; done)) | ((first | refine callT.at (in_ok _ _ _) ⟨leA, leA, leA, trivial⟩ ?_ | refine callS.at (in_ok _ _ _) ⟨leA, leA, leA, trivial⟩ ?_); simp -implicitDefEqProofs -dsimp only [go_sem, *]) | (refine guardT.splitT (fun _ => ?_) (fun _ => ?_) <;> simp -implicitDefEqProofs -dsimp only [go_sem, *]) | (refine guardT.splitF (fun _ => ?_) (fun _ => ?_) <;> simp -implicitDefEqProofs -dsimp only [go_sem, *]) | (refine condT.split (fun _ => ?_) (fun _ => ?_) <;> simp -implicitDefEqProofs -dsimp only [go_sem, *]))
theorem isQuakeSize_ok (n : Int) : Ctr Try.prog 84 [.int .i64 n] [] (.bool (inB' n (-20) 95)) [] := by
 refine Ctr.intro Try.mixed Try.func84 rfl Try.okF84 ?_
 simp -implicitDefEqProofs -dsimp only [go_sem, Try.ntmps84, Try.results84]
 repeat' (first | (refine WeakR.drop' ?_ (by rfl); first | rfl | (simp [placeB, *]; done)) | ((first | refine callT.at (in_ok _ _ _) ⟨leA, leA, leA, trivial⟩ ?_ | refine callS.at (in_ok _ _ _) ⟨leA, leA, leA, trivial⟩ ?_); simp -implicitDefEqProofs -dsimp only [go_sem, *]) | (refine guardT.splitT (fun _ => ?_) (fun _ => ?_) <;> simp -implicitDefEqProofs -dsimp only [go_sem, *]) | (refine guardT.splitF (fun _ => ?_) (fun _ => ?_) <;> simp -implicitDefEqProofs -dsimp only [go_sem, *]) | (refine condT.split (fun _ => ?_) (fun _ => ?_) <;> simp -implicitDefEqProofs -dsimp only [go_sem, *]))
end Go.Proofs
end
section
set_option linter.unusedSimpArgs false
set_option linter.unusedVariables false
set_option maxRecDepth 100000
namespace Go.Proofs
open Go.Lv
structure Post where
 Station : Int
 Up : Bool
 Since : Int
def Post.cs (r : Post) : List V := [.int .i64 r.Station, .bool r.Up, .int .i64 r.Since]
def Post.v (r : Post) : V := .agg [.int .i64 r.Station, .bool r.Up, .int .i64 r.Since]
theorem Post.csl (a : Post) : a.cs.length = 3 := rfl
instance : FlatP Post.cs 3 := ⟨fun _ => rfl, fun _ d => by cases d <;> rfl, fun _ => rfl, fun _ => rfl⟩
def Post.ok (r : Post) : Prop := i64R r.Station ∧ i64R r.Since
abbrev Post.rows (L : List Post) : List V := Go.Lv.rows Post.cs L
abbrev Post.sl (L : List Post) : V := .sl L.length 3 (Go.Lv.rows Post.cs L)
abbrev Post.zs : List V := [.int .i64 0, .bool false, .int .i64 0]
def Post.mk1 (k : Int) : Post := ⟨k, ((k + 1).tmod 3 == 0), k + 1 + 1⟩
def Post.marks (k : Int) (n : Nat) : List Post := (List.range n).map fun i : Nat => Post.mk1 (k + 3 * (i : Int))
@[simp] theorem Post.marks_len (k : Int) (n : Nat) : (Post.marks k n).length = n := by simp [Post.marks]
theorem areListedPost_ok (L : List Post) (p : Post → Bool) (key : Post → Int) (most : Int) (fv fk : Nat) (vc kc : List V) (hvc : ∀ d, vc.all (noOwn d) = true) (hkc : ∀ d, kc.all (noOwn d) = true) (hv : ∀ x, Ctr Try.prog fv (Post.v x :: vc) [] (.bool (p x)) []) (hkey : ∀ x, Ctr Try.prog fk (Post.v x :: kc) [] (.int .i64 (key x)) []) (m : Nat) (hm : most = m) (hl : L.length ≤ 281474976710656) :
   Ctr Try.prog 86 [Post.sl L, .int .i64 most, .fn (.func fv) [] vc, .fn (.func fk) [] kc] [] (.bool (listedB p key m L)) [] := by
 subst hm
 refine Ctr.intro Try.mixed Try.func86 rfl Try.okF86 ?_
 simp -implicitDefEqProofs -dsimp only [go_sem, Try.ntmps86, Try.results86]
 have hvc2 : ∀ f d, vc.map (ren f d) = vc := fun f d => map_ren f (hvc d)
 have hkc2 : ∀ f d, kc.map (ren f d) = kc := fun f d => map_ren f (hkc d)
 refine LoopT.intro (fun i : Nat => i ≤ L.length ∧ (List.range i).all (listedQ p key L) = true) (fun i => ⟨[Post.sl L, .int .i64 m, .fn (.func fv) [] vc, .fn (.func fk) [] kc, .undef, .undef, .undef, .undef, .undef, .undef, .undef, Post.sl L, .int .i64 L.length, .int .i64 i, .undef, .undef, .undef, .undef, .undef, .undef, .undef, .undef, .undef, .undef, .undef, .undef, .undef, .undef, .undef, .undef, .undef, .undef, .undef, .undef, .undef, .undef, .undef, .undef, .undef, .undef, .undef, .undef, .undef, .undef], [], 0⟩) (fun i => L.length - i) 0 ⟨Nat.zero_le _, rfl⟩ ?_ (fun i hi => ?_)
 · refine Weak.cut (0) (by simp) (by simp) ?_ ?_
   · simp [LeC, LeV, ren, cutF, hvc2, hkc2]
   · rfl
 simp -implicitDefEqProofs -dsimp only [go_sem]
 refine condT.split (fun h1 => ?_) (fun h1 => ?_)
 · simp -implicitDefEqProofs -dsimp only [go_sem, h1]
   have hi' : i < L.length := by simpa using h1
   have h5 := Post.csl L[i]
   have hr := rows_at Post.csl hi'
   (repeat1' (first | simp -implicitDefEqProofs -dsimp only [go_sem, hr, Post.cs] | simp -dsimp (disch := omega) only [wrap_i64]))
   repeat (with_reducible refine sideA ?_)
   refine callT.intro (hv L[i]) ⟨.inl rfl, LeL_same (hvc2 _ _)⟩ (.inl (by simp only [List.nil_append, List.cons_append, List.all_cons, hvc, Bool.and_true]; rfl)) ⟨refOk_fn (hvc 3), rfl⟩ ?_
   simp -implicitDefEqProofs -dsimp only [go_sem]
   refine guardT.splitF (fun h2 => ?_) (fun h2 => ?_) <;> simp -implicitDefEqProofs -dsimp only [go_sem, h2]
   · have hw : p L[i] = true := by simpa using h2
     refine guardT.splitT (fun h3 => ?_) (fun h3 => ?_) <;> simp -implicitDefEqProofs -dsimp only [go_sem, h3]
     · obtain ⟨j, rfl⟩ : ∃ j, i = j + 1 := ⟨i - 1, by simp at h3; omega⟩
       have hj : j < L.length := by omega
       refine callT.intro (hkey L[j + 1]) ⟨.inl rfl, LeL_same (hkc2 _ _)⟩ (.inl (by simp only [List.nil_append, List.cons_append, List.all_cons, hkc, Bool.and_true]; rfl)) ⟨refOk_fn (hkc 3), rfl⟩ ?_
       have hw1 : IntKind.i64.wrap (((j + 1 : Nat) : Int) - 1) = (j : Int) := by rw [wrap_i64 (by omega) (by omega)]; omega
       have hr2 := rows_at Post.csl hj
       (repeat1' (first | simp -implicitDefEqProofs -dsimp only [go_sem, hw1, hr2, Post.cs] | simp -dsimp (disch := omega) only [wrap_i64]))
       repeat (with_reducible refine sideA ?_)
       refine callT.intro (hkey L[j]) ⟨.inl rfl, LeL_same (hkc2 _ _)⟩ (.inl (by simp only [List.nil_append, List.cons_append, List.all_cons, hkc, Bool.and_true]; rfl)) ⟨refOk_fn (hkc 3), rfl⟩ ?_
       (repeat1' (first | simp -implicitDefEqProofs -dsimp only [go_sem] | simp -dsimp (disch := omega) only [wrap_i64]))
       refine condT.split (fun h4 => ?_) (fun h4 => ?_) <;> simp -implicitDefEqProofs -dsimp only [go_sem, h4]
       · refine WeakR.drop' ?_ rfl
         have hq : listedQ p key L (j + 1) = false := by
           rw [listedQ_succ hi', hw]
           simp at h4 ⊢
           omega
         rw [listedB_false hi' hq]
       · refine ⟨j + 1 + 1, ⟨hi', range_all_succ hi.2 (by rw [listedQ_succ hi', hw]; simp at h4 ⊢; omega)⟩, ?_, by omega⟩
         refine Weak.cut (0) (by simp) (by simp) ?_ ?_
         · rw [wrap_i64 (by omega) (by omega)]
           simp [LeC, LeV, ren, cutF, hvc2, hkc2]
         · rfl
     · have h0 : i = 0 := by simp at h3; omega
       refine ⟨i + 1, ⟨hi', range_all_succ hi.2 (by subst h0; rw [listedQ_zero hi', hw])⟩, ?_, by omega⟩
       refine Weak.cut (0) (by simp) (by simp) ?_ ?_
       · rw [wrap_i64 (by omega) (by omega)]
         simp [LeC, LeV, ren, cutF, hvc2, hkc2]
       · rfl
   · have hw : p L[i] = false := by simpa using h2
     refine WeakR.drop' ?_ rfl
     have hq : listedQ p key L i = false := by simp [listedQ, hi', hw]
     rw [listedB_false hi' hq]
 · simp -implicitDefEqProofs -dsimp only [go_sem, h1]
   refine WeakR.drop' ?_ rfl
   have : i = L.length := by simp at h1; omega
   subst this
   rw [listedB, hi.2]
   simp
   try omega
end Go.Proofs
end
section
set_option linter.unusedSimpArgs false
set_option linter.unusedVariables false
set_option maxRecDepth 100000
namespace Go.Proofs
open Go.Lv
structure Shock where
 Number : Int
 State : Int
 Seen : Int
 Size : Int
 Tick : Int
def Shock.cs (r : Shock) : List V := [.int .i64 r.Number, .int .i64 r.State, .int .i64 r.Seen, .int .i64 r.Size, .int .i64 r.Tick]
def Shock.v (r : Shock) : V := .agg [.int .i64 r.Number, .int .i64 r.State, .int .i64 r.Seen, .int .i64 r.Size, .int .i64 r.Tick]
theorem Shock.csl (a : Shock) : a.cs.length = 5 := rfl
instance : FlatP Shock.cs 5 := ⟨fun _ => rfl, fun _ d => by cases d <;> rfl, fun _ => rfl, fun _ => rfl⟩
def Shock.ok (r : Shock) : Prop := i64R r.Number ∧ i64R r.State ∧ i64R r.Seen ∧ i64R r.Size ∧ i64R r.Tick
abbrev Shock.rows (L : List Shock) : List V := Go.Lv.rows Shock.cs L
abbrev Shock.sl (L : List Shock) : V := .sl L.length 5 (Go.Lv.rows Shock.cs L)
abbrev Shock.zs : List V := [.int .i64 0, .int .i64 0, .int .i64 0, .int .i64 0, .int .i64 0]
def Shock.mk1 (k : Int) : Shock := ⟨k, k + 1, k + 1 + 1, k + 1 + 1 + 1, k + 1 + 1 + 1 + 1⟩
def Shock.marks (k : Int) (n : Nat) : List Shock := (List.range n).map fun i : Nat => Shock.mk1 (k + 5 * (i : Int))
@[simp] theorem Shock.marks_len (k : Int) (n : Nat) : (Shock.marks k n).length = n := by simp [Shock.marks]
theorem areListedShock_ok (L : List Shock) (p : Shock → Bool) (key : Shock → Int) (most : Int) (fv fk : Nat) (vc kc : List V) (hvc : ∀ d, vc.all (noOwn d) = true) (hkc : ∀ d, kc.all (noOwn d) = true) (hv : ∀ x, Ctr Try.prog fv (Shock.v x :: vc) [] (.bool (p x)) []) (hkey : ∀ x, Ctr Try.prog fk (Shock.v x :: kc) [] (.int .i64 (key x)) []) (m : Nat) (hm : most = m) (hl : L.length ≤ 281474976710656) :
   Ctr Try.prog 88 [Shock.sl L, .int .i64 most, .fn (.func fv) [] vc, .fn (.func fk) [] kc] [] (.bool (listedB p key m L)) [] := by
 subst hm
 refine Ctr.intro Try.mixed Try.func88 rfl Try.okF88 ?_
 simp -implicitDefEqProofs -dsimp only [go_sem, Try.ntmps88, Try.results88]
 have hvc2 : ∀ f d, vc.map (ren f d) = vc := fun f d => map_ren f (hvc d)
 have hkc2 : ∀ f d, kc.map (ren f d) = kc := fun f d => map_ren f (hkc d)
 refine LoopT.intro (fun i : Nat => i ≤ L.length ∧ (List.range i).all (listedQ p key L) = true) (fun i => ⟨[Shock.sl L, .int .i64 m, .fn (.func fv) [] vc, .fn (.func fk) [] kc, .undef, .undef, .undef, .undef, .undef, .undef, .undef, Shock.sl L, .int .i64 L.length, .int .i64 i, .undef, .undef, .undef, .undef, .undef, .undef, .undef, .undef, .undef, .undef, .undef, .undef, .undef, .undef, .undef, .undef, .undef, .undef, .undef, .undef, .undef, .undef, .undef, .undef, .undef, .undef, .undef, .undef, .undef, .undef], [], 0⟩) (fun i => L.length - i) 0 ⟨Nat.zero_le _, rfl⟩ ?_ (fun i hi => ?_)
 · refine Weak.cut (0) (by simp) (by simp) ?_ ?_
   · simp [LeC, LeV, ren, cutF, hvc2, hkc2]
   · rfl
 simp -implicitDefEqProofs -dsimp only [go_sem]
 refine condT.split (fun h1 => ?_) (fun h1 => ?_)
 · simp -implicitDefEqProofs -dsimp only [go_sem, h1]
   have hi' : i < L.length := by simpa using h1
   have h5 := Shock.csl L[i]
   have hr := rows_at Shock.csl hi'
   (repeat1' (first | simp -implicitDefEqProofs -dsimp only [go_sem, hr, Shock.cs] | simp -dsimp (disch := omega) only [wrap_i64]))
   repeat (with_reducible refine sideA ?_)
   refine callT.intro (hv L[i]) ⟨.inl rfl, LeL_same (hvc2 _ _)⟩ (.inl (by simp only [List.nil_append, List.cons_append, List.all_cons, hvc, Bool.and_true]; rfl)) ⟨refOk_fn (hvc 3), rfl⟩ ?_
   simp -implicitDefEqProofs -dsimp only [go_sem]
   refine guardT.splitF (fun h2 => ?_) (fun h2 => ?_) <;> simp -implicitDefEqProofs -dsimp only [go_sem, h2]
   · have hw : p L[i] = true := by simpa using h2
     refine guardT.splitT (fun h3 => ?_) (fun h3 => ?_) <;> simp -implicitDefEqProofs -dsimp only [go_sem, h3]
     · obtain ⟨j, rfl⟩ : ∃ j, i = j + 1 := ⟨i - 1, by simp at h3; omega⟩
       have hj : j < L.length := by omega
       refine callT.intro (hkey L[j + 1]) ⟨.inl rfl, LeL_same (hkc2 _ _)⟩ (.inl (by simp only [List.nil_append, List.cons_append, List.all_cons, hkc, Bool.and_true]; rfl)) ⟨refOk_fn (hkc 3), rfl⟩ ?_
       have hw1 : IntKind.i64.wrap (((j + 1 : Nat) : Int) - 1) = (j : Int) := by rw [wrap_i64 (by omega) (by omega)]; omega
       have hr2 := rows_at Shock.csl hj
       (repeat1' (first | simp -implicitDefEqProofs -dsimp only [go_sem, hw1, hr2, Shock.cs] | simp -dsimp (disch := omega) only [wrap_i64]))
       repeat (with_reducible refine sideA ?_)
       refine callT.intro (hkey L[j]) ⟨.inl rfl, LeL_same (hkc2 _ _)⟩ (.inl (by simp only [List.nil_append, List.cons_append, List.all_cons, hkc, Bool.and_true]; rfl)) ⟨refOk_fn (hkc 3), rfl⟩ ?_
       (repeat1' (first | simp -implicitDefEqProofs -dsimp only [go_sem] | simp -dsimp (disch := omega) only [wrap_i64]))
       refine condT.split (fun h4 => ?_) (fun h4 => ?_) <;> simp -implicitDefEqProofs -dsimp only [go_sem, h4]
       · refine WeakR.drop' ?_ rfl
         have hq : listedQ p key L (j + 1) = false := by
           rw [listedQ_succ hi', hw]
           simp at h4 ⊢
           omega
         rw [listedB_false hi' hq]
       · refine ⟨j + 1 + 1, ⟨hi', range_all_succ hi.2 (by rw [listedQ_succ hi', hw]; simp at h4 ⊢; omega)⟩, ?_, by omega⟩
         refine Weak.cut (0) (by simp) (by simp) ?_ ?_
         · rw [wrap_i64 (by omega) (by omega)]
           simp [LeC, LeV, ren, cutF, hvc2, hkc2]
         · rfl
     · have h0 : i = 0 := by simp at h3; omega
       refine ⟨i + 1, ⟨hi', range_all_succ hi.2 (by subst h0; rw [listedQ_zero hi', hw])⟩, ?_, by omega⟩
       refine Weak.cut (0) (by simp) (by simp) ?_ ?_
       · rw [wrap_i64 (by omega) (by omega)]
         simp [LeC, LeV, ren, cutF, hvc2, hkc2]
       · rfl
   · have hw : p L[i] = false := by simpa using h2
     refine WeakR.drop' ?_ rfl
     have hq : listedQ p key L i = false := by simp [listedQ, hi', hw]
     rw [listedB_false hi' hq]
 · simp -implicitDefEqProofs -dsimp only [go_sem, h1]
   refine WeakR.drop' ?_ rfl
   have : i = L.length := by simp at h1; omega
   subst this
   rw [listedB, hi.2]
   simp
   try omega
end Go.Proofs
end
section
set_option linter.unusedSimpArgs false
set_option linter.unusedVariables false
set_option maxRecDepth 100000
namespace Go.Proofs
open Go.Lv
structure Watch where
 Now : Int
 Posts : List Post
 Shocks : List Shock
 Next : Int
 Archived : Int
def Watch.cs (r : Watch) : List V := [.int .i64 r.Now, .sl r.Posts.length 3 (Go.Lv.rows Post.cs r.Posts), .sl r.Shocks.length 5 (Go.Lv.rows Shock.cs r.Shocks), .int .i64 r.Next, .int .i64 r.Archived]
def Watch.v (r : Watch) : V := .agg [.int .i64 r.Now, .sl r.Posts.length 3 (Go.Lv.rows Post.cs r.Posts), .sl r.Shocks.length 5 (Go.Lv.rows Shock.cs r.Shocks), .int .i64 r.Next, .int .i64 r.Archived]
def Watch.o (r : Watch) (i0 i1 : Nat) : V := .agg [.int .i64 r.Now, .osl i0 0 r.Posts.length 3, .osl i1 0 r.Shocks.length 5, .int .i64 r.Next, .int .i64 r.Archived]
theorem Watch.csl (a : Watch) : a.cs.length = 5 := rfl
def Watch.ok (r : Watch) : Prop := i64R r.Now ∧ lstR Post.ok r.Posts ∧ lstR Shock.ok r.Shocks ∧ i64R r.Next ∧ i64R r.Archived
theorem Watch.le {h : Hp} {r : Watch} {i0 i1 : Nat} (h0 : h[i0]? = some (some (rows Post.cs r.Posts))) (h1 : h[i1]? = some (some (rows Shock.cs r.Shocks))) : LeV (ren (snapR h 3) 3 (r.o i0 i1)) r.v := by
 refine .inl ?_
 simp only [Watch.o, Watch.v, ren, List.map_cons, List.map_nil, snapR, h0, h1, map_ren_rows, List.drop_zero, take_rows]
end Go.Proofs
end
section
set_option linter.unusedSimpArgs false
set_option linter.unusedVariables false
set_option maxRecDepth 100000
namespace Go.Proofs
open Go.Lv
def postB (now : Int) (p : Post) : Bool := inB' p.Station 1 99 && inB' p.Since 0 now
def shockB (next now : Int) (x : Shock) : Bool := inB' x.Number 1 (next - 1) && inB' x.State 0 3 && inB' x.Seen 0 8 && inB' x.Size (-20) 95 && (x.State != 0 || x.Size == 0) && inB' x.Tick 0 now
def countsB (w : Watch) : Bool := inB' w.Now 0 1000000 && inB' w.Next 1 999 && inB' w.Archived 0 999
def wB (w : Watch) : Bool := countsB w && listedB (postB w.Now) Post.Station 8 w.Posts && listedB (shockB w.Next w.Now) Shock.Number 6 w.Shocks
theorem countsB_iff {w : Watch} : countsB w = true ↔ (0 ≤ w.Now ∧ w.Now ≤ 1000000) ∧ (1 ≤ w.Next ∧ w.Next ≤ 999) ∧ 0 ≤ w.Archived ∧ w.Archived ≤ 999 := by simp [countsB, inB', and_assoc]
theorem postB_iff {now : Int} {p : Post} : postB now p = true ↔ (1 ≤ p.Station ∧ p.Station ≤ 99) ∧ 0 ≤ p.Since ∧ p.Since ≤ now := by simp [postB, inB', and_assoc]
theorem shockB_iff {next now : Int} {x : Shock} : shockB next now x = true ↔ (1 ≤ x.Number ∧ x.Number ≤ next - 1) ∧ (0 ≤ x.State ∧ x.State ≤ 3) ∧ (0 ≤ x.Seen ∧ x.Seen ≤ 8) ∧ (-20 ≤ x.Size ∧ x.Size ≤ 95) ∧ (x.State ≠ 0 ∨ x.Size = 0) ∧ 0 ≤ x.Tick ∧ x.Tick ≤ now := by
 simp [shockB, inB', and_assoc]
structure WatchOk (w : Watch) : Prop where
 now : 0 ≤ w.Now ∧ w.Now ≤ 1000000
 next : 1 ≤ w.Next ∧ w.Next ≤ 999
 arch : 0 ≤ w.Archived ∧ w.Archived ≤ 999
 posts : ∀ p ∈ w.Posts, postB w.Now p = true
 plen : w.Posts.length ≤ 8
 shocks : ∀ x ∈ w.Shocks, shockB w.Next w.Now x = true
 slen : w.Shocks.length ≤ 6
 pasc : (w.Posts.map Post.Station).Pairwise (· < ·)
 sasc : (w.Shocks.map Shock.Number).Pairwise (· < ·)
theorem wB_ok {w : Watch} (h : wB w = true) : WatchOk w := by
 simp only [wB, Bool.and_eq_true] at h
 obtain ⟨⟨h1, h2⟩, h3⟩ := h
 obtain ⟨a, b, c⟩ := countsB_iff.1 h1
 obtain ⟨d, e⟩ := listedB_all h2
 obtain ⟨f, g⟩ := listedB_all h3
 exact ⟨a, b, c, d, e, f, g, listedB_lt h2, listedB_lt h3⟩
theorem isPost_ok (w : Watch) (p : Post) : Ctr Try.prog 81 [p.v, .pt w.cs] [] (.bool (postB w.Now p)) [] := by
 refine Ctr.intro Try.mixed Try.func81 rfl Try.okF81 ?_
 simp -implicitDefEqProofs -dsimp only [go_sem, Try.ntmps81, Try.results81]
 simp -implicitDefEqProofs -dsimp only [go_sem, Post.v, Watch.cs]
 repeat' (first | (refine WeakR.drop' ?_ (by rfl); first | rfl | (simp [postB, *]; done)) | ((first | refine callT.at (in_ok _ _ _) ⟨leA, leA, leA, trivial⟩ ?_ | refine callS.at (in_ok _ _ _) ⟨leA, leA, leA, trivial⟩ ?_); simp -implicitDefEqProofs -dsimp only [go_sem, *]) | ((first | refine callT.at (isStationId_ok _) ⟨leA, trivial⟩ ?_ | refine callS.at (isStationId_ok _) ⟨leA, trivial⟩ ?_); simp -implicitDefEqProofs -dsimp only [go_sem, *]) | (refine guardT.splitT (fun _ => ?_) (fun _ => ?_) <;> simp -implicitDefEqProofs -dsimp only [go_sem, *]) | (refine guardT.splitF (fun _ => ?_) (fun _ => ?_) <;> simp -implicitDefEqProofs -dsimp only [go_sem, *]) | (refine condT.split (fun _ => ?_) (fun _ => ?_) <;> simp -implicitDefEqProofs -dsimp only [go_sem, *]))
theorem isShock_ok (w : Watch) (hw : 1 ≤ w.Next ∧ w.Next ≤ 999) (x : Shock) : Ctr Try.prog 83 [x.v, .pt w.cs] [] (.bool (shockB w.Next w.Now x)) [] := by
 refine Ctr.intro Try.mixed Try.func83 rfl Try.okF83 ?_
 simp -implicitDefEqProofs -dsimp only [go_sem, Try.ntmps83, Try.results83]
 simp -implicitDefEqProofs -dsimp only [go_sem, Shock.v, Watch.cs]
 have hw1 : IntKind.i64.wrap (w.Next - 1) = w.Next - 1 := wrap_i64 (by omega) (by omega)
 repeat' (first | (refine WeakR.drop' ?_ (by rfl); first | rfl | (simp [shockB, *]; done)) | ((first | refine callT.at (in_ok _ _ _) ⟨leA, leA, leA, trivial⟩ ?_ | refine callS.at (in_ok _ _ _) ⟨leA, leA, leA, trivial⟩ ?_); simp -implicitDefEqProofs -dsimp only [go_sem, *]) | ((first | refine callT.at (isQuakeSize_ok _) ⟨leA, trivial⟩ ?_ | refine callS.at (isQuakeSize_ok _) ⟨leA, trivial⟩ ?_); simp -implicitDefEqProofs -dsimp only [go_sem, *]) | (refine guardT.splitT (fun _ => ?_) (fun _ => ?_) <;> simp -implicitDefEqProofs -dsimp only [go_sem, *]) | (refine guardT.splitF (fun _ => ?_) (fun _ => ?_) <;> simp -implicitDefEqProofs -dsimp only [go_sem, *]))
theorem stationOf_ok (p : Post) : Ctr Try.prog 87 [p.v] [] (.int .i64 p.Station) [] := by
 refine Ctr.intro Try.mixed Try.func87 rfl Try.okF87 ?_
 simp -implicitDefEqProofs -dsimp only [go_sem, Try.ntmps87, Try.results87]
 simp -implicitDefEqProofs -dsimp only [go_sem, Post.v]
 exact WeakR.drop' rfl (by rfl)
theorem numberOf_ok (x : Shock) : Ctr Try.prog 89 [x.v] [] (.int .i64 x.Number) [] := by
 refine Ctr.intro Try.mixed Try.func89 rfl Try.okF89 ?_
 simp -implicitDefEqProofs -dsimp only [go_sem, Try.ntmps89, Try.results89]
 simp -implicitDefEqProofs -dsimp only [go_sem, Shock.v]
 exact WeakR.drop' rfl (by rfl)
theorem iIsWatch_ok (w : Watch) (hp : w.Posts.length ≤ 281474976710656) (hs : w.Shocks.length ≤ 281474976710656) : Ctr Try.prog 22 [w.v] [] (.bool (wB w)) [] := by
 refine Ctr.intro Try.mixed Try.func22 rfl Try.okF22 ?_
 simp -implicitDefEqProofs -dsimp only [go_sem, Try.ntmps22, Try.results22]
 simp -implicitDefEqProofs -dsimp only [go_sem, Watch.v]
 have fin : ∀ b, b = wB w → WeakR 0 (.bool b) [some w.cs] (.bool (wB w)) [] := fun b h => WeakR.drop' (by rw [h]) (by rfl)
 (first | refine callT.at (isTick_ok _) ⟨leA, trivial⟩ ?_ | refine callS.at (isTick_ok _) ⟨leA, trivial⟩ ?_)
 simp -implicitDefEqProofs -dsimp only [go_sem]
 refine guardT.splitT (fun h1 => ?_) (fun h1 => ?_) <;> simp -implicitDefEqProofs -dsimp only [go_sem, h1]
 rotate_left
 · exact WeakR.drop' (by simp [wB, countsB, h1]) (by rfl)
 (first | refine callT.at (in_ok _ _ _) ⟨leA, leA, leA, trivial⟩ ?_ | refine callS.at (in_ok _ _ _) ⟨leA, leA, leA, trivial⟩ ?_)
 simp -implicitDefEqProofs -dsimp only [go_sem, h1]
 refine guardT.splitT (fun h2 => ?_) (fun h2 => ?_) <;> simp -implicitDefEqProofs -dsimp only [go_sem, h1, h2]
 rotate_left
 · exact WeakR.drop' (by simp [wB, countsB, h1, h2]) (by rfl)
 (first | refine callT.at (in_ok _ _ _) ⟨leA, leA, leA, trivial⟩ ?_ | refine callS.at (in_ok _ _ _) ⟨leA, leA, leA, trivial⟩ ?_)
 simp -implicitDefEqProofs -dsimp only [go_sem, h1, h2]
 refine guardT.splitT (fun h3 => ?_) (fun h3 => ?_) <;> simp -implicitDefEqProofs -dsimp only [go_sem, h1, h2, h3]
 rotate_left
 · exact WeakR.drop' (by simp [wB, countsB, h1, h2, h3]) (by rfl)
 have hc : countsB w = true := by simp [countsB, h1, h2, h3]
 have hw := (countsB_iff.1 hc).2.1
 (first | refine callT.at (areListedPost_ok w.Posts (postB w.Now) Post.Station 8 _ _ [.pt w.cs] [] (fun d => by cases d <;> rfl) (fun _ => rfl) (fun x => isPost_ok w x) stationOf_ok 8 rfl hp) ⟨leA, leA, leA, leA, trivial⟩ ?_ | refine callS.at (areListedPost_ok w.Posts (postB w.Now) Post.Station 8 _ _ [.pt w.cs] [] (fun d => by cases d <;> rfl) (fun _ => rfl) (fun x => isPost_ok w x) stationOf_ok 8 rfl hp) ⟨leA, leA, leA, leA, trivial⟩ ?_)
 simp -implicitDefEqProofs -dsimp only [go_sem, h1, h2, h3]
 refine guardT.splitT (fun h4 => ?_) (fun h4 => ?_) <;> simp -implicitDefEqProofs -dsimp only [go_sem, h1, h2, h3, h4]
 rotate_left
 · exact WeakR.drop' (by simp [wB, hc, h4]) (by rfl)
 (first | refine callT.at (areListedShock_ok w.Shocks (shockB w.Next w.Now) Shock.Number 6 _ _ [.pt w.cs] [] (fun d => by cases d <;> rfl) (fun _ => rfl) (fun x => isShock_ok w hw x) numberOf_ok 6 rfl hs) ⟨leA, leA, leA, leA, trivial⟩ ?_ | refine callS.at (areListedShock_ok w.Shocks (shockB w.Next w.Now) Shock.Number 6 _ _ [.pt w.cs] [] (fun d => by cases d <;> rfl) (fun _ => rfl) (fun x => isShock_ok w hw x) numberOf_ok 6 rfl hs) ⟨leA, leA, leA, leA, trivial⟩ ?_)
 simp -implicitDefEqProofs -dsimp only [go_sem, h1, h2, h3, h4]
 exact WeakR.drop' (by simp [wB, hc, h4]) (by rfl)
theorem listedB_of {α : Type} {p : α → Bool} {k : α → Int} {m : Nat} {L : List α} (h : (List.range L.length).all (listedQ p k L) = true) (hm : L.length ≤ m) : listedB p k m L = true := by
 simp [listedB, h, hm]
theorem l25Shock_ok (w : Watch) (hw : 1 ≤ w.Next ∧ w.Next ≤ 999) (x : Shock) : Ctr Try.prog 152 [w.v, x.v] [] (.bool (shockB w.Next w.Now x)) [] := by
 refine Ctr.intro Try.mixed Try.func152 rfl Try.okF152 ?_
 simp -implicitDefEqProofs -dsimp only [go_sem, Try.ntmps152, Try.results152]
 simp -implicitDefEqProofs -dsimp only [go_sem, Shock.v, Watch.v]
 have hw1 : IntKind.i64.wrap (w.Next - 1) = w.Next - 1 := wrap_i64 (by omega) (by omega)
 repeat' (first | (refine WeakR.drop' ?_ (by rfl); first | rfl | (simp [shockB, *]; done)) | ((first | refine callT.at (l1In_ok _ _ _) ⟨leA, leA, leA, trivial⟩ ?_ | refine callS.at (l1In_ok _ _ _) ⟨leA, leA, leA, trivial⟩ ?_); simp -implicitDefEqProofs -dsimp only [go_sem, *]) | (refine guardT.splitT (fun _ => ?_) (fun _ => ?_) <;> simp -implicitDefEqProofs -dsimp only [go_sem, *]) | (refine guardT.splitF (fun _ => ?_) (fun _ => ?_) <;> simp -implicitDefEqProofs -dsimp only [go_sem, *]))
theorem l25Good_ok (w : Watch) (hp : w.Posts.length ≤ 281474976710656) (hs : w.Shocks.length ≤ 281474976710656) : Ctr Try.prog 76 [w.v] [] (.bool (wB w)) [] := by
 refine Ctr.intro Try.mixed Try.func76 rfl Try.okF76 ?_
 simp -implicitDefEqProofs -dsimp only [go_sem, Try.ntmps76, Try.results76]
 simp -implicitDefEqProofs -dsimp only [go_sem, Watch.v]
 (first | refine callT.at (l2Tick_ok _) ⟨leA, trivial⟩ ?_ | refine callS.at (l2Tick_ok _) ⟨leA, trivial⟩ ?_)
 simp -implicitDefEqProofs -dsimp only [go_sem]
 refine guardT.splitF (fun h1 => ?_) (fun h1 => ?_) <;> simp -implicitDefEqProofs -dsimp only [go_sem, h1]
 rotate_left
 · exact WeakR.drop' (by simp at h1; simp [wB, countsB, h1]) (by rfl)
 refine guardT.splitF (fun h2 => ?_) (fun h2 => ?_) <;> simp -implicitDefEqProofs -dsimp only [go_sem, h2]
 rotate_left
 · have : ¬ w.Posts.length ≤ 8 := by simp at h2; omega
   exact WeakR.drop' (by simp [wB, listedB, this]) (by rfl)
 refine guardT.splitF (fun h3 => ?_) (fun h3 => ?_) <;> simp -implicitDefEqProofs -dsimp only [go_sem, h3]
 rotate_left
 · have : ¬ w.Shocks.length ≤ 6 := by simp at h3; omega
   exact WeakR.drop' (by simp [wB, listedB, this]) (by rfl)
 (first | refine callT.at (l1In_ok _ _ _) ⟨leA, leA, leA, trivial⟩ ?_ | refine callS.at (l1In_ok _ _ _) ⟨leA, leA, leA, trivial⟩ ?_)
 simp -implicitDefEqProofs -dsimp only [go_sem]
 refine guardT.splitF (fun h4 => ?_) (fun h4 => ?_) <;> simp -implicitDefEqProofs -dsimp only [go_sem, h4]
 rotate_left
 · exact WeakR.drop' (by simp at h4; simp [wB, countsB, h4]) (by rfl)
 (first | refine callT.at (l1In_ok _ _ _) ⟨leA, leA, leA, trivial⟩ ?_ | refine callS.at (l1In_ok _ _ _) ⟨leA, leA, leA, trivial⟩ ?_)
 simp -implicitDefEqProofs -dsimp only [go_sem]
 refine condT.split (fun h5 => ?_) (fun h5 => ?_) <;> simp -implicitDefEqProofs -dsimp only [go_sem, h5]
 · exact WeakR.drop' (by simp at h5; simp [wB, countsB, h5]) (by rfl)
 have hc : countsB w = true := by simp at h1 h4 h5; simp [countsB, h1, h4, h5]
 have hcn := countsB_iff.1 hc
 have hpl : w.Posts.length ≤ 8 := by simp at h2; omega
 have hsl : w.Shocks.length ≤ 6 := by simp at h3; omega
 clear h1 h2 h3 h4 h5
 refine LoopT.intro (fun i : Nat => i ≤ (w.Posts).length ∧ (List.range i).all (listedQ (postB w.Now) Post.Station (w.Posts)) = true) (fun i => ⟨[.undef, .ptr 0 0, .undef, .int .i64 i, .undef, .undef, .undef, .undef, .undef, .undef, .undef, .undef, .undef, .undef, .undef, .undef, .undef, .undef, .undef, .undef, .undef, .undef, .undef, .undef, .undef, .undef, .undef, .undef, .undef, .undef, .undef, .undef, .undef, .undef, .undef, .undef, .undef, .undef, .undef, .undef, .undef, .undef, .undef, .undef, .undef, .undef, .undef, .undef, .undef, .undef, .undef, .undef, .undef, .undef, .undef, .undef, .undef, .undef, .undef, .undef, .undef, .undef, .undef, .undef, .undef, .undef, .undef, .undef, .undef, .undef, .undef, .undef, .undef, .undef, .undef, .undef, .undef, .undef, .undef, .undef, .undef, .undef, .undef, .undef, .undef, .undef, .undef, .undef, .undef, .undef, .undef, .undef, .undef, .undef, .undef, .undef, .undef, .undef, .undef, .undef, .undef, .undef, .undef, .undef, .undef, .undef, .undef, .undef, .undef], [some w.cs], 0⟩) (fun i => (w.Posts).length - i) 0 ⟨Nat.zero_le _, rfl⟩ ?_ (fun i hi => ?_)
 · refine Weak.cut (1) (by simp) (by simp) ?_ ?_
   · simp [LeC, LeV, ren, cutF]
   · first | rfl | simp [cutH, cutB, ren, map_ren_rows, Watch.cs]
 simp -implicitDefEqProofs -dsimp only [go_sem, Watch.cs]
 refine condT.split (fun h1 => ?_) (fun h1 => ?_)
 rotate_left
 · simp -implicitDefEqProofs -dsimp only [go_sem, h1, Watch.cs]
   have hi' : i = (w.Posts).length := by simp at h1; omega
   subst hi'
   have hpq := listedB_of hi.2 hpl
   refine LoopT.intro (fun i : Nat => i ≤ (w.Shocks).length ∧ (List.range i).all (listedQ (shockB w.Next w.Now) Shock.Number (w.Shocks)) = true) (fun i => ⟨[.undef, .ptr 0 0, .undef, .undef, .undef, .int .i64 i, .undef, .undef, .undef, .undef, .undef, .undef, .undef, .undef, .undef, .undef, .undef, .undef, .undef, .undef, .undef, .undef, .undef, .undef, .undef, .undef, .undef, .undef, .undef, .undef, .undef, .undef, .undef, .undef, .undef, .undef, .undef, .undef, .undef, .undef, .undef, .undef, .undef, .undef, .undef, .undef, .undef, .undef, .undef, .undef, .undef, .undef, .undef, .undef, .undef, .undef, .undef, .undef, .undef, .undef, .undef, .undef, .undef, .undef, .undef, .undef, .undef, .undef, .undef, .undef, .undef, .undef, .undef, .undef, .undef, .undef, .undef, .undef, .undef, .undef, .undef, .undef, .undef, .undef, .undef, .undef, .undef, .undef, .undef, .undef, .undef, .undef, .undef, .undef, .undef, .undef, .undef, .undef, .undef, .undef, .undef, .undef, .undef, .undef, .undef, .undef, .undef, .undef, .undef], [some w.cs], 0⟩) (fun i => (w.Shocks).length - i) 0 ⟨Nat.zero_le _, rfl⟩ ?_ (fun i hi => ?_)
   · refine Weak.cut (1) (by simp) (by simp) ?_ ?_
     · simp [LeC, LeV, ren, cutF]
     · first | rfl | simp [cutH, cutB, ren, map_ren_rows, Watch.cs]
   simp -implicitDefEqProofs -dsimp only [go_sem, Watch.cs]
   refine condT.split (fun h1 => ?_) (fun h1 => ?_)
   rotate_left
   · simp -implicitDefEqProofs -dsimp only [go_sem, h1, Watch.cs]
     have hi' : i = (w.Shocks).length := by simp at h1; omega
     subst hi'
     exact WeakR.drop' (by rw [wB, hc, hpq, listedB_of hi.2 hsl]; rfl) (by rfl)
   · simp -implicitDefEqProofs -dsimp only [go_sem, h1, Watch.cs]
     have hi' : i < (w.Shocks).length := by simpa using h1
     have h5 := Shock.csl (w.Shocks)[i]
     have hr := rows_at Shock.csl hi'
     have hbad : listedQ (shockB w.Next w.Now) Shock.Number (w.Shocks) i = false → _ := fun hq => (show V.bool false = V.bool (wB w) by rw [wB, listedB_false hi' hq]; simp)
     cases i with
     | zero =>
       have hz : ((0 : Nat) : Int) = 0 := rfl
       have hr0 := hr
       rw [Nat.zero_mul, List.drop_zero] at hr0
       (repeat ((repeat1' (first | simp -implicitDefEqProofs -dsimp only [go_sem, hr, hr0, hz, Shock.cs, Watch.cs] | simp -dsimp (disch := omega) only [wrap_i64])); repeat (with_reducible refine sideA ?_)))
       repeat' (first | (refine WeakR.drop' (hbad ?_) (by rfl); (rw [listedQ_zero hi']; (try simp only [Bool.not_eq_false', Bool.not_eq_true', decide_eq_false_iff_not, decide_eq_true_eq] at *); simp [*]; try omega; done)) | ((first | refine callT.at (l25Shock_ok w hcn.2.1 (w.Shocks[0])) ⟨leA, leA, trivial⟩ ?_ | refine callS.at (l25Shock_ok w hcn.2.1 (w.Shocks[0])) ⟨leA, leA, trivial⟩ ?_); simp -implicitDefEqProofs -dsimp only [go_sem, *, Watch.cs]) | (refine guardT.splitT (fun _ => ?_) (fun _ => ?_) <;> simp -implicitDefEqProofs -dsimp only [go_sem, *, Watch.cs]) | (refine guardT.splitF (fun _ => ?_) (fun _ => ?_) <;> simp -implicitDefEqProofs -dsimp only [go_sem, *, Watch.cs]) | (refine condT.split (fun _ => ?_) (fun _ => ?_) <;> simp -implicitDefEqProofs -dsimp only [go_sem, *, Watch.cs]) | (with_reducible refine And.intro (by first | omega | (show drawOk _ = true; kernel_rfl)) ?_; (repeat ((repeat1' (first | simp -implicitDefEqProofs -dsimp only [go_sem, *, Shock.cs, Watch.cs] | simp -dsimp (disch := omega) only [wrap_i64])); repeat (with_reducible refine sideA ?_)))) | (refine ⟨0 + 1, ⟨hi', range_all_succ hi.2 (by rw [listedQ_zero hi']; (try simp only [Bool.not_eq_false', Bool.not_eq_true', decide_eq_false_iff_not, decide_eq_true_eq] at *); simp [*]; try omega)⟩, ?_, by omega⟩; refine Weak.cut (1) (by simp) (by simp) ?_ ?_; (· (try (repeat1' (first | simp -implicitDefEqProofs -dsimp only [go_sem] | simp -dsimp (disch := omega) only [wrap_i64])); simp [LeC, LeV, ren, cutF]; try omega)); (· (first | rfl | simp [cutH, cutB, ren, map_ren_rows, Watch.cs]))))
     | succ j =>
       have hj : j < (w.Shocks).length := by omega
       have hw1 : IntKind.i64.wrap (((j + 1 : Nat) : Int) - 1) = (j : Int) := by rw [wrap_i64 (by omega) (by omega)]; omega
       have hg : decide ((0 : Int) < ((j + 1 : Nat) : Int)) = true := decide_eq_true (by omega)
       have hr2 := rows_at Shock.csl hj
       (repeat ((repeat1' (first | simp -implicitDefEqProofs -dsimp only [go_sem, hr, hg, hw1, hr2, Shock.cs, Watch.cs] | simp -dsimp (disch := omega) only [wrap_i64])); repeat (with_reducible refine sideA ?_)))
       repeat' (first | (refine WeakR.drop' (hbad ?_) (by rfl); (rw [listedQ_succ hi']; (try simp only [Bool.not_eq_false', Bool.not_eq_true', decide_eq_false_iff_not, decide_eq_true_eq] at *); simp [*]; try omega; done)) | ((first | refine callT.at (l25Shock_ok w hcn.2.1 (w.Shocks[j + 1])) ⟨leA, leA, trivial⟩ ?_ | refine callS.at (l25Shock_ok w hcn.2.1 (w.Shocks[j + 1])) ⟨leA, leA, trivial⟩ ?_); simp -implicitDefEqProofs -dsimp only [go_sem, *, Watch.cs]) | (refine guardT.splitT (fun _ => ?_) (fun _ => ?_) <;> simp -implicitDefEqProofs -dsimp only [go_sem, *, Watch.cs]) | (refine guardT.splitF (fun _ => ?_) (fun _ => ?_) <;> simp -implicitDefEqProofs -dsimp only [go_sem, *, Watch.cs]) | (refine condT.split (fun _ => ?_) (fun _ => ?_) <;> simp -implicitDefEqProofs -dsimp only [go_sem, *, Watch.cs]) | (with_reducible refine And.intro (by first | omega | (show drawOk _ = true; kernel_rfl)) ?_; (repeat ((repeat1' (first | simp -implicitDefEqProofs -dsimp only [go_sem, *, Shock.cs, Watch.cs] | simp -dsimp (disch := omega) only [wrap_i64])); repeat (with_reducible refine sideA ?_)))) | (refine ⟨j + 1 + 1, ⟨hi', range_all_succ hi.2 (by rw [listedQ_succ hi']; (try simp only [Bool.not_eq_false', Bool.not_eq_true', decide_eq_false_iff_not, decide_eq_true_eq] at *); simp [*]; try omega)⟩, ?_, by omega⟩; refine Weak.cut (1) (by simp) (by simp) ?_ ?_; (· (try (repeat1' (first | simp -implicitDefEqProofs -dsimp only [go_sem] | simp -dsimp (disch := omega) only [wrap_i64])); simp [LeC, LeV, ren, cutF]; try omega)); (· (first | rfl | simp [cutH, cutB, ren, map_ren_rows, Watch.cs]))))
 · simp -implicitDefEqProofs -dsimp only [go_sem, h1, Watch.cs]
   have hi' : i < (w.Posts).length := by simpa using h1
   have h5 := Post.csl (w.Posts)[i]
   have hr := rows_at Post.csl hi'
   have hbad : listedQ (postB w.Now) Post.Station (w.Posts) i = false → _ := fun hq => (show V.bool false = V.bool (wB w) by rw [wB, listedB_false hi' hq]; simp)
   cases i with
   | zero =>
     have hz : ((0 : Nat) : Int) = 0 := rfl
     have hr0 := hr
     rw [Nat.zero_mul, List.drop_zero] at hr0
     (repeat ((repeat1' (first | simp -implicitDefEqProofs -dsimp only [go_sem, hr, hr0, hz, Post.cs, Watch.cs] | simp -dsimp (disch := omega) only [wrap_i64])); repeat (with_reducible refine sideA ?_)))
     repeat' (first | (refine WeakR.drop' (hbad ?_) (by rfl); (rw [listedQ_zero hi']; (try simp only [Bool.not_eq_false', Bool.not_eq_true', decide_eq_false_iff_not, decide_eq_true_eq] at *); simp [postB, *]; try omega; done)) | ((first | refine callT.at (l1In_ok _ _ _) ⟨leA, leA, leA, trivial⟩ ?_ | refine callS.at (l1In_ok _ _ _) ⟨leA, leA, leA, trivial⟩ ?_); simp -implicitDefEqProofs -dsimp only [go_sem, *, Watch.cs]) | (refine guardT.splitT (fun _ => ?_) (fun _ => ?_) <;> simp -implicitDefEqProofs -dsimp only [go_sem, *, Watch.cs]) | (refine guardT.splitF (fun _ => ?_) (fun _ => ?_) <;> simp -implicitDefEqProofs -dsimp only [go_sem, *, Watch.cs]) | (refine condT.split (fun _ => ?_) (fun _ => ?_) <;> simp -implicitDefEqProofs -dsimp only [go_sem, *, Watch.cs]) | (with_reducible refine And.intro (by first | omega | (show drawOk _ = true; kernel_rfl)) ?_; (repeat ((repeat1' (first | simp -implicitDefEqProofs -dsimp only [go_sem, *, Post.cs, Watch.cs] | simp -dsimp (disch := omega) only [wrap_i64])); repeat (with_reducible refine sideA ?_)))) | (refine ⟨0 + 1, ⟨hi', range_all_succ hi.2 (by rw [listedQ_zero hi']; (try simp only [Bool.not_eq_false', Bool.not_eq_true', decide_eq_false_iff_not, decide_eq_true_eq] at *); simp [postB, *]; try omega)⟩, ?_, by omega⟩; refine Weak.cut (1) (by simp) (by simp) ?_ ?_; (· (try (repeat1' (first | simp -implicitDefEqProofs -dsimp only [go_sem] | simp -dsimp (disch := omega) only [wrap_i64])); simp [LeC, LeV, ren, cutF]; try omega)); (· (first | rfl | simp [cutH, cutB, ren, map_ren_rows, Watch.cs]))))
   | succ j =>
     have hj : j < (w.Posts).length := by omega
     have hw1 : IntKind.i64.wrap (((j + 1 : Nat) : Int) - 1) = (j : Int) := by rw [wrap_i64 (by omega) (by omega)]; omega
     have hg : decide ((0 : Int) < ((j + 1 : Nat) : Int)) = true := decide_eq_true (by omega)
     have hr2 := rows_at Post.csl hj
     (repeat ((repeat1' (first | simp -implicitDefEqProofs -dsimp only [go_sem, hr, hg, hw1, hr2, Post.cs, Watch.cs] | simp -dsimp (disch := omega) only [wrap_i64])); repeat (with_reducible refine sideA ?_)))
     repeat' (first | (refine WeakR.drop' (hbad ?_) (by rfl); (rw [listedQ_succ hi']; (try simp only [Bool.not_eq_false', Bool.not_eq_true', decide_eq_false_iff_not, decide_eq_true_eq] at *); simp [postB, *]; try omega; done)) | ((first | refine callT.at (l1In_ok _ _ _) ⟨leA, leA, leA, trivial⟩ ?_ | refine callS.at (l1In_ok _ _ _) ⟨leA, leA, leA, trivial⟩ ?_); simp -implicitDefEqProofs -dsimp only [go_sem, *, Watch.cs]) | (refine guardT.splitT (fun _ => ?_) (fun _ => ?_) <;> simp -implicitDefEqProofs -dsimp only [go_sem, *, Watch.cs]) | (refine guardT.splitF (fun _ => ?_) (fun _ => ?_) <;> simp -implicitDefEqProofs -dsimp only [go_sem, *, Watch.cs]) | (refine condT.split (fun _ => ?_) (fun _ => ?_) <;> simp -implicitDefEqProofs -dsimp only [go_sem, *, Watch.cs]) | (with_reducible refine And.intro (by first | omega | (show drawOk _ = true; kernel_rfl)) ?_; (repeat ((repeat1' (first | simp -implicitDefEqProofs -dsimp only [go_sem, *, Post.cs, Watch.cs] | simp -dsimp (disch := omega) only [wrap_i64])); repeat (with_reducible refine sideA ?_)))) | (refine ⟨j + 1 + 1, ⟨hi', range_all_succ hi.2 (by rw [listedQ_succ hi']; (try simp only [Bool.not_eq_false', Bool.not_eq_true', decide_eq_false_iff_not, decide_eq_true_eq] at *); simp [postB, *]; try omega)⟩, ?_, by omega⟩; refine Weak.cut (1) (by simp) (by simp) ?_ ?_; (· (try (repeat1' (first | simp -implicitDefEqProofs -dsimp only [go_sem] | simp -dsimp (disch := omega) only [wrap_i64])); simp [LeC, LeV, ren, cutF]; try omega)); (· (first | rfl | simp [cutH, cutB, ren, map_ren_rows, Watch.cs]))))
theorem sIsWatch_ok (w : Watch) (hp : w.Posts.length ≤ 281474976710656) (hs : w.Shocks.length ≤ 281474976710656) : Ctr Try.prog 23 [w.v] [] (.bool (wB w)) [] := by
 refine Ctr.intro Try.mixed Try.func23 rfl Try.okF23 ?_
 simp -implicitDefEqProofs -dsimp only [go_sem, Try.ntmps23, Try.results23]
 simp -implicitDefEqProofs -dsimp only [go_sem, Watch.v]
 (first | refine callT.at (l25Good_ok w hp hs) ⟨leA, trivial⟩ ?_ | refine callS.at (l25Good_ok w hp hs) ⟨leA, trivial⟩ ?_)
 simp -implicitDefEqProofs -dsimp only [go_sem]
 exact WeakR.drop' rfl (by rfl)
end Go.Proofs
end
section
set_option linter.unusedSimpArgs false
set_option linter.unusedVariables false
namespace Go.Lv
def idxI {α : Type} (p : α → Bool) (L : List α) : Int := match L.findIdx? p with
 | some i => i
 | none => -1
theorem idxI_found {α : Type} {p : α → Bool} {L : List α} {i : Nat} (h : i < L.length) (h0 : (L.take i).any p = false) (h1 : p L[i] = true) : idxI p L = i := by
 have : L.findIdx? p = some i := by
   rw [List.findIdx?_eq_some_iff_getElem]
   refine ⟨h, h1, fun j hj => ?_⟩
   have := List.any_eq_false.1 h0 L[j] (by rw [List.mem_take_iff_getElem]; exact ⟨j, by omega, rfl⟩)
   simpa using this
 simp [idxI, this]
theorem idxI_none {α : Type} {p : α → Bool} {L : List α} (h : L.any p = false) : idxI p L = -1 := by
 have : L.findIdx? p = none := by
   rw [List.findIdx?_eq_none_iff]
   intro x hx
   have := List.any_eq_false.1 h x hx
   simpa using this
 simp [idxI, this]
end Go.Lv
end
section
set_option linter.unusedSimpArgs false
set_option linter.unusedVariables false
set_option maxRecDepth 100000
namespace Go.Proofs
open Go.Lv
theorem indexFuncPost_ok (L : List Post) (p : Post → Bool) (fv : Nat) (vc : List V) (hvc : ∀ d, vc.all (noOwn d) = true) (hv : ∀ x, Ctr Try.prog fv (Post.v x :: vc) [] (.bool (p x)) []) (hl : L.length ≤ 281474976710656) :
   Ctr Try.prog 184 [Post.sl L, .fn (.func fv) [] vc] [] (.int .i64 (idxI p L)) [] := by
 refine Ctr.intro Try.mixed Try.func184 rfl Try.okF184 ?_
 simp -implicitDefEqProofs -dsimp only [go_sem, Try.ntmps184, Try.results184]
 have hvc2 : ∀ f d, vc.map (ren f d) = vc := fun f d => map_ren f (hvc d)
 refine LoopT.intro (fun i : Nat => i ≤ L.length ∧ (L.take i).any p = false) (fun i => ⟨[Post.sl L, .fn (.func fv) [] vc, .undef, .undef, .undef, .undef, .undef, .int .i64 L.length, .int .i64 i, .undef, .undef, .undef, .undef, .undef, .undef, .undef, .undef, .undef, .undef], [], 0⟩) (fun i => L.length - i) 0 ⟨Nat.zero_le _, rfl⟩ ?_ (fun i hi => ?_)
 · refine Weak.cut (0) (by simp) (by simp) ?_ ?_
   · simp [LeC, LeV, ren, cutF, hvc2]
   · rfl
 simp -implicitDefEqProofs -dsimp only [go_sem]
 refine condT.split (fun h1 => ?_) (fun h1 => ?_)
 · simp -implicitDefEqProofs -dsimp only [go_sem, h1]
   have hi' : i < L.length := by simpa using h1
   have h5 := Post.csl L[i]
   have hr := rows_at Post.csl hi'
   (repeat1' (first | simp -implicitDefEqProofs -dsimp only [go_sem, hr, Post.cs] | simp -dsimp (disch := omega) only [wrap_i64]))
   repeat (with_reducible refine sideA ?_)
   refine callS.intro (hv L[i]) ⟨.inl rfl, LeL_same (hvc2 _ _)⟩ (.inl (by simp only [List.nil_append, List.cons_append, List.all_cons, hvc, Bool.and_true]; rfl)) ?_
   simp -implicitDefEqProofs -dsimp only [go_sem]
   refine condT.split (fun h2 => ?_) (fun h2 => ?_) <;> simp -implicitDefEqProofs -dsimp only [go_sem, h2]
   · exact WeakR.drop' (by rw [idxI_found hi' hi.2 h2]) (by rfl)
   · refine ⟨i + 1, ⟨hi', by rw [List.take_succ_eq_append_getElem hi']; simp only [List.any_append, hi.2, List.any_cons, h2, List.any_nil, Bool.or_self]⟩, ?_, by omega⟩
     refine Weak.cut (0) (by simp) (by simp) ?_ ?_
     · rw [wrap_i64 (by omega) (by omega)]
       simp [LeC, LeV, ren, cutF, hvc2]
     · rfl
 · simp -implicitDefEqProofs -dsimp only [go_sem, h1]
   have hi' : i = L.length := by simp at h1; omega
   subst hi'
   have h2 := hi.2
   rw [List.take_length] at h2
   exact WeakR.drop' (by rw [idxI_none h2]) (by rfl)
end Go.Proofs
end
section
set_option linter.unusedSimpArgs false
set_option linter.unusedVariables false
set_option maxRecDepth 100000
namespace Go.Proofs
open Go.Lv
theorem indexFuncShock_ok (L : List Shock) (p : Shock → Bool) (fv : Nat) (vc : List V) (hvc : ∀ d, vc.all (noOwn d) = true) (hv : ∀ x, Ctr Try.prog fv (Shock.v x :: vc) [] (.bool (p x)) []) (hl : L.length ≤ 281474976710656) :
   Ctr Try.prog 186 [Shock.sl L, .fn (.func fv) [] vc] [] (.int .i64 (idxI p L)) [] := by
 refine Ctr.intro Try.mixed Try.func186 rfl Try.okF186 ?_
 simp -implicitDefEqProofs -dsimp only [go_sem, Try.ntmps186, Try.results186]
 have hvc2 : ∀ f d, vc.map (ren f d) = vc := fun f d => map_ren f (hvc d)
 refine LoopT.intro (fun i : Nat => i ≤ L.length ∧ (L.take i).any p = false) (fun i => ⟨[Shock.sl L, .fn (.func fv) [] vc, .undef, .undef, .undef, .undef, .undef, .int .i64 L.length, .int .i64 i, .undef, .undef, .undef, .undef, .undef, .undef, .undef, .undef, .undef, .undef], [], 0⟩) (fun i => L.length - i) 0 ⟨Nat.zero_le _, rfl⟩ ?_ (fun i hi => ?_)
 · refine Weak.cut (0) (by simp) (by simp) ?_ ?_
   · simp [LeC, LeV, ren, cutF, hvc2]
   · rfl
 simp -implicitDefEqProofs -dsimp only [go_sem]
 refine condT.split (fun h1 => ?_) (fun h1 => ?_)
 · simp -implicitDefEqProofs -dsimp only [go_sem, h1]
   have hi' : i < L.length := by simpa using h1
   have h5 := Shock.csl L[i]
   have hr := rows_at Shock.csl hi'
   (repeat1' (first | simp -implicitDefEqProofs -dsimp only [go_sem, hr, Shock.cs] | simp -dsimp (disch := omega) only [wrap_i64]))
   repeat (with_reducible refine sideA ?_)
   refine callS.intro (hv L[i]) ⟨.inl rfl, LeL_same (hvc2 _ _)⟩ (.inl (by simp only [List.nil_append, List.cons_append, List.all_cons, hvc, Bool.and_true]; rfl)) ?_
   simp -implicitDefEqProofs -dsimp only [go_sem]
   refine condT.split (fun h2 => ?_) (fun h2 => ?_) <;> simp -implicitDefEqProofs -dsimp only [go_sem, h2]
   · exact WeakR.drop' (by rw [idxI_found hi' hi.2 h2]) (by rfl)
   · refine ⟨i + 1, ⟨hi', by rw [List.take_succ_eq_append_getElem hi']; simp only [List.any_append, hi.2, List.any_cons, h2, List.any_nil, Bool.or_self]⟩, ?_, by omega⟩
     refine Weak.cut (0) (by simp) (by simp) ?_ ?_
     · rw [wrap_i64 (by omega) (by omega)]
       simp [LeC, LeV, ren, cutF, hvc2]
     · rfl
 · simp -implicitDefEqProofs -dsimp only [go_sem, h1]
   have hi' : i = L.length := by simp at h1; omega
   subst hi'
   have h2 := hi.2
   rw [List.take_length] at h2
   exact WeakR.drop' (by rw [idxI_none h2]) (by rfl)
end Go.Proofs
end
section
set_option linter.unusedSimpArgs false
set_option linter.unusedVariables false
set_option maxRecDepth 100000
namespace Go.Proofs
open Go.Lv
def shockIs (n : Int) (x : Shock) : Bool := x.Number == n
def postIs (n : Int) (x : Post) : Bool := x.Station == n
theorem shockIs_ok (x : Shock) (n : Int) : Ctr Try.prog 187 [x.v, .pt [.int .i64 n]] [] (.bool (shockIs n x)) [] := by
 refine Ctr.intro Try.mixed Try.func187 rfl Try.okF187 ?_
 simp -implicitDefEqProofs -dsimp only [go_sem, Try.ntmps187, Try.results187]
 simp -implicitDefEqProofs -dsimp only [go_sem, Shock.v]
 exact WeakR.drop' rfl (by rfl)
theorem shockAt_ok (w : Watch) (n : Int) (hs : w.Shocks.length ≤ 281474976710656) : Ctr Try.prog 149 [w.v, .int .i64 n] [] (.int .i64 (idxI (shockIs n) w.Shocks)) [] := by
 refine Ctr.intro Try.mixed Try.func149 rfl Try.okF149 ?_
 simp -implicitDefEqProofs -dsimp only [go_sem, Try.ntmps149, Try.results149]
 simp -implicitDefEqProofs -dsimp only [go_sem, Watch.v]
 (first | refine callT.at (indexFuncShock_ok w.Shocks (shockIs n) _ [.pt [.int .i64 n]] (fun d => by cases d <;> rfl) (fun x => shockIs_ok x n) hs) ⟨leA, leA, trivial⟩ ?_ | refine callS.at (indexFuncShock_ok w.Shocks (shockIs n) _ [.pt [.int .i64 n]] (fun d => by cases d <;> rfl) (fun x => shockIs_ok x n) hs) ⟨leA, leA, trivial⟩ ?_)
 simp -implicitDefEqProofs -dsimp only [go_sem]
 exact WeakR.drop' rfl (by rfl)
theorem l25Find_ok (w : Watch) (n : Int) (hs : w.Shocks.length ≤ 281474976710656) : Ctr Try.prog 154 [w.v, .int .i64 n] [] (.int .i64 (idxI (shockIs n) w.Shocks)) [] := by
 refine Ctr.intro Try.mixed Try.func154 rfl Try.okF154 ?_
 simp -implicitDefEqProofs -dsimp only [go_sem, Try.ntmps154, Try.results154]
 simp -implicitDefEqProofs -dsimp only [go_sem, Watch.v]
 refine LoopT.intro (fun i : Nat => i ≤ w.Shocks.length ∧ (w.Shocks.take i).any (shockIs n) = false) (fun i => ⟨[.undef, .int .i64 n, .ptr 0 0, .undef, .undef, .int .i64 i, .undef, .undef, .undef, .undef, .undef, .undef, .undef, .undef, .undef, .undef, .undef, .undef, .undef, .undef, .undef, .undef], [some w.cs], 0⟩) (fun i => w.Shocks.length - i) 0 ⟨Nat.zero_le _, rfl⟩ ?_ (fun i hi => ?_)
 · refine Weak.cut (1) (by simp) (by simp) ?_ ?_
   · simp [LeC, LeV, ren, cutF]
   · simp [cutH, cutB, ren, map_ren_rows, Watch.cs]
 simp -implicitDefEqProofs -dsimp only [go_sem, Watch.cs]
 refine condT.split (fun h1 => ?_) (fun h1 => ?_)
 · simp -implicitDefEqProofs -dsimp only [go_sem, h1, Watch.cs]
   have hi' : i < w.Shocks.length := by simpa using h1
   have h5 := Shock.csl w.Shocks[i]
   have hr := rows_at Shock.csl hi'
   (repeat ((repeat1' (first | simp -implicitDefEqProofs -dsimp only [go_sem, hr, Shock.cs, Watch.cs] | simp -dsimp (disch := omega) only [wrap_i64])); repeat (with_reducible refine sideA ?_)))
   refine condT.split (fun h2 => ?_) (fun h2 => ?_) <;> (repeat ((repeat1' (first | simp -implicitDefEqProofs -dsimp only [go_sem, h2] | simp -dsimp (disch := omega) only [wrap_i64])); repeat (with_reducible refine sideA ?_)))
   · exact WeakR.drop' (by rw [idxI_found hi' hi.2 h2]) (by rfl)
   · refine ⟨i + 1, ⟨hi', by rw [List.take_succ_eq_append_getElem hi']; simp only [List.any_append, hi.2, List.any_cons, shockIs, h2, List.any_nil, Bool.or_self]⟩, ?_, by omega⟩
     refine Weak.cut (1) (by simp) (by simp) ?_ ?_
     · simp [LeC, LeV, ren, cutF]
     · simp [cutH, cutB, ren, map_ren_rows, Watch.cs]
 · simp -implicitDefEqProofs -dsimp only [go_sem, h1]
   have hi' : i = w.Shocks.length := by simp at h1; omega
   subst hi'
   have h2 := hi.2
   rw [List.take_length] at h2
   exact WeakR.drop' (by rw [idxI_none h2]) (by rfl)
theorem postIs_ok (x : Post) (n : Int) : Ctr Try.prog 185 [x.v, .pt [.int .i64 n]] [] (.bool (postIs n x)) [] := by
 refine Ctr.intro Try.mixed Try.func185 rfl Try.okF185 ?_
 simp -implicitDefEqProofs -dsimp only [go_sem, Try.ntmps185, Try.results185]
 simp -implicitDefEqProofs -dsimp only [go_sem, Post.v]
 exact WeakR.drop' rfl (by rfl)
theorem postAt_ok (w : Watch) (n : Int) (hs : w.Posts.length ≤ 281474976710656) : Ctr Try.prog 148 [w.v, .int .i64 n] [] (.int .i64 (idxI (postIs n) w.Posts)) [] := by
 refine Ctr.intro Try.mixed Try.func148 rfl Try.okF148 ?_
 simp -implicitDefEqProofs -dsimp only [go_sem, Try.ntmps148, Try.results148]
 simp -implicitDefEqProofs -dsimp only [go_sem, Watch.v]
 (first | refine callT.at (indexFuncPost_ok w.Posts (postIs n) _ [.pt [.int .i64 n]] (fun d => by cases d <;> rfl) (fun x => postIs_ok x n) hs) ⟨leA, leA, trivial⟩ ?_ | refine callS.at (indexFuncPost_ok w.Posts (postIs n) _ [.pt [.int .i64 n]] (fun d => by cases d <;> rfl) (fun x => postIs_ok x n) hs) ⟨leA, leA, trivial⟩ ?_)
 simp -implicitDefEqProofs -dsimp only [go_sem]
 exact WeakR.drop' rfl (by rfl)
theorem l25Post_ok (w : Watch) (n : Int) (hs : w.Posts.length ≤ 281474976710656) : Ctr Try.prog 153 [w.v, .int .i64 n] [] (.int .i64 (idxI (postIs n) w.Posts)) [] := by
 refine Ctr.intro Try.mixed Try.func153 rfl Try.okF153 ?_
 simp -implicitDefEqProofs -dsimp only [go_sem, Try.ntmps153, Try.results153]
 simp -implicitDefEqProofs -dsimp only [go_sem, Watch.v]
 refine LoopT.intro (fun i : Nat => i ≤ w.Posts.length ∧ (w.Posts.take i).any (postIs n) = false) (fun i => ⟨[.undef, .int .i64 n, .ptr 0 0, .undef, .undef, .int .i64 i, .undef, .undef, .undef, .undef, .undef, .undef, .undef, .undef, .undef, .undef, .undef, .undef, .undef, .undef, .undef, .undef], [some w.cs], 0⟩) (fun i => w.Posts.length - i) 0 ⟨Nat.zero_le _, rfl⟩ ?_ (fun i hi => ?_)
 · refine Weak.cut (1) (by simp) (by simp) ?_ ?_
   · simp [LeC, LeV, ren, cutF]
   · simp [cutH, cutB, ren, map_ren_rows, Watch.cs]
 simp -implicitDefEqProofs -dsimp only [go_sem, Watch.cs]
 refine condT.split (fun h1 => ?_) (fun h1 => ?_)
 · simp -implicitDefEqProofs -dsimp only [go_sem, h1, Watch.cs]
   have hi' : i < w.Posts.length := by simpa using h1
   have h5 := Post.csl w.Posts[i]
   have hr := rows_at Post.csl hi'
   (repeat ((repeat1' (first | simp -implicitDefEqProofs -dsimp only [go_sem, hr, Post.cs, Watch.cs] | simp -dsimp (disch := omega) only [wrap_i64])); repeat (with_reducible refine sideA ?_)))
   refine condT.split (fun h2 => ?_) (fun h2 => ?_) <;> (repeat ((repeat1' (first | simp -implicitDefEqProofs -dsimp only [go_sem, h2] | simp -dsimp (disch := omega) only [wrap_i64])); repeat (with_reducible refine sideA ?_)))
   · exact WeakR.drop' (by rw [idxI_found hi' hi.2 h2]) (by rfl)
   · refine ⟨i + 1, ⟨hi', by rw [List.take_succ_eq_append_getElem hi']; simp only [List.any_append, hi.2, List.any_cons, postIs, h2, List.any_nil, Bool.or_self]⟩, ?_, by omega⟩
     refine Weak.cut (1) (by simp) (by simp) ?_ ?_
     · simp [LeC, LeV, ren, cutF]
     · simp [cutH, cutB, ren, map_ren_rows, Watch.cs]
 · simp -implicitDefEqProofs -dsimp only [go_sem, h1]
   have hi' : i = w.Posts.length := by simp at h1; omega
   subst hi'
   have h2 := hi.2
   rw [List.take_length] at h2
   exact WeakR.drop' (by rw [idxI_none h2]) (by rfl)
end Go.Proofs
end
section
set_option linter.unusedSimpArgs false
set_option linter.unusedVariables false
set_option maxRecDepth 100000
namespace Go.Proofs
open Go.Lv
structure WatchStep where
 Kind : Int
 Number : Int
 Value : Int
def WatchStep.cs (r : WatchStep) : List V := [.int .i64 r.Kind, .int .i64 r.Number, .int .i64 r.Value]
def WatchStep.v (r : WatchStep) : V := .agg [.int .i64 r.Kind, .int .i64 r.Number, .int .i64 r.Value]
theorem WatchStep.csl (a : WatchStep) : a.cs.length = 3 := rfl
instance : FlatP WatchStep.cs 3 := ⟨fun _ => rfl, fun _ d => by cases d <;> rfl, fun _ => rfl, fun _ => rfl⟩
def WatchStep.ok (r : WatchStep) : Prop := i64R r.Kind ∧ i64R r.Number ∧ i64R r.Value
abbrev WatchStep.rows (L : List WatchStep) : List V := Go.Lv.rows WatchStep.cs L
abbrev WatchStep.sl (L : List WatchStep) : V := .sl L.length 3 (Go.Lv.rows WatchStep.cs L)
abbrev WatchStep.zs : List V := [.int .i64 0, .int .i64 0, .int .i64 0]
def WatchStep.mk1 (k : Int) : WatchStep := ⟨k, k + 1, k + 1 + 1⟩
def WatchStep.marks (k : Int) (n : Nat) : List WatchStep := (List.range n).map fun i : Nat => WatchStep.mk1 (k + 3 * (i : Int))
@[simp] theorem WatchStep.marks_len (k : Int) (n : Nat) : (WatchStep.marks k n).length = n := by simp [WatchStep.marks]
end Go.Proofs
end
section
set_option linter.unusedSimpArgs false
set_option linter.unusedVariables false
namespace Go.Lv
theorem splice_row {α : Type} {cs : α → List V} {w : Nat} (hw : ∀ a, (cs a).length = w) {L : List α} {i : Nat} (hi : i < L.length) (x : α) : splice (rows cs L) (i * w) (cs x) = rows cs (L.set i x) := by
 have e : L = L.take i ++ L[i] :: L.drop (i + 1) := by rw [← List.drop_eq_getElem_cons hi, List.take_append_drop]
 have e2 : L.set i x = L.take i ++ x :: L.drop (i + 1) := by rw [List.set_eq_take_append_cons_drop, if_pos hi]
 have hA : (rows cs (L.take i)).length = i * w := by rw [rows_len hw, List.length_take, Nat.min_eq_left (by omega)]
 rw [e2, rowsOf_append, rows_cons]
 conv => lhs; rw [e, rowsOf_append, rows_cons]
 rw [splice_mid0 hA, splice_zero]
 congr 2
 rw [List.drop_append_of_le_length (by rw [hw, hw]; exact Nat.le_refl _), List.drop_of_length_le (by rw [hw, hw]; exact Nat.le_refl _)]
 rfl
end Go.Lv
end
section
set_option linter.unusedSimpArgs false
set_option linter.unusedVariables false
namespace Go.Lv
theorem splice_left {A B ns : List V} {f : Nat} (h : f + ns.length ≤ A.length) : splice (A ++ B) f ns = splice A f ns ++ B := by
 unfold splice
 rw [List.take_append_of_le_length (by omega), List.drop_append_of_le_length (by omega)]
 simp [List.append_assoc]
theorem splice_cell {α : Type} {cs : α → List V} {w : Nat} (hw : ∀ a, (cs a).length = w) {L : List α} {j f : Nat} {v : V} {x : α} (hj : j < L.length) (hf : f < w) (hx : cs x = splice (cs L[j]) f [v]) : splice (rows cs L) (j * w + f) [v] = rows cs (L.set j x) := by
 have e : L = L.take j ++ L[j] :: L.drop (j + 1) := by rw [← List.drop_eq_getElem_cons hj, List.take_append_drop]
 have e2 : L.set j x = L.take j ++ x :: L.drop (j + 1) := by rw [List.set_eq_take_append_cons_drop, if_pos hj]
 have hA : (rows cs (L.take j)).length = j * w := by rw [rows_len hw, List.length_take, Nat.min_eq_left (by omega)]
 rw [e2, rowsOf_append, rows_cons]
 conv => lhs; rw [e, rowsOf_append, rows_cons]
 rw [splice_mid hA, splice_left (by rw [hw]; simp; omega), hx]

def fits (id n : Nat) : Nat → V → Bool
 | _, .osl i off m w => i != id || decide (off + m * w ≤ n)
 | d + 1, .agg cs => cs.all (fits id n d)
 | d + 1, .tup cs => cs.all (fits id n d)
 | d + 1, .fn _ a c => a.all (fits id n d) && c.all (fits id n d)
 | 0, .agg _ => false
 | 0, .tup _ => false
 | 0, .fn _ _ _ => false
 | _, _ => true

theorem RV.trim {w : World} {m : Nat → Nat} {h : Hp} {av av' : Nat → Prop} {id n : Nat} {cs : List V} (hid : h[id]? = some (some cs)) (hmb : isMb cs = false) (hmb' : isMb (cs.take n) = false) (hn : n ≤ cs.length) (hav : ∀ b, av' b → av b) {o : Bool} {v : Value} {x : V}
   (hx : RV w m h av o v x) : ∀ d, fits id n d x = true → RV w m (h.set id (some (cs.take n))) av' o v x := by
 have hro : ∀ {v : Value} {x : V}, RV w m h av false v x → RV w m (h.set id (some (cs.take n))) av' false v x := fun hx =>
   hx.ro_step (fun b off v hb hc => ⟨fun h => hb (hav b h), hc⟩) rfl
 have hset : ∀ {i : Nat} {c : List V}, h[i]? = some (some c) → i ≠ id → (h.set id (some (cs.take n)))[i]? = some (some c) := fun h e => by
   rw [List.getElem?_set_ne (Ne.symm e)]; exact h
 have hself : (h.set id (some (cs.take n)))[id]? = some (some (cs.take n)) := List.getElem?_set_self (id_lt hid)
 induction hx with
 | undef v => exact fun _ _ => .undef v
 | skip => exact fun _ _ => .skip
 | bool b => exact fun _ _ => .bool b
 | int k n => exact fun _ _ => .int k n
 | str s => exact fun _ _ => .str s
 | nilsl => exact fun _ _ => .nilsl
 | slz a c wd => exact fun _ _ => .slz a c wd
 | sl b off n' cap wd cs' vals hl ha hc hv hr _ => exact fun _ _ => .sl b off n' cap wd cs' vals hl (fun hne h => ha hne (hav b h)) hc hv (fun i hi => hro (hr i hi))
 | pt b off cs' vals ha hv hr _ => exact fun _ _ => .pt b off cs' vals (fun hne h => ha hne (hav b h)) hv (fun i hi => hro (hr i hi))
 | osl id' off n' cap wd cs' hid' hl hc hs =>
   intro d hf
   by_cases e : id' = id
   · subst e
     have he : cs = cs' := by have := hid'.1; rw [hid] at this; simpa using this
     subst he
     have hf' : off + n' * wd ≤ n := by cases d <;> simpa [fits] using hf
     exact .osl id' off n' cap wd (cs.take n) ⟨hself, hmb'⟩ (by simp; omega) hc hs
   · exact .osl id' off n' cap wd cs' ⟨hset hid'.1 e, hid'.2⟩ hl hc hs
 | ptr id' off cs' hid' =>
   intro d _
   by_cases e : id' = id
   · subst e
     exact .ptr id' off (cs.take n) ⟨hself, hmb'⟩
   · exact .ptr id' off cs' ⟨hset hid'.1 e, hid'.2⟩
 | fn g a c a' c' ha hc hra hrc iha ihc =>
   intro d hf
   cases d with
   | zero => simp [fits] at hf
   | succ d =>
     simp only [fits, Bool.and_eq_true, List.all_eq_true] at hf
     exact .fn g a c a' c' ha hc (fun i hi => iha i hi d (hf.1 _ (List.getElem_mem hi))) (fun i hi => ihc i hi d (hf.2 _ (List.getElem_mem hi)))
 | agg a a' ha hra iha =>
   intro d hf
   cases d with
   | zero => simp [fits] at hf
   | succ d =>
     simp only [fits, List.all_eq_true] at hf
     exact .agg a a' ha (fun i hi => iha i hi d (hf _ (List.getElem_mem hi)))
 | tup a a' ha hra iha =>
   intro d hf
   cases d with
   | zero => simp [fits] at hf
   | succ d =>
     simp only [fits, List.all_eq_true] at hf
     exact .tup a a' ha (fun i hi => iha i hi d (hf _ (List.getElem_mem hi)))
 | lit v => exact fun _ _ => .lit v
 | mp id' cs' hid' hm =>
   intro d _
   by_cases e : id' = id
   · subst e
     rw [hid] at hid'
     have he : cs = cs' := by simpa using hid'
     subst he
     rw [hmb] at hm; cases hm
   · exact .mp id' cs' (hset hid' e) hm

theorem WeakR.trim {k : Nat} {v r : V} {h hout : Hp} (id n : Nat) {cs : List V} (hid : h[id]? = some (some cs)) (hk : k ≤ id) (hn : n ≤ cs.length) (hmb : isMb cs = false) (hmb' : isMb (cs.take n) = false) (hv : fits id n 3 v = true)
   (hh : (h.all fun b => match b with | some cs => cs.all (fits id n 2) | none => true) = true) (hr : WeakR k v (h.set id (some (cs.take n))) r hout) : WeakR k v h r hout := by
 intro w0 m0 h0 av0 w m val e1 e2 hlt hle H hx hI
 have hfit : ∀ (j : Nat) (c : List V), h[j]? = some (some c) → ∀ x ∈ c, fits id n 2 x = true := by
   intro j c hj x hxc
   have := List.all_eq_true.1 hh _ (List.mem_of_getElem? hj)
   exact List.all_eq_true.1 this x hxc
 have hown : ∀ b, own m (h.set id (some (cs.take n))) b → own m h b := by
   rintro b ⟨j, c, h1, rfl⟩
   rcases hp_set hid h1 with ⟨rfl, _⟩ | ⟨_, h2⟩
   · exact ⟨j, cs, hid, rfl⟩
   · exact ⟨j, c, h2, rfl⟩
 have hav : ∀ b, avm av0 m (h.set id (some (cs.take n))) b → avm av0 m h b := fun b hb => hb.imp (fun x => x) (hown b)
 have hcase : ∀ (j : Nat) (c : List V), (h.set id (some (cs.take n)))[j]? = some (some c) → ∃ c0, h[j]? = some (some c0) ∧ (∃ q, c = c0.take q) := by
   intro j c h1
   rcases hp_set hid h1 with ⟨rfl, rfl⟩ | ⟨_, h2⟩
   · exact ⟨cs, hid, n, rfl⟩
   · exact ⟨c, h2, c.length, by simp⟩
 refine hr w0 m0 h0 av0 w m val e1 (by simpa using e2) hlt hle ⟨fun i j ci cj h1 h2 he => ?_, fun j c h1 => .inr ⟨j, c, h1, rfl⟩, fun j c h1 => ?_⟩ (hx.trim hid hmb hmb' hn hav 3 hv) (fun j c h1 => ?_)
 · obtain ⟨c1, g1, _⟩ := hcase i ci h1
   obtain ⟨c2, g2, _⟩ := hcase j cj h2
   exact H.inj i j c1 c2 g1 g2 he
 · rcases hp_set hid h1 with ⟨rfl, rfl⟩ | ⟨_, h2⟩
   · obtain ⟨C, T, fr, g1, hfr, g2, g3⟩ := (H.blk j cs hid).cells hmb
     refine .inl ⟨C, T, fr, g1, hfr, by simp; omega, fun i hi => ?_⟩
     have hi' : i < cs.length := by simp at hi; omega
     rw [List.getElem_take]
     exact (g3 i hi').trim hid hmb hmb' hn hav 2 (hfit j cs hid _ (List.getElem_mem _))
   · rcases H.blk j c h2 with ⟨C, T, fr, g1, hfr, g2, g3⟩ | h3
     · exact .inl ⟨C, T, fr, g1, hfr, g2, fun i hi => (g3 i hi).trim hid hmb hmb' hn hav 2 (hfit j c h2 _ (List.getElem_mem _))⟩
     · exact .inr h3
 · rcases hp_set hid h1 with ⟨rfl, rfl⟩ | ⟨_, h2⟩
   · rcases hI j cs hid with ⟨q1, _⟩ | q1
     · omega
     · exact .inr q1
   · exact hI j c h2

theorem noOwn_fits (id n : Nat) : ∀ (d : Nat) (x : V), noOwn d x = true → fits id n d x = true
 | 0, x, hx => by cases x <;> simp_all [noOwn, fits]
 | d + 1, x, hx => by
   have hall : ∀ l : List V, l.all (noOwn d) = true → l.all (fits id n d) = true := fun l h =>
     List.all_eq_true.2 fun y hy => noOwn_fits id n d y (List.all_eq_true.1 h y hy)
   cases x <;> first | (simp only [noOwn, fits, Bool.and_eq_true] at hx ⊢; exact ⟨hall _ hx.1, hall _ hx.2⟩) | (simp only [noOwn, fits] at hx ⊢; exact hall _ hx) | rfl | cases hx
theorem rows_fits {α : Type} {cs : α → List V} {w : Nat} [FlatP cs w] (id n d : Nat) (L : List α) : (rows cs L).all (fits id n d) = true :=
 List.all_eq_true.2 fun x hx => noOwn_fits id n d x (List.all_eq_true.1 (rows_noOwn (cs := cs) L d) x hx)
end Go.Lv
end
section
set_option linter.unusedSimpArgs false
set_option linter.unusedVariables false
set_option maxRecDepth 100000
set_option maxHeartbeats 1000000
namespace Go.Proofs
open Go.Lv
theorem idxI_cases {α : Type} (p : α → Bool) (L : List α) : (∃ i, ∃ h : i < L.length, idxI p L = (i : Int) ∧ p L[i] = true) ∨ idxI p L = -1 := by
 unfold idxI
 cases h : L.findIdx? p with
 | none => exact .inr rfl
 | some i =>
   obtain ⟨h1, h2, _⟩ := List.findIdx?_eq_some_iff_getElem.1 h
   exact .inl ⟨i, h1, rfl, h2⟩
theorem idxI_get {α : Type} {p : α → Bool} {L : List α} (h : decide (0 ≤ idxI p L) = true) : ∃ i, ∃ h : i < L.length, idxI p L = (i : Int) ∧ p L[i] = true := by
 rcases idxI_cases p L with h1 | h1
 · exact h1
 · rw [h1] at h; simp at h
def pAt (w : Watch) (n : Int) : Nat := (idxI (postIs n) w.Posts).toNat
def sAt (w : Watch) (n : Int) : Nat := (idxI (shockIs n) w.Shocks).toNat
def stepWB (w : Watch) (k n v : Int) : Bool :=
 if k = 1 then n == 0 && decide (1 ≤ v)
 else if k = 2 ∨ k = 3 then decide (0 ≤ idxI (postIs n) w.Posts) && v == 0
 else if k = 4 then n == 0 && v == 0
 else if k = 5 then decide (0 ≤ idxI (shockIs n) w.Shocks) && inB' v (-20) 95
 else if k = 6 then decide (0 ≤ idxI (shockIs n) w.Shocks) && inB' v (-10) 10
 else (k == 7 || k == 8) && decide (0 ≤ idxI (shockIs n) w.Shocks) && v == 0
def chgX (x : Shock) (k v : Int) : Shock := if k = 5 then ⟨x.Number, 1, x.Seen, v, x.Tick⟩ else if k = 6 then ⟨x.Number, 2, x.Seen, x.Size + v, x.Tick⟩ else ⟨x.Number, 3, x.Seen, x.Size, x.Tick⟩
def chgB (x : Shock) (k : Int) : Bool := if k = 5 then x.State == 0 && decide (3 ≤ x.Seen) else if k = 6 then x.State == 1 else x.State == 2 || (x.State == 1 && decide (50 ≤ x.Size))
def archB (w : Watch) (x : Shock) : Bool := x.State == 3 || (x.State == 0 && decide (6000 < w.Now - x.Tick))
def upN (w : Watch) (i : Nat) : Nat := ((w.Posts.take i).filter Post.Up).length
def shAt (w : Watch) (i : Nat) : Shock := (w.Shocks[i]?).getD ⟨0, 0, 0, 0, 0⟩
def poAt (w : Watch) (i : Nat) : Post := (w.Posts[i]?).getD ⟨0, false, 0⟩
theorem shAt_get {w : Watch} {i : Nat} (h : i < w.Shocks.length) : shAt w i = w.Shocks[i] := by simp [shAt, h]
theorem poAt_get {w : Watch} {i : Nat} (h : i < w.Posts.length) : poAt w i = w.Posts[i] := by simp [poAt, h]
def makeW (w : Watch) (k n v : Int) : Watch :=
 if k = 1 then ⟨w.Now + v, w.Posts, w.Shocks, w.Next, w.Archived⟩
 else if k = 2 ∨ k = 3 then ⟨w.Now, w.Posts.set (pAt w n) ⟨n, decide (k = 3), w.Now⟩, w.Shocks, w.Next, w.Archived⟩
 else if k = 4 then ⟨w.Now, w.Posts, w.Shocks ++ [⟨w.Next, 0, (upN w w.Posts.length : Int), 0, w.Now⟩], w.Next + 1, w.Archived⟩
 else if k = 8 then ⟨w.Now, w.Posts, w.Shocks.take (sAt w n) ++ w.Shocks.drop (sAt w n + 1), w.Next, w.Archived + 1⟩
 else ⟨w.Now, w.Posts, w.Shocks.set (sAt w n) (chgX (shAt w (sAt w n)) k v), w.Next, w.Archived⟩
def makeB (w : Watch) (k n v : Int) : Bool :=
 if k = 1 then decide (v ≤ 1000000 - w.Now)
 else if k = 2 ∨ k = 3 then (poAt w (pAt w n)).Up != decide (k = 3)
 else if k = 4 then true
 else if k = 8 then archB w (shAt w (sAt w n))
 else chgB (shAt w (sAt w n)) k
def makeS (w : Watch) (k n v : Int) : Watch := if k = 1 ∧ ¬ v ≤ 1000000 - w.Now then w else makeW w k n v
theorem l25Step_ok (w : Watch) (k n v : Int) (hp : w.Posts.length ≤ 16777216) (hs : w.Shocks.length ≤ 16777216) : Ctr Try.prog 77 [w.v, .agg [.int .i64 k, .int .i64 n, .int .i64 v]] [] (.bool (stepWB w k n v)) [] := by
 by_cases k1 : k = 1
 · subst k1
   refine Ctr.intro Try.mixed Try.func77 rfl Try.okF77 ?_
   simp -implicitDefEqProofs -dsimp only [go_sem, Try.ntmps77, Try.results77]
   simp -implicitDefEqProofs -dsimp only [go_sem, Watch.v]
   repeat' (first | (refine WeakR.drop' ?_ (by rfl); first | rfl | (simp [stepWB, *]; done)) | ((first | refine callT.at (l25Post_ok w n (by omega)) ⟨leA, leA, trivial⟩ ?_ | refine callS.at (l25Post_ok w n (by omega)) ⟨leA, leA, trivial⟩ ?_); simp -implicitDefEqProofs -dsimp only [go_sem, *]) | (refine guardT.splitT (fun _ => ?_) (fun _ => ?_) <;> simp -implicitDefEqProofs -dsimp only [go_sem, *]) | (refine guardT.splitF (fun _ => ?_) (fun _ => ?_) <;> simp -implicitDefEqProofs -dsimp only [go_sem, *]) | (refine condT.split (fun _ => ?_) (fun _ => ?_) <;> simp -implicitDefEqProofs -dsimp only [go_sem, *]))
 by_cases k2 : k = 2 ∨ k = 3
 · rcases k2 with k2 | k2
   · subst k2
     refine Ctr.intro Try.mixed Try.func77 rfl Try.okF77 ?_
     simp -implicitDefEqProofs -dsimp only [go_sem, Try.ntmps77, Try.results77]
     simp -implicitDefEqProofs -dsimp only [go_sem, Watch.v]
     repeat' (first | (refine WeakR.drop' ?_ (by rfl); first | rfl | (simp [stepWB, *]; done)) | ((first | refine callT.at (l25Post_ok w n (by omega)) ⟨leA, leA, trivial⟩ ?_ | refine callS.at (l25Post_ok w n (by omega)) ⟨leA, leA, trivial⟩ ?_); simp -implicitDefEqProofs -dsimp only [go_sem, *]) | (refine guardT.splitT (fun _ => ?_) (fun _ => ?_) <;> simp -implicitDefEqProofs -dsimp only [go_sem, *]) | (refine guardT.splitF (fun _ => ?_) (fun _ => ?_) <;> simp -implicitDefEqProofs -dsimp only [go_sem, *]) | (refine condT.split (fun _ => ?_) (fun _ => ?_) <;> simp -implicitDefEqProofs -dsimp only [go_sem, *]))
   · subst k2
     refine Ctr.intro Try.mixed Try.func77 rfl Try.okF77 ?_
     simp -implicitDefEqProofs -dsimp only [go_sem, Try.ntmps77, Try.results77]
     simp -implicitDefEqProofs -dsimp only [go_sem, Watch.v]
     repeat' (first | (refine WeakR.drop' ?_ (by rfl); first | rfl | (simp [stepWB, *]; done)) | ((first | refine callT.at (l25Post_ok w n (by omega)) ⟨leA, leA, trivial⟩ ?_ | refine callS.at (l25Post_ok w n (by omega)) ⟨leA, leA, trivial⟩ ?_); simp -implicitDefEqProofs -dsimp only [go_sem, *]) | (refine guardT.splitT (fun _ => ?_) (fun _ => ?_) <;> simp -implicitDefEqProofs -dsimp only [go_sem, *]) | (refine guardT.splitF (fun _ => ?_) (fun _ => ?_) <;> simp -implicitDefEqProofs -dsimp only [go_sem, *]) | (refine condT.split (fun _ => ?_) (fun _ => ?_) <;> simp -implicitDefEqProofs -dsimp only [go_sem, *]))
 by_cases k4 : k = 4
 · subst k4
   refine Ctr.intro Try.mixed Try.func77 rfl Try.okF77 ?_
   simp -implicitDefEqProofs -dsimp only [go_sem, Try.ntmps77, Try.results77]
   simp -implicitDefEqProofs -dsimp only [go_sem, Watch.v]
   repeat' (first | (refine WeakR.drop' ?_ (by rfl); first | rfl | (simp [stepWB, *]; done)) | ((first | refine callT.at (l25Post_ok w n (by omega)) ⟨leA, leA, trivial⟩ ?_ | refine callS.at (l25Post_ok w n (by omega)) ⟨leA, leA, trivial⟩ ?_); simp -implicitDefEqProofs -dsimp only [go_sem, *]) | (refine guardT.splitT (fun _ => ?_) (fun _ => ?_) <;> simp -implicitDefEqProofs -dsimp only [go_sem, *]) | (refine guardT.splitF (fun _ => ?_) (fun _ => ?_) <;> simp -implicitDefEqProofs -dsimp only [go_sem, *]) | (refine condT.split (fun _ => ?_) (fun _ => ?_) <;> simp -implicitDefEqProofs -dsimp only [go_sem, *]))
 by_cases k5 : k = 5
 · subst k5
   refine Ctr.intro Try.mixed Try.func77 rfl Try.okF77 ?_
   simp -implicitDefEqProofs -dsimp only [go_sem, Try.ntmps77, Try.results77]
   simp -implicitDefEqProofs -dsimp only [go_sem, Watch.v]
   repeat' (first | (refine WeakR.drop' ?_ (by rfl); first | rfl | (simp [stepWB, *]; done)) | ((first | refine callT.at (l25Find_ok w n (by omega)) ⟨leA, leA, trivial⟩ ?_ | refine callS.at (l25Find_ok w n (by omega)) ⟨leA, leA, trivial⟩ ?_); simp -implicitDefEqProofs -dsimp only [go_sem, *]) | ((first | refine callT.at (l1In_ok _ _ _) ⟨leA, leA, leA, trivial⟩ ?_ | refine callS.at (l1In_ok _ _ _) ⟨leA, leA, leA, trivial⟩ ?_); simp -implicitDefEqProofs -dsimp only [go_sem, *]) | (refine guardT.splitT (fun _ => ?_) (fun _ => ?_) <;> simp -implicitDefEqProofs -dsimp only [go_sem, *]) | (refine guardT.splitF (fun _ => ?_) (fun _ => ?_) <;> simp -implicitDefEqProofs -dsimp only [go_sem, *]) | (refine condT.split (fun _ => ?_) (fun _ => ?_) <;> simp -implicitDefEqProofs -dsimp only [go_sem, *]))
 by_cases k6 : k = 6
 · subst k6
   refine Ctr.intro Try.mixed Try.func77 rfl Try.okF77 ?_
   simp -implicitDefEqProofs -dsimp only [go_sem, Try.ntmps77, Try.results77]
   simp -implicitDefEqProofs -dsimp only [go_sem, Watch.v]
   repeat' (first | (refine WeakR.drop' ?_ (by rfl); first | rfl | (simp [stepWB, *]; done)) | ((first | refine callT.at (l25Find_ok w n (by omega)) ⟨leA, leA, trivial⟩ ?_ | refine callS.at (l25Find_ok w n (by omega)) ⟨leA, leA, trivial⟩ ?_); simp -implicitDefEqProofs -dsimp only [go_sem, *]) | ((first | refine callT.at (l1In_ok _ _ _) ⟨leA, leA, leA, trivial⟩ ?_ | refine callS.at (l1In_ok _ _ _) ⟨leA, leA, leA, trivial⟩ ?_); simp -implicitDefEqProofs -dsimp only [go_sem, *]) | (refine guardT.splitT (fun _ => ?_) (fun _ => ?_) <;> simp -implicitDefEqProofs -dsimp only [go_sem, *]) | (refine guardT.splitF (fun _ => ?_) (fun _ => ?_) <;> simp -implicitDefEqProofs -dsimp only [go_sem, *]) | (refine condT.split (fun _ => ?_) (fun _ => ?_) <;> simp -implicitDefEqProofs -dsimp only [go_sem, *]))
 have b1 : (k == 1) = false := by simp [k1]
 have b2 : (k == 2) = false := by simp at k2; simp [k2]
 have b3 : (k == 3) = false := by simp at k2; simp [k2]
 have b4 : (k == 4) = false := by simp [k4]
 have b5 : (k == 5) = false := by simp [k5]
 have b6 : (k == 6) = false := by simp [k6]
 have e : stepWB w k n v = ((k == 7 || k == 8) && decide (0 ≤ idxI (shockIs n) w.Shocks) && v == 0) := by
   rw [stepWB, if_neg k1, if_neg k2, if_neg k4, if_neg k5, if_neg k6]
 rw [e]
 clear e k1 k2 k4 k5 k6
 refine Ctr.intro Try.mixed Try.func77 rfl Try.okF77 ?_
 simp -implicitDefEqProofs -dsimp only [go_sem, Try.ntmps77, Try.results77]
 simp -implicitDefEqProofs -dsimp only [go_sem, b1, b2, b3, b4, b5, b6, Watch.v]
 repeat' (first | (refine WeakR.drop' ?_ (by rfl); first | rfl | (simp [*]; done)) | ((first | refine callT.at (l25Find_ok w n (by omega)) ⟨leA, leA, trivial⟩ ?_ | refine callS.at (l25Find_ok w n (by omega)) ⟨leA, leA, trivial⟩ ?_); simp -implicitDefEqProofs -dsimp only [go_sem, *]) | (refine guardT.splitT (fun _ => ?_) (fun _ => ?_) <;> simp -implicitDefEqProofs -dsimp only [go_sem, *]) | (refine guardT.splitF (fun _ => ?_) (fun _ => ?_) <;> simp -implicitDefEqProofs -dsimp only [go_sem, *]) | (refine condT.split (fun _ => ?_) (fun _ => ?_) <;> simp -implicitDefEqProofs -dsimp only [go_sem, *]))
theorem isStep_ok (w : Watch) (k n v : Int) (hp : w.Posts.length ≤ 16777216) (hs : w.Shocks.length ≤ 16777216) : Ctr Try.prog 74 [w.v, .agg [.int .i64 k, .int .i64 n, .int .i64 v]] [] (.bool (stepWB w k n v)) [] := by
 by_cases k1 : k = 1
 · subst k1
   refine Ctr.intro Try.mixed Try.func74 rfl Try.okF74 ?_
   simp -implicitDefEqProofs -dsimp only [go_sem, Try.ntmps74, Try.results74]
   simp -implicitDefEqProofs -dsimp only [go_sem, Watch.v]
   repeat' (first | (refine WeakR.drop' ?_ (by rfl); first | rfl | (simp [stepWB, *]; done)) | ((first | refine callT.at (postAt_ok w n (by omega)) ⟨leA, leA, trivial⟩ ?_ | refine callS.at (postAt_ok w n (by omega)) ⟨leA, leA, trivial⟩ ?_); simp -implicitDefEqProofs -dsimp only [go_sem, *]) | (refine guardT.splitT (fun _ => ?_) (fun _ => ?_) <;> simp -implicitDefEqProofs -dsimp only [go_sem, *]) | (refine guardT.splitF (fun _ => ?_) (fun _ => ?_) <;> simp -implicitDefEqProofs -dsimp only [go_sem, *]) | (refine condT.split (fun _ => ?_) (fun _ => ?_) <;> simp -implicitDefEqProofs -dsimp only [go_sem, *]))
 by_cases k2 : k = 2 ∨ k = 3
 · rcases k2 with k2 | k2
   · subst k2
     refine Ctr.intro Try.mixed Try.func74 rfl Try.okF74 ?_
     simp -implicitDefEqProofs -dsimp only [go_sem, Try.ntmps74, Try.results74]
     simp -implicitDefEqProofs -dsimp only [go_sem, Watch.v]
     repeat' (first | (refine WeakR.drop' ?_ (by rfl); first | rfl | (simp [stepWB, *]; done)) | ((first | refine callT.at (postAt_ok w n (by omega)) ⟨leA, leA, trivial⟩ ?_ | refine callS.at (postAt_ok w n (by omega)) ⟨leA, leA, trivial⟩ ?_); simp -implicitDefEqProofs -dsimp only [go_sem, *]) | (refine guardT.splitT (fun _ => ?_) (fun _ => ?_) <;> simp -implicitDefEqProofs -dsimp only [go_sem, *]) | (refine guardT.splitF (fun _ => ?_) (fun _ => ?_) <;> simp -implicitDefEqProofs -dsimp only [go_sem, *]) | (refine condT.split (fun _ => ?_) (fun _ => ?_) <;> simp -implicitDefEqProofs -dsimp only [go_sem, *]))
   · subst k2
     refine Ctr.intro Try.mixed Try.func74 rfl Try.okF74 ?_
     simp -implicitDefEqProofs -dsimp only [go_sem, Try.ntmps74, Try.results74]
     simp -implicitDefEqProofs -dsimp only [go_sem, Watch.v]
     repeat' (first | (refine WeakR.drop' ?_ (by rfl); first | rfl | (simp [stepWB, *]; done)) | ((first | refine callT.at (postAt_ok w n (by omega)) ⟨leA, leA, trivial⟩ ?_ | refine callS.at (postAt_ok w n (by omega)) ⟨leA, leA, trivial⟩ ?_); simp -implicitDefEqProofs -dsimp only [go_sem, *]) | (refine guardT.splitT (fun _ => ?_) (fun _ => ?_) <;> simp -implicitDefEqProofs -dsimp only [go_sem, *]) | (refine guardT.splitF (fun _ => ?_) (fun _ => ?_) <;> simp -implicitDefEqProofs -dsimp only [go_sem, *]) | (refine condT.split (fun _ => ?_) (fun _ => ?_) <;> simp -implicitDefEqProofs -dsimp only [go_sem, *]))
 by_cases k4 : k = 4
 · subst k4
   refine Ctr.intro Try.mixed Try.func74 rfl Try.okF74 ?_
   simp -implicitDefEqProofs -dsimp only [go_sem, Try.ntmps74, Try.results74]
   simp -implicitDefEqProofs -dsimp only [go_sem, Watch.v]
   repeat' (first | (refine WeakR.drop' ?_ (by rfl); first | rfl | (simp [stepWB, *]; done)) | ((first | refine callT.at (postAt_ok w n (by omega)) ⟨leA, leA, trivial⟩ ?_ | refine callS.at (postAt_ok w n (by omega)) ⟨leA, leA, trivial⟩ ?_); simp -implicitDefEqProofs -dsimp only [go_sem, *]) | (refine guardT.splitT (fun _ => ?_) (fun _ => ?_) <;> simp -implicitDefEqProofs -dsimp only [go_sem, *]) | (refine guardT.splitF (fun _ => ?_) (fun _ => ?_) <;> simp -implicitDefEqProofs -dsimp only [go_sem, *]) | (refine condT.split (fun _ => ?_) (fun _ => ?_) <;> simp -implicitDefEqProofs -dsimp only [go_sem, *]))
 by_cases k5 : k = 5
 · subst k5
   refine Ctr.intro Try.mixed Try.func74 rfl Try.okF74 ?_
   simp -implicitDefEqProofs -dsimp only [go_sem, Try.ntmps74, Try.results74]
   simp -implicitDefEqProofs -dsimp only [go_sem, Watch.v]
   repeat' (first | (refine WeakR.drop' ?_ (by rfl); first | rfl | (simp [stepWB, *]; done)) | ((first | refine callT.at (shockAt_ok w n (by omega)) ⟨leA, leA, trivial⟩ ?_ | refine callS.at (shockAt_ok w n (by omega)) ⟨leA, leA, trivial⟩ ?_); simp -implicitDefEqProofs -dsimp only [go_sem, *]) | ((first | refine callT.at (isQuakeSize_ok _) ⟨leA, trivial⟩ ?_ | refine callS.at (isQuakeSize_ok _) ⟨leA, trivial⟩ ?_); simp -implicitDefEqProofs -dsimp only [go_sem, *]) | (refine guardT.splitT (fun _ => ?_) (fun _ => ?_) <;> simp -implicitDefEqProofs -dsimp only [go_sem, *]) | (refine guardT.splitF (fun _ => ?_) (fun _ => ?_) <;> simp -implicitDefEqProofs -dsimp only [go_sem, *]) | (refine condT.split (fun _ => ?_) (fun _ => ?_) <;> simp -implicitDefEqProofs -dsimp only [go_sem, *]))
 by_cases k6 : k = 6
 · subst k6
   refine Ctr.intro Try.mixed Try.func74 rfl Try.okF74 ?_
   simp -implicitDefEqProofs -dsimp only [go_sem, Try.ntmps74, Try.results74]
   simp -implicitDefEqProofs -dsimp only [go_sem, Watch.v]
   repeat' (first | (refine WeakR.drop' ?_ (by rfl); first | rfl | (simp [stepWB, *]; done)) | ((first | refine callT.at (shockAt_ok w n (by omega)) ⟨leA, leA, trivial⟩ ?_ | refine callS.at (shockAt_ok w n (by omega)) ⟨leA, leA, trivial⟩ ?_); simp -implicitDefEqProofs -dsimp only [go_sem, *]) | ((first | refine callT.at (in_ok _ _ _) ⟨leA, leA, leA, trivial⟩ ?_ | refine callS.at (in_ok _ _ _) ⟨leA, leA, leA, trivial⟩ ?_); simp -implicitDefEqProofs -dsimp only [go_sem, *]) | (refine guardT.splitT (fun _ => ?_) (fun _ => ?_) <;> simp -implicitDefEqProofs -dsimp only [go_sem, *]) | (refine guardT.splitF (fun _ => ?_) (fun _ => ?_) <;> simp -implicitDefEqProofs -dsimp only [go_sem, *]) | (refine condT.split (fun _ => ?_) (fun _ => ?_) <;> simp -implicitDefEqProofs -dsimp only [go_sem, *]))
 have b1 : (k == 1) = false := by simp [k1]
 have b2 : (k == 2) = false := by simp at k2; simp [k2]
 have b3 : (k == 3) = false := by simp at k2; simp [k2]
 have b4 : (k == 4) = false := by simp [k4]
 have b5 : (k == 5) = false := by simp [k5]
 have b6 : (k == 6) = false := by simp [k6]
 have e : stepWB w k n v = (inB' k 7 8 && decide (0 ≤ idxI (shockIs n) w.Shocks) && v == 0) := by
   rw [stepWB, if_neg k1, if_neg k2, if_neg k4, if_neg k5, if_neg k6]
   congr 2
   rw [Bool.eq_iff_iff]; simp [inB']; omega
 rw [e]
 clear e k1 k2 k4 k5 k6
 refine Ctr.intro Try.mixed Try.func74 rfl Try.okF74 ?_
 simp -implicitDefEqProofs -dsimp only [go_sem, Try.ntmps74, Try.results74]
 simp -implicitDefEqProofs -dsimp only [go_sem, b1, b2, b3, b4, b5, b6, Watch.v]
 repeat' (first | (refine WeakR.drop' ?_ (by rfl); first | rfl | (simp [*]; done)) | ((first | refine callT.at (in_ok _ _ _) ⟨leA, leA, leA, trivial⟩ ?_ | refine callS.at (in_ok _ _ _) ⟨leA, leA, leA, trivial⟩ ?_); simp -implicitDefEqProofs -dsimp only [go_sem, *]) | ((first | refine callT.at (shockAt_ok w n (by omega)) ⟨leA, leA, trivial⟩ ?_ | refine callS.at (shockAt_ok w n (by omega)) ⟨leA, leA, trivial⟩ ?_); simp -implicitDefEqProofs -dsimp only [go_sem, *]) | (refine guardT.splitT (fun _ => ?_) (fun _ => ?_) <;> simp -implicitDefEqProofs -dsimp only [go_sem, *]) | (refine guardT.splitF (fun _ => ?_) (fun _ => ?_) <;> simp -implicitDefEqProofs -dsimp only [go_sem, *]) | (refine condT.split (fun _ => ?_) (fun _ => ?_) <;> simp -implicitDefEqProofs -dsimp only [go_sem, *]))
theorem l25Own_ok (w : Watch) (hp : w.Posts.length ≤ 16777216) (hs : w.Shocks.length ≤ 16777216) : Ctr Try.prog 93 [w.v] [] (w.o 0 1) [some (rows Post.cs w.Posts), some (rows Shock.cs w.Shocks)] := by
 refine Ctr.intro Try.mixed Try.func93 rfl Try.okF93 ?_
 simp -implicitDefEqProofs -dsimp only [go_sem, Try.ntmps93, Try.results93]
 simp -implicitDefEqProofs -dsimp only [go_sem, Watch.v]
 refine chT.intro [true, true, false, true, true, false, false, true, true, false, true, true, true, true, false, false] [true, true, true, true, true, true, true, true, true, true, true, true, true, true, false, false] [none, none, some ⟨none, 5, 36, []⟩, none, none, some ⟨some 2, 8, 36, [7]⟩, some ⟨none, 9, 37, []⟩, none, none, some ⟨some 6, 12, 37, [11]⟩, none, none, none, none, none, none] [⟨5, 8, 36, [7]⟩, ⟨9, 12, 37, [11]⟩] (by kernel_rfl) (by rfl) ?_
 simp -implicitDefEqProofs -dsimp only [go_sem]
 repeat (with_reducible refine sideA ?_)
 refine ⟨⟨by omega, by omega, rows_noOwn _ _⟩, rows_cell _, ⟨by omega, by omega, rows_noOwn _ _⟩, ?_⟩
 refine WeakR.pick [2, 3] (by decide) (fun j hj => by omega) (.inl ?_) ?_
 · first | rfl | (simp [ren, pickF, posOf, Watch.o]; done)
 · simp only [pickH, List.map_cons, List.map_nil, pickB, List.getElem?_cons_zero, List.getElem?_cons_succ, map_ren_rows]
theorem l25Change_ok (n t : Int) (x : Shock) (k m v : Int) (hx : shockB n t x = true) (hk : k = 5 ∨ k = 6 ∨ k = 7) (hv : -100 ≤ v ∧ v ≤ 100) : Ctr Try.prog 157 [x.v, .agg [.int .i64 k, .int .i64 m, .int .i64 v]] [] (.tup [(chgX x k v).v, .bool (chgB x k)]) [] := by
 have hb := shockB_iff.1 hx
 have hw : IntKind.i64.wrap (x.Size + v) = x.Size + v := wrap_i64 (by omega) (by omega)
 rcases hk with hk | hk | hk
 · subst hk
   refine Ctr.intro Try.mixed Try.func157 rfl Try.okF157 ?_
   simp -implicitDefEqProofs -dsimp only [go_sem, Try.ntmps157, Try.results157]
   (repeat ((repeat1' (first | simp -implicitDefEqProofs -dsimp only [go_sem, Shock.v, hw] | simp -dsimp (disch := omega) only [wrap_i64])); repeat (with_reducible refine sideA ?_)))
   refine lateT.path [true, true, true, true, true, true, true, true, true, false, false] [false, false, false, false, false, true, true, true, true, false, false] 1 [2] (by kernel_rfl) ?_
   (repeat ((repeat1' (first | simp -implicitDefEqProofs -dsimp only [go_sem, Shock.v, hw] | simp -dsimp (disch := omega) only [wrap_i64])); repeat (with_reducible refine sideA ?_)))
   repeat' (first | (refine WeakR.drop' ?_ (by rfl); first | rfl | (simp [chgX, chgB, Shock.v, *]; done)) | (refine guardT.splitT (fun _ => ?_) (fun _ => ?_) <;> (repeat ((repeat1' (first | simp -implicitDefEqProofs -dsimp only [go_sem, *] | simp -dsimp (disch := omega) only [wrap_i64])); repeat (with_reducible refine sideA ?_)))) | (refine guardT.splitF (fun _ => ?_) (fun _ => ?_) <;> (repeat ((repeat1' (first | simp -implicitDefEqProofs -dsimp only [go_sem, *] | simp -dsimp (disch := omega) only [wrap_i64])); repeat (with_reducible refine sideA ?_)))))
 · subst hk
   refine Ctr.intro Try.mixed Try.func157 rfl Try.okF157 ?_
   simp -implicitDefEqProofs -dsimp only [go_sem, Try.ntmps157, Try.results157]
   (repeat ((repeat1' (first | simp -implicitDefEqProofs -dsimp only [go_sem, Shock.v, hw] | simp -dsimp (disch := omega) only [wrap_i64])); repeat (with_reducible refine sideA ?_)))
   refine lateT.path [true, true, true, true, false, false] [false, true, true, true, false, false] 1 [2] (by kernel_rfl) ?_
   (repeat ((repeat1' (first | simp -implicitDefEqProofs -dsimp only [go_sem, Shock.v, hw] | simp -dsimp (disch := omega) only [wrap_i64])); repeat (with_reducible refine sideA ?_)))
   repeat' (first | (refine WeakR.drop' ?_ (by rfl); first | rfl | (simp [chgX, chgB, Shock.v, *]; done)) | (refine guardT.splitT (fun _ => ?_) (fun _ => ?_) <;> (repeat ((repeat1' (first | simp -implicitDefEqProofs -dsimp only [go_sem, *] | simp -dsimp (disch := omega) only [wrap_i64])); repeat (with_reducible refine sideA ?_)))) | (refine guardT.splitF (fun _ => ?_) (fun _ => ?_) <;> (repeat ((repeat1' (first | simp -implicitDefEqProofs -dsimp only [go_sem, *] | simp -dsimp (disch := omega) only [wrap_i64])); repeat (with_reducible refine sideA ?_)))))
 · subst hk
   refine Ctr.intro Try.mixed Try.func157 rfl Try.okF157 ?_
   simp -implicitDefEqProofs -dsimp only [go_sem, Try.ntmps157, Try.results157]
   (repeat ((repeat1' (first | simp -implicitDefEqProofs -dsimp only [go_sem, Shock.v, hw] | simp -dsimp (disch := omega) only [wrap_i64])); repeat (with_reducible refine sideA ?_)))
   refine lateT.path [true, true, true, true, true, true, true, true, true, true, true, true, true, true, false, false] [false, false, false, false, false, false, false, false, false, true, true, true, true, true, false, false] 1 [2] (by kernel_rfl) ?_
   (repeat ((repeat1' (first | simp -implicitDefEqProofs -dsimp only [go_sem, Shock.v, hw] | simp -dsimp (disch := omega) only [wrap_i64])); repeat (with_reducible refine sideA ?_)))
   repeat' (first | (refine WeakR.drop' ?_ (by rfl); first | rfl | (simp [chgX, chgB, Shock.v, *]; done)) | (refine guardT.splitT (fun _ => ?_) (fun _ => ?_) <;> (repeat ((repeat1' (first | simp -implicitDefEqProofs -dsimp only [go_sem, *] | simp -dsimp (disch := omega) only [wrap_i64])); repeat (with_reducible refine sideA ?_)))) | (refine guardT.splitF (fun _ => ?_) (fun _ => ?_) <;> (repeat ((repeat1' (first | simp -implicitDefEqProofs -dsimp only [go_sem, *] | simp -dsimp (disch := omega) only [wrap_i64])); repeat (with_reducible refine sideA ?_)))))
theorem l25Up_ok (w : Watch) (hp : w.Posts.length ≤ 16777216) : Ctr Try.prog 155 [w.v] [] (.int .i64 (upN w w.Posts.length : Int)) [] := by
 have hlen : ∀ i, upN w i ≤ i := fun i => Nat.le_trans (List.length_filter_le _ _) (by simp; omega)
 refine Ctr.intro Try.mixed Try.func155 rfl Try.okF155 ?_
 simp -implicitDefEqProofs -dsimp only [go_sem, Try.ntmps155, Try.results155]
 simp -implicitDefEqProofs -dsimp only [go_sem, Watch.v]
 refine LoopT.intro (fun i : Nat => i ≤ w.Posts.length) (fun i => ⟨[.undef, .ptr 0 0, .undef, .int .i64 (upN w i : Int), .int .i64 i, .undef, .undef, .undef, .undef, .undef, .undef, .undef, .undef, .undef, .undef, .undef, .undef, .undef, .undef, .undef, .undef], [some w.cs], 0⟩) (fun i => w.Posts.length - i) 0 (Nat.zero_le _) ?_ (fun i hi => ?_)
 · refine Weak.cut (1) (by simp) (by simp) ?_ ?_
   · simp [LeC, LeV, ren, cutF, upN]
   · simp [cutH, cutB, ren, map_ren_rows, Watch.cs]
 simp -implicitDefEqProofs -dsimp only [go_sem, Watch.cs]
 refine condT.split (fun h1 => ?_) (fun h1 => ?_)
 · simp -implicitDefEqProofs -dsimp only [go_sem, h1, Watch.cs]
   have hi' : i < w.Posts.length := by simpa using h1
   have hr := rows_at Post.csl hi'
   have hll := hlen i
   have hs : upN w (i + 1) = upN w i + (if w.Posts[i].Up then 1 else 0) := by
     rw [upN, upN, List.take_succ_eq_append_getElem hi', List.filter_append, List.length_append]
     congr 1
     cases h : w.Posts[i].Up <;> simp [h]
   (repeat ((repeat1' (first | simp -implicitDefEqProofs -dsimp only [go_sem, hr, Post.cs, Watch.cs] | simp -dsimp (disch := omega) only [wrap_i64])); repeat (with_reducible refine sideA ?_)))
   refine condT.split (fun h2 => ?_) (fun h2 => ?_) <;> (repeat ((repeat1' (first | simp -implicitDefEqProofs -dsimp only [go_sem, h2] | simp -dsimp (disch := omega) only [wrap_i64])); repeat (with_reducible refine sideA ?_)))
   · refine ⟨i + 1, hi', ?_, by omega⟩
     rw [hs, h2]
     refine Weak.cut (1) (by simp) (by simp) ?_ ?_
     · simp [LeC, LeV, ren, cutF]
     · simp [cutH, cutB, ren, map_ren_rows, Watch.cs]
   · refine ⟨i + 1, hi', ?_, by omega⟩
     rw [hs, h2]
     refine Weak.cut (1) (by simp) (by simp) ?_ ?_
     · simp [LeC, LeV, ren, cutF]
     · simp [cutH, cutB, ren, map_ren_rows, Watch.cs]
 · simp -implicitDefEqProofs -dsimp only [go_sem, h1]
   have hi' : i = w.Posts.length := by simp at h1; omega
   subst hi'
   exact WeakR.drop' rfl (by rfl)
end Go.Proofs
end
section
set_option linter.unusedSimpArgs false
set_option linter.unusedVariables false
set_option maxRecDepth 100000
set_option maxHeartbeats 1000000
namespace Go.Proofs
open Go.Lv
def archW (w : Watch) (i : Nat) : Watch := ⟨w.Now, w.Posts, w.Shocks.take i ++ w.Shocks.drop (i + 1), w.Next, w.Archived + 1⟩
theorem l25Archive_ok (w : Watch) (i : Nat) (hw : wB w = true) (hi : i < w.Shocks.length) : Ctr Try.prog 156 [w.v, .int .i64 i] [] (.tup [(archW w i).o 0 1, .bool (archB w (shAt w i))]) [some (rows Post.cs w.Posts), some (rows Shock.cs (w.Shocks.take i ++ w.Shocks.drop (i + 1)))] := by
 have W := wB_ok hw
 have hr := rows_at Shock.csl hi
 have pl := W.plen
 have sl := W.slen
 refine Ctr.intro Try.mixed Try.func156 rfl Try.okF156 ?_
 simp -implicitDefEqProofs -dsimp only [go_sem, Try.ntmps156, Try.results156]
 simp -implicitDefEqProofs -dsimp only [go_sem, Watch.v]
 refine lateT.path [true, true, true, true, true, true, true, true, true, false, false] [false, false, true, true, true, true, true, false, false, false, false] 1 [4] (by kernel_rfl) ?_
 simp -implicitDefEqProofs -dsimp only [go_sem]
 (first | refine callT.at (l25Own_ok w (by omega) (by omega)) ⟨leA, trivial⟩ ?_ | refine callS.at (l25Own_ok w (by omega) (by omega)) ⟨leA, trivial⟩ ?_)
 (repeat ((repeat1' (first | simp -implicitDefEqProofs -dsimp only [go_sem, Watch.o, hr, Shock.cs] | simp -dsimp (disch := omega) only [wrap_i64])); repeat (with_reducible refine sideA ?_)))
 refine chT.intro [false, true, true, true, true, false, true, true, true, true, true, false, true, false] [true, true, true, true, true, true, true, true, true, true, true, true, true, false] [some ⟨none, 15, 37, []⟩, none, none, none, none, some ⟨some 0, 20, 37, [19]⟩, none, none, none, none, none, some ⟨some 5, 26, 37, [19, 25]⟩, none, none] [⟨11, 26, 37, [19, 25]⟩] (by kernel_rfl) (by rfl) ?_
 have hwi : IntKind.i64.wrap ((i : Int) + 1) = ((i + 1 : Nat) : Int) := by rw [wrap_i64 (by omega) (by omega)]; omega
 have ht := rows_take Shock.csl w.Shocks i
 have hd := rows_drop Shock.csl w.Shocks (i + 1)
 have hap : rows Shock.cs (w.Shocks.take i) ++ rows Shock.cs (w.Shocks.drop (i + 1)) = rows Shock.cs (w.Shocks.take i ++ w.Shocks.drop (i + 1)) := (rowsOf_append _ _).symm
 have hln : i + (w.Shocks.length - (i + 1)) = (w.Shocks.take i ++ w.Shocks.drop (i + 1)).length := by simp; omega
 (repeat ((repeat1' (first | simp -implicitDefEqProofs -dsimp only [go_sem, hwi, Nat.sub_zero, ht, hd, hap, hln] | simp -dsimp (disch := omega) only [wrap_i64])); repeat (with_reducible refine sideA ?_)))
 refine ⟨⟨by omega, by omega, rows_noOwn _ _⟩, ?_⟩
 have hwa : IntKind.i64.wrap (w.Archived + 1) = w.Archived + 1 := by have := W.arch; exact wrap_i64 (by omega) (by omega)
 refine lateT.path [true, true, true, true, true, true, true, true, true, true, true, true, true, true, true, true, true, false, false] [false, false, false, false, false, false, false, false, false, true, true, true, true, true, true, true, true, false, false] 1 [1] (by kernel_rfl) ?_
 (repeat ((repeat1' (first | simp -implicitDefEqProofs -dsimp only [go_sem, hwa] | simp -dsimp (disch := omega) only [wrap_i64])); repeat (with_reducible refine sideA ?_)))
 have hx := W.shocks _ (List.getElem_mem hi)
 have hxb := shockB_iff.1 hx
 have hwn : IntKind.i64.wrap (w.Now - w.Shocks[i].Tick) = w.Now - w.Shocks[i].Tick := by have := W.now; exact wrap_i64 (by omega) (by omega)
 repeat' (first | (refine guardT.splitT (fun _ => ?_) (fun _ => ?_) <;> (repeat ((repeat1' (first | simp -implicitDefEqProofs -dsimp only [go_sem, *] | simp -dsimp (disch := omega) only [wrap_i64])); repeat (with_reducible refine sideA ?_)))) | (refine guardT.splitF (fun _ => ?_) (fun _ => ?_) <;> (repeat ((repeat1' (first | simp -implicitDefEqProofs -dsimp only [go_sem, *] | simp -dsimp (disch := omega) only [wrap_i64])); repeat (with_reducible refine sideA ?_)))))
 all_goals
   refine WeakR.pick [2, 6] (by decide) (fun j hj => by omega) (.inl ?_) ?_
   · simp [ren, pickF, posOf, archW, archB, shAt_get hi, *]
   · simp only [pickH, List.map_cons, List.map_nil, pickB, List.getElem?_cons_zero, List.getElem?_cons_succ, map_ren_rows]
end Go.Proofs
end
section
set_option linter.unusedSimpArgs false
set_option linter.unusedVariables false
set_option maxRecDepth 100000
set_option maxHeartbeats 1000000
namespace Go.Proofs
open Go.Lv
def doneW (w : Watch) (k n v : Int) : Bool := makeB w k n v && wB (makeW w k n v)
theorem l25Make1_ok (w : Watch) (n v : Int) (hw : wB w = true) (hv : 1 ≤ v) (hv2 : v ≤ 9223372036854775807) : Ctr Try.prog 78 [w.v, .agg [.int .i64 1, .int .i64 n, .int .i64 v]] [] (.tup [(makeS w 1 n v).o 0 1, .bool (doneW w 1 n v)]) [some (rows Post.cs w.Posts), some (rows Shock.cs w.Shocks)] := by
 have W := wB_ok hw
 have pl := W.plen
 have sl := W.slen
 have wn := W.now
 have hw1 : IntKind.i64.wrap (1000000 - w.Now) = 1000000 - w.Now := wrap_i64 (by omega) (by omega)
 refine Ctr.intro Try.mixed Try.func78 rfl Try.okF78 ?_
 simp -implicitDefEqProofs -dsimp only [go_sem, Try.ntmps78, Try.results78]
 simp -implicitDefEqProofs -dsimp only [go_sem, Watch.v]
 (first | refine callT.at (l25Own_ok w (by omega) (by omega)) ⟨(by first | exact leA | exact Watch.le rfl rfl), trivial⟩ ?_ | refine callS.at (l25Own_ok w (by omega) (by omega)) ⟨(by first | exact leA | exact Watch.le rfl rfl), trivial⟩ ?_)
 (repeat ((repeat1' (first | simp -implicitDefEqProofs -dsimp only [go_sem, Watch.o, hw1] | simp -dsimp (disch := omega) only [wrap_i64])); repeat (with_reducible refine sideA ?_)))
 refine condT.split (fun h1 => ?_) (fun h1 => ?_)
 · (repeat ((repeat1' (first | simp -implicitDefEqProofs -dsimp only [go_sem, h1] | simp -dsimp (disch := omega) only [wrap_i64])); repeat (with_reducible refine sideA ?_)))
   have hm : ¬ v ≤ 1000000 - w.Now := by simp at h1; omega
   have e1 : makeS w 1 n v = w := by simp [makeS, hm]
   have e2 : doneW w 1 n v = false := by simp [doneW, makeB, hm]
   rw [e1, e2]
   refine WeakR.pick [3, 4] (by decide) (fun j hj => by omega) (.inl ?_) ?_
   · first | rfl | (simp [ren, pickF, posOf, Watch.o]; done)
   · simp only [pickH, List.map_cons, List.map_nil, pickB, List.getElem?_cons_zero, List.getElem?_cons_succ, map_ren_rows]
 · have hm : v ≤ 1000000 - w.Now := by simp at h1; omega
   have hw2 : IntKind.i64.wrap (w.Now + v) = w.Now + v := wrap_i64 (by omega) (by omega)
   have e1 : makeS w 1 n v = makeW w 1 n v := by simp [makeS, hm]
   have e3 : makeW w 1 n v = ⟨w.Now + v, w.Posts, w.Shocks, w.Next, w.Archived⟩ := by simp [makeW]
   have e2 : doneW w 1 n v = wB ⟨w.Now + v, w.Posts, w.Shocks, w.Next, w.Archived⟩ := by simp [doneW, makeB, hm, e3]
   rw [e1, e2, e3]
   (repeat ((repeat1' (first | simp -implicitDefEqProofs -dsimp only [go_sem, h1, hw2] | simp -dsimp (disch := omega) only [wrap_i64])); repeat (with_reducible refine sideA ?_)))
   (first | refine callT.at (l25Good_ok ⟨w.Now + v, w.Posts, w.Shocks, w.Next, w.Archived⟩ (by simp; omega) (by simp; omega)) ⟨(by first | exact leA | exact Watch.le rfl rfl), trivial⟩ ?_ | refine callS.at (l25Good_ok ⟨w.Now + v, w.Posts, w.Shocks, w.Next, w.Archived⟩ (by simp; omega) (by simp; omega)) ⟨(by first | exact leA | exact Watch.le rfl rfl), trivial⟩ ?_)
   (repeat ((repeat1' (first | simp -implicitDefEqProofs -dsimp only [go_sem] | simp -dsimp (disch := omega) only [wrap_i64])); repeat (with_reducible refine sideA ?_)))
   refine WeakR.pick [3, 4] (by decide) (fun j hj => by omega) (.inl ?_) ?_
   · first | rfl | (simp [ren, pickF, posOf, Watch.o]; done)
   · simp only [pickH, List.map_cons, List.map_nil, pickB, List.getElem?_cons_zero, List.getElem?_cons_succ, map_ren_rows]
theorem l25Make2_ok (w : Watch) (k n v : Int) (hk : k = 2 ∨ k = 3) (hw : wB w = true) (hs : stepWB w k n v = true) : Ctr Try.prog 78 [w.v, .agg [.int .i64 k, .int .i64 n, .int .i64 v]] [] (.tup [(makeS w k n v).o 0 1, .bool (doneW w k n v)]) [some (rows Post.cs (makeS w k n v).Posts), some (rows Shock.cs w.Shocks)] := by
 have W := wB_ok hw
 have pl := W.plen
 have sl := W.slen
 obtain ⟨i, hi, hix, hin⟩ : ∃ i, ∃ h : i < w.Posts.length, idxI (postIs n) w.Posts = (i : Int) ∧ postIs n w.Posts[i] = true := by
   have : decide (0 ≤ idxI (postIs n) w.Posts) = true := by
     rcases hk with rfl | rfl <;> simp [stepWB] at hs <;> simp [hs.1]
   exact idxI_get this
 have hp : pAt w n = i := by simp [pAt, hix]
 have e1 : makeS w k n v = ⟨w.Now, w.Posts.set i ⟨n, decide (k = 3), w.Now⟩, w.Shocks, w.Next, w.Archived⟩ := by
   rcases hk with rfl | rfl <;> simp [makeS, makeW, hp]
 have e2 : doneW w k n v = (w.Posts[i].Up != decide (k = 3) && wB ⟨w.Now, w.Posts.set i ⟨n, decide (k = 3), w.Now⟩, w.Shocks, w.Next, w.Archived⟩) := by
   rcases hk with rfl | rfl <;> simp [doneW, makeB, makeW, hp, poAt_get hi]
 have hr := rows_at Post.csl hi
 have hsp : ∀ b, splice (rows Post.cs w.Posts) (i * 3) [.int .i64 n, .bool b, .int .i64 w.Now] = rows Post.cs (w.Posts.set i ⟨n, b, w.Now⟩) := fun b => splice_row (cs := Post.cs) Post.csl hi ⟨n, b, w.Now⟩
 have hgood := l25Good_ok ⟨w.Now, w.Posts.set i ⟨n, decide (k = 3), w.Now⟩, w.Shocks, w.Next, w.Archived⟩ (by simp; omega) (by simp; omega)
 rw [e1, e2]
 have hlen : ∀ p, (w.Posts.set i p).length = w.Posts.length := fun p => by simp
 rcases hk with rfl | rfl
 · have hd : decide ((2 : Int) = 3) = false := rfl
   rw [hd] at hgood ⊢
   simp only [Watch.v, hlen] at hgood
   simp only [Watch.o, hlen]
   refine Ctr.intro Try.mixed Try.func78 rfl Try.okF78 ?_
   simp -implicitDefEqProofs -dsimp only [go_sem, Try.ntmps78, Try.results78]
   simp -implicitDefEqProofs -dsimp only [go_sem, Watch.v]
   (first | refine callT.at (l25Own_ok w (by omega) (by omega)) ⟨(by first | exact leA | exact Watch.le rfl rfl), trivial⟩ ?_ | refine callS.at (l25Own_ok w (by omega) (by omega)) ⟨(by first | exact leA | exact Watch.le rfl rfl), trivial⟩ ?_)
   (repeat ((repeat1' (first | simp -implicitDefEqProofs -dsimp only [go_sem, Watch.o] | simp -dsimp (disch := omega) only [wrap_i64])); repeat (with_reducible refine sideA ?_)))
   (first | refine callT.at (l25Post_ok w n (by omega)) ⟨(by first | exact leA | exact Watch.le rfl rfl), (by first | exact leA | exact Watch.le rfl rfl), trivial⟩ ?_ | refine callS.at (l25Post_ok w n (by omega)) ⟨(by first | exact leA | exact Watch.le rfl rfl), (by first | exact leA | exact Watch.le rfl rfl), trivial⟩ ?_)
   rw [hix]
   (repeat ((repeat1' (first | simp -implicitDefEqProofs -dsimp only [go_sem, hr, Post.cs] | simp -dsimp (disch := omega) only [wrap_i64])); repeat (with_reducible refine sideA ?_)))
   refine guardT.splitT (fun g => ?_) (fun g => ?_) <;> (repeat ((repeat1' (first | simp -implicitDefEqProofs -dsimp only [go_sem, g, hsp, Int.toNat_natCast] | simp -dsimp (disch := omega) only [wrap_i64])); repeat (with_reducible refine sideA ?_)))
   · skip
     (first | refine callT.at (hgood) ⟨(by first | exact leA | exact Watch.le rfl rfl), trivial⟩ ?_ | refine callS.at (hgood) ⟨(by first | exact leA | exact Watch.le rfl rfl), trivial⟩ ?_)
     (repeat ((repeat1' (first | simp -implicitDefEqProofs -dsimp only [go_sem, g] | simp -dsimp (disch := omega) only [wrap_i64])); repeat (with_reducible refine sideA ?_)))
     simp at g
     refine WeakR.pick [3, 4] (by decide) (fun j hj => by omega) (.inl ?_) ?_
     · first | rfl | (simp [ren, pickF, posOf, Watch.o, g]; done)
     · simp only [pickH, List.map_cons, List.map_nil, pickB, List.getElem?_cons_zero, List.getElem?_cons_succ, map_ren_rows]
   · skip
     simp at g
     refine WeakR.pick [3, 4] (by decide) (fun j hj => by omega) (.inl ?_) ?_
     · first | rfl | (simp [ren, pickF, posOf, Watch.o, g]; done)
     · simp only [pickH, List.map_cons, List.map_nil, pickB, List.getElem?_cons_zero, List.getElem?_cons_succ, map_ren_rows]
 · have hd : decide ((3 : Int) = 3) = true := rfl
   rw [hd] at hgood ⊢
   simp only [Watch.v, hlen] at hgood
   simp only [Watch.o, hlen]
   refine Ctr.intro Try.mixed Try.func78 rfl Try.okF78 ?_
   simp -implicitDefEqProofs -dsimp only [go_sem, Try.ntmps78, Try.results78]
   simp -implicitDefEqProofs -dsimp only [go_sem, Watch.v]
   (first | refine callT.at (l25Own_ok w (by omega) (by omega)) ⟨(by first | exact leA | exact Watch.le rfl rfl), trivial⟩ ?_ | refine callS.at (l25Own_ok w (by omega) (by omega)) ⟨(by first | exact leA | exact Watch.le rfl rfl), trivial⟩ ?_)
   (repeat ((repeat1' (first | simp -implicitDefEqProofs -dsimp only [go_sem, Watch.o] | simp -dsimp (disch := omega) only [wrap_i64])); repeat (with_reducible refine sideA ?_)))
   (first | refine callT.at (l25Post_ok w n (by omega)) ⟨(by first | exact leA | exact Watch.le rfl rfl), (by first | exact leA | exact Watch.le rfl rfl), trivial⟩ ?_ | refine callS.at (l25Post_ok w n (by omega)) ⟨(by first | exact leA | exact Watch.le rfl rfl), (by first | exact leA | exact Watch.le rfl rfl), trivial⟩ ?_)
   rw [hix]
   (repeat ((repeat1' (first | simp -implicitDefEqProofs -dsimp only [go_sem, hr, Post.cs] | simp -dsimp (disch := omega) only [wrap_i64])); repeat (with_reducible refine sideA ?_)))
   refine guardT.splitT (fun g => ?_) (fun g => ?_) <;> (repeat ((repeat1' (first | simp -implicitDefEqProofs -dsimp only [go_sem, g, hsp, Int.toNat_natCast] | simp -dsimp (disch := omega) only [wrap_i64])); repeat (with_reducible refine sideA ?_)))
   · skip
     (first | refine callT.at (hgood) ⟨(by first | exact leA | exact Watch.le rfl rfl), trivial⟩ ?_ | refine callS.at (hgood) ⟨(by first | exact leA | exact Watch.le rfl rfl), trivial⟩ ?_)
     (repeat ((repeat1' (first | simp -implicitDefEqProofs -dsimp only [go_sem, g] | simp -dsimp (disch := omega) only [wrap_i64])); repeat (with_reducible refine sideA ?_)))
     simp at g
     refine WeakR.pick [3, 4] (by decide) (fun j hj => by omega) (.inl ?_) ?_
     · first | rfl | (simp [ren, pickF, posOf, Watch.o, g]; done)
     · simp only [pickH, List.map_cons, List.map_nil, pickB, List.getElem?_cons_zero, List.getElem?_cons_succ, map_ren_rows]
   · skip
     simp at g
     refine WeakR.pick [3, 4] (by decide) (fun j hj => by omega) (.inl ?_) ?_
     · first | rfl | (simp [ren, pickF, posOf, Watch.o, g]; done)
     · simp only [pickH, List.map_cons, List.map_nil, pickB, List.getElem?_cons_zero, List.getElem?_cons_succ, map_ren_rows]
theorem l25Make4_ok (w : Watch) (n v : Int) (hw : wB w = true) : Ctr Try.prog 78 [w.v, .agg [.int .i64 4, .int .i64 n, .int .i64 v]] [] (.tup [(makeS w 4 n v).o 0 1, .bool (doneW w 4 n v)]) [some (rows Post.cs w.Posts), some (rows Shock.cs (makeS w 4 n v).Shocks)] := by
 have W := wB_ok hw
 have pl := W.plen
 have sl := W.slen
 have wn := W.next
 have hwn : IntKind.i64.wrap (w.Next + 1) = w.Next + 1 := wrap_i64 (by omega) (by omega)
 obtain ⟨x, hx⟩ : ∃ x : Shock, x = ⟨w.Next, 0, (upN w w.Posts.length : Int), 0, w.Now⟩ := ⟨_, rfl⟩
 have e1 : makeS w 4 n v = ⟨w.Now, w.Posts, w.Shocks ++ [x], w.Next + 1, w.Archived⟩ := by simp [makeS, makeW, hx]
 have e2 : doneW w 4 n v = wB ⟨w.Now, w.Posts, w.Shocks ++ [x], w.Next + 1, w.Archived⟩ := by simp [doneW, makeB, makeW, hx]
 have hsn : rows Shock.cs w.Shocks ++ [.int .i64 w.Next, .int .i64 0, .int .i64 (upN w w.Posts.length : Int), .int .i64 0, .int .i64 w.Now] = rows Shock.cs (w.Shocks ++ [x]) := by
   rw [hx]
   exact rows_snoc (cs := Shock.cs) w.Shocks ⟨w.Next, 0, (upN w w.Posts.length : Int), 0, w.Now⟩
 have hln : w.Shocks.length + 1 = (w.Shocks ++ [x]).length := by simp
 have hgood := l25Good_ok ⟨w.Now, w.Posts, w.Shocks ++ [x], w.Next + 1, w.Archived⟩ (by simp; omega) (by simp; omega)
 rw [e1, e2]
 refine Ctr.intro Try.mixed Try.func78 rfl Try.okF78 ?_
 simp -implicitDefEqProofs -dsimp only [go_sem, Try.ntmps78, Try.results78]
 simp -implicitDefEqProofs -dsimp only [go_sem, Watch.v]
 (first | refine callT.at (l25Own_ok w (by omega) (by omega)) ⟨(by first | exact leA | exact Watch.le rfl rfl), trivial⟩ ?_ | refine callS.at (l25Own_ok w (by omega) (by omega)) ⟨(by first | exact leA | exact Watch.le rfl rfl), trivial⟩ ?_)
 (repeat ((repeat1' (first | simp -implicitDefEqProofs -dsimp only [go_sem, Watch.o] | simp -dsimp (disch := omega) only [wrap_i64])); repeat (with_reducible refine sideA ?_)))
 (first | refine callT.at (l25Up_ok w (by omega)) ⟨(by first | exact leA | exact Watch.le rfl rfl), trivial⟩ ?_ | refine callS.at (l25Up_ok w (by omega)) ⟨(by first | exact leA | exact Watch.le rfl rfl), trivial⟩ ?_)
 (repeat ((repeat1' (first | simp -implicitDefEqProofs -dsimp only [go_sem, hwn, hsn, hln] | simp -dsimp (disch := omega) only [wrap_i64])); repeat (with_reducible refine sideA ?_)))
 (first | refine callT.at (hgood) ⟨(by first | exact leA | exact Watch.le rfl rfl), trivial⟩ ?_ | refine callS.at (hgood) ⟨(by first | exact leA | exact Watch.le rfl rfl), trivial⟩ ?_)
 (repeat ((repeat1' (first | simp -implicitDefEqProofs -dsimp only [go_sem, hsn] | simp -dsimp (disch := omega) only [wrap_i64])); repeat (with_reducible refine sideA ?_)))
 refine WeakR.pick [3, 4] (by decide) (fun j hj => by omega) (.inl ?_) ?_
 · first | rfl | (simp [ren, pickF, posOf, Watch.o]; done)
 · simp only [pickH, List.map_cons, List.map_nil, pickB, List.getElem?_cons_zero, List.getElem?_cons_succ, map_ren_rows]
theorem l25Make8_ok (w : Watch) (n v : Int) (hw : wB w = true) (hs : stepWB w 8 n v = true) : Ctr Try.prog 78 [w.v, .agg [.int .i64 8, .int .i64 n, .int .i64 v]] [] (.tup [(makeS w 8 n v).o 0 1, .bool (doneW w 8 n v)]) [some (rows Post.cs w.Posts), some (rows Shock.cs (makeS w 8 n v).Shocks)] := by
 have W := wB_ok hw
 have pl := W.plen
 have sl := W.slen
 obtain ⟨i, hi, hix, hin⟩ : ∃ i, ∃ h : i < w.Shocks.length, idxI (shockIs n) w.Shocks = (i : Int) ∧ shockIs n w.Shocks[i] = true := by
   have : decide (0 ≤ idxI (shockIs n) w.Shocks) = true := by
     simp [stepWB] at hs
     simp [hs.1]
   exact idxI_get this
 have hp : sAt w n = i := by simp [sAt, hix]
 have e1 : makeS w 8 n v = archW w i := by simp [makeS, makeW, archW, hp]
 have e2 : doneW w 8 n v = (archB w (shAt w i) && wB (archW w i)) := by simp [doneW, makeB, makeW, archW, hp]
 have hgood := l25Good_ok (archW w i) (by simp [archW]; omega) (by simp [archW]; omega)
 have harch := l25Archive_ok w i hw hi
 have e3 : (archW w i).Shocks = w.Shocks.take i ++ w.Shocks.drop (i + 1) := rfl
 rw [e1, e2, e3]
 refine Ctr.intro Try.mixed Try.func78 rfl Try.okF78 ?_
 simp -implicitDefEqProofs -dsimp only [go_sem, Try.ntmps78, Try.results78]
 simp -implicitDefEqProofs -dsimp only [go_sem, Watch.v]
 (first | refine callT.at (l25Own_ok w (by omega) (by omega)) ⟨(by first | exact leA | exact Watch.le rfl rfl), trivial⟩ ?_ | refine callS.at (l25Own_ok w (by omega) (by omega)) ⟨(by first | exact leA | exact Watch.le rfl rfl), trivial⟩ ?_)
 (repeat ((repeat1' (first | simp -implicitDefEqProofs -dsimp only [go_sem, Watch.o] | simp -dsimp (disch := omega) only [wrap_i64])); repeat (with_reducible refine sideA ?_)))
 (first | refine callT.at (l25Find_ok w n (by omega)) ⟨(by first | exact leA | exact Watch.le rfl rfl), (by first | exact leA | exact Watch.le rfl rfl), trivial⟩ ?_ | refine callS.at (l25Find_ok w n (by omega)) ⟨(by first | exact leA | exact Watch.le rfl rfl), (by first | exact leA | exact Watch.le rfl rfl), trivial⟩ ?_)
 rw [hix]
 (repeat ((repeat1' (first | simp -implicitDefEqProofs -dsimp only [go_sem] | simp -dsimp (disch := omega) only [wrap_i64])); repeat (with_reducible refine sideA ?_)))
 (first | refine callT.at (harch) ⟨(by first | exact leA | exact Watch.le rfl rfl), (by first | exact leA | exact Watch.le rfl rfl), trivial⟩ ?_ | refine callS.at (harch) ⟨(by first | exact leA | exact Watch.le rfl rfl), (by first | exact leA | exact Watch.le rfl rfl), trivial⟩ ?_)
 (repeat ((repeat1' (first | simp -implicitDefEqProofs -dsimp only [go_sem, Watch.o] | simp -dsimp (disch := omega) only [wrap_i64])); repeat (with_reducible refine sideA ?_)))
 refine guardT.splitT (fun g => ?_) (fun g => ?_) <;> (repeat ((repeat1' (first | simp -implicitDefEqProofs -dsimp only [go_sem, g] | simp -dsimp (disch := omega) only [wrap_i64])); repeat (with_reducible refine sideA ?_)))
 · skip
   (first | refine callT.at (hgood) ⟨(by first | exact leA | exact Watch.le rfl rfl), trivial⟩ ?_ | refine callS.at (hgood) ⟨(by first | exact leA | exact Watch.le rfl rfl), trivial⟩ ?_)
   (repeat ((repeat1' (first | simp -implicitDefEqProofs -dsimp only [go_sem, g] | simp -dsimp (disch := omega) only [wrap_i64])); repeat (with_reducible refine sideA ?_)))
   refine WeakR.pick [6, 7] (by decide) (fun j hj => by omega) (.inl ?_) ?_
   · first | rfl | (simp [ren, pickF, posOf, Watch.o, g, archW]; done)
   · simp only [pickH, List.map_cons, List.map_nil, pickB, List.getElem?_cons_zero, List.getElem?_cons_succ, map_ren_rows]
 · skip
   refine WeakR.pick [6, 7] (by decide) (fun j hj => by omega) (.inl ?_) ?_
   · first | rfl | (simp [ren, pickF, posOf, Watch.o, g, archW]; done)
   · simp only [pickH, List.map_cons, List.map_nil, pickB, List.getElem?_cons_zero, List.getElem?_cons_succ, map_ren_rows]
theorem l25Make5_ok (w : Watch) (k n v : Int) (hk : k = 5 ∨ k = 6 ∨ k = 7) (hw : wB w = true) (hs : stepWB w k n v = true) (hv : -100 ≤ v ∧ v ≤ 100) : Ctr Try.prog 78 [w.v, .agg [.int .i64 k, .int .i64 n, .int .i64 v]] [] (.tup [(makeS w k n v).o 0 1, .bool (doneW w k n v)]) [some (rows Post.cs w.Posts), some (rows Shock.cs (makeS w k n v).Shocks)] := by
 have W := wB_ok hw
 have pl := W.plen
 have sl := W.slen
 obtain ⟨i, hi, hix, hin⟩ : ∃ i, ∃ h : i < w.Shocks.length, idxI (shockIs n) w.Shocks = (i : Int) ∧ shockIs n w.Shocks[i] = true := by
   have : decide (0 ≤ idxI (shockIs n) w.Shocks) = true := by
     rcases hk with rfl | rfl | rfl <;> simp [stepWB] at hs <;> simp [hs]
   exact idxI_get this
 have hp : sAt w n = i := by simp [sAt, hix]
 have hsh := shAt_get hi
 have e1 : makeS w k n v = ⟨w.Now, w.Posts, w.Shocks.set i (chgX w.Shocks[i] k v), w.Next, w.Archived⟩ := by
   rcases hk with rfl | rfl | rfl <;> simp [makeS, makeW, hp, hsh]
 have e2 : doneW w k n v = (chgB w.Shocks[i] k && wB ⟨w.Now, w.Posts, w.Shocks.set i (chgX w.Shocks[i] k v), w.Next, w.Archived⟩) := by
   rcases hk with rfl | rfl | rfl <;> simp [doneW, makeB, makeW, hp, hsh]
 have hr := rows_at Shock.csl hi
 have hchg := l25Change_ok w.Next w.Now w.Shocks[i] k n v (W.shocks _ (List.getElem_mem hi)) hk hv
 have hlen : ∀ p, (w.Shocks.set i p).length = w.Shocks.length := fun p => by simp
 have hgood := l25Good_ok ⟨w.Now, w.Posts, w.Shocks.set i (chgX w.Shocks[i] k v), w.Next, w.Archived⟩ (by simp; omega) (by simp; omega)
 generalize chgX w.Shocks[i] k v = y at e1 e2 hchg hgood
 have hsp : splice (rows Shock.cs w.Shocks) (i * 5) [.int .i64 y.Number, .int .i64 y.State, .int .i64 y.Seen, .int .i64 y.Size, .int .i64 y.Tick] = rows Shock.cs (w.Shocks.set i y) := splice_row (cs := Shock.cs) Shock.csl hi y
 rw [e1, e2]
 clear e1 e2
 simp only [Watch.v, hlen] at hgood
 simp only [Watch.o, hlen]
 generalize chgB w.Shocks[i] k = b at *
 rcases hk with rfl | rfl | rfl
 · skip
   refine Ctr.intro Try.mixed Try.func78 rfl Try.okF78 ?_
   simp -implicitDefEqProofs -dsimp only [go_sem, Try.ntmps78, Try.results78]
   simp -implicitDefEqProofs -dsimp only [go_sem, Watch.v]
   (first | refine callT.at (l25Own_ok w (by omega) (by omega)) ⟨(by first | exact leA | exact Watch.le rfl rfl), trivial⟩ ?_ | refine callS.at (l25Own_ok w (by omega) (by omega)) ⟨(by first | exact leA | exact Watch.le rfl rfl), trivial⟩ ?_)
   (repeat ((repeat1' (first | simp -implicitDefEqProofs -dsimp only [go_sem, Watch.o] | simp -dsimp (disch := omega) only [wrap_i64])); repeat (with_reducible refine sideA ?_)))
   (first | refine callT.at (l25Find_ok w n (by omega)) ⟨(by first | exact leA | exact Watch.le rfl rfl), (by first | exact leA | exact Watch.le rfl rfl), trivial⟩ ?_ | refine callS.at (l25Find_ok w n (by omega)) ⟨(by first | exact leA | exact Watch.le rfl rfl), (by first | exact leA | exact Watch.le rfl rfl), trivial⟩ ?_)
   rw [hix]
   (repeat ((repeat1' (first | simp -implicitDefEqProofs -dsimp only [go_sem, hr, Shock.cs] | simp -dsimp (disch := omega) only [wrap_i64])); repeat (with_reducible refine sideA ?_)))
   (first | refine callT.at (hchg) ⟨(by first | exact leA | exact Watch.le rfl rfl), (by first | exact leA | exact Watch.le rfl rfl), trivial⟩ ?_ | refine callS.at (hchg) ⟨(by first | exact leA | exact Watch.le rfl rfl), (by first | exact leA | exact Watch.le rfl rfl), trivial⟩ ?_)
   (repeat ((repeat1' (first | simp -implicitDefEqProofs -dsimp only [go_sem, Shock.v, hsp, Int.toNat_natCast] | simp -dsimp (disch := omega) only [wrap_i64])); repeat (with_reducible refine sideA ?_)))
   refine guardT.splitT (fun g => ?_) (fun g => ?_) <;> (repeat ((repeat1' (first | simp -implicitDefEqProofs -dsimp only [go_sem, g, hsp, Int.toNat_natCast] | simp -dsimp (disch := omega) only [wrap_i64])); repeat (with_reducible refine sideA ?_)))
   · skip
     (first | refine callT.at (hgood) ⟨(by first | exact leA | exact Watch.le rfl rfl), trivial⟩ ?_ | refine callS.at (hgood) ⟨(by first | exact leA | exact Watch.le rfl rfl), trivial⟩ ?_)
     (repeat ((repeat1' (first | simp -implicitDefEqProofs -dsimp only [go_sem, g] | simp -dsimp (disch := omega) only [wrap_i64])); repeat (with_reducible refine sideA ?_)))
     refine WeakR.pick [3, 4] (by decide) (fun j hj => by omega) (.inl ?_) ?_
     · first | rfl | (simp [ren, pickF, posOf, Watch.o, g]; done)
     · simp only [pickH, List.map_cons, List.map_nil, pickB, List.getElem?_cons_zero, List.getElem?_cons_succ, map_ren_rows]
   · skip
     refine WeakR.pick [3, 4] (by decide) (fun j hj => by omega) (.inl ?_) ?_
     · first | rfl | (simp [ren, pickF, posOf, Watch.o, g]; done)
     · simp only [pickH, List.map_cons, List.map_nil, pickB, List.getElem?_cons_zero, List.getElem?_cons_succ, map_ren_rows]
 · skip
   refine Ctr.intro Try.mixed Try.func78 rfl Try.okF78 ?_
   simp -implicitDefEqProofs -dsimp only [go_sem, Try.ntmps78, Try.results78]
   simp -implicitDefEqProofs -dsimp only [go_sem, Watch.v]
   (first | refine callT.at (l25Own_ok w (by omega) (by omega)) ⟨(by first | exact leA | exact Watch.le rfl rfl), trivial⟩ ?_ | refine callS.at (l25Own_ok w (by omega) (by omega)) ⟨(by first | exact leA | exact Watch.le rfl rfl), trivial⟩ ?_)
   (repeat ((repeat1' (first | simp -implicitDefEqProofs -dsimp only [go_sem, Watch.o] | simp -dsimp (disch := omega) only [wrap_i64])); repeat (with_reducible refine sideA ?_)))
   (first | refine callT.at (l25Find_ok w n (by omega)) ⟨(by first | exact leA | exact Watch.le rfl rfl), (by first | exact leA | exact Watch.le rfl rfl), trivial⟩ ?_ | refine callS.at (l25Find_ok w n (by omega)) ⟨(by first | exact leA | exact Watch.le rfl rfl), (by first | exact leA | exact Watch.le rfl rfl), trivial⟩ ?_)
   rw [hix]
   (repeat ((repeat1' (first | simp -implicitDefEqProofs -dsimp only [go_sem, hr, Shock.cs] | simp -dsimp (disch := omega) only [wrap_i64])); repeat (with_reducible refine sideA ?_)))
   (first | refine callT.at (hchg) ⟨(by first | exact leA | exact Watch.le rfl rfl), (by first | exact leA | exact Watch.le rfl rfl), trivial⟩ ?_ | refine callS.at (hchg) ⟨(by first | exact leA | exact Watch.le rfl rfl), (by first | exact leA | exact Watch.le rfl rfl), trivial⟩ ?_)
   (repeat ((repeat1' (first | simp -implicitDefEqProofs -dsimp only [go_sem, Shock.v, hsp, Int.toNat_natCast] | simp -dsimp (disch := omega) only [wrap_i64])); repeat (with_reducible refine sideA ?_)))
   refine guardT.splitT (fun g => ?_) (fun g => ?_) <;> (repeat ((repeat1' (first | simp -implicitDefEqProofs -dsimp only [go_sem, g, hsp, Int.toNat_natCast] | simp -dsimp (disch := omega) only [wrap_i64])); repeat (with_reducible refine sideA ?_)))
   · skip
     (first | refine callT.at (hgood) ⟨(by first | exact leA | exact Watch.le rfl rfl), trivial⟩ ?_ | refine callS.at (hgood) ⟨(by first | exact leA | exact Watch.le rfl rfl), trivial⟩ ?_)
     (repeat ((repeat1' (first | simp -implicitDefEqProofs -dsimp only [go_sem, g] | simp -dsimp (disch := omega) only [wrap_i64])); repeat (with_reducible refine sideA ?_)))
     refine WeakR.pick [3, 4] (by decide) (fun j hj => by omega) (.inl ?_) ?_
     · first | rfl | (simp [ren, pickF, posOf, Watch.o, g]; done)
     · simp only [pickH, List.map_cons, List.map_nil, pickB, List.getElem?_cons_zero, List.getElem?_cons_succ, map_ren_rows]
   · skip
     refine WeakR.pick [3, 4] (by decide) (fun j hj => by omega) (.inl ?_) ?_
     · first | rfl | (simp [ren, pickF, posOf, Watch.o, g]; done)
     · simp only [pickH, List.map_cons, List.map_nil, pickB, List.getElem?_cons_zero, List.getElem?_cons_succ, map_ren_rows]
 · skip
   refine Ctr.intro Try.mixed Try.func78 rfl Try.okF78 ?_
   simp -implicitDefEqProofs -dsimp only [go_sem, Try.ntmps78, Try.results78]
   simp -implicitDefEqProofs -dsimp only [go_sem, Watch.v]
   (first | refine callT.at (l25Own_ok w (by omega) (by omega)) ⟨(by first | exact leA | exact Watch.le rfl rfl), trivial⟩ ?_ | refine callS.at (l25Own_ok w (by omega) (by omega)) ⟨(by first | exact leA | exact Watch.le rfl rfl), trivial⟩ ?_)
   (repeat ((repeat1' (first | simp -implicitDefEqProofs -dsimp only [go_sem, Watch.o] | simp -dsimp (disch := omega) only [wrap_i64])); repeat (with_reducible refine sideA ?_)))
   (first | refine callT.at (l25Find_ok w n (by omega)) ⟨(by first | exact leA | exact Watch.le rfl rfl), (by first | exact leA | exact Watch.le rfl rfl), trivial⟩ ?_ | refine callS.at (l25Find_ok w n (by omega)) ⟨(by first | exact leA | exact Watch.le rfl rfl), (by first | exact leA | exact Watch.le rfl rfl), trivial⟩ ?_)
   rw [hix]
   (repeat ((repeat1' (first | simp -implicitDefEqProofs -dsimp only [go_sem, hr, Shock.cs] | simp -dsimp (disch := omega) only [wrap_i64])); repeat (with_reducible refine sideA ?_)))
   (first | refine callT.at (hchg) ⟨(by first | exact leA | exact Watch.le rfl rfl), (by first | exact leA | exact Watch.le rfl rfl), trivial⟩ ?_ | refine callS.at (hchg) ⟨(by first | exact leA | exact Watch.le rfl rfl), (by first | exact leA | exact Watch.le rfl rfl), trivial⟩ ?_)
   (repeat ((repeat1' (first | simp -implicitDefEqProofs -dsimp only [go_sem, Shock.v, hsp, Int.toNat_natCast] | simp -dsimp (disch := omega) only [wrap_i64])); repeat (with_reducible refine sideA ?_)))
   refine guardT.splitT (fun g => ?_) (fun g => ?_) <;> (repeat ((repeat1' (first | simp -implicitDefEqProofs -dsimp only [go_sem, g, hsp, Int.toNat_natCast] | simp -dsimp (disch := omega) only [wrap_i64])); repeat (with_reducible refine sideA ?_)))
   · skip
     (first | refine callT.at (hgood) ⟨(by first | exact leA | exact Watch.le rfl rfl), trivial⟩ ?_ | refine callS.at (hgood) ⟨(by first | exact leA | exact Watch.le rfl rfl), trivial⟩ ?_)
     (repeat ((repeat1' (first | simp -implicitDefEqProofs -dsimp only [go_sem, g] | simp -dsimp (disch := omega) only [wrap_i64])); repeat (with_reducible refine sideA ?_)))
     refine WeakR.pick [3, 4] (by decide) (fun j hj => by omega) (.inl ?_) ?_
     · first | rfl | (simp [ren, pickF, posOf, Watch.o, g]; done)
     · simp only [pickH, List.map_cons, List.map_nil, pickB, List.getElem?_cons_zero, List.getElem?_cons_succ, map_ren_rows]
   · skip
     refine WeakR.pick [3, 4] (by decide) (fun j hj => by omega) (.inl ?_) ?_
     · first | rfl | (simp [ren, pickF, posOf, Watch.o, g]; done)
     · simp only [pickH, List.map_cons, List.map_nil, pickB, List.getElem?_cons_zero, List.getElem?_cons_succ, map_ren_rows]
theorem stepWB_cases {w : Watch} {k n v : Int} (h : stepWB w k n v = true) : (k = 1 ∧ 1 ≤ v) ∨ (k = 2 ∨ k = 3) ∨ k = 4 ∨ k = 8 ∨ ((k = 5 ∨ k = 6 ∨ k = 7) ∧ -100 ≤ v ∧ v ≤ 100) := by
 unfold stepWB at h
 split at h
 · rename_i hk; simp at h; exact .inl ⟨hk, h.2⟩
 split at h
 · rename_i hk; exact .inr (.inl hk)
 split at h
 · rename_i hk; exact .inr (.inr (.inl hk))
 split at h
 · rename_i hk; simp [inB'] at h; exact .inr (.inr (.inr (.inr ⟨.inl hk, by omega, by omega⟩)))
 split at h
 · rename_i hk; simp [inB'] at h; exact .inr (.inr (.inr (.inr ⟨.inr (.inl hk), by omega, by omega⟩)))
 · simp at h
   rcases h.1.1 with hk | hk
   · exact .inr (.inr (.inr (.inr ⟨.inr (.inr hk), by omega, by omega⟩)))
   · exact .inr (.inr (.inr (.inl hk)))
theorem l25Make_ok (w : Watch) (k n v : Int) (hw : wB w = true) (hs : stepWB w k n v = true) (hv : v ≤ 9223372036854775807) : Ctr Try.prog 78 [w.v, .agg [.int .i64 k, .int .i64 n, .int .i64 v]] [] (.tup [(makeS w k n v).o 0 1, .bool (doneW w k n v)]) [some (rows Post.cs (makeS w k n v).Posts), some (rows Shock.cs (makeS w k n v).Shocks)] := by
 rcases stepWB_cases hs with ⟨rfl, h1⟩ | hk | rfl | rfl | ⟨hk, h1⟩
 · have e : (makeS w 1 n v).Posts = w.Posts ∧ (makeS w 1 n v).Shocks = w.Shocks := by unfold makeS makeW; split <;> simp
   rw [e.1, e.2]
   exact l25Make1_ok w n v hw h1 hv
 · have e : (makeS w k n v).Shocks = w.Shocks := by rcases hk with rfl | rfl <;> simp [makeS, makeW]
   rw [e]
   exact l25Make2_ok w k n v hk hw hs
 · have e : (makeS w 4 n v).Posts = w.Posts := by simp [makeS, makeW]
   rw [e]
   exact l25Make4_ok w n v hw
 · have e : (makeS w 8 n v).Posts = w.Posts := by simp [makeS, makeW]
   rw [e]
   exact l25Make8_ok w n v hw hs
 · have e : (makeS w k n v).Posts = w.Posts := by rcases hk with rfl | rfl | rfl <;> simp [makeS, makeW]
   rw [e]
   exact l25Make5_ok w k n v hk hw hs h1
def stepW (w : Watch) (k n v : Int) : Option Watch := if wB w && stepWB w k n v && doneW w k n v then some (makeW w k n v) else none
def zeroW : V := .agg [.int .i64 0, .nilsl, .nilsl, .int .i64 0, .int .i64 0]
def stwR : Option Watch → V
 | none => .tup [zeroW, .bool false]
 | some b => .tup [b.o 0 1, .bool true]
def stwH : Option Watch → Hp
 | none => []
 | some b => [some (rows Post.cs b.Posts), some (rows Shock.cs b.Shocks)]
theorem stepW_some {w b : Watch} {k n v : Int} (h : stepW w k n v = some b) : wB w = true ∧ stepWB w k n v = true ∧ makeB w k n v = true ∧ b = makeW w k n v ∧ wB b = true := by
 unfold stepW at h
 split at h
 · rename_i h2
   simp only [Bool.and_eq_true, doneW] at h2
   simp only [Option.some.injEq] at h
   subst h
   exact ⟨h2.1.1, h2.1.2, h2.2.1, rfl, h2.2.2⟩
 · cases h
theorem makeS_done {w : Watch} {k n v : Int} (h : doneW w k n v = true) : makeS w k n v = makeW w k n v := by
 unfold makeS
 split
 · rename_i h1
   obtain ⟨rfl, h2⟩ := h1
   simp [doneW, makeB, h2] at h
 · rfl
theorem sStepWatch_ok (w : Watch) (k n v : Int) (hp : w.Posts.length ≤ 16777216) (hs : w.Shocks.length ≤ 16777216) (hv : v ≤ 9223372036854775807) : Ctr Try.prog 20 [w.v, .agg [.int .i64 k, .int .i64 n, .int .i64 v]] [] (stwR (stepW w k n v)) (stwH (stepW w k n v)) := by
 refine Ctr.intro Try.mixed Try.func20 rfl Try.okF20 ?_
 simp -implicitDefEqProofs -dsimp only [go_sem, Try.ntmps20, Try.results20]
 simp -implicitDefEqProofs -dsimp only [go_sem, Watch.v]
 (first | refine callT.at (l25Good_ok w (by omega) (by omega)) ⟨(by first | exact leA | exact Watch.le rfl rfl), trivial⟩ ?_ | refine callS.at (l25Good_ok w (by omega) (by omega)) ⟨(by first | exact leA | exact Watch.le rfl rfl), trivial⟩ ?_)
 have no : stepW w k n v = none → ∀ h : Hp, WeakR 0 (.tup [.agg [.int .i64 0, .nilsl, .nilsl, .int .i64 0, .int .i64 0], .bool false]) h (stwR (stepW w k n v)) (stwH (stepW w k n v)) := by
   intro e h
   rw [e]
   exact WeakR.drop' rfl (by rfl)
 cases hw : wB w with
 | false =>
   (repeat ((repeat1' (first | simp -implicitDefEqProofs -dsimp only [go_sem] | simp -dsimp (disch := omega) only [wrap_i64])); repeat (with_reducible refine sideA ?_)))
   exact no (by simp [stepW, hw]) _
 | true =>
   (repeat ((repeat1' (first | simp -implicitDefEqProofs -dsimp only [go_sem] | simp -dsimp (disch := omega) only [wrap_i64])); repeat (with_reducible refine sideA ?_)))
   (first | refine callT.at (l25Step_ok w k n v hp hs) ⟨(by first | exact leA | exact Watch.le rfl rfl), (by first | exact leA | exact Watch.le rfl rfl), trivial⟩ ?_ | refine callS.at (l25Step_ok w k n v hp hs) ⟨(by first | exact leA | exact Watch.le rfl rfl), (by first | exact leA | exact Watch.le rfl rfl), trivial⟩ ?_)
   cases hst : stepWB w k n v with
   | false =>
     (repeat ((repeat1' (first | simp -implicitDefEqProofs -dsimp only [go_sem] | simp -dsimp (disch := omega) only [wrap_i64])); repeat (with_reducible refine sideA ?_)))
     exact no (by simp [stepW, hst]) _
   | true =>
     (repeat ((repeat1' (first | simp -implicitDefEqProofs -dsimp only [go_sem] | simp -dsimp (disch := omega) only [wrap_i64])); repeat (with_reducible refine sideA ?_)))
     have hm := l25Make_ok w k n v hw hst hv
     cases hd : doneW w k n v with
     | false =>
       rw [hd] at hm
       (first | refine callT.at (hm) ⟨(by first | exact leA | exact Watch.le rfl rfl), (by first | exact leA | exact Watch.le rfl rfl), trivial⟩ ?_ | refine callS.at (hm) ⟨(by first | exact leA | exact Watch.le rfl rfl), (by first | exact leA | exact Watch.le rfl rfl), trivial⟩ ?_)
       (repeat ((repeat1' (first | simp -implicitDefEqProofs -dsimp only [go_sem, Watch.o] | simp -dsimp (disch := omega) only [wrap_i64])); repeat (with_reducible refine sideA ?_)))
       exact no (by simp [stepW, hd]) _
     | true =>
       rw [hd] at hm
       (first | refine callT.at (hm) ⟨(by first | exact leA | exact Watch.le rfl rfl), (by first | exact leA | exact Watch.le rfl rfl), trivial⟩ ?_ | refine callS.at (hm) ⟨(by first | exact leA | exact Watch.le rfl rfl), (by first | exact leA | exact Watch.le rfl rfl), trivial⟩ ?_)
       (repeat ((repeat1' (first | simp -implicitDefEqProofs -dsimp only [go_sem, Watch.o] | simp -dsimp (disch := omega) only [wrap_i64])); repeat (with_reducible refine sideA ?_)))
       have e : stepW w k n v = some (makeW w k n v) := by simp [stepW, hw, hst, hd]
       have e2 := makeS_done hd
       rw [e, ← e2, stwR, stwH]

       refine WeakR.pick [3, 4] (by decide) (fun j hj => by omega) (.inl ?_) ?_
       · first | rfl | (simp [ren, pickF, posOf, Watch.o]; done)
       · simp only [pickH, List.map_cons, List.map_nil, pickB, List.getElem?_cons_zero, List.getElem?_cons_succ, map_ren_rows]
end Go.Proofs
end
section
set_option linter.unusedSimpArgs false
set_option linter.unusedVariables false
set_option maxRecDepth 100000
namespace Go.Proofs
open Go.Lv
structure QuakeRow where
 Id : Int
 Tick : Int
 X : Int
 Y : Int
 Deep : Int
 Size : Int
 Grade : Int
def QuakeRow.cs (r : QuakeRow) : List V := [.int .i64 r.Id, .int .i64 r.Tick, .int .i64 r.X, .int .i64 r.Y, .int .i64 r.Deep, .int .i64 r.Size, .int .i64 r.Grade]
def QuakeRow.v (r : QuakeRow) : V := .agg [.int .i64 r.Id, .int .i64 r.Tick, .int .i64 r.X, .int .i64 r.Y, .int .i64 r.Deep, .int .i64 r.Size, .int .i64 r.Grade]
theorem QuakeRow.csl (a : QuakeRow) : a.cs.length = 7 := rfl
instance : FlatP QuakeRow.cs 7 := ⟨fun _ => rfl, fun _ d => by cases d <;> rfl, fun _ => rfl, fun _ => rfl⟩
def QuakeRow.ok (r : QuakeRow) : Prop := i64R r.Id ∧ i64R r.Tick ∧ i64R r.X ∧ i64R r.Y ∧ i64R r.Deep ∧ i64R r.Size ∧ i64R r.Grade
abbrev QuakeRow.rows (L : List QuakeRow) : List V := Go.Lv.rows QuakeRow.cs L
abbrev QuakeRow.sl (L : List QuakeRow) : V := .sl L.length 7 (Go.Lv.rows QuakeRow.cs L)
abbrev QuakeRow.zs : List V := [.int .i64 0, .int .i64 0, .int .i64 0, .int .i64 0, .int .i64 0, .int .i64 0, .int .i64 0]
def QuakeRow.mk1 (k : Int) : QuakeRow := ⟨k, k + 1, k + 1 + 1, k + 1 + 1 + 1, k + 1 + 1 + 1 + 1, k + 1 + 1 + 1 + 1 + 1, k + 1 + 1 + 1 + 1 + 1 + 1⟩
def QuakeRow.marks (k : Int) (n : Nat) : List QuakeRow := (List.range n).map fun i : Nat => QuakeRow.mk1 (k + 7 * (i : Int))
@[simp] theorem QuakeRow.marks_len (k : Int) (n : Nat) : (QuakeRow.marks k n).length = n := by simp [QuakeRow.marks]
end Go.Proofs
end
section
set_option linter.unusedSimpArgs false
set_option linter.unusedVariables false
set_option maxRecDepth 100000
namespace Go.Proofs
open Go.Lv
def IntS.cs (x : Int) : List V := [.int .i64 x]
instance : FlatP IntS.cs 1 := ⟨fun _ => rfl, fun _ d => by cases d <;> rfl, fun _ => rfl, fun _ => rfl⟩
theorem IntS.csl (a : Int) : (IntS.cs a).length = 1 := rfl
abbrev IntS.ok (x : Int) : Prop := i64R x
abbrev IntS.sl (L : List Int) : V := .sl L.length 1 (Go.Lv.rows IntS.cs L)
abbrev IntS.zs : List V := [.int .i64 0]
def IntS.marks (k : Int) (n : Nat) : List Int := (List.range n).map fun i : Nat => k + (i : Int)
@[simp] theorem IntS.marks_len (k : Int) (n : Nat) : (IntS.marks k n).length = n := by simp [IntS.marks]
abbrev IntS.v (x : Int) : V := .int .i64 x
end Go.Proofs
end
section
set_option linter.unusedSimpArgs false
set_option linter.unusedVariables false
set_option maxRecDepth 100000
set_option maxHeartbeats 1000000
namespace Go.Proofs
open Go.Lv
def upTo (L : List Post) (i : Nat) : List Int := ((L.take i).filter Post.Up).map Post.Station
theorem upTo_succ {L : List Post} {i : Nat} (hi : i < L.length) : upTo L (i + 1) = upTo L i ++ if L[i].Up then [L[i].Station] else [] := by
 rw [upTo, List.take_succ_eq_append_getElem hi, List.filter_append, List.map_append]
 congr 1
 cases h : L[i].Up <;> simp [h]
theorem upTo_len (L : List Post) (i : Nat) : (upTo L i).length ≤ i := by
 rw [upTo, List.length_map]
 exact Nat.le_trans (List.length_filter_le _ _) (by simp; omega)
theorem watchUp_ok (w : Watch) (hp : w.Posts.length ≤ 16777216) : Ctr Try.prog 150 [w.v] [] (.osl 0 0 (upTo w.Posts w.Posts.length).length 1) [some (rows IntS.cs (upTo w.Posts w.Posts.length))] := by
 refine Ctr.intro Try.mixed Try.func150 rfl Try.okF150 ?_
 simp -implicitDefEqProofs -dsimp only [go_sem, Try.ntmps150, Try.results150]
 simp -implicitDefEqProofs -dsimp only [go_sem, Watch.v]
 refine LoopT.intro (fun i : Nat => i ≤ w.Posts.length) (fun i => ⟨[.undef, .undef, .undef, .osl 1 0 (upTo w.Posts i).length 1, .undef, .undef, .undef, .undef, Post.sl w.Posts, .int .i64 w.Posts.length, .int .i64 i, .undef, .undef, .undef, .undef, .undef, .undef, .undef, .undef, .undef, .undef, .undef, .undef], [some w.cs, some (rows IntS.cs (upTo w.Posts i))], 0⟩) (fun i => w.Posts.length - i) 0 (Nat.zero_le _) ?_ (fun i hi => ?_)
 · refine Weak.cut (2) (by simp) (by simp) ?_ ?_
   · simp [LeC, LeV, ren, cutF, upTo]
   · simp [cutH, cutB, ren, rows, upTo, Watch.cs]
 simp -implicitDefEqProofs -dsimp only [go_sem]
 refine condT.split (fun h1 => ?_) (fun h1 => ?_)
 · simp -implicitDefEqProofs -dsimp only [go_sem, h1]
   have hi' : i < w.Posts.length := by simpa using h1
   have h5 := Post.csl w.Posts[i]
   have hr := rows_at Post.csl hi'
   have hul := upTo_len w.Posts i
   (repeat ((repeat1' (first | simp -implicitDefEqProofs -dsimp only [go_sem, hr, Post.cs] | simp -dsimp (disch := omega) only [wrap_i64])); repeat (with_reducible refine sideA ?_)))
   refine condT.split (fun h6 => ?_) (fun h6 => ?_) <;> simp -implicitDefEqProofs -dsimp only [go_sem, h6]
   · (repeat ((repeat1' (first | simp -implicitDefEqProofs -dsimp only [go_sem, hr, Post.cs, Watch.cs, rows_length, Nat.mul_one, rows_cell] | simp -dsimp (disch := omega) only [wrap_i64])); repeat (with_reducible refine sideA ?_)))
     refine ⟨i + 1, hi', ?_, by omega⟩
     refine Weak.cut (2) (by simp) (by simp) ?_ ?_
     · rw [upTo_succ hi', h6]
       simp [LeC, LeV, ren, cutF]
     · rw [upTo_succ hi', h6, if_pos rfl, ← rows_snoc]
       simp [cutH, cutB, map_ren_rows, killC, ren, IntS.cs, Watch.cs]
   · try (repeat1' (first | simp -implicitDefEqProofs -dsimp only [go_sem] | simp -dsimp (disch := omega) only [wrap_i64]))
     refine ⟨i + 1, hi', ?_, by omega⟩
     refine Weak.cut (2) (by simp) (by simp) ?_ ?_
     · rw [upTo_succ hi', h6]
       simp [LeC, LeV, ren, cutF]
     · rw [upTo_succ hi', h6]
       simp [cutH, cutB, map_ren_rows, ren, Watch.cs]
 · simp -implicitDefEqProofs -dsimp only [go_sem, h1]
   have hi' : i = w.Posts.length := by simp at h1; omega
   subst hi'
   refine WeakR.pick [1] (by decide) (fun j hj => by omega) (.inl ?_) ?_
   · first | rfl | (simp [ren, pickF, posOf]; done)
   · simp only [pickH, List.map_cons, List.map_nil, pickB, List.getElem?_cons_zero, List.getElem?_cons_succ, map_ren_rows]
end Go.Proofs
end
section
set_option linter.unusedSimpArgs false
set_option linter.unusedVariables false
set_option maxRecDepth 100000
set_option maxHeartbeats 1000000
namespace Go.Proofs
open Go.Lv
def Watch.oc (r : Watch) (i0 i1 : Nat) : List V := [.int .i64 r.Now, .osl i0 0 r.Posts.length 3, .osl i1 0 r.Shocks.length 5, .int .i64 r.Next, .int .i64 r.Archived]
theorem copyOfPost_ok (L : List Post) (hl : L.length ≤ 16777216) : Ctr Try.prog 159 [Post.sl L] [] (.osl 0 0 L.length 3) [some (rows Post.cs L)] := by
 refine Ctr.intro Try.mixed Try.func159 rfl Try.okF159 ?_
 simp -implicitDefEqProofs -dsimp only [go_sem, Try.ntmps159, Try.results159]
 repeat (with_reducible refine sideA ?_)
 exact WeakR.refl _ _ _
theorem copyOfShock_ok (L : List Shock) (hl : L.length ≤ 16777216) : Ctr Try.prog 160 [Shock.sl L] [] (.osl 0 0 L.length 5) [some (rows Shock.cs L)] := by
 refine Ctr.intro Try.mixed Try.func160 rfl Try.okF160 ?_
 simp -implicitDefEqProofs -dsimp only [go_sem, Try.ntmps160, Try.results160]
 repeat (with_reducible refine sideA ?_)
 exact WeakR.refl _ _ _
theorem copiedWatch_ok (w : Watch) (hp : w.Posts.length ≤ 16777216) (hs : w.Shocks.length ≤ 16777216) : Ctr Try.prog 92 [w.v] [] (w.o 0 1) [some (rows Post.cs w.Posts), some (rows Shock.cs w.Shocks)] := by
 refine Ctr.intro Try.mixed Try.func92 rfl Try.okF92 ?_
 simp -implicitDefEqProofs -dsimp only [go_sem, Try.ntmps92, Try.results92]
 simp -implicitDefEqProofs -dsimp only [go_sem, Watch.v]
 repeat (with_reducible refine sideA ?_)
 (first | refine callT.at (copyOfPost_ok w.Posts hp) ⟨leA, trivial⟩ ?_ | refine callS.at (copyOfPost_ok w.Posts hp) ⟨leA, trivial⟩ ?_)
 simp -implicitDefEqProofs -dsimp only [go_sem]
 repeat (with_reducible refine sideA ?_)
 (first | refine callT.at (copyOfShock_ok w.Shocks hs) ⟨leA, trivial⟩ ?_ | refine callS.at (copyOfShock_ok w.Shocks hs) ⟨leA, trivial⟩ ?_)
 simp -implicitDefEqProofs -dsimp only [go_sem]
 repeat (with_reducible refine sideA ?_)
 refine WeakR.pick [2, 3] (by decide) (fun j hj => by omega) (.inl ?_) ?_
 · first | rfl | (simp [ren, pickF, posOf, Watch.o]; done)
 · simp only [pickH, List.map_cons, List.map_nil, pickB, List.getElem?_cons_zero, List.getElem?_cons_succ, map_ren_rows]
theorem sp_state {L : List Shock} {i : Nat} (hi : i < L.length) (s : Int) : splice (rows Shock.cs L) (i * 5 + 1) [.int .i64 s] = rows Shock.cs (L.set i ⟨L[i].Number, s, L[i].Seen, L[i].Size, L[i].Tick⟩) := splice_cell Shock.csl hi (by omega) rfl
theorem sp_size {L : List Shock} {i : Nat} (hi : i < L.length) (x : Shock) (z : Int) : splice (rows Shock.cs (L.set i x)) (i * 5 + 3) [.int .i64 z] = rows Shock.cs (L.set i ⟨x.Number, x.State, x.Seen, z, x.Tick⟩) := by
 have h := splice_cell (cs := Shock.cs) Shock.csl (L := L.set i x) (j := i) (f := 3) (v := .int .i64 z) (x := ⟨x.Number, x.State, x.Seen, z, x.Tick⟩) (by simpa using hi) (by omega) (by simp; rfl)
 rwa [List.set_set] at h
theorem rows_len5 (L : List Shock) : (rows Shock.cs L).length = L.length * 5 := rows_len Shock.csl L
theorem treat5_ok (w : Watch) (i : Nat) (k n v : Int) (hk : k = 5 ∨ k = 6 ∨ k = 7) (hw : wB w = true) (hi : i < w.Shocks.length) (hv : -100 ≤ v ∧ v ≤ 100) : Ctr Try.prog 151 [.ptr 0 0, .int .i64 i, .agg [.int .i64 k, .int .i64 n, .int .i64 v]] [some (w.oc 1 2), some (rows Post.cs w.Posts), some (rows Shock.cs w.Shocks)] (.bool (chgB w.Shocks[i] k)) [some (w.oc 1 2), some (rows Post.cs w.Posts), some (rows Shock.cs (w.Shocks.set i (chgX w.Shocks[i] k v)))] := by
 have W := wB_ok hw
 have hx := W.shocks _ (List.getElem_mem hi)
 have hb := shockB_iff.1 hx
 have hr := rows_at Shock.csl hi
 have hwv : IntKind.i64.wrap (w.Shocks[i].Size + v) = w.Shocks[i].Size + v := wrap_i64 (by omega) (by omega)
 have s1 := sp_state hi
 have s2 := sp_size hi
 have hl : ∀ x, (w.Shocks.set i x).length = w.Shocks.length := fun x => by simp
 have hroom : i * 5 + 5 ≤ w.Shocks.length * 5 := by omega
 rcases hk with rfl | rfl | rfl
 · skip
   refine Ctr.intro Try.mixed Try.func151 rfl Try.okF151 ?_
   simp -implicitDefEqProofs -dsimp only [go_sem, Try.ntmps151, Try.results151]
   (repeat ((repeat1' (first | simp -implicitDefEqProofs -dsimp only [go_sem, Watch.oc, hr, Shock.cs, hwv] | simp -dsimp (disch := omega) only [wrap_i64])); repeat (with_reducible refine sideA ?_)))
   refine lateT.path [true, true, true, true, true, true, false, false, false, false] [false, true, true, true, false, false, false, false, false, false] 1 [2] (by kernel_rfl) ?_
   (repeat ((repeat1' (first | simp -implicitDefEqProofs -dsimp only [go_sem, hr, Shock.cs, hwv, s1, s2, rows_len5, hl] | simp -dsimp (disch := omega) only [wrap_i64])); repeat (with_reducible refine sideA ?_)))
   repeat' (first | (refine guardT.splitT (fun _ => ?_) (fun _ => ?_) <;> (repeat ((repeat1' (first | simp -implicitDefEqProofs -dsimp only [go_sem, *] | simp -dsimp (disch := omega) only [wrap_i64])); repeat (with_reducible refine sideA ?_)))) | (refine guardT.splitF (fun _ => ?_) (fun _ => ?_) <;> (repeat ((repeat1' (first | simp -implicitDefEqProofs -dsimp only [go_sem, *] | simp -dsimp (disch := omega) only [wrap_i64])); repeat (with_reducible refine sideA ?_)))))
   all_goals
     refine WeakR.pick [0, 1, 2] (by decide) (fun j hj => by have hj' : j = 0 ∨ j = 1 ∨ j = 2 := (by omega); rcases hj' with rfl | rfl | rfl <;> rfl) (.inl (by first | rfl | (simp [ren, chgB, *]; done))) ?_
     simp [pickH, pickB, ren, pickF, posOf, map_ren_rows, Watch.oc, chgX, *]
 · skip
   refine Ctr.intro Try.mixed Try.func151 rfl Try.okF151 ?_
   simp -implicitDefEqProofs -dsimp only [go_sem, Try.ntmps151, Try.results151]
   (repeat ((repeat1' (first | simp -implicitDefEqProofs -dsimp only [go_sem, Watch.oc, hr, Shock.cs, hwv] | simp -dsimp (disch := omega) only [wrap_i64])); repeat (with_reducible refine sideA ?_)))
   refine lateT.path [true, true, true, true, true, true, true, true, true, false, false, false, false] [false, true, true, true, true, true, true, false, false, false, false, false, false] 1 [2] (by kernel_rfl) ?_
   (repeat ((repeat1' (first | simp -implicitDefEqProofs -dsimp only [go_sem, hr, Shock.cs, hwv, s1, s2, rows_len5, hl] | simp -dsimp (disch := omega) only [wrap_i64])); repeat (with_reducible refine sideA ?_)))
   repeat' (first | (refine guardT.splitT (fun _ => ?_) (fun _ => ?_) <;> (repeat ((repeat1' (first | simp -implicitDefEqProofs -dsimp only [go_sem, *] | simp -dsimp (disch := omega) only [wrap_i64])); repeat (with_reducible refine sideA ?_)))) | (refine guardT.splitF (fun _ => ?_) (fun _ => ?_) <;> (repeat ((repeat1' (first | simp -implicitDefEqProofs -dsimp only [go_sem, *] | simp -dsimp (disch := omega) only [wrap_i64])); repeat (with_reducible refine sideA ?_)))))
   all_goals
     refine WeakR.pick [0, 1, 2] (by decide) (fun j hj => by have hj' : j = 0 ∨ j = 1 ∨ j = 2 := (by omega); rcases hj' with rfl | rfl | rfl <;> rfl) (.inl (by first | rfl | (simp [ren, chgB, *]; done))) ?_
     simp [pickH, pickB, ren, pickF, posOf, map_ren_rows, Watch.oc, chgX, *]
 · skip
   refine Ctr.intro Try.mixed Try.func151 rfl Try.okF151 ?_
   simp -implicitDefEqProofs -dsimp only [go_sem, Try.ntmps151, Try.results151]
   (repeat ((repeat1' (first | simp -implicitDefEqProofs -dsimp only [go_sem, Watch.oc, hr, Shock.cs, hwv, s1, rows_len5, hl] | simp -dsimp (disch := omega) only [wrap_i64])); repeat (with_reducible refine sideA ?_)))
   repeat' (first | (refine guardT.splitT (fun _ => ?_) (fun _ => ?_) <;> (repeat ((repeat1' (first | simp -implicitDefEqProofs -dsimp only [go_sem, *] | simp -dsimp (disch := omega) only [wrap_i64])); repeat (with_reducible refine sideA ?_)))) | (refine guardT.splitF (fun _ => ?_) (fun _ => ?_) <;> (repeat ((repeat1' (first | simp -implicitDefEqProofs -dsimp only [go_sem, *] | simp -dsimp (disch := omega) only [wrap_i64])); repeat (with_reducible refine sideA ?_)))))
   all_goals
     refine WeakR.pick [0, 1, 2] (by decide) (fun j hj => by have hj' : j = 0 ∨ j = 1 ∨ j = 2 := (by omega); rcases hj' with rfl | rfl | rfl <;> rfl) (.inl (by first | rfl | (simp [ren, chgB, *]; done))) ?_
     simp [pickH, pickB, ren, pickF, posOf, map_ren_rows, Watch.oc, chgX, *]
end Go.Proofs
end
