/-
  A part of the proof: texts put together by a program of the prover. Conditions: none.
-/
import Derived.Test.YtclhngfmjojkdaaZSwarmsOf3
import Derived.Test.YtclhngfmjojkdaaProg
import Derived.KernelRfl
set_option linter.unusedSimpArgs false
set_option linter.unusedVariables false
section
namespace Go.Proofs
open Go.Lv

theorem Try.mixed : Try.prog.follows .mixedOrders = true := by kernel_rfl
@[go_sem] theorem Try.tsz1 : tszOf Try.prog 1 = some (1, false) := by kernel_rfl
@[go_sem] theorem Try.udef1 : (Try.prog.underlying 1).isSome = true := by kernel_rfl
@[go_sem] theorem Try.zero1 : zeroOf Try.prog 1 = some [.lit ((Go.Value.nilFunc))] := by kernel_rfl
@[go_sem] theorem Try.tsz2 : tszOf Try.prog 2 = some (1, false) := by kernel_rfl
@[go_sem] theorem Try.udef2 : (Try.prog.underlying 2).isSome = true := by kernel_rfl
@[go_sem] theorem Try.zero2 : zeroOf Try.prog 2 = some [.int .i64 0] := by kernel_rfl
@[go_sem] theorem Try.isInt2 : isIntT Try.prog 2 = some .i64 := by kernel_rfl
@[go_sem] theorem Try.tsz3 : tszOf Try.prog 3 = some (1, false) := by kernel_rfl
theorem Try.cz3 : Try.prog.cellsOf 3 = 1 := by kernel_rfl
@[go_sem] theorem Try.udef3 : (Try.prog.underlying 3).isSome = true := by kernel_rfl
@[go_sem] theorem Try.zero3 : zeroOf Try.prog 3 = some [.int .i64 0] := by kernel_rfl
@[go_sem] theorem Try.isInt3 : isIntT Try.prog 3 = some .i64 := by kernel_rfl
@[go_sem] theorem Try.tsz4 : tszOf Try.prog 4 = some (1, false) := by kernel_rfl
@[go_sem] theorem Try.udef4 : (Try.prog.underlying 4).isSome = true := by kernel_rfl
@[go_sem] theorem Try.zero4 : zeroOf Try.prog 4 = some [.bool false] := by kernel_rfl
@[go_sem] theorem Try.isBool4 : isBoolT Try.prog 4 = true := by kernel_rfl
@[go_sem] theorem Try.tsz5 : tszOf Try.prog 5 = some (1, false) := by kernel_rfl
@[go_sem] theorem Try.udef5 : (Try.prog.underlying 5).isSome = true := by kernel_rfl
@[go_sem] theorem Try.zero5 : zeroOf Try.prog 5 = some [.int .u8 0] := by kernel_rfl
@[go_sem] theorem Try.isInt5 : isIntT Try.prog 5 = some .u8 := by kernel_rfl
@[go_sem] theorem Try.tsz6 : tszOf Try.prog 6 = some (1, false) := by kernel_rfl
@[go_sem] theorem Try.udef6 : (Try.prog.underlying 6).isSome = true := by kernel_rfl
@[go_sem] theorem Try.zero6 : zeroOf Try.prog 6 = some [.int .u8 0] := by kernel_rfl
@[go_sem] theorem Try.isInt6 : isIntT Try.prog 6 = some .u8 := by kernel_rfl
@[go_sem] theorem Try.tsz7 : tszOf Try.prog 7 = some (4, true) := by kernel_rfl
@[go_sem] theorem Try.udef7 : (Try.prog.underlying 7).isSome = true := by kernel_rfl
@[go_sem] theorem Try.zero7 : zeroOf Try.prog 7 = some [.int .i64 0, .int .i64 0, .bool false, .int .u8 0] := by kernel_rfl
@[go_sem] theorem Try.pl7 : plOf Try.prog 7 = some [(0, 1), (1, 1), (2, 1), (3, 1)] := by kernel_rfl
@[go_sem] theorem Try.tsz8 : tszOf Try.prog 8 = some (4, true) := by kernel_rfl
@[go_sem] theorem Try.udef8 : (Try.prog.underlying 8).isSome = true := by kernel_rfl
@[go_sem] theorem Try.zero8 : zeroOf Try.prog 8 = some [.int .i64 0, .int .i64 0, .bool false, .int .u8 0] := by kernel_rfl
@[go_sem] theorem Try.pl8 : plOf Try.prog 8 = some [(0, 1), (1, 1), (2, 1), (3, 1)] := by kernel_rfl
@[go_sem] theorem Try.tsz9 : tszOf Try.prog 9 = some (1, false) := by kernel_rfl
@[go_sem] theorem Try.udef9 : (Try.prog.underlying 9).isSome = true := by kernel_rfl
@[go_sem] theorem Try.zero9 : zeroOf Try.prog 9 = some [.str ByteArray.empty] := by kernel_rfl
@[go_sem] theorem Try.isU8S9 : isU8S Try.prog 9 = false := by kernel_rfl
@[go_sem] theorem Try.isIntN9 : isIntT Try.prog 9 = none := by kernel_rfl
@[go_sem] theorem Try.isStr9 : isStr Try.prog 9 = true := by kernel_rfl
@[go_sem] theorem Try.tsz10 : tszOf Try.prog 10 = some (1, false) := by kernel_rfl
@[go_sem] theorem Try.udef10 : (Try.prog.underlying 10).isSome = true := by kernel_rfl
@[go_sem] theorem Try.zero10 : zeroOf Try.prog 10 = some [.str ByteArray.empty] := by kernel_rfl
@[go_sem] theorem Try.isU8S10 : isU8S Try.prog 10 = false := by kernel_rfl
@[go_sem] theorem Try.isIntN10 : isIntT Try.prog 10 = none := by kernel_rfl
@[go_sem] theorem Try.isStr10 : isStr Try.prog 10 = true := by kernel_rfl
@[go_sem] theorem Try.tsz11 : tszOf Try.prog 11 = some (1, false) := by kernel_rfl
@[go_sem] theorem Try.udef11 : (Try.prog.underlying 11).isSome = true := by kernel_rfl
@[go_sem] theorem Try.zero11 : zeroOf Try.prog 11 = some [.str ByteArray.empty] := by kernel_rfl
@[go_sem] theorem Try.isU8S11 : isU8S Try.prog 11 = false := by kernel_rfl
@[go_sem] theorem Try.isIntN11 : isIntT Try.prog 11 = none := by kernel_rfl
@[go_sem] theorem Try.isStr11 : isStr Try.prog 11 = true := by kernel_rfl
@[go_sem] theorem Try.tsz12 : tszOf Try.prog 12 = some (1, false) := by kernel_rfl
@[go_sem] theorem Try.udef12 : (Try.prog.underlying 12).isSome = true := by kernel_rfl
@[go_sem] theorem Try.zero12 : zeroOf Try.prog 12 = some [.int .u64 0] := by kernel_rfl
@[go_sem] theorem Try.isInt12 : isIntT Try.prog 12 = some .u64 := by kernel_rfl
@[go_sem] theorem Try.tsz13 : tszOf Try.prog 13 = some (2, true) := by kernel_rfl
@[go_sem] theorem Try.udef13 : (Try.prog.underlying 13).isSome = true := by kernel_rfl
@[go_sem] theorem Try.zero13 : zeroOf Try.prog 13 = some [.str ByteArray.empty, .int .u64 0] := by kernel_rfl
@[go_sem] theorem Try.pl13 : plOf Try.prog 13 = some [(0, 1), (1, 1)] := by kernel_rfl
@[go_sem] theorem Try.tsz14 : tszOf Try.prog 14 = some (2, true) := by kernel_rfl
@[go_sem] theorem Try.udef14 : (Try.prog.underlying 14).isSome = true := by kernel_rfl
@[go_sem] theorem Try.zero14 : zeroOf Try.prog 14 = some [.str ByteArray.empty, .int .u64 0] := by kernel_rfl
@[go_sem] theorem Try.pl14 : plOf Try.prog 14 = some [(0, 1), (1, 1)] := by kernel_rfl
@[go_sem] theorem Try.tsz15 : tszOf Try.prog 15 = some (1, false) := by kernel_rfl
@[go_sem] theorem Try.udef15 : (Try.prog.underlying 15).isSome = true := by kernel_rfl
@[go_sem] theorem Try.zero15 : zeroOf Try.prog 15 = some [.lit ((Go.Value.pointer none))] := by kernel_rfl
@[go_sem] theorem Try.tsz16 : tszOf Try.prog 16 = some (1, false) := by kernel_rfl
@[go_sem] theorem Try.udef16 : (Try.prog.underlying 16).isSome = true := by kernel_rfl
@[go_sem] theorem Try.zero16 : zeroOf Try.prog 16 = some [.lit ((Go.Value.pointer none))] := by kernel_rfl
@[go_sem] theorem Try.tsz17 : tszOf Try.prog 17 = some (1, false) := by kernel_rfl
@[go_sem] theorem Try.udef17 : (Try.prog.underlying 17).isSome = true := by kernel_rfl
@[go_sem] theorem Try.zero17 : zeroOf Try.prog 17 = some [.lit ((Go.Value.pointer none))] := by kernel_rfl
@[go_sem] theorem Try.tsz18 : tszOf Try.prog 18 = some (1, true) := by kernel_rfl
@[go_sem] theorem Try.udef18 : (Try.prog.underlying 18).isSome = true := by kernel_rfl
@[go_sem] theorem Try.zero18 : zeroOf Try.prog 18 = some [.lit ((Go.Value.pointer none))] := by kernel_rfl
@[go_sem] theorem Try.pl18 : plOf Try.prog 18 = some [(0, 1)] := by kernel_rfl
@[go_sem] theorem Try.tsz19 : tszOf Try.prog 19 = some (1, true) := by kernel_rfl
@[go_sem] theorem Try.udef19 : (Try.prog.underlying 19).isSome = true := by kernel_rfl
@[go_sem] theorem Try.zero19 : zeroOf Try.prog 19 = some [.lit ((Go.Value.pointer none))] := by kernel_rfl
@[go_sem] theorem Try.pl19 : plOf Try.prog 19 = some [(0, 1)] := by kernel_rfl
@[go_sem] theorem Try.tsz20 : tszOf Try.prog 20 = some (1, false) := by kernel_rfl
@[go_sem] theorem Try.udef20 : (Try.prog.underlying 20).isSome = true := by kernel_rfl
@[go_sem] theorem Try.zero20 : zeroOf Try.prog 20 = some [.lit ((Go.Value.nilIface))] := by kernel_rfl
@[go_sem] theorem Try.tsz21 : tszOf Try.prog 21 = some (1, false) := by kernel_rfl
@[go_sem] theorem Try.udef21 : (Try.prog.underlying 21).isSome = true := by kernel_rfl
@[go_sem] theorem Try.zero21 : zeroOf Try.prog 21 = some [.int .i32 0] := by kernel_rfl
@[go_sem] theorem Try.isInt21 : isIntT Try.prog 21 = some .i32 := by kernel_rfl
@[go_sem] theorem Try.tsz22 : tszOf Try.prog 22 = some (1, false) := by kernel_rfl
@[go_sem] theorem Try.udef22 : (Try.prog.underlying 22).isSome = true := by kernel_rfl
@[go_sem] theorem Try.zero22 : zeroOf Try.prog 22 = some [.nilsl] := by kernel_rfl
@[go_sem] theorem Try.el22 : elOf Try.prog 22 = some (53, 5, 40) := by kernel_rfl
@[go_sem] theorem Try.isSl22 : isSl Try.prog 22 = true := by kernel_rfl
@[go_sem] theorem Try.tsz23 : tszOf Try.prog 23 = some (1, false) := by kernel_rfl
@[go_sem] theorem Try.udef23 : (Try.prog.underlying 23).isSome = true := by kernel_rfl
@[go_sem] theorem Try.zero23 : zeroOf Try.prog 23 = some [.lit ((Go.Value.nilFunc))] := by kernel_rfl
@[go_sem] theorem Try.tsz24 : tszOf Try.prog 24 = some (1, false) := by kernel_rfl
@[go_sem] theorem Try.udef24 : (Try.prog.underlying 24).isSome = true := by kernel_rfl
@[go_sem] theorem Try.zero24 : zeroOf Try.prog 24 = some [.nilsl] := by kernel_rfl
@[go_sem] theorem Try.el24 : elOf Try.prog 24 = some (38, 1, 24) := by kernel_rfl
@[go_sem] theorem Try.isSl24 : isSl Try.prog 24 = true := by kernel_rfl
@[go_sem] theorem Try.tsz26 : tszOf Try.prog 26 = some (1, false) := by kernel_rfl
@[go_sem] theorem Try.udef26 : (Try.prog.underlying 26).isSome = true := by kernel_rfl
@[go_sem] theorem Try.zero26 : zeroOf Try.prog 26 = some [.lit ((Go.Value.nilFunc))] := by kernel_rfl
@[go_sem] theorem Try.tsz27 : tszOf Try.prog 27 = some (1, false) := by kernel_rfl
@[go_sem] theorem Try.udef27 : (Try.prog.underlying 27).isSome = true := by kernel_rfl
@[go_sem] theorem Try.zero27 : zeroOf Try.prog 27 = some [.nilsl] := by kernel_rfl
@[go_sem] theorem Try.el27 : elOf Try.prog 27 = some (40, 5, 40) := by kernel_rfl
@[go_sem] theorem Try.isSl27 : isSl Try.prog 27 = true := by kernel_rfl
@[go_sem] theorem Try.tsz28 : tszOf Try.prog 28 = some (1, false) := by kernel_rfl
@[go_sem] theorem Try.udef28 : (Try.prog.underlying 28).isSome = true := by kernel_rfl
@[go_sem] theorem Try.zero28 : zeroOf Try.prog 28 = some [.lit ((Go.Value.nilFunc))] := by kernel_rfl
@[go_sem] theorem Try.tsz29 : tszOf Try.prog 29 = some (1, false) := by kernel_rfl
@[go_sem] theorem Try.udef29 : (Try.prog.underlying 29).isSome = true := by kernel_rfl
@[go_sem] theorem Try.zero29 : zeroOf Try.prog 29 = some [.lit ((Go.Value.nilFunc))] := by kernel_rfl
@[go_sem] theorem Try.tsz30 : tszOf Try.prog 30 = some (1, false) := by kernel_rfl
@[go_sem] theorem Try.udef30 : (Try.prog.underlying 30).isSome = true := by kernel_rfl
@[go_sem] theorem Try.zero30 : zeroOf Try.prog 30 = some [.lit ((Go.Value.nilFunc))] := by kernel_rfl
@[go_sem] theorem Try.tsz31 : tszOf Try.prog 31 = some (1, false) := by kernel_rfl
@[go_sem] theorem Try.udef31 : (Try.prog.underlying 31).isSome = true := by kernel_rfl
@[go_sem] theorem Try.zero31 : zeroOf Try.prog 31 = some [.lit ((Go.Value.nilFunc))] := by kernel_rfl
@[go_sem] theorem Try.tsz32 : tszOf Try.prog 32 = some (1, false) := by kernel_rfl
@[go_sem] theorem Try.udef32 : (Try.prog.underlying 32).isSome = true := by kernel_rfl
@[go_sem] theorem Try.zero32 : zeroOf Try.prog 32 = some [.lit ((Go.Value.nilFunc))] := by kernel_rfl
@[go_sem] theorem Try.tsz33 : tszOf Try.prog 33 = some (1, false) := by kernel_rfl
@[go_sem] theorem Try.udef33 : (Try.prog.underlying 33).isSome = true := by kernel_rfl
@[go_sem] theorem Try.zero33 : zeroOf Try.prog 33 = some [.lit ((Go.Value.nilFunc))] := by kernel_rfl
@[go_sem] theorem Try.tsz34 : tszOf Try.prog 34 = some (1, false) := by kernel_rfl
@[go_sem] theorem Try.udef34 : (Try.prog.underlying 34).isSome = true := by kernel_rfl
@[go_sem] theorem Try.zero34 : zeroOf Try.prog 34 = some [.nilsl] := by kernel_rfl
@[go_sem] theorem Try.el34 : elOf Try.prog 34 = some (5, 1, 1) := by kernel_rfl
@[go_sem] theorem Try.isSl34 : isSl Try.prog 34 = true := by kernel_rfl
@[go_sem] theorem Try.isU8S34 : isU8S Try.prog 34 = true := by kernel_rfl
@[go_sem] theorem Try.tsz35 : tszOf Try.prog 35 = some (1, false) := by kernel_rfl
@[go_sem] theorem Try.udef35 : (Try.prog.underlying 35).isSome = true := by kernel_rfl
@[go_sem] theorem Try.zero35 : zeroOf Try.prog 35 = some [.lit ((Go.Value.nilFunc))] := by kernel_rfl
@[go_sem] theorem Try.tsz37 : tszOf Try.prog 37 = some (1, false) := by kernel_rfl
@[go_sem] theorem Try.udef37 : (Try.prog.underlying 37).isSome = true := by kernel_rfl
@[go_sem] theorem Try.zero37 : zeroOf Try.prog 37 = some [.lit ((Go.Value.nilFunc))] := by kernel_rfl
@[go_sem] theorem Try.tsz38 : tszOf Try.prog 38 = some (1, false) := by kernel_rfl
@[go_sem] theorem Try.udef38 : (Try.prog.underlying 38).isSome = true := by kernel_rfl
@[go_sem] theorem Try.zero38 : zeroOf Try.prog 38 = some [.nilsl] := by kernel_rfl
@[go_sem] theorem Try.el38 : elOf Try.prog 38 = some (3, 1, 8) := by kernel_rfl
@[go_sem] theorem Try.isSl38 : isSl Try.prog 38 = true := by kernel_rfl
@[go_sem] theorem Try.tsz39 : tszOf Try.prog 39 = some (5, true) := by kernel_rfl
@[go_sem] theorem Try.udef39 : (Try.prog.underlying 39).isSome = true := by kernel_rfl
@[go_sem] theorem Try.zero39 : zeroOf Try.prog 39 = some [.int .i64 0, .int .i64 0, .int .i64 0, .int .i64 0, .int .i64 0] := by kernel_rfl
@[go_sem] theorem Try.pl39 : plOf Try.prog 39 = some [(0, 1), (1, 1), (2, 1), (3, 1), (4, 1)] := by kernel_rfl
@[go_sem] theorem Try.tsz40 : tszOf Try.prog 40 = some (5, true) := by kernel_rfl
@[go_sem] theorem Try.udef40 : (Try.prog.underlying 40).isSome = true := by kernel_rfl
@[go_sem] theorem Try.zero40 : zeroOf Try.prog 40 = some [.int .i64 0, .int .i64 0, .int .i64 0, .int .i64 0, .int .i64 0] := by kernel_rfl
@[go_sem] theorem Try.flatEq40 : flatEq Try.prog 40 = some [.int .i64, .int .i64, .int .i64, .int .i64, .int .i64] := by kernel_rfl
@[go_sem] theorem Try.pl40 : plOf Try.prog 40 = some [(0, 1), (1, 1), (2, 1), (3, 1), (4, 1)] := by kernel_rfl
@[go_sem] theorem Try.fd40_0 : fdOf Try.prog 40 0 = some (0, 1, false) := by kernel_rfl
@[go_sem] theorem Try.fd40_1 : fdOf Try.prog 40 1 = some (1, 1, false) := by kernel_rfl
@[go_sem] theorem Try.fd40_2 : fdOf Try.prog 40 2 = some (2, 1, false) := by kernel_rfl
@[go_sem] theorem Try.fd40_3 : fdOf Try.prog 40 3 = some (3, 1, false) := by kernel_rfl
@[go_sem] theorem Try.fd40_4 : fdOf Try.prog 40 4 = some (4, 1, false) := by kernel_rfl
@[go_sem] theorem Try.tsz41 : tszOf Try.prog 41 = some (1, false) := by kernel_rfl
@[go_sem] theorem Try.udef41 : (Try.prog.underlying 41).isSome = true := by kernel_rfl
@[go_sem] theorem Try.zero41 : zeroOf Try.prog 41 = some [.lit ((Go.Value.nilFunc))] := by kernel_rfl
@[go_sem] theorem Try.tsz43 : tszOf Try.prog 43 = some (1, false) := by kernel_rfl
@[go_sem] theorem Try.udef43 : (Try.prog.underlying 43).isSome = true := by kernel_rfl
@[go_sem] theorem Try.zero43 : zeroOf Try.prog 43 = some [.lit ((Go.Value.nilFunc))] := by kernel_rfl
@[go_sem] theorem Try.tsz44 : tszOf Try.prog 44 = some (1, false) := by kernel_rfl
@[go_sem] theorem Try.udef44 : (Try.prog.underlying 44).isSome = true := by kernel_rfl
@[go_sem] theorem Try.zero44 : zeroOf Try.prog 44 = some [.lit ((Go.Value.nilFunc))] := by kernel_rfl
@[go_sem] theorem Try.tsz45 : tszOf Try.prog 45 = some (1, false) := by kernel_rfl
@[go_sem] theorem Try.udef45 : (Try.prog.underlying 45).isSome = true := by kernel_rfl
@[go_sem] theorem Try.zero45 : zeroOf Try.prog 45 = some [.lit ((Go.Value.nilFunc))] := by kernel_rfl
@[go_sem] theorem Try.tsz47 : tszOf Try.prog 47 = some (1, false) := by kernel_rfl
@[go_sem] theorem Try.udef47 : (Try.prog.underlying 47).isSome = true := by kernel_rfl
@[go_sem] theorem Try.zero47 : zeroOf Try.prog 47 = some [.lit ((Go.Value.nilFunc))] := by kernel_rfl
@[go_sem] theorem Try.tsz49 : tszOf Try.prog 49 = some (1, false) := by kernel_rfl
@[go_sem] theorem Try.udef49 : (Try.prog.underlying 49).isSome = true := by kernel_rfl
@[go_sem] theorem Try.zero49 : zeroOf Try.prog 49 = some [.lit ((Go.Value.nilFunc))] := by kernel_rfl
@[go_sem] theorem Try.tsz50 : tszOf Try.prog 50 = some (1, false) := by kernel_rfl
@[go_sem] theorem Try.udef50 : (Try.prog.underlying 50).isSome = true := by kernel_rfl
@[go_sem] theorem Try.zero50 : zeroOf Try.prog 50 = some [.lit ((Go.Value.nilFunc))] := by kernel_rfl
@[go_sem] theorem Try.tsz51 : tszOf Try.prog 51 = some (1, false) := by kernel_rfl
@[go_sem] theorem Try.udef51 : (Try.prog.underlying 51).isSome = true := by kernel_rfl
@[go_sem] theorem Try.zero51 : zeroOf Try.prog 51 = some [.lit ((Go.Value.nilFunc))] := by kernel_rfl
@[go_sem] theorem Try.tsz52 : tszOf Try.prog 52 = some (1, false) := by kernel_rfl
@[go_sem] theorem Try.udef52 : (Try.prog.underlying 52).isSome = true := by kernel_rfl
@[go_sem] theorem Try.zero52 : zeroOf Try.prog 52 = some [.lit ((Go.Value.nilFunc))] := by kernel_rfl
@[go_sem] theorem Try.tsz53 : tszOf Try.prog 53 = some (5, true) := by kernel_rfl
theorem Try.cz53 : Try.prog.cellsOf 53 = 5 := by kernel_rfl
@[go_sem] theorem Try.udef53 : (Try.prog.underlying 53).isSome = true := by kernel_rfl
@[go_sem] theorem Try.zero53 : zeroOf Try.prog 53 = some [.int .i64 0, .int .i64 0, .int .i64 0, .int .i64 0, .int .i64 0] := by kernel_rfl
@[go_sem] theorem Try.flatEq53 : flatEq Try.prog 53 = some [.int .i64, .int .i64, .int .i64, .int .i64, .int .i64] := by kernel_rfl
@[go_sem] theorem Try.pl53 : plOf Try.prog 53 = some [(0, 1), (1, 1), (2, 1), (3, 1), (4, 1)] := by kernel_rfl
@[go_sem] theorem Try.fd53_0 : fdOf Try.prog 53 0 = some (0, 1, false) := by kernel_rfl
@[go_sem] theorem Try.fd53_1 : fdOf Try.prog 53 1 = some (1, 1, false) := by kernel_rfl
@[go_sem] theorem Try.fd53_2 : fdOf Try.prog 53 2 = some (2, 1, false) := by kernel_rfl
@[go_sem] theorem Try.fd53_3 : fdOf Try.prog 53 3 = some (3, 1, false) := by kernel_rfl
@[go_sem] theorem Try.fd53_4 : fdOf Try.prog 53 4 = some (4, 1, false) := by kernel_rfl
@[go_sem] theorem Try.tsz54 : tszOf Try.prog 54 = some (1, false) := by kernel_rfl
@[go_sem] theorem Try.udef54 : (Try.prog.underlying 54).isSome = true := by kernel_rfl
@[go_sem] theorem Try.zero54 : zeroOf Try.prog 54 = some [.lit ((Go.Value.nilFunc))] := by kernel_rfl
@[go_sem] theorem Try.tsz55 : tszOf Try.prog 55 = some (1, false) := by kernel_rfl
@[go_sem] theorem Try.udef55 : (Try.prog.underlying 55).isSome = true := by kernel_rfl
@[go_sem] theorem Try.zero55 : zeroOf Try.prog 55 = some [.lit ((Go.Value.nilFunc))] := by kernel_rfl
@[go_sem] theorem Try.tsz56 : tszOf Try.prog 56 = some (1, false) := by kernel_rfl
@[go_sem] theorem Try.udef56 : (Try.prog.underlying 56).isSome = true := by kernel_rfl
@[go_sem] theorem Try.zero56 : zeroOf Try.prog 56 = some [.lit ((Go.Value.pointer none))] := by kernel_rfl
@[go_sem] theorem Try.tsz57 : tszOf Try.prog 57 = some (1, false) := by kernel_rfl
@[go_sem] theorem Try.udef57 : (Try.prog.underlying 57).isSome = true := by kernel_rfl
@[go_sem] theorem Try.zero57 : zeroOf Try.prog 57 = some [.int .u64 0] := by kernel_rfl
@[go_sem] theorem Try.isInt57 : isIntT Try.prog 57 = some .u64 := by kernel_rfl
@[go_sem] theorem Try.tsz58 : tszOf Try.prog 58 = some (3, true) := by kernel_rfl
@[go_sem] theorem Try.udef58 : (Try.prog.underlying 58).isSome = true := by kernel_rfl
@[go_sem] theorem Try.zero58 : zeroOf Try.prog 58 = some [.nilsl, .int .i64 0, .int .u64 0] := by kernel_rfl
@[go_sem] theorem Try.pl58 : plOf Try.prog 58 = some [(0, 1), (1, 1), (2, 1)] := by kernel_rfl
@[go_sem] theorem Try.tsz59 : tszOf Try.prog 59 = some (3, true) := by kernel_rfl
@[go_sem] theorem Try.udef59 : (Try.prog.underlying 59).isSome = true := by kernel_rfl
@[go_sem] theorem Try.zero59 : zeroOf Try.prog 59 = some [.nilsl, .int .i64 0, .int .u64 0] := by kernel_rfl
@[go_sem] theorem Try.pl59 : plOf Try.prog 59 = some [(0, 1), (1, 1), (2, 1)] := by kernel_rfl
@[go_sem] theorem Try.fd59_0 : fdOf Try.prog 59 0 = some (0, 1, false) := by kernel_rfl
@[go_sem] theorem Try.fd59_1 : fdOf Try.prog 59 1 = some (1, 1, false) := by kernel_rfl
@[go_sem] theorem Try.fd59_2 : fdOf Try.prog 59 2 = some (2, 1, false) := by kernel_rfl
@[go_sem] theorem Try.tsz60 : tszOf Try.prog 60 = some (1, false) := by kernel_rfl
@[go_sem] theorem Try.udef60 : (Try.prog.underlying 60).isSome = true := by kernel_rfl
@[go_sem] theorem Try.zero60 : zeroOf Try.prog 60 = some [.lit ((Go.Value.nilFunc))] := by kernel_rfl
@[go_sem] theorem Try.tsz61 : tszOf Try.prog 61 = some (1, false) := by kernel_rfl
@[go_sem] theorem Try.udef61 : (Try.prog.underlying 61).isSome = true := by kernel_rfl
@[go_sem] theorem Try.zero61 : zeroOf Try.prog 61 = some [.lit ((Go.Value.nilFunc))] := by kernel_rfl
@[go_sem] theorem Try.tsz62 : tszOf Try.prog 62 = some (1, false) := by kernel_rfl
@[go_sem] theorem Try.udef62 : (Try.prog.underlying 62).isSome = true := by kernel_rfl
@[go_sem] theorem Try.zero62 : zeroOf Try.prog 62 = some [.lit ((Go.Value.nilFunc))] := by kernel_rfl
@[go_sem] theorem Try.tsz63 : tszOf Try.prog 63 = some (1, false) := by kernel_rfl
@[go_sem] theorem Try.udef63 : (Try.prog.underlying 63).isSome = true := by kernel_rfl
@[go_sem] theorem Try.zero63 : zeroOf Try.prog 63 = some [.lit ((Go.Value.nilFunc))] := by kernel_rfl
@[go_sem] theorem Try.tsz64 : tszOf Try.prog 64 = some (1, false) := by kernel_rfl
@[go_sem] theorem Try.udef64 : (Try.prog.underlying 64).isSome = true := by kernel_rfl
@[go_sem] theorem Try.zero64 : zeroOf Try.prog 64 = some [.lit ((Go.Value.nilFunc))] := by kernel_rfl
@[go_sem] theorem Try.tsz66 : tszOf Try.prog 66 = some (1, false) := by kernel_rfl
@[go_sem] theorem Try.udef66 : (Try.prog.underlying 66).isSome = true := by kernel_rfl
@[go_sem] theorem Try.zero66 : zeroOf Try.prog 66 = some [.lit ((Go.Value.nilFunc))] := by kernel_rfl
@[go_sem] theorem Try.tsz67 : tszOf Try.prog 67 = some (1, false) := by kernel_rfl
@[go_sem] theorem Try.udef67 : (Try.prog.underlying 67).isSome = true := by kernel_rfl
@[go_sem] theorem Try.zero67 : zeroOf Try.prog 67 = some [.lit ((Go.Value.nilFunc))] := by kernel_rfl
@[go_sem] theorem Try.tsz68 : tszOf Try.prog 68 = some (1, false) := by kernel_rfl
@[go_sem] theorem Try.udef68 : (Try.prog.underlying 68).isSome = true := by kernel_rfl
@[go_sem] theorem Try.zero68 : zeroOf Try.prog 68 = some [.lit ((Go.Value.nilFunc))] := by kernel_rfl
@[go_sem] theorem Try.tsz69 : tszOf Try.prog 69 = some (1, false) := by kernel_rfl
@[go_sem] theorem Try.udef69 : (Try.prog.underlying 69).isSome = true := by kernel_rfl
@[go_sem] theorem Try.zero69 : zeroOf Try.prog 69 = some [.lit ((Go.Value.nilFunc))] := by kernel_rfl
@[go_sem] theorem Try.tsz70 : tszOf Try.prog 70 = some (1, false) := by kernel_rfl
@[go_sem] theorem Try.udef70 : (Try.prog.underlying 70).isSome = true := by kernel_rfl
@[go_sem] theorem Try.zero70 : zeroOf Try.prog 70 = some [.lit ((Go.Value.nilFunc))] := by kernel_rfl
@[go_sem] theorem Try.tsz71 : tszOf Try.prog 71 = some (1, false) := by kernel_rfl
@[go_sem] theorem Try.udef71 : (Try.prog.underlying 71).isSome = true := by kernel_rfl
@[go_sem] theorem Try.zero71 : zeroOf Try.prog 71 = some [.lit ((Go.Value.nilFunc))] := by kernel_rfl
@[go_sem] theorem Try.tsz72 : tszOf Try.prog 72 = some (1, false) := by kernel_rfl
@[go_sem] theorem Try.udef72 : (Try.prog.underlying 72).isSome = true := by kernel_rfl
@[go_sem] theorem Try.zero72 : zeroOf Try.prog 72 = some [.lit ((Go.Value.nilFunc))] := by kernel_rfl
@[go_sem] theorem Try.tsz73 : tszOf Try.prog 73 = some (1, false) := by kernel_rfl
@[go_sem] theorem Try.udef73 : (Try.prog.underlying 73).isSome = true := by kernel_rfl
@[go_sem] theorem Try.zero73 : zeroOf Try.prog 73 = some [.lit ((Go.Value.nilFunc))] := by kernel_rfl
@[go_sem] theorem Try.tsz74 : tszOf Try.prog 74 = some (1, false) := by kernel_rfl
@[go_sem] theorem Try.udef74 : (Try.prog.underlying 74).isSome = true := by kernel_rfl
@[go_sem] theorem Try.zero74 : zeroOf Try.prog 74 = some [.lit ((Go.Value.nilFunc))] := by kernel_rfl
@[go_sem] theorem Try.tsz75 : tszOf Try.prog 75 = some (1, false) := by kernel_rfl
@[go_sem] theorem Try.udef75 : (Try.prog.underlying 75).isSome = true := by kernel_rfl
@[go_sem] theorem Try.zero75 : zeroOf Try.prog 75 = some [.int .u64 0] := by kernel_rfl
@[go_sem] theorem Try.isInt75 : isIntT Try.prog 75 = some .u64 := by kernel_rfl
@[go_sem] theorem Try.tsz76 : tszOf Try.prog 76 = some (1, false) := by kernel_rfl
@[go_sem] theorem Try.udef76 : (Try.prog.underlying 76).isSome = true := by kernel_rfl
@[go_sem] theorem Try.zero76 : zeroOf Try.prog 76 = some [.lit ((Go.Value.nilFunc))] := by kernel_rfl
@[go_sem] theorem Try.tsz77 : tszOf Try.prog 77 = some (1, false) := by kernel_rfl
@[go_sem] theorem Try.udef77 : (Try.prog.underlying 77).isSome = true := by kernel_rfl
@[go_sem] theorem Try.zero77 : zeroOf Try.prog 77 = some [.lit ((Go.Value.nilFunc))] := by kernel_rfl
@[go_sem] theorem Try.tsz78 : tszOf Try.prog 78 = some (1, false) := by kernel_rfl
@[go_sem] theorem Try.udef78 : (Try.prog.underlying 78).isSome = true := by kernel_rfl
@[go_sem] theorem Try.zero78 : zeroOf Try.prog 78 = some [.int .i64 0] := by kernel_rfl
@[go_sem] theorem Try.isInt78 : isIntT Try.prog 78 = some .i64 := by kernel_rfl
@[go_sem] theorem Try.tsz80 : tszOf Try.prog 80 = some (1, false) := by kernel_rfl
@[go_sem] theorem Try.udef80 : (Try.prog.underlying 80).isSome = true := by kernel_rfl
@[go_sem] theorem Try.zero80 : zeroOf Try.prog 80 = some [.lit ((Go.Value.nilFunc))] := by kernel_rfl
@[go_sem] theorem Try.tsz81 : tszOf Try.prog 81 = some (1, false) := by kernel_rfl
@[go_sem] theorem Try.udef81 : (Try.prog.underlying 81).isSome = true := by kernel_rfl
@[go_sem] theorem Try.zero81 : zeroOf Try.prog 81 = some [.lit ((Go.Value.nilFunc))] := by kernel_rfl
@[go_sem] theorem Try.tsz82 : tszOf Try.prog 82 = some (1, false) := by kernel_rfl
@[go_sem] theorem Try.udef82 : (Try.prog.underlying 82).isSome = true := by kernel_rfl
@[go_sem] theorem Try.zero82 : zeroOf Try.prog 82 = some [.lit ((Go.Value.nilFunc))] := by kernel_rfl
@[go_sem] theorem Try.tsz83 : tszOf Try.prog 83 = some (1, false) := by kernel_rfl
@[go_sem] theorem Try.udef83 : (Try.prog.underlying 83).isSome = true := by kernel_rfl
@[go_sem] theorem Try.zero83 : zeroOf Try.prog 83 = some [.lit ((Go.Value.nilFunc))] := by kernel_rfl
@[go_sem] theorem Try.tsz84 : tszOf Try.prog 84 = some (1, false) := by kernel_rfl
@[go_sem] theorem Try.udef84 : (Try.prog.underlying 84).isSome = true := by kernel_rfl
@[go_sem] theorem Try.zero84 : zeroOf Try.prog 84 = some [.lit ((Go.Value.nilFunc))] := by kernel_rfl
@[go_sem] theorem Try.tsz85 : tszOf Try.prog 85 = some (1, false) := by kernel_rfl
@[go_sem] theorem Try.udef85 : (Try.prog.underlying 85).isSome = true := by kernel_rfl
@[go_sem] theorem Try.zero85 : zeroOf Try.prog 85 = some [.lit ((Go.Value.nilFunc))] := by kernel_rfl
@[go_sem] theorem Try.tsz86 : tszOf Try.prog 86 = some (1, false) := by kernel_rfl
@[go_sem] theorem Try.udef86 : (Try.prog.underlying 86).isSome = true := by kernel_rfl
@[go_sem] theorem Try.zero86 : zeroOf Try.prog 86 = some [.int .u32 0] := by kernel_rfl
@[go_sem] theorem Try.isInt86 : isIntT Try.prog 86 = some .u32 := by kernel_rfl
@[go_sem] theorem Try.tsz87 : tszOf Try.prog 87 = some (1, false) := by kernel_rfl
@[go_sem] theorem Try.udef87 : (Try.prog.underlying 87).isSome = true := by kernel_rfl
@[go_sem] theorem Try.zero87 : zeroOf Try.prog 87 = some [.lit ((Go.Value.nilFunc))] := by kernel_rfl
@[go_sem] theorem Try.tsz88 : tszOf Try.prog 88 = some (1, false) := by kernel_rfl
@[go_sem] theorem Try.udef88 : (Try.prog.underlying 88).isSome = true := by kernel_rfl
@[go_sem] theorem Try.zero88 : zeroOf Try.prog 88 = some [.int .u64 0] := by kernel_rfl
@[go_sem] theorem Try.isInt88 : isIntT Try.prog 88 = some .u64 := by kernel_rfl
@[go_sem] theorem Try.tsz89 : tszOf Try.prog 89 = some (1, false) := by kernel_rfl
@[go_sem] theorem Try.udef89 : (Try.prog.underlying 89).isSome = true := by kernel_rfl
@[go_sem] theorem Try.zero89 : zeroOf Try.prog 89 = some [.lit ((Go.Value.nilFunc))] := by kernel_rfl
@[go_sem] theorem Try.tsz90 : tszOf Try.prog 90 = some (1, false) := by kernel_rfl
@[go_sem] theorem Try.udef90 : (Try.prog.underlying 90).isSome = true := by kernel_rfl
@[go_sem] theorem Try.zero90 : zeroOf Try.prog 90 = some [.lit ((Go.Value.nilFunc))] := by kernel_rfl
@[go_sem] theorem Try.tsz91 : tszOf Try.prog 91 = some (1, false) := by kernel_rfl
@[go_sem] theorem Try.udef91 : (Try.prog.underlying 91).isSome = true := by kernel_rfl
@[go_sem] theorem Try.zero91 : zeroOf Try.prog 91 = some [.lit ((Go.Value.nilFunc))] := by kernel_rfl
@[go_sem] theorem Try.tsz92 : tszOf Try.prog 92 = some (1, false) := by kernel_rfl
@[go_sem] theorem Try.udef92 : (Try.prog.underlying 92).isSome = true := by kernel_rfl
@[go_sem] theorem Try.zero92 : zeroOf Try.prog 92 = some [.lit ((Go.Value.pointer none))] := by kernel_rfl
@[go_sem] theorem Try.tsz93 : tszOf Try.prog 93 = some (1, false) := by kernel_rfl
@[go_sem] theorem Try.udef93 : (Try.prog.underlying 93).isSome = true := by kernel_rfl
@[go_sem] theorem Try.zero93 : zeroOf Try.prog 93 = some [.lit ((Go.Value.nilFunc))] := by kernel_rfl
@[go_sem] theorem Try.tsz94 : tszOf Try.prog 94 = some (1, false) := by kernel_rfl
@[go_sem] theorem Try.udef94 : (Try.prog.underlying 94).isSome = true := by kernel_rfl
@[go_sem] theorem Try.zero94 : zeroOf Try.prog 94 = some [.lit ((Go.Value.pointer none))] := by kernel_rfl
@[go_sem] theorem Try.tsz95 : tszOf Try.prog 95 = some (1, false) := by kernel_rfl
@[go_sem] theorem Try.udef95 : (Try.prog.underlying 95).isSome = true := by kernel_rfl
@[go_sem] theorem Try.zero95 : zeroOf Try.prog 95 = some [.lit ((Go.Value.nilFunc))] := by kernel_rfl
@[go_sem] theorem Try.tsz96 : tszOf Try.prog 96 = some (1, false) := by kernel_rfl
@[go_sem] theorem Try.udef96 : (Try.prog.underlying 96).isSome = true := by kernel_rfl
@[go_sem] theorem Try.zero96 : zeroOf Try.prog 96 = some [.lit ((Go.Value.nilFunc))] := by kernel_rfl
@[go_sem] theorem Try.tsz97 : tszOf Try.prog 97 = some (4, true) := by kernel_rfl
@[go_sem] theorem Try.udef97 : (Try.prog.underlying 97).isSome = true := by kernel_rfl
@[go_sem] theorem Try.zero97 : zeroOf Try.prog 97 = some [.lit ((Go.Value.pointer none)), .lit ((Go.Value.pointer none)), .lit ((Go.Value.pointer none)), .str ByteArray.empty] := by kernel_rfl
@[go_sem] theorem Try.pl97 : plOf Try.prog 97 = some [(0, 1), (1, 1), (2, 1), (3, 1)] := by kernel_rfl
@[go_sem] theorem Try.tsz98 : tszOf Try.prog 98 = some (4, true) := by kernel_rfl
@[go_sem] theorem Try.udef98 : (Try.prog.underlying 98).isSome = true := by kernel_rfl
@[go_sem] theorem Try.zero98 : zeroOf Try.prog 98 = some [.lit ((Go.Value.pointer none)), .lit ((Go.Value.pointer none)), .lit ((Go.Value.pointer none)), .str ByteArray.empty] := by kernel_rfl
@[go_sem] theorem Try.pl98 : plOf Try.prog 98 = some [(0, 1), (1, 1), (2, 1), (3, 1)] := by kernel_rfl
@[go_sem] theorem Try.tsz99 : tszOf Try.prog 99 = some (0, true) := by kernel_rfl
@[go_sem] theorem Try.udef99 : (Try.prog.underlying 99).isSome = true := by kernel_rfl
@[go_sem] theorem Try.zero99 : zeroOf Try.prog 99 = some [] := by kernel_rfl
@[go_sem] theorem Try.ar99 : arOf Try.prog 99 = some (0, 1, false) := by kernel_rfl
@[go_sem] theorem Try.pl99 : plOf Try.prog 99 = some [] := by kernel_rfl
@[go_sem] theorem Try.tsz100 : tszOf Try.prog 100 = some (0, true) := by kernel_rfl
@[go_sem] theorem Try.udef100 : (Try.prog.underlying 100).isSome = true := by kernel_rfl
@[go_sem] theorem Try.zero100 : zeroOf Try.prog 100 = some [] := by kernel_rfl
@[go_sem] theorem Try.pl100 : plOf Try.prog 100 = some [(0, 0)] := by kernel_rfl
@[go_sem] theorem Try.tsz101 : tszOf Try.prog 101 = some (0, true) := by kernel_rfl
@[go_sem] theorem Try.udef101 : (Try.prog.underlying 101).isSome = true := by kernel_rfl
@[go_sem] theorem Try.zero101 : zeroOf Try.prog 101 = some [] := by kernel_rfl
@[go_sem] theorem Try.pl101 : plOf Try.prog 101 = some [(0, 0)] := by kernel_rfl
@[go_sem] theorem Try.tsz102 : tszOf Try.prog 102 = some (1, false) := by kernel_rfl
@[go_sem] theorem Try.udef102 : (Try.prog.underlying 102).isSome = true := by kernel_rfl
@[go_sem] theorem Try.zero102 : zeroOf Try.prog 102 = some [.int .u8 0] := by kernel_rfl
@[go_sem] theorem Try.isInt102 : isIntT Try.prog 102 = some .u8 := by kernel_rfl
@[go_sem] theorem Try.tsz103 : tszOf Try.prog 103 = some (1, false) := by kernel_rfl
@[go_sem] theorem Try.udef103 : (Try.prog.underlying 103).isSome = true := by kernel_rfl
@[go_sem] theorem Try.zero103 : zeroOf Try.prog 103 = some [.int .u8 0] := by kernel_rfl
@[go_sem] theorem Try.isInt103 : isIntT Try.prog 103 = some .u8 := by kernel_rfl
@[go_sem] theorem Try.tsz104 : tszOf Try.prog 104 = some (1, false) := by kernel_rfl
@[go_sem] theorem Try.udef104 : (Try.prog.underlying 104).isSome = true := by kernel_rfl
@[go_sem] theorem Try.zero104 : zeroOf Try.prog 104 = some [.lit ((Go.Value.nilFunc))] := by kernel_rfl
@[go_sem] theorem Try.tsz105 : tszOf Try.prog 105 = some (1, false) := by kernel_rfl
@[go_sem] theorem Try.udef105 : (Try.prog.underlying 105).isSome = true := by kernel_rfl
@[go_sem] theorem Try.zero105 : zeroOf Try.prog 105 = some [.lit ((Go.Value.pointer none))] := by kernel_rfl
@[go_sem] theorem Try.tsz106 : tszOf Try.prog 106 = some (1, false) := by kernel_rfl
@[go_sem] theorem Try.udef106 : (Try.prog.underlying 106).isSome = true := by kernel_rfl
@[go_sem] theorem Try.zero106 : zeroOf Try.prog 106 = some [.int .i32 0] := by kernel_rfl
@[go_sem] theorem Try.isInt106 : isIntT Try.prog 106 = some .i32 := by kernel_rfl
@[go_sem] theorem Try.tsz107 : tszOf Try.prog 107 = some (1, false) := by kernel_rfl
@[go_sem] theorem Try.udef107 : (Try.prog.underlying 107).isSome = true := by kernel_rfl
@[go_sem] theorem Try.zero107 : zeroOf Try.prog 107 = some [.int .i32 0] := by kernel_rfl
@[go_sem] theorem Try.isInt107 : isIntT Try.prog 107 = some .i32 := by kernel_rfl
@[go_sem] theorem Try.tsz108 : tszOf Try.prog 108 = some (11, true) := by kernel_rfl
@[go_sem] theorem Try.udef108 : (Try.prog.underlying 108).isSome = true := by kernel_rfl
@[go_sem] theorem Try.zero108 : zeroOf Try.prog 108 = some [.int .u64 0, .int .u64 0, .int .u32 0, .int .u8 0, .int .u8 0, .int .u8 0, .int .u8 0, .lit ((Go.Value.nilFunc)), .lit ((Go.Value.pointer none)), .int .i32 0, .int .i32 0] := by kernel_rfl
@[go_sem] theorem Try.pl108 : plOf Try.prog 108 = some [(0, 1), (1, 1), (2, 1), (3, 1), (4, 1), (5, 1), (6, 1), (7, 1), (8, 1), (9, 1), (10, 1)] := by kernel_rfl
@[go_sem] theorem Try.tsz109 : tszOf Try.prog 109 = some (11, true) := by kernel_rfl
@[go_sem] theorem Try.udef109 : (Try.prog.underlying 109).isSome = true := by kernel_rfl
@[go_sem] theorem Try.zero109 : zeroOf Try.prog 109 = some [.int .u64 0, .int .u64 0, .int .u32 0, .int .u8 0, .int .u8 0, .int .u8 0, .int .u8 0, .lit ((Go.Value.nilFunc)), .lit ((Go.Value.pointer none)), .int .i32 0, .int .i32 0] := by kernel_rfl
@[go_sem] theorem Try.pl109 : plOf Try.prog 109 = some [(0, 1), (1, 1), (2, 1), (3, 1), (4, 1), (5, 1), (6, 1), (7, 1), (8, 1), (9, 1), (10, 1)] := by kernel_rfl
@[go_sem] theorem Try.tsz110 : tszOf Try.prog 110 = some (1, false) := by kernel_rfl
@[go_sem] theorem Try.udef110 : (Try.prog.underlying 110).isSome = true := by kernel_rfl
@[go_sem] theorem Try.zero110 : zeroOf Try.prog 110 = some [.lit ((Go.Value.pointer none))] := by kernel_rfl
@[go_sem] theorem Try.isPt3 : isPt Try.prog 3 = false := by kernel_rfl
@[go_sem] theorem Try.isPt22 : isPt Try.prog 22 = false := by kernel_rfl
@[go_sem] theorem Try.isPt24 : isPt Try.prog 24 = false := by kernel_rfl
@[go_sem] theorem Try.isPt27 : isPt Try.prog 27 = false := by kernel_rfl
@[go_sem] theorem Try.isPt34 : isPt Try.prog 34 = false := by kernel_rfl
@[go_sem] theorem Try.isPt38 : isPt Try.prog 38 = false := by kernel_rfl
@[go_sem] theorem Try.isPt40 : isPt Try.prog 40 = false := by kernel_rfl
@[go_sem] theorem Try.isPt53 : isPt Try.prog 53 = false := by kernel_rfl
@[go_sem] theorem Try.isPt56 : isPt Try.prog 56 = true := by kernel_rfl
@[go_sem] theorem Try.isPt57 : isPt Try.prog 57 = false := by kernel_rfl
@[go_sem] theorem Try.isPt75 : isPt Try.prog 75 = false := by kernel_rfl
@[go_sem] theorem Try.isPt86 : isPt Try.prog 86 = false := by kernel_rfl
@[go_sem] theorem Try.isPt88 : isPt Try.prog 88 = false := by kernel_rfl
theorem Try.okF3 : okF Try.prog 3 = true := by kernel_rfl
theorem Try.okF5 : okF Try.prog 5 = true := by kernel_rfl
theorem Try.okF6 : okF Try.prog 6 = true := by kernel_rfl
theorem Try.okF7 : okF Try.prog 7 = true := by kernel_rfl
theorem Try.okF8 : okF Try.prog 8 = true := by kernel_rfl
theorem Try.okF9 : okF Try.prog 9 = true := by kernel_rfl
theorem Try.okF10 : okF Try.prog 10 = true := by kernel_rfl
theorem Try.okF11 : okF Try.prog 11 = true := by kernel_rfl
theorem Try.okF12 : okF Try.prog 12 = true := by kernel_rfl
theorem Try.okF13 : okF Try.prog 13 = true := by kernel_rfl
theorem Try.okF28 : okF Try.prog 28 = true := by kernel_rfl
theorem Try.okF29 : okF Try.prog 29 = true := by kernel_rfl
theorem Try.okF30 : okF Try.prog 30 = true := by kernel_rfl
theorem Try.okF31 : okF Try.prog 31 = true := by kernel_rfl
theorem Try.okF32 : okF Try.prog 32 = true := by kernel_rfl
theorem Try.okF33 : okF Try.prog 33 = true := by kernel_rfl
theorem Try.okF34 : okF Try.prog 34 = true := by kernel_rfl
theorem Try.okF35 : okF Try.prog 35 = true := by kernel_rfl
theorem Try.okF36 : okF Try.prog 36 = true := by kernel_rfl
theorem Try.okF45 : okF Try.prog 45 = true := by kernel_rfl
theorem Try.okF46 : okF Try.prog 46 = true := by kernel_rfl
theorem Try.okF47 : okF Try.prog 47 = true := by kernel_rfl
theorem Try.okF48 : okF Try.prog 48 = true := by kernel_rfl
theorem Try.okF53 : okF Try.prog 53 = true := by kernel_rfl
theorem Try.okF66 : okF Try.prog 66 = true := by kernel_rfl
end Go.Proofs
end
section
namespace Go.Lv

def rows {α : Type} (cs : α → List V) (L : List α) : List V := L.flatMap cs

section
variable {α : Type} {cs : α → List V} {w : Nat}

theorem rows_len (h : ∀ a, (cs a).length = w) (L : List α) : (rows cs L).length = L.length * w := by
 induction L with
 | nil => simp [rows]
 | cons a L ih => simp [rows, h] at ih ⊢; rw [ih, Nat.succ_mul, Nat.add_comm]

theorem rowsOf_append (L K : List α) : rows cs (L ++ K) = rows cs L ++ rows cs K := by simp [rows]
theorem rows_cons (a : α) (L : List α) : rows cs (a :: L) = cs a ++ rows cs L := by simp [rows]
theorem rows_one (a : α) : rows cs [a] = cs a := by simp [rows]

theorem rows_drop (h : ∀ a, (cs a).length = w) (L : List α) (i : Nat) : (rows cs L).drop (i * w) = rows cs (L.drop i) := by
 induction i generalizing L with
 | zero => simp
 | succ i ih =>
   cases L with
   | nil => simp [rows]
   | cons a L =>
     rw [rows_cons, Nat.succ_mul, Nat.add_comm, ← List.drop_drop, List.drop_append, h a, Nat.sub_self, List.drop_zero]
     rw [show (cs a).drop w = [] by simp [h]]
     simpa using ih L

theorem rows_at (h : ∀ a, (cs a).length = w) {L : List α} {i : Nat} (hi : i < L.length) : ((rows cs L).drop (i * w)).take w = cs L[i] := by
 rw [rows_drop h, List.drop_eq_getElem_cons hi, rows_cons, List.take_append, h, Nat.sub_self, List.take_zero, List.append_nil, List.take_of_length_le (by simp [h])]

theorem rows_all {p : V → Bool} (h : ∀ a, (cs a).all p = true) (L : List α) : (rows cs L).all p = true := by
 induction L with
 | nil => rfl
 | cons a L ih => rw [rows_cons, List.all_append, h a, ih]; rfl

theorem map_ren (f : Nat → R) {d : Nat} {l : List V} (h : l.all (noOwn d) = true) : l.map (ren f d) = l := by
 rw [List.map_congr_left (g := id) (fun x hx => ren_noOwn f d x (List.all_eq_true.1 h x hx)), List.map_id]

theorem zrow_all {p : V → Bool} {zs : List V} (hz : zs.all p = true) (hn : 0 < zs.length) (n : Nat) : (zrow n zs).all p = true := by
 rw [List.all_eq_true]
 intro x hx
 simp only [zrow, List.mem_map, List.mem_range] at hx
 obtain ⟨i, _, rfl⟩ := hx
 have hlt := Nat.mod_lt i hn
 rw [List.getD_eq_getElem?_getD, List.getElem?_eq_getElem hlt]
 exact List.all_eq_true.1 hz _ (List.getElem_mem hlt)

theorem zrow_len (n : Nat) (zs : List V) : (zrow n zs).length = n := by simp [zrow]

theorem zrow_drop {zs : List V} (hz : zs.length = w) (n : Nat) : (zrow n zs).drop w = zrow (n - w) zs := by
 apply List.ext_getElem
 · simp [zrow]
 · intro i h1 h2
   simp [zrow] at h1 h2 ⊢
   rw [hz, Nat.add_mod_left]

def filled (cs : α → List V) (w : Nat) (zs : List V) (L : List α) (i : Nat) : List V := rows cs (L.take i) ++ zrow ((L.length - i) * w) zs

theorem filled_len (h : ∀ a, (cs a).length = w) {zs : List V} {L : List α} {i : Nat} (hi : i ≤ L.length) : (filled cs w zs L i).length = L.length * w := by
 simp only [filled, List.length_append, rows_len h, zrow_len, List.length_take, Nat.min_eq_left hi]
 rw [← Nat.add_mul, Nat.add_sub_cancel' hi]

theorem filled_zero {zs : List V} {L : List α} : filled cs w zs L 0 = zrow (L.length * w) zs := by simp [filled, rows]

theorem filled_all (h : ∀ a, (cs a).length = w) {zs : List V} {L : List α} {i : Nat} (hi : L.length ≤ i) : filled cs w zs L i = rows cs L := by
 simp [filled, List.take_of_length_le hi, Nat.sub_eq_zero_of_le hi, zrow]

theorem filled_step (h : ∀ a, (cs a).length = w) {zs : List V} (hz : zs.length = w) {L : List α} {i : Nat} (hi : i < L.length) :
   splice (filled cs w zs L i) (i * w) (cs L[i]) = filled cs w zs L (i + 1) := by
 have hl : (rows cs (L.take i)).length = i * w := by rw [rows_len h, List.length_take, Nat.min_eq_left (by omega)]
 unfold filled splice
 rw [List.take_append, hl, Nat.sub_self, List.take_zero, List.append_nil, List.take_of_length_le (by omega), h, ← List.drop_drop, List.drop_append, hl, Nat.sub_self, List.drop_zero,
   show (rows cs (L.take i)).drop (i * w) = [] by simp [hl], List.nil_append, zrow_drop hz, List.take_succ_eq_append_getElem hi, rowsOf_append, rows_one]
 rw [show (L.length - i) * w - w = (L.length - (i + 1)) * w by rw [← Nat.sub_one_mul]; congr 1]

theorem cutB_rows {n : Nat} {l : List V} (h : l.all (noOwn 2) = true) : cutB n (some l) = some l := by
 simp only [cutB, Option.map_some]
 rw [map_ren _ h]
theorem filled_plain {zs : List V} {L : List α} {i : Nat} (hz : 0 < zs.length) (hz2 : zs.all (noOwn 2) = true) (hp : ∀ a, (cs a).all (noOwn 2) = true) : (filled cs w zs L i).all (noOwn 2) = true := by
 rw [filled, List.all_append, zrow_all hz2 hz, Bool.and_true]
 exact rows_all hp _

theorem wrap_i64 {n : Int} (h0 : -9223372036854775808 ≤ n) (h1 : n ≤ 9223372036854775807) : IntKind.i64.wrap n = n := by
 rw [IntKind.wrap_i64]; omega

def i64R (z : Int) : Prop := -9223372036854775808 ≤ z ∧ z ≤ 9223372036854775807
def lstR (ok : α → Prop) (L : List α) : Prop := L.length ≤ 9223372036854775807 ∧ ∀ x ∈ L, ok x

class FlatP (cs : α → List V) (w : outParam Nat) : Prop where
 len : ∀ a, (cs a).length = w
 plain : ∀ a d, (cs a).all (noOwn d) = true
 cell : ∀ a, (cs a).all isCell = true
 noro : ∀ a, (cs a).all (noRoB 0) = true

theorem rows_length [FlatP cs w] (L : List α) : (rows cs L).length = L.length * w := rows_len FlatP.len L
theorem map_ren_rows [FlatP cs w] (f : Nat → R) (d : Nat) (L : List α) : (rows cs L).map (ren f d) = rows cs L := map_ren f (rows_all (fun a => FlatP.plain a d) L)
theorem rows_cell [FlatP cs w] (L : List α) : (rows cs L).all isCell = true := rows_all FlatP.cell L
theorem rows_noRo [FlatP cs w] (L : List α) : (rows cs L).all (noRoB 0) = true := rows_all FlatP.noro L
theorem rows_noOwn [FlatP cs w] (L : List α) (d : Nat) : (rows cs L).all (noOwn d) = true := rows_all (fun a => FlatP.plain a d) L
theorem rows_refV [FlatP cs w] (p : Nat → Bool) (L : List α) (d : Nat) : (rows cs L).all (refV p d) = true := List.all_eq_true.2 fun x hx => refV_noOwn p d x (List.all_eq_true.1 (rows_noOwn (cs := cs) L d) x hx)
theorem noRoH_rows [FlatP cs w] (L : List α) : NoRoH [some (rows cs L)] := NoRoH.of (by simp only [hpNoRo, List.all_cons, List.all_nil, rows_noRo, Bool.and_self])
theorem take_rows [FlatP cs w] (L : List α) : (rows cs L).take (L.length * w) = rows cs L := List.take_of_length_le (by rw [rows_length]; exact Nat.le_refl _)

theorem le_snap [FlatP cs w] {h : Hp} {id : Nat} {L : List α} (hid : h[id]? = some (some (rows cs L))) : LeV (ren (snapR h 3) 3 (.osl id 0 L.length w)) (.sl L.length w (rows cs L)) := by
 refine .inl ?_
 simp only [ren, snapR, hid, map_ren_rows, List.drop_zero, take_rows]
theorem le_snap' [FlatP cs w] {h : Hp} {id n : Nat} {L : List α} (hid : h[id]? = some (some (rows cs L))) (hn : n = L.length) : LeV (ren (snapR h 3) 3 (.osl id 0 n w)) (.sl L.length w (rows cs L)) := by
 subst hn; exact le_snap hid
theorem le_nil {h : Hp} {w : Nat} : LeV (ren (snapR h 3) 3 .nilsl) (.sl 0 w []) := .inr (.inr (.inl ⟨rfl, w, rfl⟩))
theorem LeV.aggR {f : Nat → R} {d : Nat} {cs cs' : List V} (h : LeA (cs.map (ren f d)) cs') : LeV (ren f (d + 1) (.agg cs)) (.agg cs') := LeV.agg h
theorem leE_snap [FlatP cs w] {h : Hp} {id n n' : Nat} {L : List α} (hid : h[id]? = some (some (rows cs L))) (hn : n = L.length) (hn' : n' = L.length) : LeE (ren (snapR h 3) 2 (.osl id 0 n w)) (.sl n' w (rows cs L)) := by
 subst hn hn'
 refine .inl ?_
 simp only [ren, snapR, hid, map_ren_rows, List.drop_zero, take_rows]
theorem lend_one [FlatP cs w] {h : Hp} {id : Nat} {fz : Bool} {L : List α} (hid : h[id]? = some (some (rows cs L))) : pickH [id] h fz = [some (rows cs L)] := by
 simp only [pickH, List.map_cons, List.map_nil, pickB, hid, map_ren_rows]
theorem isMb_cells {l : List V} (h : l.all isCell = true) : isMb l = false := by
 match l, h with
 | [], _ => rfl
 | _ :: _ :: _, _ => rfl
 | [x], h => cases x <;> first | rfl | (simp [isCell] at h)
theorem isMb_rows [FlatP cs w] (L : List α) : isMb (rows cs L) = false := isMb_cells (rows_cell L)
theorem grown_one [FlatP cs w] {L L' : List α} (h : L.length = L'.length) : grown [some (rows cs L)] [some (rows cs L')] := by
 simp [grown, rows_length, h, isMb_rows]

theorem LeL_same {f : V → V} : ∀ {l : List V}, l.map f = l → LeL (l.map f) l
 | [], _ => trivial
 | a :: l, h => by
   simp only [List.map_cons, List.cons.injEq] at h
   exact ⟨.inl h.1.symm, LeL_same h.2⟩

theorem splice_mid {A M ns : List V} {n j : Nat} (h : A.length = n) : splice (A ++ M) (n + j) ns = A ++ splice M j ns := by
 subst h
 unfold splice
 rw [List.take_append, List.drop_append, List.take_of_length_le (by omega), List.drop_of_length_le (by omega)]
 simp only [Nat.add_sub_cancel_left, List.nil_append, List.append_assoc]
 congr 3
 congr 1
 omega
theorem splice_mid0 {A M ns : List V} {n : Nat} (h : A.length = n) : splice (A ++ M) n ns = A ++ splice M 0 ns := by
 have := splice_mid (M := M) (ns := ns) (j := 0) h
 rwa [Nat.add_zero] at this

theorem apart {L : List α} {i : Nat} (hi : i < L.length) : ∃ A B, L = A ++ L[i] :: B ∧ A.length = i ∧ A = L.take i ∧ B = L.drop (i + 1) := by
 refine ⟨L.take i, L.drop (i + 1), ?_, by simp; omega, rfl, rfl⟩
 rw [← List.drop_eq_getElem_cons hi, List.take_append_drop]

def listedQ (p : α → Bool) (k : α → Int) (L : List α) (i : Nat) : Bool :=
 match L[i]? with
 | none => true
 | some x => p x && match i with
   | 0 => true
   | j + 1 => match L[j]? with
     | none => true
     | some y => decide (k y < k x)

def listedB (p : α → Bool) (k : α → Int) (m : Nat) (L : List α) : Bool := (List.range L.length).all (listedQ p k L) && decide (L.length ≤ m)

theorem range_all_false {q : Nat → Bool} {n i : Nat} (hi : i < n) (h : q i = false) : (List.range n).all q = false := by
 rw [List.all_eq_false]
 exact ⟨i, by simpa using hi, by simp [h]⟩
theorem range_all_succ {q : Nat → Bool} {i : Nat} (h : (List.range i).all q = true) (h1 : q i = true) : (List.range (i + 1)).all q = true := by
 rw [List.range_succ, List.all_append, h]
 simp [h1]
theorem listedB_false {p : α → Bool} {k : α → Int} {m : Nat} {L : List α} {i : Nat} (hi : i < L.length) (h : listedQ p k L i = false) : listedB p k m L = false := by
 rw [listedB, range_all_false hi h]
 rfl
theorem listedQ_zero {p : α → Bool} {k : α → Int} {L : List α} (h0 : 0 < L.length) : listedQ p k L 0 = p L[0] := by simp [listedQ, h0]
theorem listedQ_succ {p : α → Bool} {k : α → Int} {L : List α} {j : Nat} (h : j + 1 < L.length) : listedQ p k L (j + 1) = (p L[j + 1] && decide (k (L[j]'(by omega)) < k L[j + 1])) := by
 have : j < L.length := by omega
 simp [listedQ, h, this]
end

theorem leA {x y : V} (h : LeV x y := by first | exact le_snap rfl | exact .inl rfl | exact le_nil | exact le_snap' rfl (by simp) | exact LeV.aggR (by first | ((repeat' (first | exact True.intro | exact leE_snap rfl (by simp) (by simp) | exact LeE.nil | exact LeE.refl _ | refine And.intro ?_ ?_)); done) | fail)) : LeV x y := h
theorem callT.at {P : Program} {h : Hp} {g : FuncId} {a c args : List V} {K : V → Hp → Prop} {x : Tag K} {as' : List V} {r : V} {hout : Hp} (hs : Ctr P g as' [] r hout) (hle : LeL ((a ++ args ++ c).map (ren (snapR h 3) 3)) as') (hk : K r hout)
   (hro : (a ++ args ++ c).all (noOwn 3) = true ∨ NoRo r ∧ NoRoH hout := by first | exact .inl rfl | exact .inr ⟨noRo_ok 3 rfl, by first | exact NoRoH.nil | exact noRoH_rows _ | exact NoRoH.of (by simp only [hpNoRo, List.all_cons, List.all_nil, rows_noRo, Bool.and_self])⟩)
   (hrf : refOk h 4 (.fn (.func g) a c) = true ∧ args.all (refOk h 3) = true := by first | exact ⟨rfl, rfl⟩ | exact ⟨rfl, by simp [refOk, refV, refB, noOwn, rows_noOwn, rows_refV]⟩ | simp [refOk, refV, refB, noOwn, rows_noOwn, rows_refV]) : callT P h (.fn (.func g) a c) args K x :=
 callT.intro hs hle hro hrf hk
theorem callS.at {P : Program} {t : List V} {h : Hp} {k : Nat} {dst : Option Tmp} {g : FuncId} {a c args : List V} {K : St → Prop} {x : Tag K} {as' : List V} {r : V} {hout : Hp} (hs : Ctr P g as' [] r hout)
   (hle : LeL ((a ++ args ++ c).map (ren (snapR h 3) 3)) as') (hk : K (afterCall ⟨t, h, k⟩ dst r hout))
   (hro : (a ++ args ++ c).all (noOwn 3) = true ∨ NoRo r ∧ NoRoH hout := by first | exact .inl rfl | exact .inr ⟨noRo_ok 3 rfl, by first | exact NoRoH.nil | exact noRoH_rows _ | exact NoRoH.of (by simp only [hpNoRo, List.all_cons, List.all_nil, rows_noRo, Bool.and_self])⟩) : callS P ⟨t, h, k⟩ dst (.fn (.func g) a c) args K x :=
 callS.intro hs hle hro hk
theorem lendA {sel : List Nat} {h hin : Hp} {fz : Bool} (hh : pickH sel h fz = hin := by first | exact lend_one rfl | rfl | (simp only [pickH, List.map_cons, List.map_nil, pickB, List.getElem?_cons_zero, List.getElem?_cons_succ, map_ren_rows]; done)) : pickH sel h fz = hin := hh
theorem leO {x y : V} (h : LeV x y := by first | exact .inl rfl | exact LeV.aggR (by first | ((repeat' (first | exact True.intro | exact LeE.nil | exact LeE.refl _ | refine And.intro ?_ ?_)); done) | fail)) : LeV x y := h
theorem sideA {a b : Prop} (hb : b) (ha : a := by first | omega | with_reducible rfl | (show drawOk _ = true; kernel_rfl) | (simp only [rows_length, rows_cell, List.length_append, List.length_cons, List.length_nil, List.all_append, List.all_cons, List.all_nil, isCell, Nat.mul_one, Nat.one_mul, Bool.and_self]; first | done | omega)) : a ∧ b := ⟨ha, hb⟩
attribute [go_sem] Nat.le_refl Int.toNat_natCast beq_self_eq_true bne_self_eq_false decide_true decide_false eq_self ne_eq Option.some.injEq not_false_eq_true Option.map_some map_ren_rows
attribute [go_sem] Nat.reduceSub Nat.reduceAdd Nat.reduceMul Nat.reduceLT Nat.reduceLeDiff Nat.reduceEqDiff Nat.reduceDiv Nat.reduceMod Int.reduceToNat Int.reduceLE Int.reduceLT Int.reduceBEq Int.reduceBNe Int.reduceNeg Int.reduceAdd Int.reduceSub Int.reduceMul reduceCtorEq
end Go.Lv
end
section
set_option maxRecDepth 100000
namespace Go.Proofs
open Go.Lv
def inB' (n a b : Int) : Bool := decide (a ≤ n) && decide (n ≤ b)
theorem in_ok (n a b : Int) : Ctr Try.prog 32 [.int .i64 n, .int .i64 a, .int .i64 b] [] (.bool (inB' n a b)) [] := by
 refine Ctr.intro Try.mixed Try.func32 rfl Try.okF32 ?_
 simp -implicitDefEqProofs -dsimp only [go_sem, Try.ntmps32, Try.results32]
 refine guardT.splitT (fun h1 => ?_) (fun h1 => ?_) <;> simp -implicitDefEqProofs -dsimp only [go_sem, h1]
 · exact WeakR.of_eq (by simp [inB', h1])
 · exact WeakR.of_eq (by simp [inB', h1])
theorem l1In_ok (n a b : Int) : Ctr Try.prog 29 [.int .i64 n, .int .i64 a, .int .i64 b] [] (.bool (inB' n a b)) [] := by
 refine Ctr.intro Try.mixed Try.func29 rfl Try.okF29 ?_
 simp -implicitDefEqProofs -dsimp only [go_sem, Try.ntmps29, Try.results29]
 refine guardT.splitT (fun h1 => ?_) (fun h1 => ?_) <;> simp -implicitDefEqProofs -dsimp only [go_sem, h1]
 · exact WeakR.of_eq (by simp [inB', h1])
 · exact WeakR.of_eq (by simp [inB', h1])
theorem listedB_all {α : Type} {p : α → Bool} {k : α → Int} {m : Nat} {L : List α} (h : listedB p k m L = true) : (∀ x ∈ L, p x = true) ∧ L.length ≤ m := by
 simp only [listedB, Bool.and_eq_true, decide_eq_true_eq, List.all_eq_true, List.mem_range] at h
 refine ⟨fun x hx => ?_, h.2⟩
 obtain ⟨i, hi, rfl⟩ := List.getElem_of_mem hx
 have := h.1 i hi
 simp only [listedQ, List.getElem?_eq_getElem hi, Bool.and_eq_true] at this
 exact this.1
end Go.Proofs
end
section
set_option maxRecDepth 100000
namespace Go.Proofs
open Go.Lv
structure WeekRow where
 Week : Int
 Events : Int
 Felt : Int
 Picks : Int
 Lost : Int
def WeekRow.cs (r : WeekRow) : List V := [.int .i64 r.Week, .int .i64 r.Events, .int .i64 r.Felt, .int .i64 r.Picks, .int .i64 r.Lost]
def WeekRow.v (r : WeekRow) : V := .agg [.int .i64 r.Week, .int .i64 r.Events, .int .i64 r.Felt, .int .i64 r.Picks, .int .i64 r.Lost]
theorem WeekRow.csl (a : WeekRow) : a.cs.length = 5 := rfl
theorem WeekRow.csp (a : WeekRow) : a.cs.all (noOwn 2) = true := rfl
instance : FlatP WeekRow.cs 5 := ⟨fun _ => rfl, fun _ d => by cases d <;> rfl, fun _ => rfl, fun _ => rfl⟩
def WeekRow.ok (r : WeekRow) : Prop := i64R r.Week ∧ i64R r.Events ∧ i64R r.Felt ∧ i64R r.Picks ∧ i64R r.Lost
abbrev WeekRow.rows (L : List WeekRow) : List V := Go.Lv.rows WeekRow.cs L
abbrev WeekRow.sl (L : List WeekRow) : V := .sl L.length 5 (Go.Lv.rows WeekRow.cs L)
abbrev WeekRow.zs : List V := [.int .i64 0, .int .i64 0, .int .i64 0, .int .i64 0, .int .i64 0]
def WeekRow.mk1 (k : Int) : WeekRow := ⟨k, k + 1, k + 1 + 1, k + 1 + 1 + 1, k + 1 + 1 + 1 + 1⟩
def WeekRow.marks (k : Int) (n : Nat) : List WeekRow := (List.range n).map fun i : Nat => WeekRow.mk1 (k + 5 * (i : Int))
@[simp] theorem WeekRow.marks_len (k : Int) (n : Nat) : (WeekRow.marks k n).length = n := by simp [WeekRow.marks]
theorem WeekRow.marks_succ (k : Int) (n : Nat) : WeekRow.marks k (n + 1) = WeekRow.marks k n ++ [WeekRow.mk1 (k + 5 * (n : Int))] := by simp [WeekRow.marks, List.range_succ]
theorem WeekRow.marks_get (k : Int) (n : Nat) {i : Nat} (hi : i < (WeekRow.marks k n).length) : (WeekRow.marks k n)[i] = WeekRow.mk1 (k + 5 * (i : Int)) := by simp [WeekRow.marks]
theorem toWeekRow_ok (r : WeekRow) : Ctr Try.prog 30 [r.v] [] r.v [] := by
 refine Ctr.intro Try.mixed Try.func30 rfl Try.okF30 ?_
 simp -implicitDefEqProofs -dsimp only [go_sem, Try.ntmps30, Try.results30]
 simp -implicitDefEqProofs -dsimp only [go_sem, WeekRow.v]
 exact WeakR.drop' rfl rfl
theorem toWeekRowS_ok (L : List WeekRow) (hl : L.length ≤ 1048576) : Ctr Try.prog 7 [WeekRow.sl L] [] (.osl 0 0 L.length 5) [some (rows WeekRow.cs L)] := by
 refine Ctr.intro Try.mixed Try.func7 rfl Try.okF7 ?_
 simp -implicitDefEqProofs -dsimp only [go_sem, Try.ntmps7, Try.results7]
 refine ⟨by omega, by omega, by omega, ?_⟩
 refine LoopT.intro (fun i : Nat => i ≤ L.length) (fun i => ⟨[WeekRow.sl L, .undef, .undef, .osl 0 0 L.length 5, .int .i64 i, .undef, .undef, .undef, .undef, .undef, .undef, .undef, .undef, .undef, .undef, .undef, .undef, .undef, .undef, .undef, .undef, .undef, .undef], [some (filled WeekRow.cs 5 WeekRow.zs L i)], 0⟩) (fun i => L.length - i) 0 (Nat.zero_le _) ?_ (fun i hi => ?_)
 · refine Weak.cut (1) (by simp) (by simp) ?_ ?_
   · simp [LeC, LeV, ren, cutF]
   · rw [filled_zero]
     simp only [cutH, List.take, List.map]
     rw [cutB_rows (zrow_all rfl (by decide) _)]
 simp -implicitDefEqProofs -dsimp only [go_sem]
 refine condT.split (fun h1 => ?_) (fun h1 => ?_)
 · simp -implicitDefEqProofs -dsimp only [go_sem, h1]
   have hi' : i < L.length := by simpa using h1
   rw [rows_at WeekRow.csl hi']
   refine ⟨by omega, by simp [WeekRow.csl], ?_⟩
   (first | refine callT.at (toWeekRow_ok L[i]) ⟨.inl rfl, trivial⟩ ?_ | refine callS.at (toWeekRow_ok L[i]) ⟨.inl rfl, trivial⟩ ?_)
   simp -implicitDefEqProofs -dsimp only [go_sem, WeekRow.v]
   refine ⟨⟨by omega, by omega⟩, by rw [filled_len WeekRow.csl hi]; omega, i + 1, hi', ?_, by omega⟩
   refine Weak.cut (1) (by simp) (by simp) ?_ ?_
   · rw [wrap_i64 (by omega) (by omega)]
     simp [LeC, LeV, ren, cutF]
   · have := filled_step (zs := WeekRow.zs) WeekRow.csl rfl hi'
     simp only [WeekRow.cs] at this ⊢
     rw [this]
     simp only [cutH, List.take, List.map]
     rw [cutB_rows (filled_plain (by decide) rfl (fun a => by exact WeekRow.csp a))]
 · simp -implicitDefEqProofs -dsimp only [go_sem, h1]
   have hi' : i = L.length := by simp at h1; omega
   subst hi'
   rw [filled_all WeekRow.csl (Nat.le_refl _)]
   exact WeakR.refl _ _ _
theorem szWeekRowS_ok (L : List WeekRow) (n : Int) (hl : L.length ≤ 9223372036854775807) (hn : 0 ≤ n) (hn2 : n ≤ 1048576) : Ctr Try.prog 5 [WeekRow.sl L, .int .i64 n] [] (.int .i64 (if n < L.length then -1 else n - L.length)) [] := by
 refine Ctr.intro Try.mixed Try.func5 rfl Try.okF5 ?_
 simp -implicitDefEqProofs -dsimp only [go_sem, Try.ntmps5, Try.results5]
 rw [wrap_i64 (by omega) (by omega)]
 refine condT.split (fun h1 => ?_) (fun h1 => ?_) <;> simp -implicitDefEqProofs -dsimp only [go_sem, h1]
 · exact WeakR.of_eq (by simp at h1; rw [if_pos (by omega)])
 · exact WeakR.of_eq (by simp at h1; rw [if_neg (by omega)])
theorem eqWeekRow_ok (r : WeekRow) : Ctr Try.prog 34 [r.v, r.v] [] (.bool true) [] := by
 refine Ctr.intro Try.mixed Try.func34 rfl Try.okF34 ?_
 simp -implicitDefEqProofs -dsimp only [go_sem, Try.ntmps34, Try.results34]
 simp -implicitDefEqProofs -dsimp only [go_sem, WeekRow.v, bne_self_eq_false, beq_self_eq_true, Bool.not_true]
 exact WeakR.drop' rfl rfl
theorem eqWeekRowS_ok (L : List WeekRow) (hl : L.length ≤ 281474976710656) : Ctr Try.prog 10 [WeekRow.sl L, WeekRow.sl L] [] (.bool true) [] := by
 refine Ctr.intro Try.mixed Try.func10 rfl Try.okF10 ?_
 simp -implicitDefEqProofs -dsimp only [go_sem, Try.ntmps10, Try.results10]
 refine LoopT.intro (fun i : Nat => i ≤ L.length) (fun i => ⟨[WeekRow.sl L, WeekRow.sl L, .undef, .undef, .undef, .int .i64 i, .undef, .undef, .undef, .undef, .undef, .undef, .undef, .undef, .undef, .undef, .undef, .undef, .undef, .undef, .undef, .undef, .undef, .undef, .undef, .undef, .undef], [], 0⟩) (fun i => L.length - i) 0 (Nat.zero_le _) ?_ (fun i hi => ?_)
 · refine Weak.cut (0) (by simp) (by simp) ?_ ?_
   · simp [LeC, LeV, ren, cutF]
   · rfl
 simp -implicitDefEqProofs -dsimp only [go_sem]
 refine condT.split (fun h1 => ?_) (fun h1 => ?_)
 · simp -implicitDefEqProofs -dsimp only [go_sem, h1]
   have hi' : i < L.length := by simpa using h1
   rw [rows_at WeekRow.csl hi']
   have h5 := WeekRow.csl L[i]
   refine ⟨by kernel_rfl, ⟨by omega, by omega⟩, by omega, ⟨by omega, by omega⟩, by omega, ?_⟩
   (first | refine callT.at (eqWeekRow_ok L[i]) ⟨.inl rfl, .inl rfl, trivial⟩ ?_ | refine callS.at (eqWeekRow_ok L[i]) ⟨.inl rfl, .inl rfl, trivial⟩ ?_)
   simp -implicitDefEqProofs -dsimp only [go_sem]
   refine ⟨i + 1, hi', ?_, by omega⟩
   refine Weak.cut (0) (by simp) (by simp) ?_ ?_
   · rw [wrap_i64 (by omega) (by omega)]
     simp [LeC, LeV, ren, cutF]
   · rfl
 · simp -implicitDefEqProofs -dsimp only [go_sem, h1]
   exact WeakR.refl _ _ _
theorem markWeekRowS_ok (L : List WeekRow) (kk : Int) (hl : L.length ≤ 281474976710656) (hk : 0 ≤ kk) (hk2 : kk ≤ 281474976710656) : Ctr Try.prog 11 [.osl 0 0 L.length 5, .int .i64 kk] [some (rows WeekRow.cs L)] (.int .i64 (kk + 5 * L.length)) [some (rows WeekRow.cs (WeekRow.marks kk L.length))] := by
 refine Ctr.intro Try.mixed Try.func11 rfl Try.okF11 ?_
 simp -implicitDefEqProofs -dsimp only [go_sem, Try.ntmps11, Try.results11]
 refine LoopT.intro (fun i : Nat => i ≤ L.length) (fun i => ⟨[.osl 0 0 L.length 5, .int .i64 (kk + 5 * (i : Int)), .undef, .undef, .undef, .int .i64 i, .undef, .undef, .undef, .undef, .undef, .undef, .undef, .undef, .undef, .undef, .undef, .undef, .undef, .undef, .undef, .undef, .undef, .undef, .undef, .undef, .undef, .undef, .undef, .undef, .undef, .undef, .undef, .undef, .undef, .undef, .undef, .undef, .undef, .undef, .undef, .undef, .undef, .undef, .undef, .undef, .undef, .undef], [some (rows WeekRow.cs (WeekRow.marks kk i ++ L.drop i))], 1⟩) (fun i => L.length - i) 0 (Nat.zero_le _) ?_ (fun i hi => ?_)
 · refine Weak.cut (1) (by simp) (by simp) ?_ ?_
   · simp [LeC, LeV, ren, cutF]
   · simp only [cutH, List.take, List.map]
     rw [cutB_rows (rows_all WeekRow.csp _)]
     simp [WeekRow.marks]
 simp -implicitDefEqProofs -dsimp only [go_sem]
 refine condT.split (fun h1 => ?_) (fun h1 => ?_)
 · simp -implicitDefEqProofs -dsimp only [go_sem, h1]
   have hi' : i < L.length := by simpa using h1
   have hA : (rows WeekRow.cs (WeekRow.marks kk i)).length = i * 5 := by rw [rows_len WeekRow.csl, WeekRow.marks_len]
   have hB : rows WeekRow.cs (WeekRow.marks kk i ++ L.drop i) = rows WeekRow.cs (WeekRow.marks kk i) ++ (WeekRow.cs L[i] ++ rows WeekRow.cs (L.drop (i + 1))) := by
     rw [rowsOf_append, List.drop_eq_getElem_cons hi', rows_cons]
   rw [hB]
   have hsp : ∀ (M ns : List V) (j : Nat), splice (rows WeekRow.cs (WeekRow.marks kk i) ++ M) (i * 5 + j) ns = rows WeekRow.cs (WeekRow.marks kk i) ++ splice M j ns := fun M ns j => splice_mid hA
   have hsp0 : ∀ (M ns : List V), splice (rows WeekRow.cs (WeekRow.marks kk i) ++ M) (i * 5) ns = rows WeekRow.cs (WeekRow.marks kk i) ++ splice M 0 ns := fun M ns => splice_mid0 hA
   (repeat1' (first | simp -implicitDefEqProofs -dsimp only [go_sem, hsp, hsp0, List.length_append, hA, WeekRow.cs] | simp -dsimp (disch := omega) only [wrap_i64]))
   repeat (with_reducible refine sideA ?_)
   refine ⟨i + 1, hi', ?_, by omega⟩
   refine Weak.cut (1) (by simp) (by simp) ?_ ?_
   · simp [LeC, LeV, ren, cutF]
     omega
   · have e : rows WeekRow.cs (WeekRow.marks kk (i + 1) ++ L.drop (i + 1)) = rows WeekRow.cs (WeekRow.marks kk i) ++ (WeekRow.cs (WeekRow.mk1 (kk + 5 * (i : Int))) ++ rows WeekRow.cs (L.drop (i + 1))) := by
       rw [WeekRow.marks_succ, List.append_assoc, rowsOf_append, rowsOf_append, rows_one]
     rw [e]
     simp only [cutH, List.take, List.map]
     rw [cutB_rows (by rw [List.all_append, rows_all WeekRow.csp]; simp only [List.all_cons, noOwn, rows_all WeekRow.csp, Bool.and_self])]
     simp [WeekRow.cs, WeekRow.mk1, Int.add_assoc]
 · simp -implicitDefEqProofs -dsimp only [go_sem, h1]
   have hi' : i = L.length := by simp at h1; omega
   subst hi'
   rw [List.drop_length, List.append_nil]
   exact WeakR.of_eq (by simp)
theorem areListedWeekRow_ok (L : List WeekRow) (p : WeekRow → Bool) (key : WeekRow → Int) (most : Int) (fv fk : Nat) (vc kc : List V) (hvc : ∀ d, vc.all (noOwn d) = true) (hkc : ∀ d, kc.all (noOwn d) = true) (hv : ∀ x, Ctr Try.prog fv (WeekRow.v x :: vc) [] (.bool (p x)) []) (hkey : ∀ x, Ctr Try.prog fk (WeekRow.v x :: kc) [] (.int .i64 (key x)) []) (m : Nat) (hm : most = m) (hl : L.length ≤ 281474976710656) :
   Ctr Try.prog 46 [WeekRow.sl L, .int .i64 most, .fn (.func fv) [] vc, .fn (.func fk) [] kc] [] (.bool (listedB p key m L)) [] := by
 subst hm
 refine Ctr.intro Try.mixed Try.func46 rfl Try.okF46 ?_
 simp -implicitDefEqProofs -dsimp only [go_sem, Try.ntmps46, Try.results46]
 have hvc2 : ∀ f d, vc.map (ren f d) = vc := fun f d => map_ren f (hvc d)
 have hkc2 : ∀ f d, kc.map (ren f d) = kc := fun f d => map_ren f (hkc d)
 refine LoopT.intro (fun i : Nat => i ≤ L.length ∧ (List.range i).all (listedQ p key L) = true) (fun i => ⟨[WeekRow.sl L, .int .i64 m, .fn (.func fv) [] vc, .fn (.func fk) [] kc, .undef, .undef, .undef, .undef, .undef, .undef, .undef, WeekRow.sl L, .int .i64 L.length, .int .i64 i, .undef, .undef, .undef, .undef, .undef, .undef, .undef, .undef, .undef, .undef, .undef, .undef, .undef, .undef, .undef, .undef, .undef, .undef, .undef, .undef, .undef, .undef, .undef, .undef, .undef, .undef, .undef, .undef, .undef, .undef], [], 0⟩) (fun i => L.length - i) 0 ⟨Nat.zero_le _, rfl⟩ ?_ (fun i hi => ?_)
 · refine Weak.cut (0) (by simp) (by simp) ?_ ?_
   · simp [LeC, LeV, ren, cutF, hvc2, hkc2]
   · rfl
 simp -implicitDefEqProofs -dsimp only [go_sem]
 refine condT.split (fun h1 => ?_) (fun h1 => ?_)
 · simp -implicitDefEqProofs -dsimp only [go_sem, h1]
   have hi' : i < L.length := by simpa using h1
   have h5 := WeekRow.csl L[i]
   have hr := rows_at WeekRow.csl hi'
   (repeat1' (first | simp -implicitDefEqProofs -dsimp only [go_sem, hr, WeekRow.cs] | simp -dsimp (disch := omega) only [wrap_i64]))
   repeat (with_reducible refine sideA ?_)
   refine callT.intro (hv L[i]) ⟨.inl rfl, LeL_same (hvc2 _ _)⟩ (.inl (by simp only [List.nil_append, List.cons_append, List.all_cons, hvc, Bool.and_true]; rfl)) ⟨refOk_fn (hvc 3), rfl⟩ ?_
   simp -implicitDefEqProofs -dsimp only [go_sem]
   refine guardT.splitF (fun h2 => ?_) (fun h2 => ?_) <;> simp -implicitDefEqProofs -dsimp only [go_sem, h2]
   · have hw : p L[i] = true := by simpa using h2
     refine guardT.splitT (fun h3 => ?_) (fun h3 => ?_) <;> simp -implicitDefEqProofs -dsimp only [go_sem, h3]
     · obtain ⟨j, rfl⟩ : ∃ j, i = j + 1 := ⟨i - 1, by simp at h3; omega⟩
       have hj : j < L.length := by omega
       refine callT.intro (hkey L[j + 1]) ⟨.inl rfl, LeL_same (hkc2 _ _)⟩ (.inl (by simp only [List.nil_append, List.cons_append, List.all_cons, hkc, Bool.and_true]; rfl)) ⟨refOk_fn (hkc 3), rfl⟩ ?_
       have hw1 : IntKind.i64.wrap (((j + 1 : Nat) : Int) - 1) = (j : Int) := by rw [wrap_i64 (by omega) (by omega)]; omega
       have hr2 := rows_at WeekRow.csl hj
       (repeat1' (first | simp -implicitDefEqProofs -dsimp only [go_sem, hw1, hr2, WeekRow.cs] | simp -dsimp (disch := omega) only [wrap_i64]))
       repeat (with_reducible refine sideA ?_)
       refine callT.intro (hkey L[j]) ⟨.inl rfl, LeL_same (hkc2 _ _)⟩ (.inl (by simp only [List.nil_append, List.cons_append, List.all_cons, hkc, Bool.and_true]; rfl)) ⟨refOk_fn (hkc 3), rfl⟩ ?_
       (repeat1' (first | simp -implicitDefEqProofs -dsimp only [go_sem] | simp -dsimp (disch := omega) only [wrap_i64]))
       refine condT.split (fun h4 => ?_) (fun h4 => ?_) <;> simp -implicitDefEqProofs -dsimp only [go_sem, h4]
       · refine WeakR.drop' ?_ rfl
         have hq : listedQ p key L (j + 1) = false := by
           rw [listedQ_succ hi', hw]
           simp at h4 ⊢
           omega
         rw [listedB_false hi' hq]
       · refine ⟨j + 1 + 1, ⟨hi', range_all_succ hi.2 (by rw [listedQ_succ hi', hw]; simp at h4 ⊢; omega)⟩, ?_, by omega⟩
         refine Weak.cut (0) (by simp) (by simp) ?_ ?_
         · rw [wrap_i64 (by omega) (by omega)]
           simp [LeC, LeV, ren, cutF, hvc2, hkc2]
         · rfl
     · have h0 : i = 0 := by simp at h3; omega
       refine ⟨i + 1, ⟨hi', range_all_succ hi.2 (by subst h0; rw [listedQ_zero hi', hw])⟩, ?_, by omega⟩
       refine Weak.cut (0) (by simp) (by simp) ?_ ?_
       · rw [wrap_i64 (by omega) (by omega)]
         simp [LeC, LeV, ren, cutF, hvc2, hkc2]
       · rfl
   · have hw : p L[i] = false := by simpa using h2
     refine WeakR.drop' ?_ rfl
     have hq : listedQ p key L i = false := by simp [listedQ, hi', hw]
     rw [listedB_false hi' hq]
 · simp -implicitDefEqProofs -dsimp only [go_sem, h1]
   refine WeakR.drop' ?_ rfl
   have : i = L.length := by simp at h1; omega
   subst this
   rw [listedB, hi.2]
   simp
   try omega
end Go.Proofs
end
section
set_option maxRecDepth 100000
namespace Go.Proofs
open Go.Lv
def wrB (r : WeekRow) : Bool := inB' r.Week 1 5000 && inB' r.Events 0 9999 && inB' r.Felt 0 r.Events && inB' r.Picks 0 99999 && inB' r.Lost 0 9999
theorem l26One_ok (r : WeekRow) : Ctr Try.prog 45 [r.v] [] (.bool (wrB r)) [] := by
 refine Ctr.intro Try.mixed Try.func45 rfl Try.okF45 ?_
 simp -implicitDefEqProofs -dsimp only [go_sem, Try.ntmps45, Try.results45]
 simp -implicitDefEqProofs -dsimp only [go_sem, WeekRow.v]
 repeat' (first | (refine WeakR.drop' ?_ rfl; (simp [wrB, *]; done)) | ((first | refine callT.at (l1In_ok _ _ _) ⟨.inl rfl, .inl rfl, .inl rfl, trivial⟩ ?_ | refine callS.at (l1In_ok _ _ _) ⟨.inl rfl, .inl rfl, .inl rfl, trivial⟩ ?_); simp -implicitDefEqProofs -dsimp only [go_sem, *]) | (refine guardT.splitT (fun _ => ?_) (fun _ => ?_) <;> simp -implicitDefEqProofs -dsimp only [go_sem, *]))
theorem iIsWeekRow_ok (r : WeekRow) : Ctr Try.prog 47 [r.v] [] (.bool (wrB r)) [] := by
 refine Ctr.intro Try.mixed Try.func47 rfl Try.okF47 ?_
 simp -implicitDefEqProofs -dsimp only [go_sem, Try.ntmps47, Try.results47]
 simp -implicitDefEqProofs -dsimp only [go_sem, WeekRow.v]
 repeat' (first | (refine WeakR.drop' ?_ rfl; (simp [wrB, *]; done)) | ((first | refine callT.at (in_ok _ _ _) ⟨.inl rfl, .inl rfl, .inl rfl, trivial⟩ ?_ | refine callS.at (in_ok _ _ _) ⟨.inl rfl, .inl rfl, .inl rfl, trivial⟩ ?_); simp -implicitDefEqProofs -dsimp only [go_sem, *]) | (refine guardT.splitT (fun _ => ?_) (fun _ => ?_) <;> simp -implicitDefEqProofs -dsimp only [go_sem, *]))
def wrsB (L : List WeekRow) : Bool := listedB wrB WeekRow.Week 12 L
theorem l26Good_ok (L : List WeekRow) (hl : L.length ≤ 281474976710656) : Ctr Try.prog 28 [WeekRow.sl L] [] (.bool (wrsB L)) [] := by
 refine Ctr.intro Try.mixed Try.func28 rfl Try.okF28 ?_
 simp -implicitDefEqProofs -dsimp only [go_sem, Try.ntmps28, Try.results28]
 refine LoopT.intro (fun i : Nat => i ≤ L.length ∧ (List.range i).all (listedQ wrB WeekRow.Week L) = true) (fun i => ⟨[WeekRow.sl L, .undef, .undef, .int .i64 i, .undef, .undef, .undef, .undef, .undef, .undef, .undef, .undef, .undef, .undef, .undef, .undef, .undef, .undef, .undef, .undef, .undef, .undef, .undef, .undef, .undef, .undef, .undef, .undef, .undef, .undef, .undef, .undef, .undef, .undef, .undef, .undef, .undef], [], 0⟩) (fun i => L.length - i) 0 ⟨Nat.zero_le _, rfl⟩ ?_ (fun i hi => ?_)
 · refine Weak.cut (0) (by simp) (by simp) ?_ ?_
   · simp [LeC, LeV, ren, cutF]
   · rfl
 simp -implicitDefEqProofs -dsimp only [go_sem]
 refine condT.split (fun h1 => ?_) (fun h1 => ?_)
 · simp -implicitDefEqProofs -dsimp only [go_sem, h1]
   have hi' : i < L.length := by simpa using h1
   have h5 := WeekRow.csl L[i]
   have hr := rows_at WeekRow.csl hi'
   simp -implicitDefEqProofs -dsimp only [go_sem, hr]
   repeat (with_reducible refine sideA ?_)
   (first | refine callT.at (l26One_ok L[i]) ⟨.inl rfl, trivial⟩ ?_ | refine callS.at (l26One_ok L[i]) ⟨.inl rfl, trivial⟩ ?_)
   simp -implicitDefEqProofs -dsimp only [go_sem]
   refine guardT.splitF (fun h2 => ?_) (fun h2 => ?_) <;> simp -implicitDefEqProofs -dsimp only [go_sem, h2]
   · have hw : wrB L[i] = true := by simpa using h2
     refine guardT.splitT (fun h3 => ?_) (fun h3 => ?_) <;> simp -implicitDefEqProofs -dsimp only [go_sem, h3]
     · obtain ⟨j, rfl⟩ : ∃ j, i = j + 1 := ⟨i - 1, by simp at h3; omega⟩
       have hj : j < L.length := by omega
       have hw1 : IntKind.i64.wrap (((j + 1 : Nat) : Int) - 1) = (j : Int) := by rw [wrap_i64 (by omega) (by omega)]; omega
       have hr2 := rows_at WeekRow.csl hj
       simp -implicitDefEqProofs -dsimp only [go_sem, hw1, hr, hr2, WeekRow.cs]
       repeat (with_reducible refine sideA ?_)
       refine condT.split (fun h4 => ?_) (fun h4 => ?_) <;> simp -implicitDefEqProofs -dsimp only [go_sem, h4]
       · refine WeakR.drop' ?_ rfl
         have hq : listedQ wrB WeekRow.Week L (j + 1) = false := by
           rw [listedQ_succ hi', hw]
           simp at h4 ⊢
           omega
         rw [wrsB, listedB_false hi' hq]
       · refine ⟨j + 1 + 1, ⟨hi', range_all_succ hi.2 (by rw [listedQ_succ hi', hw]; simp at h4 ⊢; omega)⟩, ?_, by omega⟩
         refine Weak.cut (0) (by simp) (by simp) ?_ ?_
         · rw [wrap_i64 (by omega) (by omega)]
           simp [LeC, LeV, ren, cutF]
         · rfl
     · have h0 : i = 0 := by simp at h3; omega
       refine ⟨i + 1, ⟨hi', range_all_succ hi.2 (by subst h0; rw [listedQ_zero hi', hw])⟩, ?_, by omega⟩
       refine Weak.cut (0) (by simp) (by simp) ?_ ?_
       · rw [wrap_i64 (by omega) (by omega)]
         simp [LeC, LeV, ren, cutF]
       · rfl
   · have hw : wrB L[i] = false := by simpa using h2
     refine WeakR.drop' ?_ rfl
     have hq : listedQ wrB WeekRow.Week L i = false := by simp [listedQ, hi', hw]
     rw [wrsB, listedB_false hi' hq]
 · simp -implicitDefEqProofs -dsimp only [go_sem, h1]
   refine WeakR.drop' ?_ rfl
   have : i = L.length := by simp at h1; omega
   subst this
   rw [wrsB, listedB, hi.2]
   simp
   try omega
theorem weekOf_ok (r : WeekRow) : Ctr Try.prog 48 [r.v] [] (.int .i64 r.Week) [] := by
 refine Ctr.intro Try.mixed Try.func48 rfl Try.okF48 ?_
 simp -implicitDefEqProofs -dsimp only [go_sem, Try.ntmps48, Try.results48]
 simp -implicitDefEqProofs -dsimp only [go_sem, WeekRow.v]
 exact WeakR.drop' rfl rfl
theorem iAreWeekRows_ok (L : List WeekRow) (hl : L.length ≤ 281474976710656) : Ctr Try.prog 31 [WeekRow.sl L] [] (.bool (wrsB L)) [] := by
 refine Ctr.intro Try.mixed Try.func31 rfl Try.okF31 ?_
 simp -implicitDefEqProofs -dsimp only [go_sem, Try.ntmps31, Try.results31]
 refine callS.intro (areListedWeekRow_ok L wrB WeekRow.Week 12 _ _ [] [] (fun _ => rfl) (fun _ => rfl) iIsWeekRow_ok weekOf_ok 12 rfl hl) ⟨.inl rfl, .inl rfl, .inl rfl, .inl rfl, trivial⟩ (.inl rfl) ?_
 simp -implicitDefEqProofs -dsimp only [go_sem]
 exact WeakR.drop' rfl rfl
theorem wrB_iff {r : WeekRow} : wrB r = true ↔ (1 ≤ r.Week ∧ r.Week ≤ 5000) ∧ (0 ≤ r.Events ∧ r.Events ≤ 9999) ∧ (0 ≤ r.Felt ∧ r.Felt ≤ r.Events) ∧ (0 ≤ r.Picks ∧ r.Picks ≤ 99999) ∧ 0 ≤ r.Lost ∧ r.Lost ≤ 9999 := by
 simp [wrB, inB', and_assoc]
end Go.Proofs
end
section
set_option maxRecDepth 100000
namespace Go.Proofs
open Go.Lv
theorem wrsB_all {L : List WeekRow} (h : wrsB L = true) : (∀ x ∈ L, wrB x = true) ∧ L.length ≤ 12 := listedB_all h
end Go.Proofs
end
section
set_option maxRecDepth 100000
namespace Go.Proofs
open Go.Lv
def IntS.cs (x : Int) : List V := [.int .i64 x]
instance : FlatP IntS.cs 1 := ⟨fun _ => rfl, fun _ d => by cases d <;> rfl, fun _ => rfl, fun _ => rfl⟩
theorem IntS.csl (a : Int) : (IntS.cs a).length = 1 := rfl
theorem IntS.csp (a : Int) : (IntS.cs a).all (noOwn 2) = true := rfl
abbrev IntS.ok (x : Int) : Prop := i64R x
abbrev IntS.sl (L : List Int) : V := .sl L.length 1 (Go.Lv.rows IntS.cs L)
abbrev IntS.zs : List V := [.int .i64 0]
def IntS.marks (k : Int) (n : Nat) : List Int := (List.range n).map fun i : Nat => k + (i : Int)
@[simp] theorem IntS.marks_len (k : Int) (n : Nat) : (IntS.marks k n).length = n := by simp [IntS.marks]
theorem IntS.marks_succ (k : Int) (n : Nat) : IntS.marks k (n + 1) = IntS.marks k n ++ [k + (n : Int)] := by simp [IntS.marks, List.range_succ]
theorem IntS.marks_get (k : Int) (n : Nat) {i : Nat} (hi : i < (IntS.marks k n).length) : (IntS.marks k n)[i] = k + (i : Int) := by simp [IntS.marks]
theorem eqIntS_ok (L : List Int) (hl : L.length ≤ 281474976710656) : Ctr Try.prog 33 [IntS.sl L, IntS.sl L] [] (.bool true) [] := by
 refine Ctr.intro Try.mixed Try.func33 rfl Try.okF33 ?_
 simp -implicitDefEqProofs -dsimp only [go_sem, Try.ntmps33, Try.results33]
 refine LoopT.intro (fun i : Nat => i ≤ L.length) (fun i => ⟨[IntS.sl L, IntS.sl L, .undef, .undef, .undef, .int .i64 i, .undef, .undef, .undef, .undef, .undef, .undef, .undef, .undef, .undef, .undef, .undef, .undef, .undef, .undef, .undef, .undef, .undef, .undef, .undef, .undef], [], 0⟩) (fun i => L.length - i) 0 (Nat.zero_le _) ?_ (fun i hi => ?_)
 · refine Weak.cut (0) (by simp) (by simp) ?_ ?_
   · simp [LeC, LeV, ren, cutF]
   · rfl
 simp -implicitDefEqProofs -dsimp only [go_sem]
 refine condT.split (fun h1 => ?_) (fun h1 => ?_)
 · simp -implicitDefEqProofs -dsimp only [go_sem, h1]
   have hi' : i < L.length := by simpa using h1
   have hr := rows_at IntS.csl hi'
   (repeat1' (first | simp -implicitDefEqProofs -dsimp only [go_sem, hr, IntS.cs, bne_self_eq_false, beq_self_eq_true] | simp -dsimp (disch := omega) only [wrap_i64]))
   repeat (with_reducible refine sideA ?_)
   refine ⟨i + 1, hi', ?_, by omega⟩
   refine Weak.cut (0) (by simp) (by simp) ?_ ?_
   · simp [LeC, LeV, ren, cutF]
   · rfl
 · simp -implicitDefEqProofs -dsimp only [go_sem, h1]
   exact WeakR.refl _ _ _
theorem markIntS_ok (L : List Int) (kk : Int) (hl : L.length ≤ 281474976710656) (hk : 0 ≤ kk) (hk2 : kk ≤ 281474976710656) : Ctr Try.prog 35 [.osl 0 0 L.length 1, .int .i64 kk] [some (rows IntS.cs L)] (.int .i64 (kk + L.length)) [some (rows IntS.cs (IntS.marks kk L.length))] := by
 refine Ctr.intro Try.mixed Try.func35 rfl Try.okF35 ?_
 simp -implicitDefEqProofs -dsimp only [go_sem, Try.ntmps35, Try.results35]
 refine LoopT.intro (fun i : Nat => i ≤ L.length) (fun i => ⟨[.osl 0 0 L.length 1, .int .i64 (kk + (i : Int)), .undef, .undef, .undef, .int .i64 i, .undef, .undef, .undef, .undef, .undef, .undef, .undef, .undef, .undef, .undef, .undef, .undef, .undef], [some (rows IntS.cs (IntS.marks kk i ++ L.drop i))], 1⟩) (fun i => L.length - i) 0 (Nat.zero_le _) ?_ (fun i hi => ?_)
 · refine Weak.cut (1) (by simp) (by simp) ?_ ?_
   · simp [LeC, LeV, ren, cutF]
   · simp [cutH, cutB, map_ren_rows, IntS.marks]
 simp -implicitDefEqProofs -dsimp only [go_sem]
 refine condT.split (fun h1 => ?_) (fun h1 => ?_)
 · simp -implicitDefEqProofs -dsimp only [go_sem, h1]
   have hi' : i < L.length := by simpa using h1
   have hA : (rows IntS.cs (IntS.marks kk i)).length = i := by rw [rows_len IntS.csl, IntS.marks_len, Nat.mul_one]
   have hB : rows IntS.cs (IntS.marks kk i ++ L.drop i) = rows IntS.cs (IntS.marks kk i) ++ (IntS.cs L[i] ++ rows IntS.cs (L.drop (i + 1))) := by
     rw [rowsOf_append, List.drop_eq_getElem_cons hi', rows_cons]
   rw [hB]
   have hsp0 : ∀ (M ns : List V), splice (rows IntS.cs (IntS.marks kk i) ++ M) i ns = rows IntS.cs (IntS.marks kk i) ++ splice M 0 ns := fun M ns => splice_mid0 hA
   (repeat1' (first | simp -implicitDefEqProofs -dsimp only [go_sem, hsp0, Nat.mul_one, List.length_append, hA, IntS.cs] | simp -dsimp (disch := omega) only [wrap_i64]))
   repeat (with_reducible refine sideA ?_)
   refine ⟨i + 1, hi', ?_, by omega⟩
   refine Weak.cut (1) (by simp) (by simp) ?_ ?_
   · simp [LeC, LeV, ren, cutF]
     omega
   · have e : rows IntS.cs (IntS.marks kk (i + 1) ++ L.drop (i + 1)) = rows IntS.cs (IntS.marks kk i) ++ (IntS.cs (kk + (i : Int)) ++ rows IntS.cs (L.drop (i + 1))) := by
       rw [IntS.marks_succ, List.append_assoc, rowsOf_append, rowsOf_append, rows_one]
     rw [e]
     simp [cutH, cutB, map_ren_rows, IntS.cs, ren]
 · simp -implicitDefEqProofs -dsimp only [go_sem, h1]
   have hi' : i = L.length := by simp at h1; omega
   subst hi'
   rw [List.drop_length, List.append_nil]
   exact WeakR.refl _ _ _
theorem heldIntS_ok (n : Nat) (kk : Int) (hl : n ≤ 281474976710656) (hk : 0 ≤ kk) (hk2 : kk ≤ 281474976710656) : Ctr Try.prog 36 [IntS.sl (IntS.marks kk n), .int .i64 kk] [] (.int .i64 (kk + n)) [] := by
 refine Ctr.intro Try.mixed Try.func36 rfl Try.okF36 ?_
 simp -implicitDefEqProofs -dsimp only [go_sem, Try.ntmps36, Try.results36]
 refine LoopT.intro (fun i : Nat => i ≤ n) (fun i => ⟨[IntS.sl (IntS.marks kk n), .int .i64 (kk + (i : Int)), .undef, .undef, .undef, .int .i64 i, .undef, .undef, .undef, .undef, .undef, .undef, .undef, .undef, .undef, .undef, .undef, .undef, .undef, .undef, .undef], [], 0⟩) (fun i => n - i) 0 (Nat.zero_le _) ?_ (fun i hi => ?_)
 · refine Weak.cut (0) (by simp) (by simp) ?_ ?_
   · simp [LeC, LeV, ren, cutF]
   · rfl
 simp -implicitDefEqProofs -dsimp only [go_sem]
 refine condT.split (fun h1 => ?_) (fun h1 => ?_)
 · simp -implicitDefEqProofs -dsimp only [go_sem, h1]
   have hi' : i < n := by simpa using h1
   have hr := rows_at IntS.csl (L := IntS.marks kk n) (i := i) (by rw [IntS.marks_len]; exact hi')
   rw [IntS.marks_get] at hr
   (repeat1' (first | simp -implicitDefEqProofs -dsimp only [go_sem, hr, IntS.cs, IntS.marks_len, bne_self_eq_false, beq_self_eq_true] | simp -dsimp (disch := omega) only [wrap_i64]))
   repeat (with_reducible refine sideA ?_)
   refine ⟨i + 1, hi', ?_, by omega⟩
   refine Weak.cut (0) (by simp) (by simp) ?_ ?_
   · simp [LeC, LeV, ren, cutF]
     omega
   · rfl
 · simp -implicitDefEqProofs -dsimp only [go_sem, h1]
   have hi' : i = n := by simp at h1; omega
   subst hi'
   exact WeakR.refl _ _ _
abbrev IntS.v (x : Int) : V := .int .i64 x
end Go.Proofs
end
section
set_option maxRecDepth 100000
set_option maxHeartbeats 1000000
namespace Go.Proofs
open Go.Lv
theorem len64_ok (n : Nat) (hn : n ≤ 12) : Ctr Try.prog 66 [.int .u64 n] [] (.int .i64 (if n = 0 then 0 else if n = 1 then 1 else if n ≤ 3 then 2 else if n ≤ 7 then 3 else 4)) [] := by
 have c1 : decide ((4294967296 : Int) ≤ (n : Int)) = false := by simp; omega
 have c2 : decide ((65536 : Int) ≤ (n : Int)) = false := by simp; omega
 have c3 : decide ((256 : Int) ≤ (n : Int)) = false := by simp; omega
 refine Ctr.intro Try.mixed Try.func66 rfl Try.okF66 ?_
 simp -implicitDefEqProofs -dsimp only [go_sem, Try.ntmps66, Try.results66]
 (repeat ((repeat1' (first | simp -implicitDefEqProofs -dsimp only [go_sem, c1, c2, c3] | simp -dsimp (disch := omega) only [wrap_i64])); repeat (with_reducible refine sideA ?_)))
 have hc : n = 0 ∨ n = 1 ∨ n = 2 ∨ n = 3 ∨ n = 4 ∨ n = 5 ∨ n = 6 ∨ n = 7 ∨ n = 8 ∨ n = 9 ∨ n = 10 ∨ n = 11 ∨ n = 12 := by omega
 rcases hc with rfl | rfl | rfl | rfl | rfl | rfl | rfl | rfl | rfl | rfl | rfl | rfl | rfl <;> exact ⟨by decide, WeakR.drop' (by first | rfl | kernel_rfl) (by rfl)⟩
theorem len_ok (n : Nat) (hn : n ≤ 12) : Ctr Try.prog 53 [.int .u64 n] [] (.int .i64 (if n = 0 then 0 else if n = 1 then 1 else if n ≤ 3 then 2 else if n ≤ 7 then 3 else 4)) [] := by
 refine Ctr.intro Try.mixed Try.func53 rfl Try.okF53 ?_
 simp -implicitDefEqProofs -dsimp only [go_sem, Try.ntmps53, Try.results53]
 (repeat ((repeat1' (first | simp -implicitDefEqProofs -dsimp only [go_sem] | simp -dsimp (disch := omega) only [wrap_i64])); repeat (with_reducible refine sideA ?_)))
 (first | refine callT.at (len64_ok n hn) ⟨leA, trivial⟩ ?_ | refine callS.at (len64_ok n hn) ⟨leA, trivial⟩ ?_)
 (repeat ((repeat1' (first | simp -implicitDefEqProofs -dsimp only [go_sem] | simp -dsimp (disch := omega) only [wrap_i64])); repeat (with_reducible refine sideA ?_)))
 exact WeakR.drop' rfl (by rfl)
end Go.Proofs
end
section
set_option maxRecDepth 100000
set_option maxHeartbeats 1000000
namespace Go.Proofs
open Go.Lv
def swS (lim : Int) (P : List (Int × Int)) (r : WeekRow) : List (Int × Int) :=
 if r.Events ≤ lim then P else match P.getLast? with
   | some p => if p.2 = r.Week - 1 then P.dropLast ++ [(p.1, r.Week)] else P ++ [(r.Week, r.Week)]
   | none => P ++ [(r.Week, r.Week)]
def swarms (lim : Int) (L : List WeekRow) : List (Int × Int) := L.foldl (swS lim) []
theorem swarms_succ {lim : Int} {L : List WeekRow} {i : Nat} (hi : i < L.length) : swarms lim (L.take (i + 1)) = swS lim (swarms lim (L.take i)) L[i] := by
 rw [swarms, List.take_succ_eq_append_getElem hi, List.foldl_append]; rfl
theorem swS_len (lim : Int) (P : List (Int × Int)) (r : WeekRow) : (swS lim P r).length ≤ P.length + 1 := by
 unfold swS
 split
 · omega
 · split
   · split
     · simp only [List.length_append, List.length_dropLast, List.length_cons, List.length_nil]; omega
     · simp
   · simp
theorem swarms_len (lim : Int) (L : List WeekRow) : ∀ i, i ≤ L.length → (swarms lim (L.take i)).length ≤ i
 | 0, _ => by simp [swarms]
 | i + 1, hi => by
   rw [swarms_succ (by omega)]
   have := swarms_len lim L i (by omega)
   have := swS_len lim (swarms lim (L.take i)) L[i]
   omega
end Go.Proofs
end
section
namespace Go.Lv
theorem Ctr.weak {P : Program} {f : FuncId} {args : List V} {r r' : V} {hout hout' : Hp} (h : Ctr P f args [] r hout) (hw : WeakR 0 r hout r' hout') : Ctr P f args [] r' hout' :=
 ⟨h.1, fun w vs m av h1 h2 h3 h4 h5 => (h.2 w vs m av h1 h2 h3 h4 h5).mono fun e w' ⟨v, m', g1, g2, g3, g4, g5⟩ => by
   obtain ⟨m2, k1, k2, k3⟩ := hw w m [] av w' m' v rfl (Nat.zero_le _) h2 g2.size g3 g4 g5
   exact ⟨v, m2, g1, g2, k1, k2, k3⟩⟩
section
variable {α : Type} {cs : α → List V} {w : Nat} [FlatP cs w]
end
end Go.Lv
end
section
set_option maxRecDepth 100000
set_option maxHeartbeats 10000000
namespace Go.Proofs
open Go.Lv
def pairC (p : Int × Int) : List V := [.int .i64 p.1, .int .i64 p.2]
def outC : Nat → Nat → List V
 | _, 0 => []
 | k, n + 1 => .osl k 0 2 1 :: outC (k + 1) n
def tabH (P : List (Int × Int)) : Hp := some (outC 1 P.length) :: P.map fun p => some (pairC p)
def tabC (p : Int × Int) : List V := [.sl 2 1 (pairC p)]
def tabV (P : List (Int × Int)) : V := .sl P.length 1 (rows tabC P)
def swB (lim : Int) (L : List WeekRow) : Bool := wrsB L && inB' lim 0 9999
end Go.Proofs
end
section
set_option maxRecDepth 100000
set_option maxHeartbeats 10000000
namespace Go.Proofs
open Go.Lv
theorem iSwarms_ok (L : List WeekRow) (lim : Int) (hl : L.length ≤ 1048576) (hb : swB lim L = true) : Ctr Try.prog 8 [WeekRow.sl L, .int .i64 lim] [] (.tup [.osl 0 0 (swarms lim L).length 1, .bool true]) (tabH (swarms lim L)) := by
 skip
 have hw : wrsB L = true := by simp [swB] at hb; exact hb.1
 have hin : inB' lim 0 9999 = true := by simp [swB] at hb; exact hb.2
 obtain ⟨hv, hlen⟩ := wrsB_all hw
 refine Ctr.intro Try.mixed Try.func8 rfl Try.okF8 ?_
 simp -implicitDefEqProofs -dsimp only [go_sem, Try.ntmps8, Try.results8]
 (repeat ((repeat1' (first | simp -implicitDefEqProofs -dsimp only [go_sem] | simp -dsimp (disch := omega) only [wrap_i64])); repeat (with_reducible refine sideA ?_)))
 (first | refine callT.at (iAreWeekRows_ok L (by omega)) ⟨leA, trivial⟩ ?_ | refine callS.at (iAreWeekRows_ok L (by omega)) ⟨leA, trivial⟩ ?_)
 (repeat ((repeat1' (first | simp -implicitDefEqProofs -dsimp only [go_sem, hw] | simp -dsimp (disch := omega) only [wrap_i64])); repeat (with_reducible refine sideA ?_)))
 (first | refine callT.at (in_ok lim 0 9999) ⟨leA, leA, leA, trivial⟩ ?_ | refine callS.at (in_ok lim 0 9999) ⟨leA, leA, leA, trivial⟩ ?_)
 (repeat ((repeat1' (first | simp -implicitDefEqProofs -dsimp only [go_sem, hin] | simp -dsimp (disch := omega) only [wrap_i64])); repeat (with_reducible refine sideA ?_)))
 refine LoopT.intro (fun i : Nat => i ≤ L.length) (fun i => ⟨[.undef, .int .i64 lim, .undef, .undef, .undef, .undef, .osl 0 0 (swarms lim (L.take i)).length 1, .undef, .undef, .undef, .undef, .undef, .undef, .undef, .undef, .undef, .undef, .undef, .undef, WeekRow.sl L, .int .i64 L.length, .int .i64 i, .undef, .undef, .undef, .undef, .undef, .undef, .undef, .undef, .undef, .undef, .undef, .undef, .undef, .undef, .undef, .undef, .undef, .undef, .undef, .undef, .undef, .undef, .undef, .undef, .undef, .undef, .undef, .undef, .undef, .undef, .undef, .undef, .undef, .undef, .undef, .undef, .undef, .undef, .undef, .undef, .undef], tabH (swarms lim (L.take i)), 0⟩) (fun i => L.length - i) 0 (Nat.zero_le _) ?_ (fun i hi => ?_)
 · refine Weak.cut (1) (by simp) (by simp) ?_ ?_
   · simp [LeC, LeV, ren, cutF, swarms]
   · simp [cutH, cutB, swarms, tabH, outC]
 have hPl := swarms_len lim L i hi
 have hstep := fun hi' => swarms_succ (lim := lim) (L := L) (i := i) hi'
 simp -implicitDefEqProofs -dsimp only [go_sem]
 refine condT.split (fun g1 => ?_) (fun g1 => ?_)
 · have hi' : i < L.length := by simpa using g1
   have hr0 := rows_at WeekRow.csl hi'
   have hvr := wrB_iff.1 (hv _ (List.getElem_mem hi'))
   replace hstep := hstep hi'
   generalize swarms lim (L.take i) = Pq at hPl hstep ⊢
   generalize L[i] = r at hr0 hvr hstep
   rcases Pq with _ | ⟨p1, _ | ⟨p2, _ | ⟨p3, _ | ⟨p4, _ | ⟨p5, _ | ⟨p6, _ | ⟨p7, _ | ⟨p8, _ | ⟨p9, _ | ⟨p10, _ | ⟨p11, _ | ⟨p12, _ | ⟨p13, Q⟩⟩⟩⟩⟩⟩⟩⟩⟩⟩⟩⟩⟩
   · have hsk : r.Events ≤ lim → swS lim [] r = [] := fun h => by simp [swS, h]
     have hnw : ¬ r.Events ≤ lim → swS lim [] r = [(r.Week, r.Week)] := fun h => by simp [swS, h]
     have hz : decide ((0 : Int) ≤ ((0 : Nat) : Int) - 1) = false := by decide
     simp only [tabH, outC, pairC, List.length_cons, List.length_nil, List.map_cons, List.map_nil, Nat.reduceAdd, Nat.zero_add]
     (repeat ((repeat1' (first | simp -implicitDefEqProofs -dsimp only [go_sem, g1, hr0, WeekRow.cs, List.drop_succ_cons, List.drop_zero] | simp -dsimp (disch := omega) only [wrap_i64])); repeat (with_reducible refine sideA ?_)))
     refine condT.split (fun g2 => ?_) (fun g2 => ?_)
     · (repeat ((repeat1' (first | simp -implicitDefEqProofs -dsimp only [go_sem, g2] | simp -dsimp (disch := omega) only [wrap_i64])); repeat (with_reducible refine sideA ?_)))
       refine ⟨i + 1, hi', ?_, by omega⟩
       rw [hstep, hsk (of_decide_eq_true g2)]
       simp only [tabH, outC, pairC, List.length_cons, List.length_nil, List.map_cons, List.map_nil, Nat.reduceAdd, Nat.zero_add]
       refine Weak.pick [0] (by decide) (fun j hj => by omega) ?_ ?_
       · simp [LeG, LeC, LeV, ren, pickF, posOf]
       · simp [pickH, pickB, pickF, posOf, ren]
     · (repeat ((repeat1' (first | simp -implicitDefEqProofs -dsimp only [go_sem, g2, hz] | simp -dsimp (disch := omega) only [wrap_i64])); repeat (with_reducible refine sideA ?_)))
       refine ⟨i + 1, hi', ?_, by omega⟩
       rw [hstep, hnw (of_decide_eq_false g2)]
       simp only [tabH, outC, pairC, List.length_cons, List.length_nil, List.map_cons, List.map_nil, Nat.reduceAdd, Nat.zero_add]
       refine Weak.pick [0, 2] (by decide) (fun j hj => by omega) ?_ ?_
       · simp [LeG, LeC, LeV, ren, pickF, posOf]
       · simp [pickH, pickB, pickF, posOf, ren]
   · have hsk : r.Events ≤ lim → swS lim [p1] r = [p1] := fun h => by simp [swS, h]
     have hme : ¬ r.Events ≤ lim → p1.2 = r.Week - 1 → swS lim [p1] r = [(p1.1, r.Week)] := fun h h2 => by simp [swS, h, h2]
     have hnw : ¬ r.Events ≤ lim → p1.2 ≠ r.Week - 1 → swS lim [p1] r = [p1, (r.Week, r.Week)] := fun h h2 => by simp [swS, h, h2]
     have hk : IntKind.i64.wrap (((1 : Nat) : Int) - 1) = 0 := by rw [wrap_i64 (by omega) (by omega)]; rfl
     have hz : decide ((0 : Int) < ((1 : Nat) : Int)) = true := by decide
     simp only [tabH, outC, pairC, List.length_cons, List.length_nil, List.map_cons, List.map_nil, Nat.reduceAdd, Nat.zero_add]
     (repeat ((repeat1' (first | simp -implicitDefEqProofs -dsimp only [go_sem, g1, hr0, WeekRow.cs, List.drop_succ_cons, List.drop_zero] | simp -dsimp (disch := omega) only [wrap_i64])); repeat (with_reducible refine sideA ?_)))
     refine condT.split (fun g2 => ?_) (fun g2 => ?_)
     · (repeat ((repeat1' (first | simp -implicitDefEqProofs -dsimp only [go_sem, g2] | simp -dsimp (disch := omega) only [wrap_i64])); repeat (with_reducible refine sideA ?_)))
       refine ⟨i + 1, hi', ?_, by omega⟩
       rw [hstep, hsk (of_decide_eq_true g2)]
       simp only [tabH, outC, pairC, List.length_cons, List.length_nil, List.map_cons, List.map_nil, Nat.reduceAdd, Nat.zero_add]
       refine Weak.pick [0, 1] (by decide) (fun j hj => by omega) ?_ ?_
       · simp [LeG, LeC, LeV, ren, pickF, posOf]
       · simp [pickH, pickB, pickF, posOf, ren]
     · (repeat ((repeat1' (first | simp -implicitDefEqProofs -dsimp only [go_sem, g2, hk, hz] | simp -dsimp (disch := omega) only [wrap_i64])); repeat (with_reducible refine sideA ?_)))
       refine condT.split (fun g3 => ?_) (fun g3 => ?_)
       · have g3' : p1.2 = r.Week - 1 := by simpa using g3
         (repeat ((repeat1' (first | simp -implicitDefEqProofs -dsimp only [go_sem, g3, hk] | simp -dsimp (disch := omega) only [wrap_i64])); repeat (with_reducible refine sideA ?_)))
         refine ⟨i + 1, hi', ?_, by omega⟩
         rw [hstep, hme (of_decide_eq_false g2) g3']
         simp only [tabH, outC, pairC, List.length_cons, List.length_nil, List.map_cons, List.map_nil, Nat.reduceAdd, Nat.zero_add]
         refine Weak.pick [0, 1] (by decide) (fun j hj => by omega) ?_ ?_
         · simp [LeG, LeC, LeV, ren, pickF, posOf]
         · simp [pickH, pickB, pickF, posOf, ren]
       · have g3' : p1.2 ≠ r.Week - 1 := by simpa using g3
         (repeat ((repeat1' (first | simp -implicitDefEqProofs -dsimp only [go_sem, g3, hk] | simp -dsimp (disch := omega) only [wrap_i64])); repeat (with_reducible refine sideA ?_)))
         refine ⟨i + 1, hi', ?_, by omega⟩
         rw [hstep, hnw (of_decide_eq_false g2) g3']
         simp only [tabH, outC, pairC, List.length_cons, List.length_nil, List.map_cons, List.map_nil, Nat.reduceAdd, Nat.zero_add]
         refine Weak.pick [0, 1, 3] (by decide) (fun j hj => by omega) ?_ ?_
         · simp [LeG, LeC, LeV, ren, pickF, posOf]
         · simp [pickH, pickB, pickF, posOf, ren]
   · have hsk : r.Events ≤ lim → swS lim [p1, p2] r = [p1, p2] := fun h => by simp [swS, h]
     have hme : ¬ r.Events ≤ lim → p2.2 = r.Week - 1 → swS lim [p1, p2] r = [p1, (p2.1, r.Week)] := fun h h2 => by simp [swS, h, h2]
     have hnw : ¬ r.Events ≤ lim → p2.2 ≠ r.Week - 1 → swS lim [p1, p2] r = [p1, p2, (r.Week, r.Week)] := fun h h2 => by simp [swS, h, h2]
     have hk : IntKind.i64.wrap (((2 : Nat) : Int) - 1) = 1 := by rw [wrap_i64 (by omega) (by omega)]; rfl
     have hz : decide ((0 : Int) < ((2 : Nat) : Int)) = true := by decide
     simp only [tabH, outC, pairC, List.length_cons, List.length_nil, List.map_cons, List.map_nil, Nat.reduceAdd, Nat.zero_add]
     (repeat ((repeat1' (first | simp -implicitDefEqProofs -dsimp only [go_sem, g1, hr0, WeekRow.cs, List.drop_succ_cons, List.drop_zero] | simp -dsimp (disch := omega) only [wrap_i64])); repeat (with_reducible refine sideA ?_)))
     refine condT.split (fun g2 => ?_) (fun g2 => ?_)
     · (repeat ((repeat1' (first | simp -implicitDefEqProofs -dsimp only [go_sem, g2] | simp -dsimp (disch := omega) only [wrap_i64])); repeat (with_reducible refine sideA ?_)))
       refine ⟨i + 1, hi', ?_, by omega⟩
       rw [hstep, hsk (of_decide_eq_true g2)]
       simp only [tabH, outC, pairC, List.length_cons, List.length_nil, List.map_cons, List.map_nil, Nat.reduceAdd, Nat.zero_add]
       refine Weak.pick [0, 1, 2] (by decide) (fun j hj => by omega) ?_ ?_
       · simp [LeG, LeC, LeV, ren, pickF, posOf]
       · simp [pickH, pickB, pickF, posOf, ren]
     · (repeat ((repeat1' (first | simp -implicitDefEqProofs -dsimp only [go_sem, g2, hk, hz] | simp -dsimp (disch := omega) only [wrap_i64])); repeat (with_reducible refine sideA ?_)))
       refine condT.split (fun g3 => ?_) (fun g3 => ?_)
       · have g3' : p2.2 = r.Week - 1 := by simpa using g3
         (repeat ((repeat1' (first | simp -implicitDefEqProofs -dsimp only [go_sem, g3, hk] | simp -dsimp (disch := omega) only [wrap_i64])); repeat (with_reducible refine sideA ?_)))
         refine ⟨i + 1, hi', ?_, by omega⟩
         rw [hstep, hme (of_decide_eq_false g2) g3']
         simp only [tabH, outC, pairC, List.length_cons, List.length_nil, List.map_cons, List.map_nil, Nat.reduceAdd, Nat.zero_add]
         refine Weak.pick [0, 1, 2] (by decide) (fun j hj => by omega) ?_ ?_
         · simp [LeG, LeC, LeV, ren, pickF, posOf]
         · simp [pickH, pickB, pickF, posOf, ren]
       · have g3' : p2.2 ≠ r.Week - 1 := by simpa using g3
         (repeat ((repeat1' (first | simp -implicitDefEqProofs -dsimp only [go_sem, g3, hk] | simp -dsimp (disch := omega) only [wrap_i64])); repeat (with_reducible refine sideA ?_)))
         refine ⟨i + 1, hi', ?_, by omega⟩
         rw [hstep, hnw (of_decide_eq_false g2) g3']
         simp only [tabH, outC, pairC, List.length_cons, List.length_nil, List.map_cons, List.map_nil, Nat.reduceAdd, Nat.zero_add]
         refine Weak.pick [0, 1, 2, 4] (by decide) (fun j hj => by omega) ?_ ?_
         · simp [LeG, LeC, LeV, ren, pickF, posOf]
         · simp [pickH, pickB, pickF, posOf, ren]
   · have hsk : r.Events ≤ lim → swS lim [p1, p2, p3] r = [p1, p2, p3] := fun h => by simp [swS, h]
     have hme : ¬ r.Events ≤ lim → p3.2 = r.Week - 1 → swS lim [p1, p2, p3] r = [p1, p2, (p3.1, r.Week)] := fun h h2 => by simp [swS, h, h2]
     have hnw : ¬ r.Events ≤ lim → p3.2 ≠ r.Week - 1 → swS lim [p1, p2, p3] r = [p1, p2, p3, (r.Week, r.Week)] := fun h h2 => by simp [swS, h, h2]
     have hk : IntKind.i64.wrap (((3 : Nat) : Int) - 1) = 2 := by rw [wrap_i64 (by omega) (by omega)]; rfl
     have hz : decide ((0 : Int) < ((3 : Nat) : Int)) = true := by decide
     simp only [tabH, outC, pairC, List.length_cons, List.length_nil, List.map_cons, List.map_nil, Nat.reduceAdd, Nat.zero_add]
     (repeat ((repeat1' (first | simp -implicitDefEqProofs -dsimp only [go_sem, g1, hr0, WeekRow.cs, List.drop_succ_cons, List.drop_zero] | simp -dsimp (disch := omega) only [wrap_i64])); repeat (with_reducible refine sideA ?_)))
     refine condT.split (fun g2 => ?_) (fun g2 => ?_)
     · (repeat ((repeat1' (first | simp -implicitDefEqProofs -dsimp only [go_sem, g2] | simp -dsimp (disch := omega) only [wrap_i64])); repeat (with_reducible refine sideA ?_)))
       refine ⟨i + 1, hi', ?_, by omega⟩
       rw [hstep, hsk (of_decide_eq_true g2)]
       simp only [tabH, outC, pairC, List.length_cons, List.length_nil, List.map_cons, List.map_nil, Nat.reduceAdd, Nat.zero_add]
       refine Weak.pick [0, 1, 2, 3] (by decide) (fun j hj => by omega) ?_ ?_
       · simp [LeG, LeC, LeV, ren, pickF, posOf]
       · simp [pickH, pickB, pickF, posOf, ren]
     · (repeat ((repeat1' (first | simp -implicitDefEqProofs -dsimp only [go_sem, g2, hk, hz] | simp -dsimp (disch := omega) only [wrap_i64])); repeat (with_reducible refine sideA ?_)))
       refine condT.split (fun g3 => ?_) (fun g3 => ?_)
       · have g3' : p3.2 = r.Week - 1 := by simpa using g3
         (repeat ((repeat1' (first | simp -implicitDefEqProofs -dsimp only [go_sem, g3, hk] | simp -dsimp (disch := omega) only [wrap_i64])); repeat (with_reducible refine sideA ?_)))
         refine ⟨i + 1, hi', ?_, by omega⟩
         rw [hstep, hme (of_decide_eq_false g2) g3']
         simp only [tabH, outC, pairC, List.length_cons, List.length_nil, List.map_cons, List.map_nil, Nat.reduceAdd, Nat.zero_add]
         refine Weak.pick [0, 1, 2, 3] (by decide) (fun j hj => by omega) ?_ ?_
         · simp [LeG, LeC, LeV, ren, pickF, posOf]
         · simp [pickH, pickB, pickF, posOf, ren]
       · have g3' : p3.2 ≠ r.Week - 1 := by simpa using g3
         (repeat ((repeat1' (first | simp -implicitDefEqProofs -dsimp only [go_sem, g3, hk] | simp -dsimp (disch := omega) only [wrap_i64])); repeat (with_reducible refine sideA ?_)))
         refine ⟨i + 1, hi', ?_, by omega⟩
         rw [hstep, hnw (of_decide_eq_false g2) g3']
         simp only [tabH, outC, pairC, List.length_cons, List.length_nil, List.map_cons, List.map_nil, Nat.reduceAdd, Nat.zero_add]
         refine Weak.pick [0, 1, 2, 3, 5] (by decide) (fun j hj => by omega) ?_ ?_
         · simp [LeG, LeC, LeV, ren, pickF, posOf]
         · simp [pickH, pickB, pickF, posOf, ren]
   · have hsk : r.Events ≤ lim → swS lim [p1, p2, p3, p4] r = [p1, p2, p3, p4] := fun h => by simp [swS, h]
     have hme : ¬ r.Events ≤ lim → p4.2 = r.Week - 1 → swS lim [p1, p2, p3, p4] r = [p1, p2, p3, (p4.1, r.Week)] := fun h h2 => by simp [swS, h, h2]
     have hnw : ¬ r.Events ≤ lim → p4.2 ≠ r.Week - 1 → swS lim [p1, p2, p3, p4] r = [p1, p2, p3, p4, (r.Week, r.Week)] := fun h h2 => by simp [swS, h, h2]
     have hk : IntKind.i64.wrap (((4 : Nat) : Int) - 1) = 3 := by rw [wrap_i64 (by omega) (by omega)]; rfl
     have hz : decide ((0 : Int) < ((4 : Nat) : Int)) = true := by decide
     simp only [tabH, outC, pairC, List.length_cons, List.length_nil, List.map_cons, List.map_nil, Nat.reduceAdd, Nat.zero_add]
     (repeat ((repeat1' (first | simp -implicitDefEqProofs -dsimp only [go_sem, g1, hr0, WeekRow.cs, List.drop_succ_cons, List.drop_zero] | simp -dsimp (disch := omega) only [wrap_i64])); repeat (with_reducible refine sideA ?_)))
     refine condT.split (fun g2 => ?_) (fun g2 => ?_)
     · (repeat ((repeat1' (first | simp -implicitDefEqProofs -dsimp only [go_sem, g2] | simp -dsimp (disch := omega) only [wrap_i64])); repeat (with_reducible refine sideA ?_)))
       refine ⟨i + 1, hi', ?_, by omega⟩
       rw [hstep, hsk (of_decide_eq_true g2)]
       simp only [tabH, outC, pairC, List.length_cons, List.length_nil, List.map_cons, List.map_nil, Nat.reduceAdd, Nat.zero_add]
       refine Weak.pick [0, 1, 2, 3, 4] (by decide) (fun j hj => by omega) ?_ ?_
       · simp [LeG, LeC, LeV, ren, pickF, posOf]
       · simp [pickH, pickB, pickF, posOf, ren]
     · (repeat ((repeat1' (first | simp -implicitDefEqProofs -dsimp only [go_sem, g2, hk, hz] | simp -dsimp (disch := omega) only [wrap_i64])); repeat (with_reducible refine sideA ?_)))
       refine condT.split (fun g3 => ?_) (fun g3 => ?_)
       · have g3' : p4.2 = r.Week - 1 := by simpa using g3
         (repeat ((repeat1' (first | simp -implicitDefEqProofs -dsimp only [go_sem, g3, hk] | simp -dsimp (disch := omega) only [wrap_i64])); repeat (with_reducible refine sideA ?_)))
         refine ⟨i + 1, hi', ?_, by omega⟩
         rw [hstep, hme (of_decide_eq_false g2) g3']
         simp only [tabH, outC, pairC, List.length_cons, List.length_nil, List.map_cons, List.map_nil, Nat.reduceAdd, Nat.zero_add]
         refine Weak.pick [0, 1, 2, 3, 4] (by decide) (fun j hj => by omega) ?_ ?_
         · simp [LeG, LeC, LeV, ren, pickF, posOf]
         · simp [pickH, pickB, pickF, posOf, ren]
       · have g3' : p4.2 ≠ r.Week - 1 := by simpa using g3
         (repeat ((repeat1' (first | simp -implicitDefEqProofs -dsimp only [go_sem, g3, hk] | simp -dsimp (disch := omega) only [wrap_i64])); repeat (with_reducible refine sideA ?_)))
         refine ⟨i + 1, hi', ?_, by omega⟩
         rw [hstep, hnw (of_decide_eq_false g2) g3']
         simp only [tabH, outC, pairC, List.length_cons, List.length_nil, List.map_cons, List.map_nil, Nat.reduceAdd, Nat.zero_add]
         refine Weak.pick [0, 1, 2, 3, 4, 6] (by decide) (fun j hj => by omega) ?_ ?_
         · simp [LeG, LeC, LeV, ren, pickF, posOf]
         · simp [pickH, pickB, pickF, posOf, ren]
   · have hsk : r.Events ≤ lim → swS lim [p1, p2, p3, p4, p5] r = [p1, p2, p3, p4, p5] := fun h => by simp [swS, h]
     have hme : ¬ r.Events ≤ lim → p5.2 = r.Week - 1 → swS lim [p1, p2, p3, p4, p5] r = [p1, p2, p3, p4, (p5.1, r.Week)] := fun h h2 => by simp [swS, h, h2]
     have hnw : ¬ r.Events ≤ lim → p5.2 ≠ r.Week - 1 → swS lim [p1, p2, p3, p4, p5] r = [p1, p2, p3, p4, p5, (r.Week, r.Week)] := fun h h2 => by simp [swS, h, h2]
     have hk : IntKind.i64.wrap (((5 : Nat) : Int) - 1) = 4 := by rw [wrap_i64 (by omega) (by omega)]; rfl
     have hz : decide ((0 : Int) < ((5 : Nat) : Int)) = true := by decide
     simp only [tabH, outC, pairC, List.length_cons, List.length_nil, List.map_cons, List.map_nil, Nat.reduceAdd, Nat.zero_add]
     (repeat ((repeat1' (first | simp -implicitDefEqProofs -dsimp only [go_sem, g1, hr0, WeekRow.cs, List.drop_succ_cons, List.drop_zero] | simp -dsimp (disch := omega) only [wrap_i64])); repeat (with_reducible refine sideA ?_)))
     refine condT.split (fun g2 => ?_) (fun g2 => ?_)
     · (repeat ((repeat1' (first | simp -implicitDefEqProofs -dsimp only [go_sem, g2] | simp -dsimp (disch := omega) only [wrap_i64])); repeat (with_reducible refine sideA ?_)))
       refine ⟨i + 1, hi', ?_, by omega⟩
       rw [hstep, hsk (of_decide_eq_true g2)]
       simp only [tabH, outC, pairC, List.length_cons, List.length_nil, List.map_cons, List.map_nil, Nat.reduceAdd, Nat.zero_add]
       refine Weak.pick [0, 1, 2, 3, 4, 5] (by decide) (fun j hj => by omega) ?_ ?_
       · simp [LeG, LeC, LeV, ren, pickF, posOf]
       · simp [pickH, pickB, pickF, posOf, ren]
     · (repeat ((repeat1' (first | simp -implicitDefEqProofs -dsimp only [go_sem, g2, hk, hz] | simp -dsimp (disch := omega) only [wrap_i64])); repeat (with_reducible refine sideA ?_)))
       refine condT.split (fun g3 => ?_) (fun g3 => ?_)
       · have g3' : p5.2 = r.Week - 1 := by simpa using g3
         (repeat ((repeat1' (first | simp -implicitDefEqProofs -dsimp only [go_sem, g3, hk] | simp -dsimp (disch := omega) only [wrap_i64])); repeat (with_reducible refine sideA ?_)))
         refine ⟨i + 1, hi', ?_, by omega⟩
         rw [hstep, hme (of_decide_eq_false g2) g3']
         simp only [tabH, outC, pairC, List.length_cons, List.length_nil, List.map_cons, List.map_nil, Nat.reduceAdd, Nat.zero_add]
         refine Weak.pick [0, 1, 2, 3, 4, 5] (by decide) (fun j hj => by omega) ?_ ?_
         · simp [LeG, LeC, LeV, ren, pickF, posOf]
         · simp [pickH, pickB, pickF, posOf, ren]
       · have g3' : p5.2 ≠ r.Week - 1 := by simpa using g3
         (repeat ((repeat1' (first | simp -implicitDefEqProofs -dsimp only [go_sem, g3, hk] | simp -dsimp (disch := omega) only [wrap_i64])); repeat (with_reducible refine sideA ?_)))
         refine ⟨i + 1, hi', ?_, by omega⟩
         rw [hstep, hnw (of_decide_eq_false g2) g3']
         simp only [tabH, outC, pairC, List.length_cons, List.length_nil, List.map_cons, List.map_nil, Nat.reduceAdd, Nat.zero_add]
         refine Weak.pick [0, 1, 2, 3, 4, 5, 7] (by decide) (fun j hj => by omega) ?_ ?_
         · simp [LeG, LeC, LeV, ren, pickF, posOf]
         · simp [pickH, pickB, pickF, posOf, ren]
   · have hsk : r.Events ≤ lim → swS lim [p1, p2, p3, p4, p5, p6] r = [p1, p2, p3, p4, p5, p6] := fun h => by simp [swS, h]
     have hme : ¬ r.Events ≤ lim → p6.2 = r.Week - 1 → swS lim [p1, p2, p3, p4, p5, p6] r = [p1, p2, p3, p4, p5, (p6.1, r.Week)] := fun h h2 => by simp [swS, h, h2]
     have hnw : ¬ r.Events ≤ lim → p6.2 ≠ r.Week - 1 → swS lim [p1, p2, p3, p4, p5, p6] r = [p1, p2, p3, p4, p5, p6, (r.Week, r.Week)] := fun h h2 => by simp [swS, h, h2]
     have hk : IntKind.i64.wrap (((6 : Nat) : Int) - 1) = 5 := by rw [wrap_i64 (by omega) (by omega)]; rfl
     have hz : decide ((0 : Int) < ((6 : Nat) : Int)) = true := by decide
     simp only [tabH, outC, pairC, List.length_cons, List.length_nil, List.map_cons, List.map_nil, Nat.reduceAdd, Nat.zero_add]
     (repeat ((repeat1' (first | simp -implicitDefEqProofs -dsimp only [go_sem, g1, hr0, WeekRow.cs, List.drop_succ_cons, List.drop_zero] | simp -dsimp (disch := omega) only [wrap_i64])); repeat (with_reducible refine sideA ?_)))
     refine condT.split (fun g2 => ?_) (fun g2 => ?_)
     · (repeat ((repeat1' (first | simp -implicitDefEqProofs -dsimp only [go_sem, g2] | simp -dsimp (disch := omega) only [wrap_i64])); repeat (with_reducible refine sideA ?_)))
       refine ⟨i + 1, hi', ?_, by omega⟩
       rw [hstep, hsk (of_decide_eq_true g2)]
       simp only [tabH, outC, pairC, List.length_cons, List.length_nil, List.map_cons, List.map_nil, Nat.reduceAdd, Nat.zero_add]
       refine Weak.pick [0, 1, 2, 3, 4, 5, 6] (by decide) (fun j hj => by omega) ?_ ?_
       · simp [LeG, LeC, LeV, ren, pickF, posOf]
       · simp [pickH, pickB, pickF, posOf, ren]
     · (repeat ((repeat1' (first | simp -implicitDefEqProofs -dsimp only [go_sem, g2, hk, hz] | simp -dsimp (disch := omega) only [wrap_i64])); repeat (with_reducible refine sideA ?_)))
       refine condT.split (fun g3 => ?_) (fun g3 => ?_)
       · have g3' : p6.2 = r.Week - 1 := by simpa using g3
         (repeat ((repeat1' (first | simp -implicitDefEqProofs -dsimp only [go_sem, g3, hk] | simp -dsimp (disch := omega) only [wrap_i64])); repeat (with_reducible refine sideA ?_)))
         refine ⟨i + 1, hi', ?_, by omega⟩
         rw [hstep, hme (of_decide_eq_false g2) g3']
         simp only [tabH, outC, pairC, List.length_cons, List.length_nil, List.map_cons, List.map_nil, Nat.reduceAdd, Nat.zero_add]
         refine Weak.pick [0, 1, 2, 3, 4, 5, 6] (by decide) (fun j hj => by omega) ?_ ?_
         · simp [LeG, LeC, LeV, ren, pickF, posOf]
         · simp [pickH, pickB, pickF, posOf, ren]
       · have g3' : p6.2 ≠ r.Week - 1 := by simpa using g3
         (repeat ((repeat1' (first | simp -implicitDefEqProofs -dsimp only [go_sem, g3, hk] | simp -dsimp (disch := omega) only [wrap_i64])); repeat (with_reducible refine sideA ?_)))
         refine ⟨i + 1, hi', ?_, by omega⟩
         rw [hstep, hnw (of_decide_eq_false g2) g3']
         simp only [tabH, outC, pairC, List.length_cons, List.length_nil, List.map_cons, List.map_nil, Nat.reduceAdd, Nat.zero_add]
         refine Weak.pick [0, 1, 2, 3, 4, 5, 6, 8] (by decide) (fun j hj => by omega) ?_ ?_
         · simp [LeG, LeC, LeV, ren, pickF, posOf]
         · simp [pickH, pickB, pickF, posOf, ren]
   · have hsk : r.Events ≤ lim → swS lim [p1, p2, p3, p4, p5, p6, p7] r = [p1, p2, p3, p4, p5, p6, p7] := fun h => by simp [swS, h]
     have hme : ¬ r.Events ≤ lim → p7.2 = r.Week - 1 → swS lim [p1, p2, p3, p4, p5, p6, p7] r = [p1, p2, p3, p4, p5, p6, (p7.1, r.Week)] := fun h h2 => by simp [swS, h, h2]
     have hnw : ¬ r.Events ≤ lim → p7.2 ≠ r.Week - 1 → swS lim [p1, p2, p3, p4, p5, p6, p7] r = [p1, p2, p3, p4, p5, p6, p7, (r.Week, r.Week)] := fun h h2 => by simp [swS, h, h2]
     have hk : IntKind.i64.wrap (((7 : Nat) : Int) - 1) = 6 := by rw [wrap_i64 (by omega) (by omega)]; rfl
     have hz : decide ((0 : Int) < ((7 : Nat) : Int)) = true := by decide
     simp only [tabH, outC, pairC, List.length_cons, List.length_nil, List.map_cons, List.map_nil, Nat.reduceAdd, Nat.zero_add]
     (repeat ((repeat1' (first | simp -implicitDefEqProofs -dsimp only [go_sem, g1, hr0, WeekRow.cs, List.drop_succ_cons, List.drop_zero] | simp -dsimp (disch := omega) only [wrap_i64])); repeat (with_reducible refine sideA ?_)))
     refine condT.split (fun g2 => ?_) (fun g2 => ?_)
     · (repeat ((repeat1' (first | simp -implicitDefEqProofs -dsimp only [go_sem, g2] | simp -dsimp (disch := omega) only [wrap_i64])); repeat (with_reducible refine sideA ?_)))
       refine ⟨i + 1, hi', ?_, by omega⟩
       rw [hstep, hsk (of_decide_eq_true g2)]
       simp only [tabH, outC, pairC, List.length_cons, List.length_nil, List.map_cons, List.map_nil, Nat.reduceAdd, Nat.zero_add]
       refine Weak.pick [0, 1, 2, 3, 4, 5, 6, 7] (by decide) (fun j hj => by omega) ?_ ?_
       · simp [LeG, LeC, LeV, ren, pickF, posOf]
       · simp [pickH, pickB, pickF, posOf, ren]
     · (repeat ((repeat1' (first | simp -implicitDefEqProofs -dsimp only [go_sem, g2, hk, hz] | simp -dsimp (disch := omega) only [wrap_i64])); repeat (with_reducible refine sideA ?_)))
       refine condT.split (fun g3 => ?_) (fun g3 => ?_)
       · have g3' : p7.2 = r.Week - 1 := by simpa using g3
         (repeat ((repeat1' (first | simp -implicitDefEqProofs -dsimp only [go_sem, g3, hk] | simp -dsimp (disch := omega) only [wrap_i64])); repeat (with_reducible refine sideA ?_)))
         refine ⟨i + 1, hi', ?_, by omega⟩
         rw [hstep, hme (of_decide_eq_false g2) g3']
         simp only [tabH, outC, pairC, List.length_cons, List.length_nil, List.map_cons, List.map_nil, Nat.reduceAdd, Nat.zero_add]
         refine Weak.pick [0, 1, 2, 3, 4, 5, 6, 7] (by decide) (fun j hj => by omega) ?_ ?_
         · simp [LeG, LeC, LeV, ren, pickF, posOf]
         · simp [pickH, pickB, pickF, posOf, ren]
       · have g3' : p7.2 ≠ r.Week - 1 := by simpa using g3
         (repeat ((repeat1' (first | simp -implicitDefEqProofs -dsimp only [go_sem, g3, hk] | simp -dsimp (disch := omega) only [wrap_i64])); repeat (with_reducible refine sideA ?_)))
         refine ⟨i + 1, hi', ?_, by omega⟩
         rw [hstep, hnw (of_decide_eq_false g2) g3']
         simp only [tabH, outC, pairC, List.length_cons, List.length_nil, List.map_cons, List.map_nil, Nat.reduceAdd, Nat.zero_add]
         refine Weak.pick [0, 1, 2, 3, 4, 5, 6, 7, 9] (by decide) (fun j hj => by omega) ?_ ?_
         · simp [LeG, LeC, LeV, ren, pickF, posOf]
         · simp [pickH, pickB, pickF, posOf, ren]
   · have hsk : r.Events ≤ lim → swS lim [p1, p2, p3, p4, p5, p6, p7, p8] r = [p1, p2, p3, p4, p5, p6, p7, p8] := fun h => by simp [swS, h]
     have hme : ¬ r.Events ≤ lim → p8.2 = r.Week - 1 → swS lim [p1, p2, p3, p4, p5, p6, p7, p8] r = [p1, p2, p3, p4, p5, p6, p7, (p8.1, r.Week)] := fun h h2 => by simp [swS, h, h2]
     have hnw : ¬ r.Events ≤ lim → p8.2 ≠ r.Week - 1 → swS lim [p1, p2, p3, p4, p5, p6, p7, p8] r = [p1, p2, p3, p4, p5, p6, p7, p8, (r.Week, r.Week)] := fun h h2 => by simp [swS, h, h2]
     have hk : IntKind.i64.wrap (((8 : Nat) : Int) - 1) = 7 := by rw [wrap_i64 (by omega) (by omega)]; rfl
     have hz : decide ((0 : Int) < ((8 : Nat) : Int)) = true := by decide
     simp only [tabH, outC, pairC, List.length_cons, List.length_nil, List.map_cons, List.map_nil, Nat.reduceAdd, Nat.zero_add]
     (repeat ((repeat1' (first | simp -implicitDefEqProofs -dsimp only [go_sem, g1, hr0, WeekRow.cs, List.drop_succ_cons, List.drop_zero] | simp -dsimp (disch := omega) only [wrap_i64])); repeat (with_reducible refine sideA ?_)))
     refine condT.split (fun g2 => ?_) (fun g2 => ?_)
     · (repeat ((repeat1' (first | simp -implicitDefEqProofs -dsimp only [go_sem, g2] | simp -dsimp (disch := omega) only [wrap_i64])); repeat (with_reducible refine sideA ?_)))
       refine ⟨i + 1, hi', ?_, by omega⟩
       rw [hstep, hsk (of_decide_eq_true g2)]
       simp only [tabH, outC, pairC, List.length_cons, List.length_nil, List.map_cons, List.map_nil, Nat.reduceAdd, Nat.zero_add]
       refine Weak.pick [0, 1, 2, 3, 4, 5, 6, 7, 8] (by decide) (fun j hj => by omega) ?_ ?_
       · simp [LeG, LeC, LeV, ren, pickF, posOf]
       · simp [pickH, pickB, pickF, posOf, ren]
     · (repeat ((repeat1' (first | simp -implicitDefEqProofs -dsimp only [go_sem, g2, hk, hz] | simp -dsimp (disch := omega) only [wrap_i64])); repeat (with_reducible refine sideA ?_)))
       refine condT.split (fun g3 => ?_) (fun g3 => ?_)
       · have g3' : p8.2 = r.Week - 1 := by simpa using g3
         (repeat ((repeat1' (first | simp -implicitDefEqProofs -dsimp only [go_sem, g3, hk] | simp -dsimp (disch := omega) only [wrap_i64])); repeat (with_reducible refine sideA ?_)))
         refine ⟨i + 1, hi', ?_, by omega⟩
         rw [hstep, hme (of_decide_eq_false g2) g3']
         simp only [tabH, outC, pairC, List.length_cons, List.length_nil, List.map_cons, List.map_nil, Nat.reduceAdd, Nat.zero_add]
         refine Weak.pick [0, 1, 2, 3, 4, 5, 6, 7, 8] (by decide) (fun j hj => by omega) ?_ ?_
         · simp [LeG, LeC, LeV, ren, pickF, posOf]
         · simp [pickH, pickB, pickF, posOf, ren]
       · have g3' : p8.2 ≠ r.Week - 1 := by simpa using g3
         (repeat ((repeat1' (first | simp -implicitDefEqProofs -dsimp only [go_sem, g3, hk] | simp -dsimp (disch := omega) only [wrap_i64])); repeat (with_reducible refine sideA ?_)))
         refine ⟨i + 1, hi', ?_, by omega⟩
         rw [hstep, hnw (of_decide_eq_false g2) g3']
         simp only [tabH, outC, pairC, List.length_cons, List.length_nil, List.map_cons, List.map_nil, Nat.reduceAdd, Nat.zero_add]
         refine Weak.pick [0, 1, 2, 3, 4, 5, 6, 7, 8, 10] (by decide) (fun j hj => by omega) ?_ ?_
         · simp [LeG, LeC, LeV, ren, pickF, posOf]
         · simp [pickH, pickB, pickF, posOf, ren]
   · have hsk : r.Events ≤ lim → swS lim [p1, p2, p3, p4, p5, p6, p7, p8, p9] r = [p1, p2, p3, p4, p5, p6, p7, p8, p9] := fun h => by simp [swS, h]
     have hme : ¬ r.Events ≤ lim → p9.2 = r.Week - 1 → swS lim [p1, p2, p3, p4, p5, p6, p7, p8, p9] r = [p1, p2, p3, p4, p5, p6, p7, p8, (p9.1, r.Week)] := fun h h2 => by simp [swS, h, h2]
     have hnw : ¬ r.Events ≤ lim → p9.2 ≠ r.Week - 1 → swS lim [p1, p2, p3, p4, p5, p6, p7, p8, p9] r = [p1, p2, p3, p4, p5, p6, p7, p8, p9, (r.Week, r.Week)] := fun h h2 => by simp [swS, h, h2]
     have hk : IntKind.i64.wrap (((9 : Nat) : Int) - 1) = 8 := by rw [wrap_i64 (by omega) (by omega)]; rfl
     have hz : decide ((0 : Int) < ((9 : Nat) : Int)) = true := by decide
     simp only [tabH, outC, pairC, List.length_cons, List.length_nil, List.map_cons, List.map_nil, Nat.reduceAdd, Nat.zero_add]
     (repeat ((repeat1' (first | simp -implicitDefEqProofs -dsimp only [go_sem, g1, hr0, WeekRow.cs, List.drop_succ_cons, List.drop_zero] | simp -dsimp (disch := omega) only [wrap_i64])); repeat (with_reducible refine sideA ?_)))
     refine condT.split (fun g2 => ?_) (fun g2 => ?_)
     · (repeat ((repeat1' (first | simp -implicitDefEqProofs -dsimp only [go_sem, g2] | simp -dsimp (disch := omega) only [wrap_i64])); repeat (with_reducible refine sideA ?_)))
       refine ⟨i + 1, hi', ?_, by omega⟩
       rw [hstep, hsk (of_decide_eq_true g2)]
       simp only [tabH, outC, pairC, List.length_cons, List.length_nil, List.map_cons, List.map_nil, Nat.reduceAdd, Nat.zero_add]
       refine Weak.pick [0, 1, 2, 3, 4, 5, 6, 7, 8, 9] (by decide) (fun j hj => by omega) ?_ ?_
       · simp [LeG, LeC, LeV, ren, pickF, posOf]
       · simp [pickH, pickB, pickF, posOf, ren]
     · (repeat ((repeat1' (first | simp -implicitDefEqProofs -dsimp only [go_sem, g2, hk, hz] | simp -dsimp (disch := omega) only [wrap_i64])); repeat (with_reducible refine sideA ?_)))
       refine condT.split (fun g3 => ?_) (fun g3 => ?_)
       · have g3' : p9.2 = r.Week - 1 := by simpa using g3
         (repeat ((repeat1' (first | simp -implicitDefEqProofs -dsimp only [go_sem, g3, hk] | simp -dsimp (disch := omega) only [wrap_i64])); repeat (with_reducible refine sideA ?_)))
         refine ⟨i + 1, hi', ?_, by omega⟩
         rw [hstep, hme (of_decide_eq_false g2) g3']
         simp only [tabH, outC, pairC, List.length_cons, List.length_nil, List.map_cons, List.map_nil, Nat.reduceAdd, Nat.zero_add]
         refine Weak.pick [0, 1, 2, 3, 4, 5, 6, 7, 8, 9] (by decide) (fun j hj => by omega) ?_ ?_
         · simp [LeG, LeC, LeV, ren, pickF, posOf]
         · simp [pickH, pickB, pickF, posOf, ren]
       · have g3' : p9.2 ≠ r.Week - 1 := by simpa using g3
         (repeat ((repeat1' (first | simp -implicitDefEqProofs -dsimp only [go_sem, g3, hk] | simp -dsimp (disch := omega) only [wrap_i64])); repeat (with_reducible refine sideA ?_)))
         refine ⟨i + 1, hi', ?_, by omega⟩
         rw [hstep, hnw (of_decide_eq_false g2) g3']
         simp only [tabH, outC, pairC, List.length_cons, List.length_nil, List.map_cons, List.map_nil, Nat.reduceAdd, Nat.zero_add]
         refine Weak.pick [0, 1, 2, 3, 4, 5, 6, 7, 8, 9, 11] (by decide) (fun j hj => by omega) ?_ ?_
         · simp [LeG, LeC, LeV, ren, pickF, posOf]
         · simp [pickH, pickB, pickF, posOf, ren]
   · have hsk : r.Events ≤ lim → swS lim [p1, p2, p3, p4, p5, p6, p7, p8, p9, p10] r = [p1, p2, p3, p4, p5, p6, p7, p8, p9, p10] := fun h => by simp [swS, h]
     have hme : ¬ r.Events ≤ lim → p10.2 = r.Week - 1 → swS lim [p1, p2, p3, p4, p5, p6, p7, p8, p9, p10] r = [p1, p2, p3, p4, p5, p6, p7, p8, p9, (p10.1, r.Week)] := fun h h2 => by simp [swS, h, h2]
     have hnw : ¬ r.Events ≤ lim → p10.2 ≠ r.Week - 1 → swS lim [p1, p2, p3, p4, p5, p6, p7, p8, p9, p10] r = [p1, p2, p3, p4, p5, p6, p7, p8, p9, p10, (r.Week, r.Week)] := fun h h2 => by simp [swS, h, h2]
     have hk : IntKind.i64.wrap (((10 : Nat) : Int) - 1) = 9 := by rw [wrap_i64 (by omega) (by omega)]; rfl
     have hz : decide ((0 : Int) < ((10 : Nat) : Int)) = true := by decide
     simp only [tabH, outC, pairC, List.length_cons, List.length_nil, List.map_cons, List.map_nil, Nat.reduceAdd, Nat.zero_add]
     (repeat ((repeat1' (first | simp -implicitDefEqProofs -dsimp only [go_sem, g1, hr0, WeekRow.cs, List.drop_succ_cons, List.drop_zero] | simp -dsimp (disch := omega) only [wrap_i64])); repeat (with_reducible refine sideA ?_)))
     refine condT.split (fun g2 => ?_) (fun g2 => ?_)
     · (repeat ((repeat1' (first | simp -implicitDefEqProofs -dsimp only [go_sem, g2] | simp -dsimp (disch := omega) only [wrap_i64])); repeat (with_reducible refine sideA ?_)))
       refine ⟨i + 1, hi', ?_, by omega⟩
       rw [hstep, hsk (of_decide_eq_true g2)]
       simp only [tabH, outC, pairC, List.length_cons, List.length_nil, List.map_cons, List.map_nil, Nat.reduceAdd, Nat.zero_add]
       refine Weak.pick [0, 1, 2, 3, 4, 5, 6, 7, 8, 9, 10] (by decide) (fun j hj => by omega) ?_ ?_
       · simp [LeG, LeC, LeV, ren, pickF, posOf]
       · simp [pickH, pickB, pickF, posOf, ren]
     · (repeat ((repeat1' (first | simp -implicitDefEqProofs -dsimp only [go_sem, g2, hk, hz] | simp -dsimp (disch := omega) only [wrap_i64])); repeat (with_reducible refine sideA ?_)))
       refine condT.split (fun g3 => ?_) (fun g3 => ?_)
       · have g3' : p10.2 = r.Week - 1 := by simpa using g3
         (repeat ((repeat1' (first | simp -implicitDefEqProofs -dsimp only [go_sem, g3, hk] | simp -dsimp (disch := omega) only [wrap_i64])); repeat (with_reducible refine sideA ?_)))
         refine ⟨i + 1, hi', ?_, by omega⟩
         rw [hstep, hme (of_decide_eq_false g2) g3']
         simp only [tabH, outC, pairC, List.length_cons, List.length_nil, List.map_cons, List.map_nil, Nat.reduceAdd, Nat.zero_add]
         refine Weak.pick [0, 1, 2, 3, 4, 5, 6, 7, 8, 9, 10] (by decide) (fun j hj => by omega) ?_ ?_
         · simp [LeG, LeC, LeV, ren, pickF, posOf]
         · simp [pickH, pickB, pickF, posOf, ren]
       · have g3' : p10.2 ≠ r.Week - 1 := by simpa using g3
         (repeat ((repeat1' (first | simp -implicitDefEqProofs -dsimp only [go_sem, g3, hk] | simp -dsimp (disch := omega) only [wrap_i64])); repeat (with_reducible refine sideA ?_)))
         refine ⟨i + 1, hi', ?_, by omega⟩
         rw [hstep, hnw (of_decide_eq_false g2) g3']
         simp only [tabH, outC, pairC, List.length_cons, List.length_nil, List.map_cons, List.map_nil, Nat.reduceAdd, Nat.zero_add]
         refine Weak.pick [0, 1, 2, 3, 4, 5, 6, 7, 8, 9, 10, 12] (by decide) (fun j hj => by omega) ?_ ?_
         · simp [LeG, LeC, LeV, ren, pickF, posOf]
         · simp [pickH, pickB, pickF, posOf, ren]
   · have hsk : r.Events ≤ lim → swS lim [p1, p2, p3, p4, p5, p6, p7, p8, p9, p10, p11] r = [p1, p2, p3, p4, p5, p6, p7, p8, p9, p10, p11] := fun h => by simp [swS, h]
     have hme : ¬ r.Events ≤ lim → p11.2 = r.Week - 1 → swS lim [p1, p2, p3, p4, p5, p6, p7, p8, p9, p10, p11] r = [p1, p2, p3, p4, p5, p6, p7, p8, p9, p10, (p11.1, r.Week)] := fun h h2 => by simp [swS, h, h2]
     have hnw : ¬ r.Events ≤ lim → p11.2 ≠ r.Week - 1 → swS lim [p1, p2, p3, p4, p5, p6, p7, p8, p9, p10, p11] r = [p1, p2, p3, p4, p5, p6, p7, p8, p9, p10, p11, (r.Week, r.Week)] := fun h h2 => by simp [swS, h, h2]
     have hk : IntKind.i64.wrap (((11 : Nat) : Int) - 1) = 10 := by rw [wrap_i64 (by omega) (by omega)]; rfl
     have hz : decide ((0 : Int) < ((11 : Nat) : Int)) = true := by decide
     simp only [tabH, outC, pairC, List.length_cons, List.length_nil, List.map_cons, List.map_nil, Nat.reduceAdd, Nat.zero_add]
     (repeat ((repeat1' (first | simp -implicitDefEqProofs -dsimp only [go_sem, g1, hr0, WeekRow.cs, List.drop_succ_cons, List.drop_zero] | simp -dsimp (disch := omega) only [wrap_i64])); repeat (with_reducible refine sideA ?_)))
     refine condT.split (fun g2 => ?_) (fun g2 => ?_)
     · (repeat ((repeat1' (first | simp -implicitDefEqProofs -dsimp only [go_sem, g2] | simp -dsimp (disch := omega) only [wrap_i64])); repeat (with_reducible refine sideA ?_)))
       refine ⟨i + 1, hi', ?_, by omega⟩
       rw [hstep, hsk (of_decide_eq_true g2)]
       simp only [tabH, outC, pairC, List.length_cons, List.length_nil, List.map_cons, List.map_nil, Nat.reduceAdd, Nat.zero_add]
       refine Weak.pick [0, 1, 2, 3, 4, 5, 6, 7, 8, 9, 10, 11] (by decide) (fun j hj => by omega) ?_ ?_
       · simp [LeG, LeC, LeV, ren, pickF, posOf]
       · simp [pickH, pickB, pickF, posOf, ren]
     · (repeat ((repeat1' (first | simp -implicitDefEqProofs -dsimp only [go_sem, g2, hk, hz] | simp -dsimp (disch := omega) only [wrap_i64])); repeat (with_reducible refine sideA ?_)))
       refine condT.split (fun g3 => ?_) (fun g3 => ?_)
       · have g3' : p11.2 = r.Week - 1 := by simpa using g3
         (repeat ((repeat1' (first | simp -implicitDefEqProofs -dsimp only [go_sem, g3, hk] | simp -dsimp (disch := omega) only [wrap_i64])); repeat (with_reducible refine sideA ?_)))
         refine ⟨i + 1, hi', ?_, by omega⟩
         rw [hstep, hme (of_decide_eq_false g2) g3']
         simp only [tabH, outC, pairC, List.length_cons, List.length_nil, List.map_cons, List.map_nil, Nat.reduceAdd, Nat.zero_add]
         refine Weak.pick [0, 1, 2, 3, 4, 5, 6, 7, 8, 9, 10, 11] (by decide) (fun j hj => by omega) ?_ ?_
         · simp [LeG, LeC, LeV, ren, pickF, posOf]
         · simp [pickH, pickB, pickF, posOf, ren]
       · have g3' : p11.2 ≠ r.Week - 1 := by simpa using g3
         (repeat ((repeat1' (first | simp -implicitDefEqProofs -dsimp only [go_sem, g3, hk] | simp -dsimp (disch := omega) only [wrap_i64])); repeat (with_reducible refine sideA ?_)))
         refine ⟨i + 1, hi', ?_, by omega⟩
         rw [hstep, hnw (of_decide_eq_false g2) g3']
         simp only [tabH, outC, pairC, List.length_cons, List.length_nil, List.map_cons, List.map_nil, Nat.reduceAdd, Nat.zero_add]
         refine Weak.pick [0, 1, 2, 3, 4, 5, 6, 7, 8, 9, 10, 11, 13] (by decide) (fun j hj => by omega) ?_ ?_
         · simp [LeG, LeC, LeV, ren, pickF, posOf]
         · simp [pickH, pickB, pickF, posOf, ren]
   · have hsk : r.Events ≤ lim → swS lim [p1, p2, p3, p4, p5, p6, p7, p8, p9, p10, p11, p12] r = [p1, p2, p3, p4, p5, p6, p7, p8, p9, p10, p11, p12] := fun h => by simp [swS, h]
     have hme : ¬ r.Events ≤ lim → p12.2 = r.Week - 1 → swS lim [p1, p2, p3, p4, p5, p6, p7, p8, p9, p10, p11, p12] r = [p1, p2, p3, p4, p5, p6, p7, p8, p9, p10, p11, (p12.1, r.Week)] := fun h h2 => by simp [swS, h, h2]
     have hnw : ¬ r.Events ≤ lim → p12.2 ≠ r.Week - 1 → swS lim [p1, p2, p3, p4, p5, p6, p7, p8, p9, p10, p11, p12] r = [p1, p2, p3, p4, p5, p6, p7, p8, p9, p10, p11, p12, (r.Week, r.Week)] := fun h h2 => by simp [swS, h, h2]
     have hk : IntKind.i64.wrap (((12 : Nat) : Int) - 1) = 11 := by rw [wrap_i64 (by omega) (by omega)]; rfl
     have hz : decide ((0 : Int) < ((12 : Nat) : Int)) = true := by decide
     simp only [tabH, outC, pairC, List.length_cons, List.length_nil, List.map_cons, List.map_nil, Nat.reduceAdd, Nat.zero_add]
     (repeat ((repeat1' (first | simp -implicitDefEqProofs -dsimp only [go_sem, g1, hr0, WeekRow.cs, List.drop_succ_cons, List.drop_zero] | simp -dsimp (disch := omega) only [wrap_i64])); repeat (with_reducible refine sideA ?_)))
     refine condT.split (fun g2 => ?_) (fun g2 => ?_)
     · (repeat ((repeat1' (first | simp -implicitDefEqProofs -dsimp only [go_sem, g2] | simp -dsimp (disch := omega) only [wrap_i64])); repeat (with_reducible refine sideA ?_)))
       refine ⟨i + 1, hi', ?_, by omega⟩
       rw [hstep, hsk (of_decide_eq_true g2)]
       simp only [tabH, outC, pairC, List.length_cons, List.length_nil, List.map_cons, List.map_nil, Nat.reduceAdd, Nat.zero_add]
       refine Weak.pick [0, 1, 2, 3, 4, 5, 6, 7, 8, 9, 10, 11, 12] (by decide) (fun j hj => by omega) ?_ ?_
       · simp [LeG, LeC, LeV, ren, pickF, posOf]
       · simp [pickH, pickB, pickF, posOf, ren]
     · (repeat ((repeat1' (first | simp -implicitDefEqProofs -dsimp only [go_sem, g2, hk, hz] | simp -dsimp (disch := omega) only [wrap_i64])); repeat (with_reducible refine sideA ?_)))
       refine condT.split (fun g3 => ?_) (fun g3 => ?_)
       · have g3' : p12.2 = r.Week - 1 := by simpa using g3
         (repeat ((repeat1' (first | simp -implicitDefEqProofs -dsimp only [go_sem, g3, hk] | simp -dsimp (disch := omega) only [wrap_i64])); repeat (with_reducible refine sideA ?_)))
         refine ⟨i + 1, hi', ?_, by omega⟩
         rw [hstep, hme (of_decide_eq_false g2) g3']
         simp only [tabH, outC, pairC, List.length_cons, List.length_nil, List.map_cons, List.map_nil, Nat.reduceAdd, Nat.zero_add]
         refine Weak.pick [0, 1, 2, 3, 4, 5, 6, 7, 8, 9, 10, 11, 12] (by decide) (fun j hj => by omega) ?_ ?_
         · simp [LeG, LeC, LeV, ren, pickF, posOf]
         · simp [pickH, pickB, pickF, posOf, ren]
       · have g3' : p12.2 ≠ r.Week - 1 := by simpa using g3
         (repeat ((repeat1' (first | simp -implicitDefEqProofs -dsimp only [go_sem, g3, hk] | simp -dsimp (disch := omega) only [wrap_i64])); repeat (with_reducible refine sideA ?_)))
         refine ⟨i + 1, hi', ?_, by omega⟩
         rw [hstep, hnw (of_decide_eq_false g2) g3']
         simp only [tabH, outC, pairC, List.length_cons, List.length_nil, List.map_cons, List.map_nil, Nat.reduceAdd, Nat.zero_add]
         refine Weak.pick [0, 1, 2, 3, 4, 5, 6, 7, 8, 9, 10, 11, 12, 14] (by decide) (fun j hj => by omega) ?_ ?_
         · simp [LeG, LeC, LeV, ren, pickF, posOf]
         · simp [pickH, pickB, pickF, posOf, ren]
   · exfalso; simp only [List.length_cons] at hPl; omega
 · have hi' : i = L.length := by simp at g1; omega
   subst hi'
   rw [List.take_length] at hPl ⊢
   generalize swarms lim L = Pq at hPl ⊢
   rcases Pq with _ | ⟨p1, _ | ⟨p2, _ | ⟨p3, _ | ⟨p4, _ | ⟨p5, _ | ⟨p6, _ | ⟨p7, _ | ⟨p8, _ | ⟨p9, _ | ⟨p10, _ | ⟨p11, _ | ⟨p12, _ | ⟨p13, Q⟩⟩⟩⟩⟩⟩⟩⟩⟩⟩⟩⟩⟩
   · simp only [tabH, outC, pairC, List.length_cons, List.length_nil, List.map_cons, List.map_nil, Nat.reduceAdd, Nat.zero_add]
     (repeat ((repeat1' (first | simp -implicitDefEqProofs -dsimp only [go_sem, g1] | simp -dsimp (disch := omega) only [wrap_i64])); repeat (with_reducible refine sideA ?_)))
     exact WeakR.refl _ _ _
   · simp only [tabH, outC, pairC, List.length_cons, List.length_nil, List.map_cons, List.map_nil, Nat.reduceAdd, Nat.zero_add]
     (repeat ((repeat1' (first | simp -implicitDefEqProofs -dsimp only [go_sem, g1] | simp -dsimp (disch := omega) only [wrap_i64])); repeat (with_reducible refine sideA ?_)))
     exact WeakR.refl _ _ _
   · simp only [tabH, outC, pairC, List.length_cons, List.length_nil, List.map_cons, List.map_nil, Nat.reduceAdd, Nat.zero_add]
     (repeat ((repeat1' (first | simp -implicitDefEqProofs -dsimp only [go_sem, g1] | simp -dsimp (disch := omega) only [wrap_i64])); repeat (with_reducible refine sideA ?_)))
     exact WeakR.refl _ _ _
   · simp only [tabH, outC, pairC, List.length_cons, List.length_nil, List.map_cons, List.map_nil, Nat.reduceAdd, Nat.zero_add]
     (repeat ((repeat1' (first | simp -implicitDefEqProofs -dsimp only [go_sem, g1] | simp -dsimp (disch := omega) only [wrap_i64])); repeat (with_reducible refine sideA ?_)))
     exact WeakR.refl _ _ _
   · simp only [tabH, outC, pairC, List.length_cons, List.length_nil, List.map_cons, List.map_nil, Nat.reduceAdd, Nat.zero_add]
     (repeat ((repeat1' (first | simp -implicitDefEqProofs -dsimp only [go_sem, g1] | simp -dsimp (disch := omega) only [wrap_i64])); repeat (with_reducible refine sideA ?_)))
     exact WeakR.refl _ _ _
   · simp only [tabH, outC, pairC, List.length_cons, List.length_nil, List.map_cons, List.map_nil, Nat.reduceAdd, Nat.zero_add]
     (repeat ((repeat1' (first | simp -implicitDefEqProofs -dsimp only [go_sem, g1] | simp -dsimp (disch := omega) only [wrap_i64])); repeat (with_reducible refine sideA ?_)))
     exact WeakR.refl _ _ _
   · simp only [tabH, outC, pairC, List.length_cons, List.length_nil, List.map_cons, List.map_nil, Nat.reduceAdd, Nat.zero_add]
     (repeat ((repeat1' (first | simp -implicitDefEqProofs -dsimp only [go_sem, g1] | simp -dsimp (disch := omega) only [wrap_i64])); repeat (with_reducible refine sideA ?_)))
     exact WeakR.refl _ _ _
   · simp only [tabH, outC, pairC, List.length_cons, List.length_nil, List.map_cons, List.map_nil, Nat.reduceAdd, Nat.zero_add]
     (repeat ((repeat1' (first | simp -implicitDefEqProofs -dsimp only [go_sem, g1] | simp -dsimp (disch := omega) only [wrap_i64])); repeat (with_reducible refine sideA ?_)))
     exact WeakR.refl _ _ _
   · simp only [tabH, outC, pairC, List.length_cons, List.length_nil, List.map_cons, List.map_nil, Nat.reduceAdd, Nat.zero_add]
     (repeat ((repeat1' (first | simp -implicitDefEqProofs -dsimp only [go_sem, g1] | simp -dsimp (disch := omega) only [wrap_i64])); repeat (with_reducible refine sideA ?_)))
     exact WeakR.refl _ _ _
   · simp only [tabH, outC, pairC, List.length_cons, List.length_nil, List.map_cons, List.map_nil, Nat.reduceAdd, Nat.zero_add]
     (repeat ((repeat1' (first | simp -implicitDefEqProofs -dsimp only [go_sem, g1] | simp -dsimp (disch := omega) only [wrap_i64])); repeat (with_reducible refine sideA ?_)))
     exact WeakR.refl _ _ _
   · simp only [tabH, outC, pairC, List.length_cons, List.length_nil, List.map_cons, List.map_nil, Nat.reduceAdd, Nat.zero_add]
     (repeat ((repeat1' (first | simp -implicitDefEqProofs -dsimp only [go_sem, g1] | simp -dsimp (disch := omega) only [wrap_i64])); repeat (with_reducible refine sideA ?_)))
     exact WeakR.refl _ _ _
   · simp only [tabH, outC, pairC, List.length_cons, List.length_nil, List.map_cons, List.map_nil, Nat.reduceAdd, Nat.zero_add]
     (repeat ((repeat1' (first | simp -implicitDefEqProofs -dsimp only [go_sem, g1] | simp -dsimp (disch := omega) only [wrap_i64])); repeat (with_reducible refine sideA ?_)))
     exact WeakR.refl _ _ _
   · simp only [tabH, outC, pairC, List.length_cons, List.length_nil, List.map_cons, List.map_nil, Nat.reduceAdd, Nat.zero_add]
     (repeat ((repeat1' (first | simp -implicitDefEqProofs -dsimp only [go_sem, g1] | simp -dsimp (disch := omega) only [wrap_i64])); repeat (with_reducible refine sideA ?_)))
     exact WeakR.refl _ _ _
   · exfalso; simp only [List.length_cons] at hPl; omega
theorem sSwarms_ok (L : List WeekRow) (lim : Int) (hl : L.length ≤ 1048576) (hb : swB lim L = true) : Ctr Try.prog 6 [WeekRow.sl L, .int .i64 lim] [] (.tup [.osl 0 0 (swarms lim L).length 1, .bool true]) (tabH (swarms lim L)) := by
 skip
 have hw : wrsB L = true := by simp [swB] at hb; exact hb.1
 have hin : inB' lim 0 9999 = true := by simp [swB] at hb; exact hb.2
 obtain ⟨hv, hlen⟩ := wrsB_all hw
 refine Ctr.intro Try.mixed Try.func6 rfl Try.okF6 ?_
 simp -implicitDefEqProofs -dsimp only [go_sem, Try.ntmps6, Try.results6]
 (repeat ((repeat1' (first | simp -implicitDefEqProofs -dsimp only [go_sem] | simp -dsimp (disch := omega) only [wrap_i64])); repeat (with_reducible refine sideA ?_)))
 (first | refine callT.at (l26Good_ok L (by omega)) ⟨leA, trivial⟩ ?_ | refine callS.at (l26Good_ok L (by omega)) ⟨leA, trivial⟩ ?_)
 (repeat ((repeat1' (first | simp -implicitDefEqProofs -dsimp only [go_sem, hw] | simp -dsimp (disch := omega) only [wrap_i64])); repeat (with_reducible refine sideA ?_)))
 (first | refine callT.at (l1In_ok lim 0 9999) ⟨leA, leA, leA, trivial⟩ ?_ | refine callS.at (l1In_ok lim 0 9999) ⟨leA, leA, leA, trivial⟩ ?_)
 (repeat ((repeat1' (first | simp -implicitDefEqProofs -dsimp only [go_sem, hin] | simp -dsimp (disch := omega) only [wrap_i64])); repeat (with_reducible refine sideA ?_)))
 refine LoopT.intro (fun i : Nat => i ≤ L.length) (fun i => ⟨[WeekRow.sl L, .int .i64 lim, .undef, .undef, .undef, .undef, .osl 0 0 (swarms lim (L.take i)).length 1, .int .i64 i, .undef, .undef, .undef, .undef, .undef, .undef, .undef, .undef, .undef, .undef, .undef, .undef, .undef, .undef, .undef, .undef, .undef, .undef, .undef, .undef, .undef, .undef, .undef, .undef, .undef, .undef, .undef, .undef, .undef, .undef, .undef, .undef, .undef, .undef, .undef, .undef, .undef, .undef, .undef, .undef, .undef, .undef, .undef, .undef, .undef, .undef, .undef, .undef, .undef, .undef, .undef, .undef, .undef, .undef, .undef, .undef, .undef, .undef, .undef, .undef, .undef, .undef, .undef, .undef, .undef, .undef], tabH (swarms lim (L.take i)), 0⟩) (fun i => L.length - i) 0 (Nat.zero_le _) ?_ (fun i hi => ?_)
 · refine Weak.cut (1) (by simp) (by simp) ?_ ?_
   · simp [LeC, LeV, ren, cutF, swarms]
   · simp [cutH, cutB, swarms, tabH, outC]
 have hPl := swarms_len lim L i hi
 have hstep := fun hi' => swarms_succ (lim := lim) (L := L) (i := i) hi'
 simp -implicitDefEqProofs -dsimp only [go_sem]
 refine condT.split (fun g1 => ?_) (fun g1 => ?_)
 · have hi' : i < L.length := by simpa using g1
   have hr0 := rows_at WeekRow.csl hi'
   have hvr := wrB_iff.1 (hv _ (List.getElem_mem hi'))
   replace hstep := hstep hi'
   generalize swarms lim (L.take i) = Pq at hPl hstep ⊢
   generalize L[i] = r at hr0 hvr hstep
   rcases Pq with _ | ⟨p1, _ | ⟨p2, _ | ⟨p3, _ | ⟨p4, _ | ⟨p5, _ | ⟨p6, _ | ⟨p7, _ | ⟨p8, _ | ⟨p9, _ | ⟨p10, _ | ⟨p11, _ | ⟨p12, _ | ⟨p13, Q⟩⟩⟩⟩⟩⟩⟩⟩⟩⟩⟩⟩⟩
   · have hsk : r.Events ≤ lim → swS lim [] r = [] := fun h => by simp [swS, h]
     have hnw : ¬ r.Events ≤ lim → swS lim [] r = [(r.Week, r.Week)] := fun h => by simp [swS, h]
     have hz : decide ((0 : Int) < ((0 : Nat) : Int)) = false := by decide
     simp only [tabH, outC, pairC, List.length_cons, List.length_nil, List.map_cons, List.map_nil, Nat.reduceAdd, Nat.zero_add]
     (repeat ((repeat1' (first | simp -implicitDefEqProofs -dsimp only [go_sem, g1, hr0, WeekRow.cs, List.drop_succ_cons, List.drop_zero] | simp -dsimp (disch := omega) only [wrap_i64])); repeat (with_reducible refine sideA ?_)))
     refine condT.split (fun g2 => ?_) (fun g2 => ?_)
     · (repeat ((repeat1' (first | simp -implicitDefEqProofs -dsimp only [go_sem, g2] | simp -dsimp (disch := omega) only [wrap_i64])); repeat (with_reducible refine sideA ?_)))
       refine ⟨i + 1, hi', ?_, by omega⟩
       rw [hstep, hsk (of_decide_eq_true g2)]
       simp only [tabH, outC, pairC, List.length_cons, List.length_nil, List.map_cons, List.map_nil, Nat.reduceAdd, Nat.zero_add]
       refine Weak.pick [0] (by decide) (fun j hj => by omega) ?_ ?_
       · simp [LeG, LeC, LeV, ren, pickF, posOf]
       · simp [pickH, pickB, pickF, posOf, ren]
     · (repeat ((repeat1' (first | simp -implicitDefEqProofs -dsimp only [go_sem, g2, hz] | simp -dsimp (disch := omega) only [wrap_i64])); repeat (with_reducible refine sideA ?_)))
       refine ⟨i + 1, hi', ?_, by omega⟩
       rw [hstep, hnw (of_decide_eq_false g2)]
       simp only [tabH, outC, pairC, List.length_cons, List.length_nil, List.map_cons, List.map_nil, Nat.reduceAdd, Nat.zero_add]
       refine Weak.pick [0, 1] (by decide) (fun j hj => by omega) ?_ ?_
       · simp [LeG, LeC, LeV, ren, pickF, posOf]
       · simp [pickH, pickB, pickF, posOf, ren]
   · have hsk : r.Events ≤ lim → swS lim [p1] r = [p1] := fun h => by simp [swS, h]
     have hme : ¬ r.Events ≤ lim → p1.2 = r.Week - 1 → swS lim [p1] r = [(p1.1, r.Week)] := fun h h2 => by simp [swS, h, h2]
     have hnw : ¬ r.Events ≤ lim → p1.2 ≠ r.Week - 1 → swS lim [p1] r = [p1, (r.Week, r.Week)] := fun h h2 => by simp [swS, h, h2]
     have hk : IntKind.i64.wrap (((1 : Nat) : Int) - 1) = 0 := by rw [wrap_i64 (by omega) (by omega)]; rfl
     have hz : decide ((0 : Int) < ((1 : Nat) : Int)) = true := by decide
     simp only [tabH, outC, pairC, List.length_cons, List.length_nil, List.map_cons, List.map_nil, Nat.reduceAdd, Nat.zero_add]
     (repeat ((repeat1' (first | simp -implicitDefEqProofs -dsimp only [go_sem, g1, hr0, WeekRow.cs, List.drop_succ_cons, List.drop_zero] | simp -dsimp (disch := omega) only [wrap_i64])); repeat (with_reducible refine sideA ?_)))
     refine condT.split (fun g2 => ?_) (fun g2 => ?_)
     · (repeat ((repeat1' (first | simp -implicitDefEqProofs -dsimp only [go_sem, g2] | simp -dsimp (disch := omega) only [wrap_i64])); repeat (with_reducible refine sideA ?_)))
       refine ⟨i + 1, hi', ?_, by omega⟩
       rw [hstep, hsk (of_decide_eq_true g2)]
       simp only [tabH, outC, pairC, List.length_cons, List.length_nil, List.map_cons, List.map_nil, Nat.reduceAdd, Nat.zero_add]
       refine Weak.pick [0, 1] (by decide) (fun j hj => by omega) ?_ ?_
       · simp [LeG, LeC, LeV, ren, pickF, posOf]
       · simp [pickH, pickB, pickF, posOf, ren]
     · (repeat ((repeat1' (first | simp -implicitDefEqProofs -dsimp only [go_sem, g2, hk, hz] | simp -dsimp (disch := omega) only [wrap_i64])); repeat (with_reducible refine sideA ?_)))
       refine condT.split (fun g3 => ?_) (fun g3 => ?_)
       · have g3' : p1.2 = r.Week - 1 := by simpa using g3
         (repeat ((repeat1' (first | simp -implicitDefEqProofs -dsimp only [go_sem, g3, hk] | simp -dsimp (disch := omega) only [wrap_i64])); repeat (with_reducible refine sideA ?_)))
         refine ⟨i + 1, hi', ?_, by omega⟩
         rw [hstep, hme (of_decide_eq_false g2) g3']
         simp only [tabH, outC, pairC, List.length_cons, List.length_nil, List.map_cons, List.map_nil, Nat.reduceAdd, Nat.zero_add]
         refine Weak.pick [0, 2] (by decide) (fun j hj => by omega) ?_ ?_
         · simp [LeG, LeC, LeV, ren, pickF, posOf]
         · simp [pickH, pickB, pickF, posOf, ren]
       · have g3' : p1.2 ≠ r.Week - 1 := by simpa using g3
         (repeat ((repeat1' (first | simp -implicitDefEqProofs -dsimp only [go_sem, g3, hk] | simp -dsimp (disch := omega) only [wrap_i64])); repeat (with_reducible refine sideA ?_)))
         refine ⟨i + 1, hi', ?_, by omega⟩
         rw [hstep, hnw (of_decide_eq_false g2) g3']
         simp only [tabH, outC, pairC, List.length_cons, List.length_nil, List.map_cons, List.map_nil, Nat.reduceAdd, Nat.zero_add]
         refine Weak.pick [0, 1, 2] (by decide) (fun j hj => by omega) ?_ ?_
         · simp [LeG, LeC, LeV, ren, pickF, posOf]
         · simp [pickH, pickB, pickF, posOf, ren]
   · have hsk : r.Events ≤ lim → swS lim [p1, p2] r = [p1, p2] := fun h => by simp [swS, h]
     have hme : ¬ r.Events ≤ lim → p2.2 = r.Week - 1 → swS lim [p1, p2] r = [p1, (p2.1, r.Week)] := fun h h2 => by simp [swS, h, h2]
     have hnw : ¬ r.Events ≤ lim → p2.2 ≠ r.Week - 1 → swS lim [p1, p2] r = [p1, p2, (r.Week, r.Week)] := fun h h2 => by simp [swS, h, h2]
     have hk : IntKind.i64.wrap (((2 : Nat) : Int) - 1) = 1 := by rw [wrap_i64 (by omega) (by omega)]; rfl
     have hz : decide ((0 : Int) < ((2 : Nat) : Int)) = true := by decide
     simp only [tabH, outC, pairC, List.length_cons, List.length_nil, List.map_cons, List.map_nil, Nat.reduceAdd, Nat.zero_add]
     (repeat ((repeat1' (first | simp -implicitDefEqProofs -dsimp only [go_sem, g1, hr0, WeekRow.cs, List.drop_succ_cons, List.drop_zero] | simp -dsimp (disch := omega) only [wrap_i64])); repeat (with_reducible refine sideA ?_)))
     refine condT.split (fun g2 => ?_) (fun g2 => ?_)
     · (repeat ((repeat1' (first | simp -implicitDefEqProofs -dsimp only [go_sem, g2] | simp -dsimp (disch := omega) only [wrap_i64])); repeat (with_reducible refine sideA ?_)))
       refine ⟨i + 1, hi', ?_, by omega⟩
       rw [hstep, hsk (of_decide_eq_true g2)]
       simp only [tabH, outC, pairC, List.length_cons, List.length_nil, List.map_cons, List.map_nil, Nat.reduceAdd, Nat.zero_add]
       refine Weak.pick [0, 1, 2] (by decide) (fun j hj => by omega) ?_ ?_
       · simp [LeG, LeC, LeV, ren, pickF, posOf]
       · simp [pickH, pickB, pickF, posOf, ren]
     · (repeat ((repeat1' (first | simp -implicitDefEqProofs -dsimp only [go_sem, g2, hk, hz] | simp -dsimp (disch := omega) only [wrap_i64])); repeat (with_reducible refine sideA ?_)))
       refine condT.split (fun g3 => ?_) (fun g3 => ?_)
       · have g3' : p2.2 = r.Week - 1 := by simpa using g3
         (repeat ((repeat1' (first | simp -implicitDefEqProofs -dsimp only [go_sem, g3, hk] | simp -dsimp (disch := omega) only [wrap_i64])); repeat (with_reducible refine sideA ?_)))
         refine ⟨i + 1, hi', ?_, by omega⟩
         rw [hstep, hme (of_decide_eq_false g2) g3']
         simp only [tabH, outC, pairC, List.length_cons, List.length_nil, List.map_cons, List.map_nil, Nat.reduceAdd, Nat.zero_add]
         refine Weak.pick [0, 1, 3] (by decide) (fun j hj => by omega) ?_ ?_
         · simp [LeG, LeC, LeV, ren, pickF, posOf]
         · simp [pickH, pickB, pickF, posOf, ren]
       · have g3' : p2.2 ≠ r.Week - 1 := by simpa using g3
         (repeat ((repeat1' (first | simp -implicitDefEqProofs -dsimp only [go_sem, g3, hk] | simp -dsimp (disch := omega) only [wrap_i64])); repeat (with_reducible refine sideA ?_)))
         refine ⟨i + 1, hi', ?_, by omega⟩
         rw [hstep, hnw (of_decide_eq_false g2) g3']
         simp only [tabH, outC, pairC, List.length_cons, List.length_nil, List.map_cons, List.map_nil, Nat.reduceAdd, Nat.zero_add]
         refine Weak.pick [0, 1, 2, 3] (by decide) (fun j hj => by omega) ?_ ?_
         · simp [LeG, LeC, LeV, ren, pickF, posOf]
         · simp [pickH, pickB, pickF, posOf, ren]
   · have hsk : r.Events ≤ lim → swS lim [p1, p2, p3] r = [p1, p2, p3] := fun h => by simp [swS, h]
     have hme : ¬ r.Events ≤ lim → p3.2 = r.Week - 1 → swS lim [p1, p2, p3] r = [p1, p2, (p3.1, r.Week)] := fun h h2 => by simp [swS, h, h2]
     have hnw : ¬ r.Events ≤ lim → p3.2 ≠ r.Week - 1 → swS lim [p1, p2, p3] r = [p1, p2, p3, (r.Week, r.Week)] := fun h h2 => by simp [swS, h, h2]
     have hk : IntKind.i64.wrap (((3 : Nat) : Int) - 1) = 2 := by rw [wrap_i64 (by omega) (by omega)]; rfl
     have hz : decide ((0 : Int) < ((3 : Nat) : Int)) = true := by decide
     simp only [tabH, outC, pairC, List.length_cons, List.length_nil, List.map_cons, List.map_nil, Nat.reduceAdd, Nat.zero_add]
     (repeat ((repeat1' (first | simp -implicitDefEqProofs -dsimp only [go_sem, g1, hr0, WeekRow.cs, List.drop_succ_cons, List.drop_zero] | simp -dsimp (disch := omega) only [wrap_i64])); repeat (with_reducible refine sideA ?_)))
     refine condT.split (fun g2 => ?_) (fun g2 => ?_)
     · (repeat ((repeat1' (first | simp -implicitDefEqProofs -dsimp only [go_sem, g2] | simp -dsimp (disch := omega) only [wrap_i64])); repeat (with_reducible refine sideA ?_)))
       refine ⟨i + 1, hi', ?_, by omega⟩
       rw [hstep, hsk (of_decide_eq_true g2)]
       simp only [tabH, outC, pairC, List.length_cons, List.length_nil, List.map_cons, List.map_nil, Nat.reduceAdd, Nat.zero_add]
       refine Weak.pick [0, 1, 2, 3] (by decide) (fun j hj => by omega) ?_ ?_
       · simp [LeG, LeC, LeV, ren, pickF, posOf]
       · simp [pickH, pickB, pickF, posOf, ren]
     · (repeat ((repeat1' (first | simp -implicitDefEqProofs -dsimp only [go_sem, g2, hk, hz] | simp -dsimp (disch := omega) only [wrap_i64])); repeat (with_reducible refine sideA ?_)))
       refine condT.split (fun g3 => ?_) (fun g3 => ?_)
       · have g3' : p3.2 = r.Week - 1 := by simpa using g3
         (repeat ((repeat1' (first | simp -implicitDefEqProofs -dsimp only [go_sem, g3, hk] | simp -dsimp (disch := omega) only [wrap_i64])); repeat (with_reducible refine sideA ?_)))
         refine ⟨i + 1, hi', ?_, by omega⟩
         rw [hstep, hme (of_decide_eq_false g2) g3']
         simp only [tabH, outC, pairC, List.length_cons, List.length_nil, List.map_cons, List.map_nil, Nat.reduceAdd, Nat.zero_add]
         refine Weak.pick [0, 1, 2, 4] (by decide) (fun j hj => by omega) ?_ ?_
         · simp [LeG, LeC, LeV, ren, pickF, posOf]
         · simp [pickH, pickB, pickF, posOf, ren]
       · have g3' : p3.2 ≠ r.Week - 1 := by simpa using g3
         (repeat ((repeat1' (first | simp -implicitDefEqProofs -dsimp only [go_sem, g3, hk] | simp -dsimp (disch := omega) only [wrap_i64])); repeat (with_reducible refine sideA ?_)))
         refine ⟨i + 1, hi', ?_, by omega⟩
         rw [hstep, hnw (of_decide_eq_false g2) g3']
         simp only [tabH, outC, pairC, List.length_cons, List.length_nil, List.map_cons, List.map_nil, Nat.reduceAdd, Nat.zero_add]
         refine Weak.pick [0, 1, 2, 3, 4] (by decide) (fun j hj => by omega) ?_ ?_
         · simp [LeG, LeC, LeV, ren, pickF, posOf]
         · simp [pickH, pickB, pickF, posOf, ren]
   · have hsk : r.Events ≤ lim → swS lim [p1, p2, p3, p4] r = [p1, p2, p3, p4] := fun h => by simp [swS, h]
     have hme : ¬ r.Events ≤ lim → p4.2 = r.Week - 1 → swS lim [p1, p2, p3, p4] r = [p1, p2, p3, (p4.1, r.Week)] := fun h h2 => by simp [swS, h, h2]
     have hnw : ¬ r.Events ≤ lim → p4.2 ≠ r.Week - 1 → swS lim [p1, p2, p3, p4] r = [p1, p2, p3, p4, (r.Week, r.Week)] := fun h h2 => by simp [swS, h, h2]
     have hk : IntKind.i64.wrap (((4 : Nat) : Int) - 1) = 3 := by rw [wrap_i64 (by omega) (by omega)]; rfl
     have hz : decide ((0 : Int) < ((4 : Nat) : Int)) = true := by decide
     simp only [tabH, outC, pairC, List.length_cons, List.length_nil, List.map_cons, List.map_nil, Nat.reduceAdd, Nat.zero_add]
     (repeat ((repeat1' (first | simp -implicitDefEqProofs -dsimp only [go_sem, g1, hr0, WeekRow.cs, List.drop_succ_cons, List.drop_zero] | simp -dsimp (disch := omega) only [wrap_i64])); repeat (with_reducible refine sideA ?_)))
     refine condT.split (fun g2 => ?_) (fun g2 => ?_)
     · (repeat ((repeat1' (first | simp -implicitDefEqProofs -dsimp only [go_sem, g2] | simp -dsimp (disch := omega) only [wrap_i64])); repeat (with_reducible refine sideA ?_)))
       refine ⟨i + 1, hi', ?_, by omega⟩
       rw [hstep, hsk (of_decide_eq_true g2)]
       simp only [tabH, outC, pairC, List.length_cons, List.length_nil, List.map_cons, List.map_nil, Nat.reduceAdd, Nat.zero_add]
       refine Weak.pick [0, 1, 2, 3, 4] (by decide) (fun j hj => by omega) ?_ ?_
       · simp [LeG, LeC, LeV, ren, pickF, posOf]
       · simp [pickH, pickB, pickF, posOf, ren]
     · (repeat ((repeat1' (first | simp -implicitDefEqProofs -dsimp only [go_sem, g2, hk, hz] | simp -dsimp (disch := omega) only [wrap_i64])); repeat (with_reducible refine sideA ?_)))
       refine condT.split (fun g3 => ?_) (fun g3 => ?_)
       · have g3' : p4.2 = r.Week - 1 := by simpa using g3
         (repeat ((repeat1' (first | simp -implicitDefEqProofs -dsimp only [go_sem, g3, hk] | simp -dsimp (disch := omega) only [wrap_i64])); repeat (with_reducible refine sideA ?_)))
         refine ⟨i + 1, hi', ?_, by omega⟩
         rw [hstep, hme (of_decide_eq_false g2) g3']
         simp only [tabH, outC, pairC, List.length_cons, List.length_nil, List.map_cons, List.map_nil, Nat.reduceAdd, Nat.zero_add]
         refine Weak.pick [0, 1, 2, 3, 5] (by decide) (fun j hj => by omega) ?_ ?_
         · simp [LeG, LeC, LeV, ren, pickF, posOf]
         · simp [pickH, pickB, pickF, posOf, ren]
       · have g3' : p4.2 ≠ r.Week - 1 := by simpa using g3
         (repeat ((repeat1' (first | simp -implicitDefEqProofs -dsimp only [go_sem, g3, hk] | simp -dsimp (disch := omega) only [wrap_i64])); repeat (with_reducible refine sideA ?_)))
         refine ⟨i + 1, hi', ?_, by omega⟩
         rw [hstep, hnw (of_decide_eq_false g2) g3']
         simp only [tabH, outC, pairC, List.length_cons, List.length_nil, List.map_cons, List.map_nil, Nat.reduceAdd, Nat.zero_add]
         refine Weak.pick [0, 1, 2, 3, 4, 5] (by decide) (fun j hj => by omega) ?_ ?_
         · simp [LeG, LeC, LeV, ren, pickF, posOf]
         · simp [pickH, pickB, pickF, posOf, ren]
   · have hsk : r.Events ≤ lim → swS lim [p1, p2, p3, p4, p5] r = [p1, p2, p3, p4, p5] := fun h => by simp [swS, h]
     have hme : ¬ r.Events ≤ lim → p5.2 = r.Week - 1 → swS lim [p1, p2, p3, p4, p5] r = [p1, p2, p3, p4, (p5.1, r.Week)] := fun h h2 => by simp [swS, h, h2]
     have hnw : ¬ r.Events ≤ lim → p5.2 ≠ r.Week - 1 → swS lim [p1, p2, p3, p4, p5] r = [p1, p2, p3, p4, p5, (r.Week, r.Week)] := fun h h2 => by simp [swS, h, h2]
     have hk : IntKind.i64.wrap (((5 : Nat) : Int) - 1) = 4 := by rw [wrap_i64 (by omega) (by omega)]; rfl
     have hz : decide ((0 : Int) < ((5 : Nat) : Int)) = true := by decide
     simp only [tabH, outC, pairC, List.length_cons, List.length_nil, List.map_cons, List.map_nil, Nat.reduceAdd, Nat.zero_add]
     (repeat ((repeat1' (first | simp -implicitDefEqProofs -dsimp only [go_sem, g1, hr0, WeekRow.cs, List.drop_succ_cons, List.drop_zero] | simp -dsimp (disch := omega) only [wrap_i64])); repeat (with_reducible refine sideA ?_)))
     refine condT.split (fun g2 => ?_) (fun g2 => ?_)
     · (repeat ((repeat1' (first | simp -implicitDefEqProofs -dsimp only [go_sem, g2] | simp -dsimp (disch := omega) only [wrap_i64])); repeat (with_reducible refine sideA ?_)))
       refine ⟨i + 1, hi', ?_, by omega⟩
       rw [hstep, hsk (of_decide_eq_true g2)]
       simp only [tabH, outC, pairC, List.length_cons, List.length_nil, List.map_cons, List.map_nil, Nat.reduceAdd, Nat.zero_add]
       refine Weak.pick [0, 1, 2, 3, 4, 5] (by decide) (fun j hj => by omega) ?_ ?_
       · simp [LeG, LeC, LeV, ren, pickF, posOf]
       · simp [pickH, pickB, pickF, posOf, ren]
     · (repeat ((repeat1' (first | simp -implicitDefEqProofs -dsimp only [go_sem, g2, hk, hz] | simp -dsimp (disch := omega) only [wrap_i64])); repeat (with_reducible refine sideA ?_)))
       refine condT.split (fun g3 => ?_) (fun g3 => ?_)
       · have g3' : p5.2 = r.Week - 1 := by simpa using g3
         (repeat ((repeat1' (first | simp -implicitDefEqProofs -dsimp only [go_sem, g3, hk] | simp -dsimp (disch := omega) only [wrap_i64])); repeat (with_reducible refine sideA ?_)))
         refine ⟨i + 1, hi', ?_, by omega⟩
         rw [hstep, hme (of_decide_eq_false g2) g3']
         simp only [tabH, outC, pairC, List.length_cons, List.length_nil, List.map_cons, List.map_nil, Nat.reduceAdd, Nat.zero_add]
         refine Weak.pick [0, 1, 2, 3, 4, 6] (by decide) (fun j hj => by omega) ?_ ?_
         · simp [LeG, LeC, LeV, ren, pickF, posOf]
         · simp [pickH, pickB, pickF, posOf, ren]
       · have g3' : p5.2 ≠ r.Week - 1 := by simpa using g3
         (repeat ((repeat1' (first | simp -implicitDefEqProofs -dsimp only [go_sem, g3, hk] | simp -dsimp (disch := omega) only [wrap_i64])); repeat (with_reducible refine sideA ?_)))
         refine ⟨i + 1, hi', ?_, by omega⟩
         rw [hstep, hnw (of_decide_eq_false g2) g3']
         simp only [tabH, outC, pairC, List.length_cons, List.length_nil, List.map_cons, List.map_nil, Nat.reduceAdd, Nat.zero_add]
         refine Weak.pick [0, 1, 2, 3, 4, 5, 6] (by decide) (fun j hj => by omega) ?_ ?_
         · simp [LeG, LeC, LeV, ren, pickF, posOf]
         · simp [pickH, pickB, pickF, posOf, ren]
   · have hsk : r.Events ≤ lim → swS lim [p1, p2, p3, p4, p5, p6] r = [p1, p2, p3, p4, p5, p6] := fun h => by simp [swS, h]
     have hme : ¬ r.Events ≤ lim → p6.2 = r.Week - 1 → swS lim [p1, p2, p3, p4, p5, p6] r = [p1, p2, p3, p4, p5, (p6.1, r.Week)] := fun h h2 => by simp [swS, h, h2]
     have hnw : ¬ r.Events ≤ lim → p6.2 ≠ r.Week - 1 → swS lim [p1, p2, p3, p4, p5, p6] r = [p1, p2, p3, p4, p5, p6, (r.Week, r.Week)] := fun h h2 => by simp [swS, h, h2]
     have hk : IntKind.i64.wrap (((6 : Nat) : Int) - 1) = 5 := by rw [wrap_i64 (by omega) (by omega)]; rfl
     have hz : decide ((0 : Int) < ((6 : Nat) : Int)) = true := by decide
     simp only [tabH, outC, pairC, List.length_cons, List.length_nil, List.map_cons, List.map_nil, Nat.reduceAdd, Nat.zero_add]
     (repeat ((repeat1' (first | simp -implicitDefEqProofs -dsimp only [go_sem, g1, hr0, WeekRow.cs, List.drop_succ_cons, List.drop_zero] | simp -dsimp (disch := omega) only [wrap_i64])); repeat (with_reducible refine sideA ?_)))
     refine condT.split (fun g2 => ?_) (fun g2 => ?_)
     · (repeat ((repeat1' (first | simp -implicitDefEqProofs -dsimp only [go_sem, g2] | simp -dsimp (disch := omega) only [wrap_i64])); repeat (with_reducible refine sideA ?_)))
       refine ⟨i + 1, hi', ?_, by omega⟩
       rw [hstep, hsk (of_decide_eq_true g2)]
       simp only [tabH, outC, pairC, List.length_cons, List.length_nil, List.map_cons, List.map_nil, Nat.reduceAdd, Nat.zero_add]
       refine Weak.pick [0, 1, 2, 3, 4, 5, 6] (by decide) (fun j hj => by omega) ?_ ?_
       · simp [LeG, LeC, LeV, ren, pickF, posOf]
       · simp [pickH, pickB, pickF, posOf, ren]
     · (repeat ((repeat1' (first | simp -implicitDefEqProofs -dsimp only [go_sem, g2, hk, hz] | simp -dsimp (disch := omega) only [wrap_i64])); repeat (with_reducible refine sideA ?_)))
       refine condT.split (fun g3 => ?_) (fun g3 => ?_)
       · have g3' : p6.2 = r.Week - 1 := by simpa using g3
         (repeat ((repeat1' (first | simp -implicitDefEqProofs -dsimp only [go_sem, g3, hk] | simp -dsimp (disch := omega) only [wrap_i64])); repeat (with_reducible refine sideA ?_)))
         refine ⟨i + 1, hi', ?_, by omega⟩
         rw [hstep, hme (of_decide_eq_false g2) g3']
         simp only [tabH, outC, pairC, List.length_cons, List.length_nil, List.map_cons, List.map_nil, Nat.reduceAdd, Nat.zero_add]
         refine Weak.pick [0, 1, 2, 3, 4, 5, 7] (by decide) (fun j hj => by omega) ?_ ?_
         · simp [LeG, LeC, LeV, ren, pickF, posOf]
         · simp [pickH, pickB, pickF, posOf, ren]
       · have g3' : p6.2 ≠ r.Week - 1 := by simpa using g3
         (repeat ((repeat1' (first | simp -implicitDefEqProofs -dsimp only [go_sem, g3, hk] | simp -dsimp (disch := omega) only [wrap_i64])); repeat (with_reducible refine sideA ?_)))
         refine ⟨i + 1, hi', ?_, by omega⟩
         rw [hstep, hnw (of_decide_eq_false g2) g3']
         simp only [tabH, outC, pairC, List.length_cons, List.length_nil, List.map_cons, List.map_nil, Nat.reduceAdd, Nat.zero_add]
         refine Weak.pick [0, 1, 2, 3, 4, 5, 6, 7] (by decide) (fun j hj => by omega) ?_ ?_
         · simp [LeG, LeC, LeV, ren, pickF, posOf]
         · simp [pickH, pickB, pickF, posOf, ren]
   · have hsk : r.Events ≤ lim → swS lim [p1, p2, p3, p4, p5, p6, p7] r = [p1, p2, p3, p4, p5, p6, p7] := fun h => by simp [swS, h]
     have hme : ¬ r.Events ≤ lim → p7.2 = r.Week - 1 → swS lim [p1, p2, p3, p4, p5, p6, p7] r = [p1, p2, p3, p4, p5, p6, (p7.1, r.Week)] := fun h h2 => by simp [swS, h, h2]
     have hnw : ¬ r.Events ≤ lim → p7.2 ≠ r.Week - 1 → swS lim [p1, p2, p3, p4, p5, p6, p7] r = [p1, p2, p3, p4, p5, p6, p7, (r.Week, r.Week)] := fun h h2 => by simp [swS, h, h2]
     have hk : IntKind.i64.wrap (((7 : Nat) : Int) - 1) = 6 := by rw [wrap_i64 (by omega) (by omega)]; rfl
     have hz : decide ((0 : Int) < ((7 : Nat) : Int)) = true := by decide
     simp only [tabH, outC, pairC, List.length_cons, List.length_nil, List.map_cons, List.map_nil, Nat.reduceAdd, Nat.zero_add]
     (repeat ((repeat1' (first | simp -implicitDefEqProofs -dsimp only [go_sem, g1, hr0, WeekRow.cs, List.drop_succ_cons, List.drop_zero] | simp -dsimp (disch := omega) only [wrap_i64])); repeat (with_reducible refine sideA ?_)))
     refine condT.split (fun g2 => ?_) (fun g2 => ?_)
     · (repeat ((repeat1' (first | simp -implicitDefEqProofs -dsimp only [go_sem, g2] | simp -dsimp (disch := omega) only [wrap_i64])); repeat (with_reducible refine sideA ?_)))
       refine ⟨i + 1, hi', ?_, by omega⟩
       rw [hstep, hsk (of_decide_eq_true g2)]
       simp only [tabH, outC, pairC, List.length_cons, List.length_nil, List.map_cons, List.map_nil, Nat.reduceAdd, Nat.zero_add]
       refine Weak.pick [0, 1, 2, 3, 4, 5, 6, 7] (by decide) (fun j hj => by omega) ?_ ?_
       · simp [LeG, LeC, LeV, ren, pickF, posOf]
       · simp [pickH, pickB, pickF, posOf, ren]
     · (repeat ((repeat1' (first | simp -implicitDefEqProofs -dsimp only [go_sem, g2, hk, hz] | simp -dsimp (disch := omega) only [wrap_i64])); repeat (with_reducible refine sideA ?_)))
       refine condT.split (fun g3 => ?_) (fun g3 => ?_)
       · have g3' : p7.2 = r.Week - 1 := by simpa using g3
         (repeat ((repeat1' (first | simp -implicitDefEqProofs -dsimp only [go_sem, g3, hk] | simp -dsimp (disch := omega) only [wrap_i64])); repeat (with_reducible refine sideA ?_)))
         refine ⟨i + 1, hi', ?_, by omega⟩
         rw [hstep, hme (of_decide_eq_false g2) g3']
         simp only [tabH, outC, pairC, List.length_cons, List.length_nil, List.map_cons, List.map_nil, Nat.reduceAdd, Nat.zero_add]
         refine Weak.pick [0, 1, 2, 3, 4, 5, 6, 8] (by decide) (fun j hj => by omega) ?_ ?_
         · simp [LeG, LeC, LeV, ren, pickF, posOf]
         · simp [pickH, pickB, pickF, posOf, ren]
       · have g3' : p7.2 ≠ r.Week - 1 := by simpa using g3
         (repeat ((repeat1' (first | simp -implicitDefEqProofs -dsimp only [go_sem, g3, hk] | simp -dsimp (disch := omega) only [wrap_i64])); repeat (with_reducible refine sideA ?_)))
         refine ⟨i + 1, hi', ?_, by omega⟩
         rw [hstep, hnw (of_decide_eq_false g2) g3']
         simp only [tabH, outC, pairC, List.length_cons, List.length_nil, List.map_cons, List.map_nil, Nat.reduceAdd, Nat.zero_add]
         refine Weak.pick [0, 1, 2, 3, 4, 5, 6, 7, 8] (by decide) (fun j hj => by omega) ?_ ?_
         · simp [LeG, LeC, LeV, ren, pickF, posOf]
         · simp [pickH, pickB, pickF, posOf, ren]
   · have hsk : r.Events ≤ lim → swS lim [p1, p2, p3, p4, p5, p6, p7, p8] r = [p1, p2, p3, p4, p5, p6, p7, p8] := fun h => by simp [swS, h]
     have hme : ¬ r.Events ≤ lim → p8.2 = r.Week - 1 → swS lim [p1, p2, p3, p4, p5, p6, p7, p8] r = [p1, p2, p3, p4, p5, p6, p7, (p8.1, r.Week)] := fun h h2 => by simp [swS, h, h2]
     have hnw : ¬ r.Events ≤ lim → p8.2 ≠ r.Week - 1 → swS lim [p1, p2, p3, p4, p5, p6, p7, p8] r = [p1, p2, p3, p4, p5, p6, p7, p8, (r.Week, r.Week)] := fun h h2 => by simp [swS, h, h2]
     have hk : IntKind.i64.wrap (((8 : Nat) : Int) - 1) = 7 := by rw [wrap_i64 (by omega) (by omega)]; rfl
     have hz : decide ((0 : Int) < ((8 : Nat) : Int)) = true := by decide
     simp only [tabH, outC, pairC, List.length_cons, List.length_nil, List.map_cons, List.map_nil, Nat.reduceAdd, Nat.zero_add]
     (repeat ((repeat1' (first | simp -implicitDefEqProofs -dsimp only [go_sem, g1, hr0, WeekRow.cs, List.drop_succ_cons, List.drop_zero] | simp -dsimp (disch := omega) only [wrap_i64])); repeat (with_reducible refine sideA ?_)))
     refine condT.split (fun g2 => ?_) (fun g2 => ?_)
     · (repeat ((repeat1' (first | simp -implicitDefEqProofs -dsimp only [go_sem, g2] | simp -dsimp (disch := omega) only [wrap_i64])); repeat (with_reducible refine sideA ?_)))
       refine ⟨i + 1, hi', ?_, by omega⟩
       rw [hstep, hsk (of_decide_eq_true g2)]
       simp only [tabH, outC, pairC, List.length_cons, List.length_nil, List.map_cons, List.map_nil, Nat.reduceAdd, Nat.zero_add]
       refine Weak.pick [0, 1, 2, 3, 4, 5, 6, 7, 8] (by decide) (fun j hj => by omega) ?_ ?_
       · simp [LeG, LeC, LeV, ren, pickF, posOf]
       · simp [pickH, pickB, pickF, posOf, ren]
     · (repeat ((repeat1' (first | simp -implicitDefEqProofs -dsimp only [go_sem, g2, hk, hz] | simp -dsimp (disch := omega) only [wrap_i64])); repeat (with_reducible refine sideA ?_)))
       refine condT.split (fun g3 => ?_) (fun g3 => ?_)
       · have g3' : p8.2 = r.Week - 1 := by simpa using g3
         (repeat ((repeat1' (first | simp -implicitDefEqProofs -dsimp only [go_sem, g3, hk] | simp -dsimp (disch := omega) only [wrap_i64])); repeat (with_reducible refine sideA ?_)))
         refine ⟨i + 1, hi', ?_, by omega⟩
         rw [hstep, hme (of_decide_eq_false g2) g3']
         simp only [tabH, outC, pairC, List.length_cons, List.length_nil, List.map_cons, List.map_nil, Nat.reduceAdd, Nat.zero_add]
         refine Weak.pick [0, 1, 2, 3, 4, 5, 6, 7, 9] (by decide) (fun j hj => by omega) ?_ ?_
         · simp [LeG, LeC, LeV, ren, pickF, posOf]
         · simp [pickH, pickB, pickF, posOf, ren]
       · have g3' : p8.2 ≠ r.Week - 1 := by simpa using g3
         (repeat ((repeat1' (first | simp -implicitDefEqProofs -dsimp only [go_sem, g3, hk] | simp -dsimp (disch := omega) only [wrap_i64])); repeat (with_reducible refine sideA ?_)))
         refine ⟨i + 1, hi', ?_, by omega⟩
         rw [hstep, hnw (of_decide_eq_false g2) g3']
         simp only [tabH, outC, pairC, List.length_cons, List.length_nil, List.map_cons, List.map_nil, Nat.reduceAdd, Nat.zero_add]
         refine Weak.pick [0, 1, 2, 3, 4, 5, 6, 7, 8, 9] (by decide) (fun j hj => by omega) ?_ ?_
         · simp [LeG, LeC, LeV, ren, pickF, posOf]
         · simp [pickH, pickB, pickF, posOf, ren]
   · have hsk : r.Events ≤ lim → swS lim [p1, p2, p3, p4, p5, p6, p7, p8, p9] r = [p1, p2, p3, p4, p5, p6, p7, p8, p9] := fun h => by simp [swS, h]
     have hme : ¬ r.Events ≤ lim → p9.2 = r.Week - 1 → swS lim [p1, p2, p3, p4, p5, p6, p7, p8, p9] r = [p1, p2, p3, p4, p5, p6, p7, p8, (p9.1, r.Week)] := fun h h2 => by simp [swS, h, h2]
     have hnw : ¬ r.Events ≤ lim → p9.2 ≠ r.Week - 1 → swS lim [p1, p2, p3, p4, p5, p6, p7, p8, p9] r = [p1, p2, p3, p4, p5, p6, p7, p8, p9, (r.Week, r.Week)] := fun h h2 => by simp [swS, h, h2]
     have hk : IntKind.i64.wrap (((9 : Nat) : Int) - 1) = 8 := by rw [wrap_i64 (by omega) (by omega)]; rfl
     have hz : decide ((0 : Int) < ((9 : Nat) : Int)) = true := by decide
     simp only [tabH, outC, pairC, List.length_cons, List.length_nil, List.map_cons, List.map_nil, Nat.reduceAdd, Nat.zero_add]
     (repeat ((repeat1' (first | simp -implicitDefEqProofs -dsimp only [go_sem, g1, hr0, WeekRow.cs, List.drop_succ_cons, List.drop_zero] | simp -dsimp (disch := omega) only [wrap_i64])); repeat (with_reducible refine sideA ?_)))
     refine condT.split (fun g2 => ?_) (fun g2 => ?_)
     · (repeat ((repeat1' (first | simp -implicitDefEqProofs -dsimp only [go_sem, g2] | simp -dsimp (disch := omega) only [wrap_i64])); repeat (with_reducible refine sideA ?_)))
       refine ⟨i + 1, hi', ?_, by omega⟩
       rw [hstep, hsk (of_decide_eq_true g2)]
       simp only [tabH, outC, pairC, List.length_cons, List.length_nil, List.map_cons, List.map_nil, Nat.reduceAdd, Nat.zero_add]
       refine Weak.pick [0, 1, 2, 3, 4, 5, 6, 7, 8, 9] (by decide) (fun j hj => by omega) ?_ ?_
       · simp [LeG, LeC, LeV, ren, pickF, posOf]
       · simp [pickH, pickB, pickF, posOf, ren]
     · (repeat ((repeat1' (first | simp -implicitDefEqProofs -dsimp only [go_sem, g2, hk, hz] | simp -dsimp (disch := omega) only [wrap_i64])); repeat (with_reducible refine sideA ?_)))
       refine condT.split (fun g3 => ?_) (fun g3 => ?_)
       · have g3' : p9.2 = r.Week - 1 := by simpa using g3
         (repeat ((repeat1' (first | simp -implicitDefEqProofs -dsimp only [go_sem, g3, hk] | simp -dsimp (disch := omega) only [wrap_i64])); repeat (with_reducible refine sideA ?_)))
         refine ⟨i + 1, hi', ?_, by omega⟩
         rw [hstep, hme (of_decide_eq_false g2) g3']
         simp only [tabH, outC, pairC, List.length_cons, List.length_nil, List.map_cons, List.map_nil, Nat.reduceAdd, Nat.zero_add]
         refine Weak.pick [0, 1, 2, 3, 4, 5, 6, 7, 8, 10] (by decide) (fun j hj => by omega) ?_ ?_
         · simp [LeG, LeC, LeV, ren, pickF, posOf]
         · simp [pickH, pickB, pickF, posOf, ren]
       · have g3' : p9.2 ≠ r.Week - 1 := by simpa using g3
         (repeat ((repeat1' (first | simp -implicitDefEqProofs -dsimp only [go_sem, g3, hk] | simp -dsimp (disch := omega) only [wrap_i64])); repeat (with_reducible refine sideA ?_)))
         refine ⟨i + 1, hi', ?_, by omega⟩
         rw [hstep, hnw (of_decide_eq_false g2) g3']
         simp only [tabH, outC, pairC, List.length_cons, List.length_nil, List.map_cons, List.map_nil, Nat.reduceAdd, Nat.zero_add]
         refine Weak.pick [0, 1, 2, 3, 4, 5, 6, 7, 8, 9, 10] (by decide) (fun j hj => by omega) ?_ ?_
         · simp [LeG, LeC, LeV, ren, pickF, posOf]
         · simp [pickH, pickB, pickF, posOf, ren]
   · have hsk : r.Events ≤ lim → swS lim [p1, p2, p3, p4, p5, p6, p7, p8, p9, p10] r = [p1, p2, p3, p4, p5, p6, p7, p8, p9, p10] := fun h => by simp [swS, h]
     have hme : ¬ r.Events ≤ lim → p10.2 = r.Week - 1 → swS lim [p1, p2, p3, p4, p5, p6, p7, p8, p9, p10] r = [p1, p2, p3, p4, p5, p6, p7, p8, p9, (p10.1, r.Week)] := fun h h2 => by simp [swS, h, h2]
     have hnw : ¬ r.Events ≤ lim → p10.2 ≠ r.Week - 1 → swS lim [p1, p2, p3, p4, p5, p6, p7, p8, p9, p10] r = [p1, p2, p3, p4, p5, p6, p7, p8, p9, p10, (r.Week, r.Week)] := fun h h2 => by simp [swS, h, h2]
     have hk : IntKind.i64.wrap (((10 : Nat) : Int) - 1) = 9 := by rw [wrap_i64 (by omega) (by omega)]; rfl
     have hz : decide ((0 : Int) < ((10 : Nat) : Int)) = true := by decide
     simp only [tabH, outC, pairC, List.length_cons, List.length_nil, List.map_cons, List.map_nil, Nat.reduceAdd, Nat.zero_add]
     (repeat ((repeat1' (first | simp -implicitDefEqProofs -dsimp only [go_sem, g1, hr0, WeekRow.cs, List.drop_succ_cons, List.drop_zero] | simp -dsimp (disch := omega) only [wrap_i64])); repeat (with_reducible refine sideA ?_)))
     refine condT.split (fun g2 => ?_) (fun g2 => ?_)
     · (repeat ((repeat1' (first | simp -implicitDefEqProofs -dsimp only [go_sem, g2] | simp -dsimp (disch := omega) only [wrap_i64])); repeat (with_reducible refine sideA ?_)))
       refine ⟨i + 1, hi', ?_, by omega⟩
       rw [hstep, hsk (of_decide_eq_true g2)]
       simp only [tabH, outC, pairC, List.length_cons, List.length_nil, List.map_cons, List.map_nil, Nat.reduceAdd, Nat.zero_add]
       refine Weak.pick [0, 1, 2, 3, 4, 5, 6, 7, 8, 9, 10] (by decide) (fun j hj => by omega) ?_ ?_
       · simp [LeG, LeC, LeV, ren, pickF, posOf]
       · simp [pickH, pickB, pickF, posOf, ren]
     · (repeat ((repeat1' (first | simp -implicitDefEqProofs -dsimp only [go_sem, g2, hk, hz] | simp -dsimp (disch := omega) only [wrap_i64])); repeat (with_reducible refine sideA ?_)))
       refine condT.split (fun g3 => ?_) (fun g3 => ?_)
       · have g3' : p10.2 = r.Week - 1 := by simpa using g3
         (repeat ((repeat1' (first | simp -implicitDefEqProofs -dsimp only [go_sem, g3, hk] | simp -dsimp (disch := omega) only [wrap_i64])); repeat (with_reducible refine sideA ?_)))
         refine ⟨i + 1, hi', ?_, by omega⟩
         rw [hstep, hme (of_decide_eq_false g2) g3']
         simp only [tabH, outC, pairC, List.length_cons, List.length_nil, List.map_cons, List.map_nil, Nat.reduceAdd, Nat.zero_add]
         refine Weak.pick [0, 1, 2, 3, 4, 5, 6, 7, 8, 9, 11] (by decide) (fun j hj => by omega) ?_ ?_
         · simp [LeG, LeC, LeV, ren, pickF, posOf]
         · simp [pickH, pickB, pickF, posOf, ren]
       · have g3' : p10.2 ≠ r.Week - 1 := by simpa using g3
         (repeat ((repeat1' (first | simp -implicitDefEqProofs -dsimp only [go_sem, g3, hk] | simp -dsimp (disch := omega) only [wrap_i64])); repeat (with_reducible refine sideA ?_)))
         refine ⟨i + 1, hi', ?_, by omega⟩
         rw [hstep, hnw (of_decide_eq_false g2) g3']
         simp only [tabH, outC, pairC, List.length_cons, List.length_nil, List.map_cons, List.map_nil, Nat.reduceAdd, Nat.zero_add]
         refine Weak.pick [0, 1, 2, 3, 4, 5, 6, 7, 8, 9, 10, 11] (by decide) (fun j hj => by omega) ?_ ?_
         · simp [LeG, LeC, LeV, ren, pickF, posOf]
         · simp [pickH, pickB, pickF, posOf, ren]
   · have hsk : r.Events ≤ lim → swS lim [p1, p2, p3, p4, p5, p6, p7, p8, p9, p10, p11] r = [p1, p2, p3, p4, p5, p6, p7, p8, p9, p10, p11] := fun h => by simp [swS, h]
     have hme : ¬ r.Events ≤ lim → p11.2 = r.Week - 1 → swS lim [p1, p2, p3, p4, p5, p6, p7, p8, p9, p10, p11] r = [p1, p2, p3, p4, p5, p6, p7, p8, p9, p10, (p11.1, r.Week)] := fun h h2 => by simp [swS, h, h2]
     have hnw : ¬ r.Events ≤ lim → p11.2 ≠ r.Week - 1 → swS lim [p1, p2, p3, p4, p5, p6, p7, p8, p9, p10, p11] r = [p1, p2, p3, p4, p5, p6, p7, p8, p9, p10, p11, (r.Week, r.Week)] := fun h h2 => by simp [swS, h, h2]
     have hk : IntKind.i64.wrap (((11 : Nat) : Int) - 1) = 10 := by rw [wrap_i64 (by omega) (by omega)]; rfl
     have hz : decide ((0 : Int) < ((11 : Nat) : Int)) = true := by decide
     simp only [tabH, outC, pairC, List.length_cons, List.length_nil, List.map_cons, List.map_nil, Nat.reduceAdd, Nat.zero_add]
     (repeat ((repeat1' (first | simp -implicitDefEqProofs -dsimp only [go_sem, g1, hr0, WeekRow.cs, List.drop_succ_cons, List.drop_zero] | simp -dsimp (disch := omega) only [wrap_i64])); repeat (with_reducible refine sideA ?_)))
     refine condT.split (fun g2 => ?_) (fun g2 => ?_)
     · (repeat ((repeat1' (first | simp -implicitDefEqProofs -dsimp only [go_sem, g2] | simp -dsimp (disch := omega) only [wrap_i64])); repeat (with_reducible refine sideA ?_)))
       refine ⟨i + 1, hi', ?_, by omega⟩
       rw [hstep, hsk (of_decide_eq_true g2)]
       simp only [tabH, outC, pairC, List.length_cons, List.length_nil, List.map_cons, List.map_nil, Nat.reduceAdd, Nat.zero_add]
       refine Weak.pick [0, 1, 2, 3, 4, 5, 6, 7, 8, 9, 10, 11] (by decide) (fun j hj => by omega) ?_ ?_
       · simp [LeG, LeC, LeV, ren, pickF, posOf]
       · simp [pickH, pickB, pickF, posOf, ren]
     · (repeat ((repeat1' (first | simp -implicitDefEqProofs -dsimp only [go_sem, g2, hk, hz] | simp -dsimp (disch := omega) only [wrap_i64])); repeat (with_reducible refine sideA ?_)))
       refine condT.split (fun g3 => ?_) (fun g3 => ?_)
       · have g3' : p11.2 = r.Week - 1 := by simpa using g3
         (repeat ((repeat1' (first | simp -implicitDefEqProofs -dsimp only [go_sem, g3, hk] | simp -dsimp (disch := omega) only [wrap_i64])); repeat (with_reducible refine sideA ?_)))
         refine ⟨i + 1, hi', ?_, by omega⟩
         rw [hstep, hme (of_decide_eq_false g2) g3']
         simp only [tabH, outC, pairC, List.length_cons, List.length_nil, List.map_cons, List.map_nil, Nat.reduceAdd, Nat.zero_add]
         refine Weak.pick [0, 1, 2, 3, 4, 5, 6, 7, 8, 9, 10, 12] (by decide) (fun j hj => by omega) ?_ ?_
         · simp [LeG, LeC, LeV, ren, pickF, posOf]
         · simp [pickH, pickB, pickF, posOf, ren]
       · have g3' : p11.2 ≠ r.Week - 1 := by simpa using g3
         (repeat ((repeat1' (first | simp -implicitDefEqProofs -dsimp only [go_sem, g3, hk] | simp -dsimp (disch := omega) only [wrap_i64])); repeat (with_reducible refine sideA ?_)))
         refine ⟨i + 1, hi', ?_, by omega⟩
         rw [hstep, hnw (of_decide_eq_false g2) g3']
         simp only [tabH, outC, pairC, List.length_cons, List.length_nil, List.map_cons, List.map_nil, Nat.reduceAdd, Nat.zero_add]
         refine Weak.pick [0, 1, 2, 3, 4, 5, 6, 7, 8, 9, 10, 11, 12] (by decide) (fun j hj => by omega) ?_ ?_
         · simp [LeG, LeC, LeV, ren, pickF, posOf]
         · simp [pickH, pickB, pickF, posOf, ren]
   · have hsk : r.Events ≤ lim → swS lim [p1, p2, p3, p4, p5, p6, p7, p8, p9, p10, p11, p12] r = [p1, p2, p3, p4, p5, p6, p7, p8, p9, p10, p11, p12] := fun h => by simp [swS, h]
     have hme : ¬ r.Events ≤ lim → p12.2 = r.Week - 1 → swS lim [p1, p2, p3, p4, p5, p6, p7, p8, p9, p10, p11, p12] r = [p1, p2, p3, p4, p5, p6, p7, p8, p9, p10, p11, (p12.1, r.Week)] := fun h h2 => by simp [swS, h, h2]
     have hnw : ¬ r.Events ≤ lim → p12.2 ≠ r.Week - 1 → swS lim [p1, p2, p3, p4, p5, p6, p7, p8, p9, p10, p11, p12] r = [p1, p2, p3, p4, p5, p6, p7, p8, p9, p10, p11, p12, (r.Week, r.Week)] := fun h h2 => by simp [swS, h, h2]
     have hk : IntKind.i64.wrap (((12 : Nat) : Int) - 1) = 11 := by rw [wrap_i64 (by omega) (by omega)]; rfl
     have hz : decide ((0 : Int) < ((12 : Nat) : Int)) = true := by decide
     simp only [tabH, outC, pairC, List.length_cons, List.length_nil, List.map_cons, List.map_nil, Nat.reduceAdd, Nat.zero_add]
     (repeat ((repeat1' (first | simp -implicitDefEqProofs -dsimp only [go_sem, g1, hr0, WeekRow.cs, List.drop_succ_cons, List.drop_zero] | simp -dsimp (disch := omega) only [wrap_i64])); repeat (with_reducible refine sideA ?_)))
     refine condT.split (fun g2 => ?_) (fun g2 => ?_)
     · (repeat ((repeat1' (first | simp -implicitDefEqProofs -dsimp only [go_sem, g2] | simp -dsimp (disch := omega) only [wrap_i64])); repeat (with_reducible refine sideA ?_)))
       refine ⟨i + 1, hi', ?_, by omega⟩
       rw [hstep, hsk (of_decide_eq_true g2)]
       simp only [tabH, outC, pairC, List.length_cons, List.length_nil, List.map_cons, List.map_nil, Nat.reduceAdd, Nat.zero_add]
       refine Weak.pick [0, 1, 2, 3, 4, 5, 6, 7, 8, 9, 10, 11, 12] (by decide) (fun j hj => by omega) ?_ ?_
       · simp [LeG, LeC, LeV, ren, pickF, posOf]
       · simp [pickH, pickB, pickF, posOf, ren]
     · (repeat ((repeat1' (first | simp -implicitDefEqProofs -dsimp only [go_sem, g2, hk, hz] | simp -dsimp (disch := omega) only [wrap_i64])); repeat (with_reducible refine sideA ?_)))
       refine condT.split (fun g3 => ?_) (fun g3 => ?_)
       · have g3' : p12.2 = r.Week - 1 := by simpa using g3
         (repeat ((repeat1' (first | simp -implicitDefEqProofs -dsimp only [go_sem, g3, hk] | simp -dsimp (disch := omega) only [wrap_i64])); repeat (with_reducible refine sideA ?_)))
         refine ⟨i + 1, hi', ?_, by omega⟩
         rw [hstep, hme (of_decide_eq_false g2) g3']
         simp only [tabH, outC, pairC, List.length_cons, List.length_nil, List.map_cons, List.map_nil, Nat.reduceAdd, Nat.zero_add]
         refine Weak.pick [0, 1, 2, 3, 4, 5, 6, 7, 8, 9, 10, 11, 13] (by decide) (fun j hj => by omega) ?_ ?_
         · simp [LeG, LeC, LeV, ren, pickF, posOf]
         · simp [pickH, pickB, pickF, posOf, ren]
       · have g3' : p12.2 ≠ r.Week - 1 := by simpa using g3
         (repeat ((repeat1' (first | simp -implicitDefEqProofs -dsimp only [go_sem, g3, hk] | simp -dsimp (disch := omega) only [wrap_i64])); repeat (with_reducible refine sideA ?_)))
         refine ⟨i + 1, hi', ?_, by omega⟩
         rw [hstep, hnw (of_decide_eq_false g2) g3']
         simp only [tabH, outC, pairC, List.length_cons, List.length_nil, List.map_cons, List.map_nil, Nat.reduceAdd, Nat.zero_add]
         refine Weak.pick [0, 1, 2, 3, 4, 5, 6, 7, 8, 9, 10, 11, 12, 13] (by decide) (fun j hj => by omega) ?_ ?_
         · simp [LeG, LeC, LeV, ren, pickF, posOf]
         · simp [pickH, pickB, pickF, posOf, ren]
   · exfalso; simp only [List.length_cons] at hPl; omega
 · have hi' : i = L.length := by simp at g1; omega
   subst hi'
   rw [List.take_length] at hPl ⊢
   generalize swarms lim L = Pq at hPl ⊢
   rcases Pq with _ | ⟨p1, _ | ⟨p2, _ | ⟨p3, _ | ⟨p4, _ | ⟨p5, _ | ⟨p6, _ | ⟨p7, _ | ⟨p8, _ | ⟨p9, _ | ⟨p10, _ | ⟨p11, _ | ⟨p12, _ | ⟨p13, Q⟩⟩⟩⟩⟩⟩⟩⟩⟩⟩⟩⟩⟩
   · simp only [tabH, outC, pairC, List.length_cons, List.length_nil, List.map_cons, List.map_nil, Nat.reduceAdd, Nat.zero_add]
     (repeat ((repeat1' (first | simp -implicitDefEqProofs -dsimp only [go_sem, g1] | simp -dsimp (disch := omega) only [wrap_i64])); repeat (with_reducible refine sideA ?_)))
     exact WeakR.refl _ _ _
   · simp only [tabH, outC, pairC, List.length_cons, List.length_nil, List.map_cons, List.map_nil, Nat.reduceAdd, Nat.zero_add]
     (repeat ((repeat1' (first | simp -implicitDefEqProofs -dsimp only [go_sem, g1] | simp -dsimp (disch := omega) only [wrap_i64])); repeat (with_reducible refine sideA ?_)))
     exact WeakR.refl _ _ _
   · simp only [tabH, outC, pairC, List.length_cons, List.length_nil, List.map_cons, List.map_nil, Nat.reduceAdd, Nat.zero_add]
     (repeat ((repeat1' (first | simp -implicitDefEqProofs -dsimp only [go_sem, g1] | simp -dsimp (disch := omega) only [wrap_i64])); repeat (with_reducible refine sideA ?_)))
     exact WeakR.refl _ _ _
   · simp only [tabH, outC, pairC, List.length_cons, List.length_nil, List.map_cons, List.map_nil, Nat.reduceAdd, Nat.zero_add]
     (repeat ((repeat1' (first | simp -implicitDefEqProofs -dsimp only [go_sem, g1] | simp -dsimp (disch := omega) only [wrap_i64])); repeat (with_reducible refine sideA ?_)))
     exact WeakR.refl _ _ _
   · simp only [tabH, outC, pairC, List.length_cons, List.length_nil, List.map_cons, List.map_nil, Nat.reduceAdd, Nat.zero_add]
     (repeat ((repeat1' (first | simp -implicitDefEqProofs -dsimp only [go_sem, g1] | simp -dsimp (disch := omega) only [wrap_i64])); repeat (with_reducible refine sideA ?_)))
     exact WeakR.refl _ _ _
   · simp only [tabH, outC, pairC, List.length_cons, List.length_nil, List.map_cons, List.map_nil, Nat.reduceAdd, Nat.zero_add]
     (repeat ((repeat1' (first | simp -implicitDefEqProofs -dsimp only [go_sem, g1] | simp -dsimp (disch := omega) only [wrap_i64])); repeat (with_reducible refine sideA ?_)))
     exact WeakR.refl _ _ _
   · simp only [tabH, outC, pairC, List.length_cons, List.length_nil, List.map_cons, List.map_nil, Nat.reduceAdd, Nat.zero_add]
     (repeat ((repeat1' (first | simp -implicitDefEqProofs -dsimp only [go_sem, g1] | simp -dsimp (disch := omega) only [wrap_i64])); repeat (with_reducible refine sideA ?_)))
     exact WeakR.refl _ _ _
   · simp only [tabH, outC, pairC, List.length_cons, List.length_nil, List.map_cons, List.map_nil, Nat.reduceAdd, Nat.zero_add]
     (repeat ((repeat1' (first | simp -implicitDefEqProofs -dsimp only [go_sem, g1] | simp -dsimp (disch := omega) only [wrap_i64])); repeat (with_reducible refine sideA ?_)))
     exact WeakR.refl _ _ _
   · simp only [tabH, outC, pairC, List.length_cons, List.length_nil, List.map_cons, List.map_nil, Nat.reduceAdd, Nat.zero_add]
     (repeat ((repeat1' (first | simp -implicitDefEqProofs -dsimp only [go_sem, g1] | simp -dsimp (disch := omega) only [wrap_i64])); repeat (with_reducible refine sideA ?_)))
     exact WeakR.refl _ _ _
   · simp only [tabH, outC, pairC, List.length_cons, List.length_nil, List.map_cons, List.map_nil, Nat.reduceAdd, Nat.zero_add]
     (repeat ((repeat1' (first | simp -implicitDefEqProofs -dsimp only [go_sem, g1] | simp -dsimp (disch := omega) only [wrap_i64])); repeat (with_reducible refine sideA ?_)))
     exact WeakR.refl _ _ _
   · simp only [tabH, outC, pairC, List.length_cons, List.length_nil, List.map_cons, List.map_nil, Nat.reduceAdd, Nat.zero_add]
     (repeat ((repeat1' (first | simp -implicitDefEqProofs -dsimp only [go_sem, g1] | simp -dsimp (disch := omega) only [wrap_i64])); repeat (with_reducible refine sideA ?_)))
     exact WeakR.refl _ _ _
   · simp only [tabH, outC, pairC, List.length_cons, List.length_nil, List.map_cons, List.map_nil, Nat.reduceAdd, Nat.zero_add]
     (repeat ((repeat1' (first | simp -implicitDefEqProofs -dsimp only [go_sem, g1] | simp -dsimp (disch := omega) only [wrap_i64])); repeat (with_reducible refine sideA ?_)))
     exact WeakR.refl _ _ _
   · simp only [tabH, outC, pairC, List.length_cons, List.length_nil, List.map_cons, List.map_nil, Nat.reduceAdd, Nat.zero_add]
     (repeat ((repeat1' (first | simp -implicitDefEqProofs -dsimp only [go_sem, g1] | simp -dsimp (disch := omega) only [wrap_i64])); repeat (with_reducible refine sideA ?_)))
     exact WeakR.refl _ _ _
   · exfalso; simp only [List.length_cons] at hPl; omega
end Go.Proofs
end
