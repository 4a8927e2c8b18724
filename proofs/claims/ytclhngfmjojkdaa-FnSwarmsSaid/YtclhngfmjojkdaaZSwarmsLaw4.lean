/-
  A part of the proof: texts put together by a program of the prover. Conditions: none.
-/
import Derived.Test.YtclhngfmjojkdaaZSwarmsLaw3
import Derived.Test.YtclhngfmjojkdaaProg
import Derived.KernelRfl
set_option linter.unusedSimpArgs false
set_option linter.unusedVariables false
section
namespace Go.Proofs
open Go.Lv

theorem Try.mixed : Try.prog.follows .mixedOrders = true := by kernel_rfl
@[go_sem] theorem Try.tsz1 : tszOf Try.prog 1 = some (1, false) := by kernel_rfl
@[go_sem] theorem Try.udef1 : (Try.prog.underlying 1).isSome = true := by kernel_rfl
@[go_sem] theorem Try.zero1 : zeroOf Try.prog 1 = some [.lit ((Go.Value.nilFunc))] := by kernel_rfl
@[go_sem] theorem Try.tsz2 : tszOf Try.prog 2 = some (1, false) := by kernel_rfl
@[go_sem] theorem Try.udef2 : (Try.prog.underlying 2).isSome = true := by kernel_rfl
@[go_sem] theorem Try.zero2 : zeroOf Try.prog 2 = some [.int .i64 0] := by kernel_rfl
@[go_sem] theorem Try.isInt2 : isIntT Try.prog 2 = some .i64 := by kernel_rfl
@[go_sem] theorem Try.tsz3 : tszOf Try.prog 3 = some (1, false) := by kernel_rfl
@[go_sem] theorem Try.udef3 : (Try.prog.underlying 3).isSome = true := by kernel_rfl
@[go_sem] theorem Try.zero3 : zeroOf Try.prog 3 = some [.int .i64 0] := by kernel_rfl
@[go_sem] theorem Try.isInt3 : isIntT Try.prog 3 = some .i64 := by kernel_rfl
@[go_sem] theorem Try.tsz4 : tszOf Try.prog 4 = some (1, false) := by kernel_rfl
@[go_sem] theorem Try.udef4 : (Try.prog.underlying 4).isSome = true := by kernel_rfl
@[go_sem] theorem Try.zero4 : zeroOf Try.prog 4 = some [.bool false] := by kernel_rfl
@[go_sem] theorem Try.isBool4 : isBoolT Try.prog 4 = true := by kernel_rfl
@[go_sem] theorem Try.tsz5 : tszOf Try.prog 5 = some (1, false) := by kernel_rfl
theorem Try.cz5 : Try.prog.cellsOf 5 = 1 := by kernel_rfl
@[go_sem] theorem Try.udef5 : (Try.prog.underlying 5).isSome = true := by kernel_rfl
@[go_sem] theorem Try.zero5 : zeroOf Try.prog 5 = some [.int .u8 0] := by kernel_rfl
@[go_sem] theorem Try.isInt5 : isIntT Try.prog 5 = some .u8 := by kernel_rfl
@[go_sem] theorem Try.tsz6 : tszOf Try.prog 6 = some (1, false) := by kernel_rfl
@[go_sem] theorem Try.udef6 : (Try.prog.underlying 6).isSome = true := by kernel_rfl
@[go_sem] theorem Try.zero6 : zeroOf Try.prog 6 = some [.int .u8 0] := by kernel_rfl
@[go_sem] theorem Try.isInt6 : isIntT Try.prog 6 = some .u8 := by kernel_rfl
@[go_sem] theorem Try.tsz7 : tszOf Try.prog 7 = some (4, true) := by kernel_rfl
@[go_sem] theorem Try.udef7 : (Try.prog.underlying 7).isSome = true := by kernel_rfl
@[go_sem] theorem Try.zero7 : zeroOf Try.prog 7 = some [.int .i64 0, .int .i64 0, .bool false, .int .u8 0] := by kernel_rfl
@[go_sem] theorem Try.pl7 : plOf Try.prog 7 = some [(0, 1), (1, 1), (2, 1), (3, 1)] := by kernel_rfl
@[go_sem] theorem Try.tsz8 : tszOf Try.prog 8 = some (4, true) := by kernel_rfl
@[go_sem] theorem Try.udef8 : (Try.prog.underlying 8).isSome = true := by kernel_rfl
@[go_sem] theorem Try.zero8 : zeroOf Try.prog 8 = some [.int .i64 0, .int .i64 0, .bool false, .int .u8 0] := by kernel_rfl
@[go_sem] theorem Try.pl8 : plOf Try.prog 8 = some [(0, 1), (1, 1), (2, 1), (3, 1)] := by kernel_rfl
@[go_sem] theorem Try.tsz9 : tszOf Try.prog 9 = some (1, false) := by kernel_rfl
@[go_sem] theorem Try.udef9 : (Try.prog.underlying 9).isSome = true := by kernel_rfl
@[go_sem] theorem Try.zero9 : zeroOf Try.prog 9 = some [.str ByteArray.empty] := by kernel_rfl
@[go_sem] theorem Try.isU8S9 : isU8S Try.prog 9 = false := by kernel_rfl
@[go_sem] theorem Try.isIntN9 : isIntT Try.prog 9 = none := by kernel_rfl
@[go_sem] theorem Try.isStr9 : isStr Try.prog 9 = true := by kernel_rfl
@[go_sem] theorem Try.tsz10 : tszOf Try.prog 10 = some (1, false) := by kernel_rfl
@[go_sem] theorem Try.udef10 : (Try.prog.underlying 10).isSome = true := by kernel_rfl
@[go_sem] theorem Try.zero10 : zeroOf Try.prog 10 = some [.str ByteArray.empty] := by kernel_rfl
@[go_sem] theorem Try.isU8S10 : isU8S Try.prog 10 = false := by kernel_rfl
@[go_sem] theorem Try.isIntN10 : isIntT Try.prog 10 = none := by kernel_rfl
@[go_sem] theorem Try.isStr10 : isStr Try.prog 10 = true := by kernel_rfl
@[go_sem] theorem Try.tsz11 : tszOf Try.prog 11 = some (1, false) := by kernel_rfl
@[go_sem] theorem Try.udef11 : (Try.prog.underlying 11).isSome = true := by kernel_rfl
@[go_sem] theorem Try.zero11 : zeroOf Try.prog 11 = some [.str ByteArray.empty] := by kernel_rfl
@[go_sem] theorem Try.isU8S11 : isU8S Try.prog 11 = false := by kernel_rfl
@[go_sem] theorem Try.isIntN11 : isIntT Try.prog 11 = none := by kernel_rfl
@[go_sem] theorem Try.isStr11 : isStr Try.prog 11 = true := by kernel_rfl
@[go_sem] theorem Try.tsz12 : tszOf Try.prog 12 = some (1, false) := by kernel_rfl
@[go_sem] theorem Try.udef12 : (Try.prog.underlying 12).isSome = true := by kernel_rfl
@[go_sem] theorem Try.zero12 : zeroOf Try.prog 12 = some [.int .u64 0] := by kernel_rfl
@[go_sem] theorem Try.isInt12 : isIntT Try.prog 12 = some .u64 := by kernel_rfl
@[go_sem] theorem Try.tsz13 : tszOf Try.prog 13 = some (2, true) := by kernel_rfl
@[go_sem] theorem Try.udef13 : (Try.prog.underlying 13).isSome = true := by kernel_rfl
@[go_sem] theorem Try.zero13 : zeroOf Try.prog 13 = some [.str ByteArray.empty, .int .u64 0] := by kernel_rfl
@[go_sem] theorem Try.pl13 : plOf Try.prog 13 = some [(0, 1), (1, 1)] := by kernel_rfl
@[go_sem] theorem Try.tsz14 : tszOf Try.prog 14 = some (2, true) := by kernel_rfl
@[go_sem] theorem Try.udef14 : (Try.prog.underlying 14).isSome = true := by kernel_rfl
@[go_sem] theorem Try.zero14 : zeroOf Try.prog 14 = some [.str ByteArray.empty, .int .u64 0] := by kernel_rfl
@[go_sem] theorem Try.pl14 : plOf Try.prog 14 = some [(0, 1), (1, 1)] := by kernel_rfl
@[go_sem] theorem Try.tsz15 : tszOf Try.prog 15 = some (1, false) := by kernel_rfl
@[go_sem] theorem Try.udef15 : (Try.prog.underlying 15).isSome = true := by kernel_rfl
@[go_sem] theorem Try.zero15 : zeroOf Try.prog 15 = some [.lit ((Go.Value.pointer none))] := by kernel_rfl
@[go_sem] theorem Try.tsz16 : tszOf Try.prog 16 = some (1, false) := by kernel_rfl
@[go_sem] theorem Try.udef16 : (Try.prog.underlying 16).isSome = true := by kernel_rfl
@[go_sem] theorem Try.zero16 : zeroOf Try.prog 16 = some [.lit ((Go.Value.pointer none))] := by kernel_rfl
@[go_sem] theorem Try.tsz17 : tszOf Try.prog 17 = some (1, false) := by kernel_rfl
@[go_sem] theorem Try.udef17 : (Try.prog.underlying 17).isSome = true := by kernel_rfl
@[go_sem] theorem Try.zero17 : zeroOf Try.prog 17 = some [.lit ((Go.Value.pointer none))] := by kernel_rfl
@[go_sem] theorem Try.tsz18 : tszOf Try.prog 18 = some (1, true) := by kernel_rfl
@[go_sem] theorem Try.udef18 : (Try.prog.underlying 18).isSome = true := by kernel_rfl
@[go_sem] theorem Try.zero18 : zeroOf Try.prog 18 = some [.lit ((Go.Value.pointer none))] := by kernel_rfl
@[go_sem] theorem Try.pl18 : plOf Try.prog 18 = some [(0, 1)] := by kernel_rfl
@[go_sem] theorem Try.tsz19 : tszOf Try.prog 19 = some (1, true) := by kernel_rfl
@[go_sem] theorem Try.udef19 : (Try.prog.underlying 19).isSome = true := by kernel_rfl
@[go_sem] theorem Try.zero19 : zeroOf Try.prog 19 = some [.lit ((Go.Value.pointer none))] := by kernel_rfl
@[go_sem] theorem Try.pl19 : plOf Try.prog 19 = some [(0, 1)] := by kernel_rfl
@[go_sem] theorem Try.tsz20 : tszOf Try.prog 20 = some (1, false) := by kernel_rfl
@[go_sem] theorem Try.udef20 : (Try.prog.underlying 20).isSome = true := by kernel_rfl
@[go_sem] theorem Try.zero20 : zeroOf Try.prog 20 = some [.lit ((Go.Value.nilIface))] := by kernel_rfl
@[go_sem] theorem Try.tsz21 : tszOf Try.prog 21 = some (1, false) := by kernel_rfl
@[go_sem] theorem Try.udef21 : (Try.prog.underlying 21).isSome = true := by kernel_rfl
@[go_sem] theorem Try.zero21 : zeroOf Try.prog 21 = some [.int .i32 0] := by kernel_rfl
@[go_sem] theorem Try.isInt21 : isIntT Try.prog 21 = some .i32 := by kernel_rfl
@[go_sem] theorem Try.tsz22 : tszOf Try.prog 22 = some (1, false) := by kernel_rfl
@[go_sem] theorem Try.udef22 : (Try.prog.underlying 22).isSome = true := by kernel_rfl
@[go_sem] theorem Try.zero22 : zeroOf Try.prog 22 = some [.nilsl] := by kernel_rfl
@[go_sem] theorem Try.el22 : elOf Try.prog 22 = some (53, 5, 40) := by kernel_rfl
@[go_sem] theorem Try.isSl22 : isSl Try.prog 22 = true := by kernel_rfl
@[go_sem] theorem Try.tsz23 : tszOf Try.prog 23 = some (1, false) := by kernel_rfl
@[go_sem] theorem Try.udef23 : (Try.prog.underlying 23).isSome = true := by kernel_rfl
@[go_sem] theorem Try.zero23 : zeroOf Try.prog 23 = some [.lit ((Go.Value.nilFunc))] := by kernel_rfl
@[go_sem] theorem Try.tsz24 : tszOf Try.prog 24 = some (1, false) := by kernel_rfl
@[go_sem] theorem Try.udef24 : (Try.prog.underlying 24).isSome = true := by kernel_rfl
@[go_sem] theorem Try.zero24 : zeroOf Try.prog 24 = some [.nilsl] := by kernel_rfl
@[go_sem] theorem Try.el24 : elOf Try.prog 24 = some (38, 1, 24) := by kernel_rfl
@[go_sem] theorem Try.isSl24 : isSl Try.prog 24 = true := by kernel_rfl
@[go_sem] theorem Try.tsz26 : tszOf Try.prog 26 = some (1, false) := by kernel_rfl
@[go_sem] theorem Try.udef26 : (Try.prog.underlying 26).isSome = true := by kernel_rfl
@[go_sem] theorem Try.zero26 : zeroOf Try.prog 26 = some [.lit ((Go.Value.nilFunc))] := by kernel_rfl
@[go_sem] theorem Try.tsz27 : tszOf Try.prog 27 = some (1, false) := by kernel_rfl
@[go_sem] theorem Try.udef27 : (Try.prog.underlying 27).isSome = true := by kernel_rfl
@[go_sem] theorem Try.zero27 : zeroOf Try.prog 27 = some [.nilsl] := by kernel_rfl
@[go_sem] theorem Try.el27 : elOf Try.prog 27 = some (40, 5, 40) := by kernel_rfl
@[go_sem] theorem Try.isSl27 : isSl Try.prog 27 = true := by kernel_rfl
@[go_sem] theorem Try.tsz28 : tszOf Try.prog 28 = some (1, false) := by kernel_rfl
@[go_sem] theorem Try.udef28 : (Try.prog.underlying 28).isSome = true := by kernel_rfl
@[go_sem] theorem Try.zero28 : zeroOf Try.prog 28 = some [.lit ((Go.Value.nilFunc))] := by kernel_rfl
@[go_sem] theorem Try.tsz29 : tszOf Try.prog 29 = some (1, false) := by kernel_rfl
@[go_sem] theorem Try.udef29 : (Try.prog.underlying 29).isSome = true := by kernel_rfl
@[go_sem] theorem Try.zero29 : zeroOf Try.prog 29 = some [.lit ((Go.Value.nilFunc))] := by kernel_rfl
@[go_sem] theorem Try.tsz30 : tszOf Try.prog 30 = some (1, false) := by kernel_rfl
@[go_sem] theorem Try.udef30 : (Try.prog.underlying 30).isSome = true := by kernel_rfl
@[go_sem] theorem Try.zero30 : zeroOf Try.prog 30 = some [.lit ((Go.Value.nilFunc))] := by kernel_rfl
@[go_sem] theorem Try.tsz31 : tszOf Try.prog 31 = some (1, false) := by kernel_rfl
@[go_sem] theorem Try.udef31 : (Try.prog.underlying 31).isSome = true := by kernel_rfl
@[go_sem] theorem Try.zero31 : zeroOf Try.prog 31 = some [.lit ((Go.Value.nilFunc))] := by kernel_rfl
@[go_sem] theorem Try.tsz32 : tszOf Try.prog 32 = some (1, false) := by kernel_rfl
@[go_sem] theorem Try.udef32 : (Try.prog.underlying 32).isSome = true := by kernel_rfl
@[go_sem] theorem Try.zero32 : zeroOf Try.prog 32 = some [.lit ((Go.Value.nilFunc))] := by kernel_rfl
@[go_sem] theorem Try.tsz33 : tszOf Try.prog 33 = some (1, false) := by kernel_rfl
@[go_sem] theorem Try.udef33 : (Try.prog.underlying 33).isSome = true := by kernel_rfl
@[go_sem] theorem Try.zero33 : zeroOf Try.prog 33 = some [.lit ((Go.Value.nilFunc))] := by kernel_rfl
@[go_sem] theorem Try.tsz34 : tszOf Try.prog 34 = some (1, false) := by kernel_rfl
@[go_sem] theorem Try.udef34 : (Try.prog.underlying 34).isSome = true := by kernel_rfl
@[go_sem] theorem Try.zero34 : zeroOf Try.prog 34 = some [.nilsl] := by kernel_rfl
@[go_sem] theorem Try.el34 : elOf Try.prog 34 = some (5, 1, 1) := by kernel_rfl
@[go_sem] theorem Try.isSl34 : isSl Try.prog 34 = true := by kernel_rfl
@[go_sem] theorem Try.isU8S34 : isU8S Try.prog 34 = true := by kernel_rfl
@[go_sem] theorem Try.tsz35 : tszOf Try.prog 35 = some (1, false) := by kernel_rfl
@[go_sem] theorem Try.udef35 : (Try.prog.underlying 35).isSome = true := by kernel_rfl
@[go_sem] theorem Try.zero35 : zeroOf Try.prog 35 = some [.lit ((Go.Value.nilFunc))] := by kernel_rfl
@[go_sem] theorem Try.tsz37 : tszOf Try.prog 37 = some (1, false) := by kernel_rfl
@[go_sem] theorem Try.udef37 : (Try.prog.underlying 37).isSome = true := by kernel_rfl
@[go_sem] theorem Try.zero37 : zeroOf Try.prog 37 = some [.lit ((Go.Value.nilFunc))] := by kernel_rfl
@[go_sem] theorem Try.tsz38 : tszOf Try.prog 38 = some (1, false) := by kernel_rfl
@[go_sem] theorem Try.udef38 : (Try.prog.underlying 38).isSome = true := by kernel_rfl
@[go_sem] theorem Try.zero38 : zeroOf Try.prog 38 = some [.nilsl] := by kernel_rfl
@[go_sem] theorem Try.el38 : elOf Try.prog 38 = some (3, 1, 8) := by kernel_rfl
@[go_sem] theorem Try.isSl38 : isSl Try.prog 38 = true := by kernel_rfl
@[go_sem] theorem Try.tsz39 : tszOf Try.prog 39 = some (5, true) := by kernel_rfl
@[go_sem] theorem Try.udef39 : (Try.prog.underlying 39).isSome = true := by kernel_rfl
@[go_sem] theorem Try.zero39 : zeroOf Try.prog 39 = some [.int .i64 0, .int .i64 0, .int .i64 0, .int .i64 0, .int .i64 0] := by kernel_rfl
@[go_sem] theorem Try.pl39 : plOf Try.prog 39 = some [(0, 1), (1, 1), (2, 1), (3, 1), (4, 1)] := by kernel_rfl
@[go_sem] theorem Try.tsz40 : tszOf Try.prog 40 = some (5, true) := by kernel_rfl
@[go_sem] theorem Try.udef40 : (Try.prog.underlying 40).isSome = true := by kernel_rfl
@[go_sem] theorem Try.zero40 : zeroOf Try.prog 40 = some [.int .i64 0, .int .i64 0, .int .i64 0, .int .i64 0, .int .i64 0] := by kernel_rfl
@[go_sem] theorem Try.flatEq40 : flatEq Try.prog 40 = some [.int .i64, .int .i64, .int .i64, .int .i64, .int .i64] := by kernel_rfl
@[go_sem] theorem Try.pl40 : plOf Try.prog 40 = some [(0, 1), (1, 1), (2, 1), (3, 1), (4, 1)] := by kernel_rfl
@[go_sem] theorem Try.fd40_0 : fdOf Try.prog 40 0 = some (0, 1, false) := by kernel_rfl
@[go_sem] theorem Try.fd40_1 : fdOf Try.prog 40 1 = some (1, 1, false) := by kernel_rfl
@[go_sem] theorem Try.fd40_2 : fdOf Try.prog 40 2 = some (2, 1, false) := by kernel_rfl
@[go_sem] theorem Try.fd40_3 : fdOf Try.prog 40 3 = some (3, 1, false) := by kernel_rfl
@[go_sem] theorem Try.fd40_4 : fdOf Try.prog 40 4 = some (4, 1, false) := by kernel_rfl
@[go_sem] theorem Try.tsz41 : tszOf Try.prog 41 = some (1, false) := by kernel_rfl
@[go_sem] theorem Try.udef41 : (Try.prog.underlying 41).isSome = true := by kernel_rfl
@[go_sem] theorem Try.zero41 : zeroOf Try.prog 41 = some [.lit ((Go.Value.nilFunc))] := by kernel_rfl
@[go_sem] theorem Try.tsz43 : tszOf Try.prog 43 = some (1, false) := by kernel_rfl
@[go_sem] theorem Try.udef43 : (Try.prog.underlying 43).isSome = true := by kernel_rfl
@[go_sem] theorem Try.zero43 : zeroOf Try.prog 43 = some [.lit ((Go.Value.nilFunc))] := by kernel_rfl
@[go_sem] theorem Try.tsz44 : tszOf Try.prog 44 = some (1, false) := by kernel_rfl
@[go_sem] theorem Try.udef44 : (Try.prog.underlying 44).isSome = true := by kernel_rfl
@[go_sem] theorem Try.zero44 : zeroOf Try.prog 44 = some [.lit ((Go.Value.nilFunc))] := by kernel_rfl
@[go_sem] theorem Try.tsz45 : tszOf Try.prog 45 = some (1, false) := by kernel_rfl
@[go_sem] theorem Try.udef45 : (Try.prog.underlying 45).isSome = true := by kernel_rfl
@[go_sem] theorem Try.zero45 : zeroOf Try.prog 45 = some [.lit ((Go.Value.nilFunc))] := by kernel_rfl
@[go_sem] theorem Try.tsz47 : tszOf Try.prog 47 = some (1, false) := by kernel_rfl
@[go_sem] theorem Try.udef47 : (Try.prog.underlying 47).isSome = true := by kernel_rfl
@[go_sem] theorem Try.zero47 : zeroOf Try.prog 47 = some [.lit ((Go.Value.nilFunc))] := by kernel_rfl
@[go_sem] theorem Try.tsz49 : tszOf Try.prog 49 = some (1, false) := by kernel_rfl
@[go_sem] theorem Try.udef49 : (Try.prog.underlying 49).isSome = true := by kernel_rfl
@[go_sem] theorem Try.zero49 : zeroOf Try.prog 49 = some [.lit ((Go.Value.nilFunc))] := by kernel_rfl
@[go_sem] theorem Try.tsz50 : tszOf Try.prog 50 = some (1, false) := by kernel_rfl
@[go_sem] theorem Try.udef50 : (Try.prog.underlying 50).isSome = true := by kernel_rfl
@[go_sem] theorem Try.zero50 : zeroOf Try.prog 50 = some [.lit ((Go.Value.nilFunc))] := by kernel_rfl
@[go_sem] theorem Try.tsz51 : tszOf Try.prog 51 = some (1, false) := by kernel_rfl
@[go_sem] theorem Try.udef51 : (Try.prog.underlying 51).isSome = true := by kernel_rfl
@[go_sem] theorem Try.zero51 : zeroOf Try.prog 51 = some [.lit ((Go.Value.nilFunc))] := by kernel_rfl
@[go_sem] theorem Try.tsz52 : tszOf Try.prog 52 = some (1, false) := by kernel_rfl
@[go_sem] theorem Try.udef52 : (Try.prog.underlying 52).isSome = true := by kernel_rfl
@[go_sem] theorem Try.zero52 : zeroOf Try.prog 52 = some [.lit ((Go.Value.nilFunc))] := by kernel_rfl
@[go_sem] theorem Try.tsz53 : tszOf Try.prog 53 = some (5, true) := by kernel_rfl
@[go_sem] theorem Try.udef53 : (Try.prog.underlying 53).isSome = true := by kernel_rfl
@[go_sem] theorem Try.zero53 : zeroOf Try.prog 53 = some [.int .i64 0, .int .i64 0, .int .i64 0, .int .i64 0, .int .i64 0] := by kernel_rfl
@[go_sem] theorem Try.flatEq53 : flatEq Try.prog 53 = some [.int .i64, .int .i64, .int .i64, .int .i64, .int .i64] := by kernel_rfl
@[go_sem] theorem Try.pl53 : plOf Try.prog 53 = some [(0, 1), (1, 1), (2, 1), (3, 1), (4, 1)] := by kernel_rfl
@[go_sem] theorem Try.fd53_0 : fdOf Try.prog 53 0 = some (0, 1, false) := by kernel_rfl
@[go_sem] theorem Try.fd53_1 : fdOf Try.prog 53 1 = some (1, 1, false) := by kernel_rfl
@[go_sem] theorem Try.fd53_2 : fdOf Try.prog 53 2 = some (2, 1, false) := by kernel_rfl
@[go_sem] theorem Try.fd53_3 : fdOf Try.prog 53 3 = some (3, 1, false) := by kernel_rfl
@[go_sem] theorem Try.fd53_4 : fdOf Try.prog 53 4 = some (4, 1, false) := by kernel_rfl
@[go_sem] theorem Try.tsz54 : tszOf Try.prog 54 = some (1, false) := by kernel_rfl
@[go_sem] theorem Try.udef54 : (Try.prog.underlying 54).isSome = true := by kernel_rfl
@[go_sem] theorem Try.zero54 : zeroOf Try.prog 54 = some [.lit ((Go.Value.nilFunc))] := by kernel_rfl
@[go_sem] theorem Try.tsz55 : tszOf Try.prog 55 = some (1, false) := by kernel_rfl
@[go_sem] theorem Try.udef55 : (Try.prog.underlying 55).isSome = true := by kernel_rfl
@[go_sem] theorem Try.zero55 : zeroOf Try.prog 55 = some [.lit ((Go.Value.nilFunc))] := by kernel_rfl
@[go_sem] theorem Try.tsz56 : tszOf Try.prog 56 = some (1, false) := by kernel_rfl
@[go_sem] theorem Try.udef56 : (Try.prog.underlying 56).isSome = true := by kernel_rfl
@[go_sem] theorem Try.zero56 : zeroOf Try.prog 56 = some [.lit ((Go.Value.pointer none))] := by kernel_rfl
@[go_sem] theorem Try.tsz57 : tszOf Try.prog 57 = some (1, false) := by kernel_rfl
@[go_sem] theorem Try.udef57 : (Try.prog.underlying 57).isSome = true := by kernel_rfl
@[go_sem] theorem Try.zero57 : zeroOf Try.prog 57 = some [.int .u64 0] := by kernel_rfl
@[go_sem] theorem Try.isInt57 : isIntT Try.prog 57 = some .u64 := by kernel_rfl
@[go_sem] theorem Try.tsz58 : tszOf Try.prog 58 = some (3, true) := by kernel_rfl
@[go_sem] theorem Try.udef58 : (Try.prog.underlying 58).isSome = true := by kernel_rfl
@[go_sem] theorem Try.zero58 : zeroOf Try.prog 58 = some [.nilsl, .int .i64 0, .int .u64 0] := by kernel_rfl
@[go_sem] theorem Try.pl58 : plOf Try.prog 58 = some [(0, 1), (1, 1), (2, 1)] := by kernel_rfl
@[go_sem] theorem Try.tsz59 : tszOf Try.prog 59 = some (3, true) := by kernel_rfl
@[go_sem] theorem Try.udef59 : (Try.prog.underlying 59).isSome = true := by kernel_rfl
@[go_sem] theorem Try.zero59 : zeroOf Try.prog 59 = some [.nilsl, .int .i64 0, .int .u64 0] := by kernel_rfl
@[go_sem] theorem Try.pl59 : plOf Try.prog 59 = some [(0, 1), (1, 1), (2, 1)] := by kernel_rfl
@[go_sem] theorem Try.fd59_0 : fdOf Try.prog 59 0 = some (0, 1, false) := by kernel_rfl
@[go_sem] theorem Try.fd59_1 : fdOf Try.prog 59 1 = some (1, 1, false) := by kernel_rfl
@[go_sem] theorem Try.fd59_2 : fdOf Try.prog 59 2 = some (2, 1, false) := by kernel_rfl
@[go_sem] theorem Try.tsz60 : tszOf Try.prog 60 = some (1, false) := by kernel_rfl
@[go_sem] theorem Try.udef60 : (Try.prog.underlying 60).isSome = true := by kernel_rfl
@[go_sem] theorem Try.zero60 : zeroOf Try.prog 60 = some [.lit ((Go.Value.nilFunc))] := by kernel_rfl
@[go_sem] theorem Try.tsz61 : tszOf Try.prog 61 = some (1, false) := by kernel_rfl
@[go_sem] theorem Try.udef61 : (Try.prog.underlying 61).isSome = true := by kernel_rfl
@[go_sem] theorem Try.zero61 : zeroOf Try.prog 61 = some [.lit ((Go.Value.nilFunc))] := by kernel_rfl
@[go_sem] theorem Try.tsz62 : tszOf Try.prog 62 = some (1, false) := by kernel_rfl
@[go_sem] theorem Try.udef62 : (Try.prog.underlying 62).isSome = true := by kernel_rfl
@[go_sem] theorem Try.zero62 : zeroOf Try.prog 62 = some [.lit ((Go.Value.nilFunc))] := by kernel_rfl
@[go_sem] theorem Try.tsz63 : tszOf Try.prog 63 = some (1, false) := by kernel_rfl
@[go_sem] theorem Try.udef63 : (Try.prog.underlying 63).isSome = true := by kernel_rfl
@[go_sem] theorem Try.zero63 : zeroOf Try.prog 63 = some [.lit ((Go.Value.nilFunc))] := by kernel_rfl
@[go_sem] theorem Try.tsz64 : tszOf Try.prog 64 = some (1, false) := by kernel_rfl
@[go_sem] theorem Try.udef64 : (Try.prog.underlying 64).isSome = true := by kernel_rfl
@[go_sem] theorem Try.zero64 : zeroOf Try.prog 64 = some [.lit ((Go.Value.nilFunc))] := by kernel_rfl
@[go_sem] theorem Try.tsz66 : tszOf Try.prog 66 = some (1, false) := by kernel_rfl
@[go_sem] theorem Try.udef66 : (Try.prog.underlying 66).isSome = true := by kernel_rfl
@[go_sem] theorem Try.zero66 : zeroOf Try.prog 66 = some [.lit ((Go.Value.nilFunc))] := by kernel_rfl
@[go_sem] theorem Try.tsz67 : tszOf Try.prog 67 = some (1, false) := by kernel_rfl
@[go_sem] theorem Try.udef67 : (Try.prog.underlying 67).isSome = true := by kernel_rfl
@[go_sem] theorem Try.zero67 : zeroOf Try.prog 67 = some [.lit ((Go.Value.nilFunc))] := by kernel_rfl
@[go_sem] theorem Try.tsz68 : tszOf Try.prog 68 = some (1, false) := by kernel_rfl
@[go_sem] theorem Try.udef68 : (Try.prog.underlying 68).isSome = true := by kernel_rfl
@[go_sem] theorem Try.zero68 : zeroOf Try.prog 68 = some [.lit ((Go.Value.nilFunc))] := by kernel_rfl
@[go_sem] theorem Try.tsz69 : tszOf Try.prog 69 = some (1, false) := by kernel_rfl
@[go_sem] theorem Try.udef69 : (Try.prog.underlying 69).isSome = true := by kernel_rfl
@[go_sem] theorem Try.zero69 : zeroOf Try.prog 69 = some [.lit ((Go.Value.nilFunc))] := by kernel_rfl
@[go_sem] theorem Try.tsz70 : tszOf Try.prog 70 = some (1, false) := by kernel_rfl
@[go_sem] theorem Try.udef70 : (Try.prog.underlying 70).isSome = true := by kernel_rfl
@[go_sem] theorem Try.zero70 : zeroOf Try.prog 70 = some [.lit ((Go.Value.nilFunc))] := by kernel_rfl
@[go_sem] theorem Try.tsz71 : tszOf Try.prog 71 = some (1, false) := by kernel_rfl
@[go_sem] theorem Try.udef71 : (Try.prog.underlying 71).isSome = true := by kernel_rfl
@[go_sem] theorem Try.zero71 : zeroOf Try.prog 71 = some [.lit ((Go.Value.nilFunc))] := by kernel_rfl
@[go_sem] theorem Try.tsz72 : tszOf Try.prog 72 = some (1, false) := by kernel_rfl
@[go_sem] theorem Try.udef72 : (Try.prog.underlying 72).isSome = true := by kernel_rfl
@[go_sem] theorem Try.zero72 : zeroOf Try.prog 72 = some [.lit ((Go.Value.nilFunc))] := by kernel_rfl
@[go_sem] theorem Try.tsz73 : tszOf Try.prog 73 = some (1, false) := by kernel_rfl
@[go_sem] theorem Try.udef73 : (Try.prog.underlying 73).isSome = true := by kernel_rfl
@[go_sem] theorem Try.zero73 : zeroOf Try.prog 73 = some [.lit ((Go.Value.nilFunc))] := by kernel_rfl
@[go_sem] theorem Try.tsz74 : tszOf Try.prog 74 = some (1, false) := by kernel_rfl
@[go_sem] theorem Try.udef74 : (Try.prog.underlying 74).isSome = true := by kernel_rfl
@[go_sem] theorem Try.zero74 : zeroOf Try.prog 74 = some [.lit ((Go.Value.nilFunc))] := by kernel_rfl
@[go_sem] theorem Try.tsz75 : tszOf Try.prog 75 = some (1, false) := by kernel_rfl
@[go_sem] theorem Try.udef75 : (Try.prog.underlying 75).isSome = true := by kernel_rfl
@[go_sem] theorem Try.zero75 : zeroOf Try.prog 75 = some [.int .u64 0] := by kernel_rfl
@[go_sem] theorem Try.isInt75 : isIntT Try.prog 75 = some .u64 := by kernel_rfl
@[go_sem] theorem Try.tsz76 : tszOf Try.prog 76 = some (1, false) := by kernel_rfl
@[go_sem] theorem Try.udef76 : (Try.prog.underlying 76).isSome = true := by kernel_rfl
@[go_sem] theorem Try.zero76 : zeroOf Try.prog 76 = some [.lit ((Go.Value.nilFunc))] := by kernel_rfl
@[go_sem] theorem Try.tsz77 : tszOf Try.prog 77 = some (1, false) := by kernel_rfl
@[go_sem] theorem Try.udef77 : (Try.prog.underlying 77).isSome = true := by kernel_rfl
@[go_sem] theorem Try.zero77 : zeroOf Try.prog 77 = some [.lit ((Go.Value.nilFunc))] := by kernel_rfl
@[go_sem] theorem Try.tsz78 : tszOf Try.prog 78 = some (1, false) := by kernel_rfl
@[go_sem] theorem Try.udef78 : (Try.prog.underlying 78).isSome = true := by kernel_rfl
@[go_sem] theorem Try.zero78 : zeroOf Try.prog 78 = some [.int .i64 0] := by kernel_rfl
@[go_sem] theorem Try.isInt78 : isIntT Try.prog 78 = some .i64 := by kernel_rfl
@[go_sem] theorem Try.tsz80 : tszOf Try.prog 80 = some (1, false) := by kernel_rfl
@[go_sem] theorem Try.udef80 : (Try.prog.underlying 80).isSome = true := by kernel_rfl
@[go_sem] theorem Try.zero80 : zeroOf Try.prog 80 = some [.lit ((Go.Value.nilFunc))] := by kernel_rfl
@[go_sem] theorem Try.tsz81 : tszOf Try.prog 81 = some (1, false) := by kernel_rfl
@[go_sem] theorem Try.udef81 : (Try.prog.underlying 81).isSome = true := by kernel_rfl
@[go_sem] theorem Try.zero81 : zeroOf Try.prog 81 = some [.lit ((Go.Value.nilFunc))] := by kernel_rfl
@[go_sem] theorem Try.tsz82 : tszOf Try.prog 82 = some (1, false) := by kernel_rfl
@[go_sem] theorem Try.udef82 : (Try.prog.underlying 82).isSome = true := by kernel_rfl
@[go_sem] theorem Try.zero82 : zeroOf Try.prog 82 = some [.lit ((Go.Value.nilFunc))] := by kernel_rfl
@[go_sem] theorem Try.tsz83 : tszOf Try.prog 83 = some (1, false) := by kernel_rfl
@[go_sem] theorem Try.udef83 : (Try.prog.underlying 83).isSome = true := by kernel_rfl
@[go_sem] theorem Try.zero83 : zeroOf Try.prog 83 = some [.lit ((Go.Value.nilFunc))] := by kernel_rfl
@[go_sem] theorem Try.tsz84 : tszOf Try.prog 84 = some (1, false) := by kernel_rfl
@[go_sem] theorem Try.udef84 : (Try.prog.underlying 84).isSome = true := by kernel_rfl
@[go_sem] theorem Try.zero84 : zeroOf Try.prog 84 = some [.lit ((Go.Value.nilFunc))] := by kernel_rfl
@[go_sem] theorem Try.tsz85 : tszOf Try.prog 85 = some (1, false) := by kernel_rfl
@[go_sem] theorem Try.udef85 : (Try.prog.underlying 85).isSome = true := by kernel_rfl
@[go_sem] theorem Try.zero85 : zeroOf Try.prog 85 = some [.lit ((Go.Value.nilFunc))] := by kernel_rfl
@[go_sem] theorem Try.tsz86 : tszOf Try.prog 86 = some (1, false) := by kernel_rfl
@[go_sem] theorem Try.udef86 : (Try.prog.underlying 86).isSome = true := by kernel_rfl
@[go_sem] theorem Try.zero86 : zeroOf Try.prog 86 = some [.int .u32 0] := by kernel_rfl
@[go_sem] theorem Try.isInt86 : isIntT Try.prog 86 = some .u32 := by kernel_rfl
@[go_sem] theorem Try.tsz87 : tszOf Try.prog 87 = some (1, false) := by kernel_rfl
@[go_sem] theorem Try.udef87 : (Try.prog.underlying 87).isSome = true := by kernel_rfl
@[go_sem] theorem Try.zero87 : zeroOf Try.prog 87 = some [.lit ((Go.Value.nilFunc))] := by kernel_rfl
@[go_sem] theorem Try.tsz88 : tszOf Try.prog 88 = some (1, false) := by kernel_rfl
@[go_sem] theorem Try.udef88 : (Try.prog.underlying 88).isSome = true := by kernel_rfl
@[go_sem] theorem Try.zero88 : zeroOf Try.prog 88 = some [.int .u64 0] := by kernel_rfl
@[go_sem] theorem Try.isInt88 : isIntT Try.prog 88 = some .u64 := by kernel_rfl
@[go_sem] theorem Try.tsz89 : tszOf Try.prog 89 = some (1, false) := by kernel_rfl
@[go_sem] theorem Try.udef89 : (Try.prog.underlying 89).isSome = true := by kernel_rfl
@[go_sem] theorem Try.zero89 : zeroOf Try.prog 89 = some [.lit ((Go.Value.nilFunc))] := by kernel_rfl
@[go_sem] theorem Try.tsz90 : tszOf Try.prog 90 = some (1, false) := by kernel_rfl
@[go_sem] theorem Try.udef90 : (Try.prog.underlying 90).isSome = true := by kernel_rfl
@[go_sem] theorem Try.zero90 : zeroOf Try.prog 90 = some [.lit ((Go.Value.nilFunc))] := by kernel_rfl
@[go_sem] theorem Try.tsz91 : tszOf Try.prog 91 = some (1, false) := by kernel_rfl
@[go_sem] theorem Try.udef91 : (Try.prog.underlying 91).isSome = true := by kernel_rfl
@[go_sem] theorem Try.zero91 : zeroOf Try.prog 91 = some [.lit ((Go.Value.nilFunc))] := by kernel_rfl
@[go_sem] theorem Try.tsz92 : tszOf Try.prog 92 = some (1, false) := by kernel_rfl
@[go_sem] theorem Try.udef92 : (Try.prog.underlying 92).isSome = true := by kernel_rfl
@[go_sem] theorem Try.zero92 : zeroOf Try.prog 92 = some [.lit ((Go.Value.pointer none))] := by kernel_rfl
@[go_sem] theorem Try.tsz93 : tszOf Try.prog 93 = some (1, false) := by kernel_rfl
@[go_sem] theorem Try.udef93 : (Try.prog.underlying 93).isSome = true := by kernel_rfl
@[go_sem] theorem Try.zero93 : zeroOf Try.prog 93 = some [.lit ((Go.Value.nilFunc))] := by kernel_rfl
@[go_sem] theorem Try.tsz94 : tszOf Try.prog 94 = some (1, false) := by kernel_rfl
@[go_sem] theorem Try.udef94 : (Try.prog.underlying 94).isSome = true := by kernel_rfl
@[go_sem] theorem Try.zero94 : zeroOf Try.prog 94 = some [.lit ((Go.Value.pointer none))] := by kernel_rfl
@[go_sem] theorem Try.tsz95 : tszOf Try.prog 95 = some (1, false) := by kernel_rfl
@[go_sem] theorem Try.udef95 : (Try.prog.underlying 95).isSome = true := by kernel_rfl
@[go_sem] theorem Try.zero95 : zeroOf Try.prog 95 = some [.lit ((Go.Value.nilFunc))] := by kernel_rfl
@[go_sem] theorem Try.tsz96 : tszOf Try.prog 96 = some (1, false) := by kernel_rfl
@[go_sem] theorem Try.udef96 : (Try.prog.underlying 96).isSome = true := by kernel_rfl
@[go_sem] theorem Try.zero96 : zeroOf Try.prog 96 = some [.lit ((Go.Value.nilFunc))] := by kernel_rfl
@[go_sem] theorem Try.tsz97 : tszOf Try.prog 97 = some (4, true) := by kernel_rfl
@[go_sem] theorem Try.udef97 : (Try.prog.underlying 97).isSome = true := by kernel_rfl
@[go_sem] theorem Try.zero97 : zeroOf Try.prog 97 = some [.lit ((Go.Value.pointer none)), .lit ((Go.Value.pointer none)), .lit ((Go.Value.pointer none)), .str ByteArray.empty] := by kernel_rfl
@[go_sem] theorem Try.pl97 : plOf Try.prog 97 = some [(0, 1), (1, 1), (2, 1), (3, 1)] := by kernel_rfl
@[go_sem] theorem Try.tsz98 : tszOf Try.prog 98 = some (4, true) := by kernel_rfl
@[go_sem] theorem Try.udef98 : (Try.prog.underlying 98).isSome = true := by kernel_rfl
@[go_sem] theorem Try.zero98 : zeroOf Try.prog 98 = some [.lit ((Go.Value.pointer none)), .lit ((Go.Value.pointer none)), .lit ((Go.Value.pointer none)), .str ByteArray.empty] := by kernel_rfl
@[go_sem] theorem Try.pl98 : plOf Try.prog 98 = some [(0, 1), (1, 1), (2, 1), (3, 1)] := by kernel_rfl
@[go_sem] theorem Try.tsz99 : tszOf Try.prog 99 = some (0, true) := by kernel_rfl
@[go_sem] theorem Try.udef99 : (Try.prog.underlying 99).isSome = true := by kernel_rfl
@[go_sem] theorem Try.zero99 : zeroOf Try.prog 99 = some [] := by kernel_rfl
@[go_sem] theorem Try.ar99 : arOf Try.prog 99 = some (0, 1, false) := by kernel_rfl
@[go_sem] theorem Try.pl99 : plOf Try.prog 99 = some [] := by kernel_rfl
@[go_sem] theorem Try.tsz100 : tszOf Try.prog 100 = some (0, true) := by kernel_rfl
@[go_sem] theorem Try.udef100 : (Try.prog.underlying 100).isSome = true := by kernel_rfl
@[go_sem] theorem Try.zero100 : zeroOf Try.prog 100 = some [] := by kernel_rfl
@[go_sem] theorem Try.pl100 : plOf Try.prog 100 = some [(0, 0)] := by kernel_rfl
@[go_sem] theorem Try.tsz101 : tszOf Try.prog 101 = some (0, true) := by kernel_rfl
@[go_sem] theorem Try.udef101 : (Try.prog.underlying 101).isSome = true := by kernel_rfl
@[go_sem] theorem Try.zero101 : zeroOf Try.prog 101 = some [] := by kernel_rfl
@[go_sem] theorem Try.pl101 : plOf Try.prog 101 = some [(0, 0)] := by kernel_rfl
@[go_sem] theorem Try.tsz102 : tszOf Try.prog 102 = some (1, false) := by kernel_rfl
@[go_sem] theorem Try.udef102 : (Try.prog.underlying 102).isSome = true := by kernel_rfl
@[go_sem] theorem Try.zero102 : zeroOf Try.prog 102 = some [.int .u8 0] := by kernel_rfl
@[go_sem] theorem Try.isInt102 : isIntT Try.prog 102 = some .u8 := by kernel_rfl
@[go_sem] theorem Try.tsz103 : tszOf Try.prog 103 = some (1, false) := by kernel_rfl
@[go_sem] theorem Try.udef103 : (Try.prog.underlying 103).isSome = true := by kernel_rfl
@[go_sem] theorem Try.zero103 : zeroOf Try.prog 103 = some [.int .u8 0] := by kernel_rfl
@[go_sem] theorem Try.isInt103 : isIntT Try.prog 103 = some .u8 := by kernel_rfl
@[go_sem] theorem Try.tsz104 : tszOf Try.prog 104 = some (1, false) := by kernel_rfl
@[go_sem] theorem Try.udef104 : (Try.prog.underlying 104).isSome = true := by kernel_rfl
@[go_sem] theorem Try.zero104 : zeroOf Try.prog 104 = some [.lit ((Go.Value.nilFunc))] := by kernel_rfl
@[go_sem] theorem Try.tsz105 : tszOf Try.prog 105 = some (1, false) := by kernel_rfl
@[go_sem] theorem Try.udef105 : (Try.prog.underlying 105).isSome = true := by kernel_rfl
@[go_sem] theorem Try.zero105 : zeroOf Try.prog 105 = some [.lit ((Go.Value.pointer none))] := by kernel_rfl
@[go_sem] theorem Try.tsz106 : tszOf Try.prog 106 = some (1, false) := by kernel_rfl
@[go_sem] theorem Try.udef106 : (Try.prog.underlying 106).isSome = true := by kernel_rfl
@[go_sem] theorem Try.zero106 : zeroOf Try.prog 106 = some [.int .i32 0] := by kernel_rfl
@[go_sem] theorem Try.isInt106 : isIntT Try.prog 106 = some .i32 := by kernel_rfl
@[go_sem] theorem Try.tsz107 : tszOf Try.prog 107 = some (1, false) := by kernel_rfl
@[go_sem] theorem Try.udef107 : (Try.prog.underlying 107).isSome = true := by kernel_rfl
@[go_sem] theorem Try.zero107 : zeroOf Try.prog 107 = some [.int .i32 0] := by kernel_rfl
@[go_sem] theorem Try.isInt107 : isIntT Try.prog 107 = some .i32 := by kernel_rfl
@[go_sem] theorem Try.tsz108 : tszOf Try.prog 108 = some (11, true) := by kernel_rfl
@[go_sem] theorem Try.udef108 : (Try.prog.underlying 108).isSome = true := by kernel_rfl
@[go_sem] theorem Try.zero108 : zeroOf Try.prog 108 = some [.int .u64 0, .int .u64 0, .int .u32 0, .int .u8 0, .int .u8 0, .int .u8 0, .int .u8 0, .lit ((Go.Value.nilFunc)), .lit ((Go.Value.pointer none)), .int .i32 0, .int .i32 0] := by kernel_rfl
@[go_sem] theorem Try.pl108 : plOf Try.prog 108 = some [(0, 1), (1, 1), (2, 1), (3, 1), (4, 1), (5, 1), (6, 1), (7, 1), (8, 1), (9, 1), (10, 1)] := by kernel_rfl
@[go_sem] theorem Try.tsz109 : tszOf Try.prog 109 = some (11, true) := by kernel_rfl
@[go_sem] theorem Try.udef109 : (Try.prog.underlying 109).isSome = true := by kernel_rfl
@[go_sem] theorem Try.zero109 : zeroOf Try.prog 109 = some [.int .u64 0, .int .u64 0, .int .u32 0, .int .u8 0, .int .u8 0, .int .u8 0, .int .u8 0, .lit ((Go.Value.nilFunc)), .lit ((Go.Value.pointer none)), .int .i32 0, .int .i32 0] := by kernel_rfl
@[go_sem] theorem Try.pl109 : plOf Try.prog 109 = some [(0, 1), (1, 1), (2, 1), (3, 1), (4, 1), (5, 1), (6, 1), (7, 1), (8, 1), (9, 1), (10, 1)] := by kernel_rfl
@[go_sem] theorem Try.tsz110 : tszOf Try.prog 110 = some (1, false) := by kernel_rfl
@[go_sem] theorem Try.udef110 : (Try.prog.underlying 110).isSome = true := by kernel_rfl
@[go_sem] theorem Try.zero110 : zeroOf Try.prog 110 = some [.lit ((Go.Value.pointer none))] := by kernel_rfl
@[go_sem] theorem Try.isPt3 : isPt Try.prog 3 = false := by kernel_rfl
@[go_sem] theorem Try.isPt22 : isPt Try.prog 22 = false := by kernel_rfl
@[go_sem] theorem Try.isPt24 : isPt Try.prog 24 = false := by kernel_rfl
@[go_sem] theorem Try.isPt27 : isPt Try.prog 27 = false := by kernel_rfl
@[go_sem] theorem Try.isPt34 : isPt Try.prog 34 = false := by kernel_rfl
@[go_sem] theorem Try.isPt38 : isPt Try.prog 38 = false := by kernel_rfl
@[go_sem] theorem Try.isPt40 : isPt Try.prog 40 = false := by kernel_rfl
@[go_sem] theorem Try.isPt53 : isPt Try.prog 53 = false := by kernel_rfl
@[go_sem] theorem Try.isPt56 : isPt Try.prog 56 = true := by kernel_rfl
@[go_sem] theorem Try.isPt57 : isPt Try.prog 57 = false := by kernel_rfl
@[go_sem] theorem Try.isPt75 : isPt Try.prog 75 = false := by kernel_rfl
@[go_sem] theorem Try.isPt86 : isPt Try.prog 86 = false := by kernel_rfl
@[go_sem] theorem Try.isPt88 : isPt Try.prog 88 = false := by kernel_rfl
theorem Try.okF4 : okF Try.prog 4 = true := by kernel_rfl
theorem Try.okF6 : okF Try.prog 6 = true := by kernel_rfl
theorem Try.okF8 : okF Try.prog 8 = true := by kernel_rfl
theorem Try.okF14 : okF Try.prog 14 = true := by kernel_rfl
theorem Try.okF15 : okF Try.prog 15 = true := by kernel_rfl
theorem Try.okF16 : okF Try.prog 16 = true := by kernel_rfl
theorem Try.okF17 : okF Try.prog 17 = true := by kernel_rfl
theorem Try.okF18 : okF Try.prog 18 = true := by kernel_rfl
theorem Try.okF19 : okF Try.prog 19 = true := by kernel_rfl
theorem Try.okF20 : okF Try.prog 20 = true := by kernel_rfl
theorem Try.okF21 : okF Try.prog 21 = true := by kernel_rfl
theorem Try.okF22 : okF Try.prog 22 = true := by kernel_rfl
theorem Try.okF23 : okF Try.prog 23 = true := by kernel_rfl
theorem Try.okF24 : okF Try.prog 24 = true := by kernel_rfl
theorem Try.okF25 : okF Try.prog 25 = true := by kernel_rfl
theorem Try.okF26 : okF Try.prog 26 = true := by kernel_rfl
theorem Try.okF27 : okF Try.prog 27 = true := by kernel_rfl
theorem Try.okF28 : okF Try.prog 28 = true := by kernel_rfl
theorem Try.okF29 : okF Try.prog 29 = true := by kernel_rfl
theorem Try.okF31 : okF Try.prog 31 = true := by kernel_rfl
theorem Try.okF32 : okF Try.prog 32 = true := by kernel_rfl
theorem Try.okF37 : okF Try.prog 37 = true := by kernel_rfl
theorem Try.okF38 : okF Try.prog 38 = true := by kernel_rfl
theorem Try.okF39 : okF Try.prog 39 = true := by kernel_rfl
theorem Try.okF40 : okF Try.prog 40 = true := by kernel_rfl
theorem Try.okF41 : okF Try.prog 41 = true := by kernel_rfl
theorem Try.okF42 : okF Try.prog 42 = true := by kernel_rfl
theorem Try.okF43 : okF Try.prog 43 = true := by kernel_rfl
theorem Try.okF44 : okF Try.prog 44 = true := by kernel_rfl
theorem Try.okF45 : okF Try.prog 45 = true := by kernel_rfl
theorem Try.okF46 : okF Try.prog 46 = true := by kernel_rfl
theorem Try.okF47 : okF Try.prog 47 = true := by kernel_rfl
theorem Try.okF48 : okF Try.prog 48 = true := by kernel_rfl
theorem Try.okF49 : okF Try.prog 49 = true := by kernel_rfl
theorem Try.okF50 : okF Try.prog 50 = true := by kernel_rfl
theorem Try.okF51 : okF Try.prog 51 = true := by kernel_rfl
theorem Try.okF52 : okF Try.prog 52 = true := by kernel_rfl
theorem Try.okF53 : okF Try.prog 53 = true := by kernel_rfl
theorem Try.okF54 : okF Try.prog 54 = true := by kernel_rfl
theorem Try.okF55 : okF Try.prog 55 = true := by kernel_rfl
theorem Try.okF56 : okF Try.prog 56 = true := by kernel_rfl
theorem Try.okF62 : okF Try.prog 62 = true := by kernel_rfl
theorem Try.okF66 : okF Try.prog 66 = true := by kernel_rfl
theorem Try.okF67 : okF Try.prog 67 = true := by kernel_rfl
theorem Try.okF73 : okF Try.prog 73 = true := by kernel_rfl
end Go.Proofs
end
section
namespace Go.Lv

def rows {α : Type} (cs : α → List V) (L : List α) : List V := L.flatMap cs

section
variable {α : Type} {cs : α → List V} {w : Nat}

theorem rows_len (h : ∀ a, (cs a).length = w) (L : List α) : (rows cs L).length = L.length * w := by
 induction L with
 | nil => simp [rows]
 | cons a L ih => simp [rows, h] at ih ⊢; rw [ih, Nat.succ_mul, Nat.add_comm]

theorem rowsOf_append (L K : List α) : rows cs (L ++ K) = rows cs L ++ rows cs K := by simp [rows]
theorem rows_nil : rows cs ([] : List α) = [] := rfl
theorem rows_cons (a : α) (L : List α) : rows cs (a :: L) = cs a ++ rows cs L := by simp [rows]
theorem rows_one (a : α) : rows cs [a] = cs a := by simp [rows]

theorem rows_drop (h : ∀ a, (cs a).length = w) (L : List α) (i : Nat) : (rows cs L).drop (i * w) = rows cs (L.drop i) := by
 induction i generalizing L with
 | zero => simp
 | succ i ih =>
   cases L with
   | nil => simp [rows]
   | cons a L =>
     rw [rows_cons, Nat.succ_mul, Nat.add_comm, ← List.drop_drop, List.drop_append, h a, Nat.sub_self, List.drop_zero]
     rw [show (cs a).drop w = [] by simp [h]]
     simpa using ih L

theorem rows_take (h : ∀ a, (cs a).length = w) (L : List α) (i : Nat) : (rows cs L).take (i * w) = rows cs (L.take i) := by
 induction i generalizing L with
 | zero => simp [rows]
 | succ i ih =>
   cases L with
   | nil => simp [rows]
   | cons a L =>
     rw [rows_cons, List.take_succ_cons, rows_cons, Nat.succ_mul, Nat.add_comm, List.take_append, h a, Nat.add_sub_cancel_left, ih]
     rw [List.take_of_length_le (by simp [h])]

theorem rows_at (h : ∀ a, (cs a).length = w) {L : List α} {i : Nat} (hi : i < L.length) : ((rows cs L).drop (i * w)).take w = cs L[i] := by
 rw [rows_drop h, List.drop_eq_getElem_cons hi, rows_cons, List.take_append, h, Nat.sub_self, List.take_zero, List.append_nil, List.take_of_length_le (by simp [h])]

theorem rows_all {p : V → Bool} (h : ∀ a, (cs a).all p = true) (L : List α) : (rows cs L).all p = true := by
 induction L with
 | nil => rfl
 | cons a L ih => rw [rows_cons, List.all_append, h a, ih]; rfl

theorem map_ren (f : Nat → R) {d : Nat} {l : List V} (h : l.all (noOwn d) = true) : l.map (ren f d) = l := by
 rw [List.map_congr_left (g := id) (fun x hx => ren_noOwn f d x (List.all_eq_true.1 h x hx)), List.map_id]

theorem wrap_i64 {n : Int} (h0 : -9223372036854775808 ≤ n) (h1 : n ≤ 9223372036854775807) : IntKind.i64.wrap n = n := by
 rw [IntKind.wrap_i64]; omega

def i64R (z : Int) : Prop := -9223372036854775808 ≤ z ∧ z ≤ 9223372036854775807
def lstR (ok : α → Prop) (L : List α) : Prop := L.length ≤ 9223372036854775807 ∧ ∀ x ∈ L, ok x

class FlatP (cs : α → List V) (w : outParam Nat) : Prop where
 len : ∀ a, (cs a).length = w
 plain : ∀ a d, (cs a).all (noOwn d) = true
 cell : ∀ a, (cs a).all isCell = true
 noro : ∀ a, (cs a).all (noRoB 0) = true

theorem rows_length [FlatP cs w] (L : List α) : (rows cs L).length = L.length * w := rows_len FlatP.len L
theorem map_ren_rows [FlatP cs w] (f : Nat → R) (d : Nat) (L : List α) : (rows cs L).map (ren f d) = rows cs L := map_ren f (rows_all (fun a => FlatP.plain a d) L)
theorem rows_cell [FlatP cs w] (L : List α) : (rows cs L).all isCell = true := rows_all FlatP.cell L
theorem rows_noRo [FlatP cs w] (L : List α) : (rows cs L).all (noRoB 0) = true := rows_all FlatP.noro L
theorem rows_noOwn [FlatP cs w] (L : List α) (d : Nat) : (rows cs L).all (noOwn d) = true := rows_all (fun a => FlatP.plain a d) L
theorem rows_refV [FlatP cs w] (p : Nat → Bool) (L : List α) (d : Nat) : (rows cs L).all (refV p d) = true := List.all_eq_true.2 fun x hx => refV_noOwn p d x (List.all_eq_true.1 (rows_noOwn (cs := cs) L d) x hx)
theorem noRoH_rows [FlatP cs w] (L : List α) : NoRoH [some (rows cs L)] := NoRoH.of (by simp only [hpNoRo, List.all_cons, List.all_nil, rows_noRo, Bool.and_self])
theorem take_rows [FlatP cs w] (L : List α) : (rows cs L).take (L.length * w) = rows cs L := List.take_of_length_le (by rw [rows_length]; exact Nat.le_refl _)

theorem le_snap [FlatP cs w] {h : Hp} {id : Nat} {L : List α} (hid : h[id]? = some (some (rows cs L))) : LeV (ren (snapR h 3) 3 (.osl id 0 L.length w)) (.sl L.length w (rows cs L)) := by
 refine .inl ?_
 simp only [ren, snapR, hid, map_ren_rows, List.drop_zero, take_rows]
theorem le_snap' [FlatP cs w] {h : Hp} {id n : Nat} {L : List α} (hid : h[id]? = some (some (rows cs L))) (hn : n = L.length) : LeV (ren (snapR h 3) 3 (.osl id 0 n w)) (.sl L.length w (rows cs L)) := by
 subst hn; exact le_snap hid
theorem le_nil {h : Hp} {w : Nat} : LeV (ren (snapR h 3) 3 .nilsl) (.sl 0 w []) := .inr (.inr (.inl ⟨rfl, w, rfl⟩))
theorem LeV.aggR {f : Nat → R} {d : Nat} {cs cs' : List V} (h : LeA (cs.map (ren f d)) cs') : LeV (ren f (d + 1) (.agg cs)) (.agg cs') := LeV.agg h
theorem leE_snap [FlatP cs w] {h : Hp} {id n n' : Nat} {L : List α} (hid : h[id]? = some (some (rows cs L))) (hn : n = L.length) (hn' : n' = L.length) : LeE (ren (snapR h 3) 2 (.osl id 0 n w)) (.sl n' w (rows cs L)) := by
 subst hn hn'
 refine .inl ?_
 simp only [ren, snapR, hid, map_ren_rows, List.drop_zero, take_rows]
theorem lend_one [FlatP cs w] {h : Hp} {id : Nat} {fz : Bool} {L : List α} (hid : h[id]? = some (some (rows cs L))) : pickH [id] h fz = [some (rows cs L)] := by
 simp only [pickH, List.map_cons, List.map_nil, pickB, hid, map_ren_rows]
theorem isMb_cells {l : List V} (h : l.all isCell = true) : isMb l = false := by
 match l, h with
 | [], _ => rfl
 | _ :: _ :: _, _ => rfl
 | [x], h => cases x <;> first | rfl | (simp [isCell] at h)
theorem isMb_rows [FlatP cs w] (L : List α) : isMb (rows cs L) = false := isMb_cells (rows_cell L)
theorem grown_one [FlatP cs w] {L L' : List α} (h : L.length = L'.length) : grown [some (rows cs L)] [some (rows cs L')] := by
 simp [grown, rows_length, h, isMb_rows]

def optO (w : Nat) (R : Option (List α)) : V := match R with
 | some M => .tup [.osl 0 0 M.length w, .bool true]
 | none => .tup [.osl 0 0 0 w, .bool false]
def optOh (cs : α → List V) (R : Option (List α)) : Hp := match R with
 | some M => [some (rows cs M)]
 | none => [some []]
def optN (w : Nat) (R : Option (List α)) : V := match R with
 | some M => .tup [.osl 0 0 M.length w, .bool true]
 | none => .tup [.nilsl, .bool false]
def optNh (cs : α → List V) (R : Option (List α)) : Hp := match R with
 | some M => [some (rows cs M)]
 | none => []
theorem rows_snoc (L : List α) (a : α) : rows cs L ++ cs a = rows cs (L ++ [a]) := by rw [rowsOf_append, rows_one]

theorem LeL_same {f : V → V} : ∀ {l : List V}, l.map f = l → LeL (l.map f) l
 | [], _ => trivial
 | a :: l, h => by
   simp only [List.map_cons, List.cons.injEq] at h
   exact ⟨.inl h.1.symm, LeL_same h.2⟩

theorem splice_mid {A M ns : List V} {n j : Nat} (h : A.length = n) : splice (A ++ M) (n + j) ns = A ++ splice M j ns := by
 subst h
 unfold splice
 rw [List.take_append, List.drop_append, List.take_of_length_le (by omega), List.drop_of_length_le (by omega)]
 simp only [Nat.add_sub_cancel_left, List.nil_append, List.append_assoc]
 congr 3
 congr 1
 omega
theorem splice_mid0 {A M ns : List V} {n : Nat} (h : A.length = n) : splice (A ++ M) n ns = A ++ splice M 0 ns := by
 have := splice_mid (M := M) (ns := ns) (j := 0) h
 rwa [Nat.add_zero] at this

theorem apart {L : List α} {i : Nat} (hi : i < L.length) : ∃ A B, L = A ++ L[i] :: B ∧ A.length = i ∧ A = L.take i ∧ B = L.drop (i + 1) := by
 refine ⟨L.take i, L.drop (i + 1), ?_, by simp; omega, rfl, rfl⟩
 rw [← List.drop_eq_getElem_cons hi, List.take_append_drop]

def listedQ (p : α → Bool) (k : α → Int) (L : List α) (i : Nat) : Bool :=
 match L[i]? with
 | none => true
 | some x => p x && match i with
   | 0 => true
   | j + 1 => match L[j]? with
     | none => true
     | some y => decide (k y < k x)

def listedB (p : α → Bool) (k : α → Int) (m : Nat) (L : List α) : Bool := (List.range L.length).all (listedQ p k L) && decide (L.length ≤ m)

theorem range_all_false {q : Nat → Bool} {n i : Nat} (hi : i < n) (h : q i = false) : (List.range n).all q = false := by
 rw [List.all_eq_false]
 exact ⟨i, by simpa using hi, by simp [h]⟩
theorem range_all_succ {q : Nat → Bool} {i : Nat} (h : (List.range i).all q = true) (h1 : q i = true) : (List.range (i + 1)).all q = true := by
 rw [List.range_succ, List.all_append, h]
 simp [h1]
theorem listedB_false {p : α → Bool} {k : α → Int} {m : Nat} {L : List α} {i : Nat} (hi : i < L.length) (h : listedQ p k L i = false) : listedB p k m L = false := by
 rw [listedB, range_all_false hi h]
 rfl
theorem listedQ_zero {p : α → Bool} {k : α → Int} {L : List α} (h0 : 0 < L.length) : listedQ p k L 0 = p L[0] := by simp [listedQ, h0]
theorem listedQ_succ {p : α → Bool} {k : α → Int} {L : List α} {j : Nat} (h : j + 1 < L.length) : listedQ p k L (j + 1) = (p L[j + 1] && decide (k (L[j]'(by omega)) < k L[j + 1])) := by
 have : j < L.length := by omega
 simp [listedQ, h, this]
end

theorem leA {x y : V} (h : LeV x y := by first | exact le_snap rfl | exact .inl rfl | exact le_nil | exact le_snap' rfl (by simp) | exact LeV.aggR (by first | ((repeat' (first | exact True.intro | exact leE_snap rfl (by simp) (by simp) | exact LeE.nil | exact LeE.refl _ | refine And.intro ?_ ?_)); done) | fail)) : LeV x y := h
theorem callT.at {P : Program} {h : Hp} {g : FuncId} {a c args : List V} {K : V → Hp → Prop} {x : Tag K} {as' : List V} {r : V} {hout : Hp} (hs : Ctr P g as' [] r hout) (hle : LeL ((a ++ args ++ c).map (ren (snapR h 3) 3)) as') (hk : K r hout)
   (hro : (a ++ args ++ c).all (noOwn 3) = true ∨ NoRo r ∧ NoRoH hout := by first | exact .inl rfl | exact .inr ⟨noRo_ok 3 rfl, by first | exact NoRoH.nil | exact noRoH_rows _ | exact NoRoH.of (by simp only [hpNoRo, List.all_cons, List.all_nil, rows_noRo, Bool.and_self])⟩)
   (hrf : refOk h 4 (.fn (.func g) a c) = true ∧ args.all (refOk h 3) = true := by first | exact ⟨rfl, rfl⟩ | exact ⟨rfl, by simp [refOk, refV, refB, noOwn, rows_noOwn, rows_refV]⟩ | simp [refOk, refV, refB, noOwn, rows_noOwn, rows_refV]) : callT P h (.fn (.func g) a c) args K x :=
 callT.intro hs hle hro hrf hk
theorem callS.at {P : Program} {t : List V} {h : Hp} {k : Nat} {dst : Option Tmp} {g : FuncId} {a c args : List V} {K : St → Prop} {x : Tag K} {as' : List V} {r : V} {hout : Hp} (hs : Ctr P g as' [] r hout)
   (hle : LeL ((a ++ args ++ c).map (ren (snapR h 3) 3)) as') (hk : K (afterCall ⟨t, h, k⟩ dst r hout))
   (hro : (a ++ args ++ c).all (noOwn 3) = true ∨ NoRo r ∧ NoRoH hout := by first | exact .inl rfl | exact .inr ⟨noRo_ok 3 rfl, by first | exact NoRoH.nil | exact noRoH_rows _ | exact NoRoH.of (by simp only [hpNoRo, List.all_cons, List.all_nil, rows_noRo, Bool.and_self])⟩) : callS P ⟨t, h, k⟩ dst (.fn (.func g) a c) args K x :=
 callS.intro hs hle hro hk
theorem lendA {sel : List Nat} {h hin : Hp} {fz : Bool} (hh : pickH sel h fz = hin := by first | exact lend_one rfl | rfl | (simp only [pickH, List.map_cons, List.map_nil, pickB, List.getElem?_cons_zero, List.getElem?_cons_succ, map_ren_rows]; done)) : pickH sel h fz = hin := hh
theorem leO {x y : V} (h : LeV x y := by first | exact .inl rfl | exact LeV.aggR (by first | ((repeat' (first | exact True.intro | exact LeE.nil | exact LeE.refl _ | refine And.intro ?_ ?_)); done) | fail)) : LeV x y := h
theorem sideA {a b : Prop} (hb : b) (ha : a := by first | omega | with_reducible rfl | (show drawOk _ = true; kernel_rfl) | (simp only [rows_length, rows_cell, List.length_append, List.length_cons, List.length_nil, List.all_append, List.all_cons, List.all_nil, isCell, Nat.mul_one, Nat.one_mul, Bool.and_self]; first | done | omega)) : a ∧ b := ⟨ha, hb⟩
attribute [go_sem] Nat.le_refl Int.toNat_natCast beq_self_eq_true bne_self_eq_false decide_true decide_false eq_self ne_eq Option.some.injEq not_false_eq_true Option.map_some map_ren_rows
attribute [go_sem] Nat.reduceSub Nat.reduceAdd Nat.reduceMul Nat.reduceLT Nat.reduceLeDiff Nat.reduceEqDiff Nat.reduceDiv Nat.reduceMod Int.reduceToNat Int.reduceLE Int.reduceLT Int.reduceBEq Int.reduceBNe Int.reduceNeg Int.reduceAdd Int.reduceSub Int.reduceMul reduceCtorEq
end Go.Lv
end
section
set_option maxRecDepth 100000
namespace Go.Proofs
open Go.Lv
def inB' (n a b : Int) : Bool := decide (a ≤ n) && decide (n ≤ b)
theorem in_ok (n a b : Int) : Ctr Try.prog 32 [.int .i64 n, .int .i64 a, .int .i64 b] [] (.bool (inB' n a b)) [] := by
 refine Ctr.intro Try.mixed Try.func32 rfl Try.okF32 ?_
 simp -implicitDefEqProofs -dsimp only [go_sem, Try.ntmps32, Try.results32]
 refine guardT.splitT (fun h1 => ?_) (fun h1 => ?_) <;> simp -implicitDefEqProofs -dsimp only [go_sem, h1]
 · exact WeakR.of_eq (by simp [inB', h1])
 · exact WeakR.of_eq (by simp [inB', h1])
theorem l1In_ok (n a b : Int) : Ctr Try.prog 29 [.int .i64 n, .int .i64 a, .int .i64 b] [] (.bool (inB' n a b)) [] := by
 refine Ctr.intro Try.mixed Try.func29 rfl Try.okF29 ?_
 simp -implicitDefEqProofs -dsimp only [go_sem, Try.ntmps29, Try.results29]
 refine guardT.splitT (fun h1 => ?_) (fun h1 => ?_) <;> simp -implicitDefEqProofs -dsimp only [go_sem, h1]
 · exact WeakR.of_eq (by simp [inB', h1])
 · exact WeakR.of_eq (by simp [inB', h1])
theorem l1Most_ok (a b : Int) : Ctr Try.prog 55 [.int .i64 a, .int .i64 b] [] (.int .i64 (max a b)) [] := by
 refine Ctr.intro Try.mixed Try.func55 rfl Try.okF55 ?_
 simp -implicitDefEqProofs -dsimp only [go_sem, Try.ntmps55, Try.results55]
 refine condT.split (fun h1 => ?_) (fun h1 => ?_) <;> simp -implicitDefEqProofs -dsimp only [go_sem, h1]
 · exact WeakR.of_eq (by simp at h1; congr 1; omega)
 · exact WeakR.of_eq (by simp at h1; congr 1; omega)
theorem abs_ok (n : Int) (h0 : -4611686018427387904 ≤ n) (h1 : n ≤ 4611686018427387904) : Ctr Try.prog 67 [.int .i64 n] [] (.int .i64 (n.natAbs)) [] := by
 refine Ctr.intro Try.mixed Try.func67 rfl Try.okF67 ?_
 simp -implicitDefEqProofs -dsimp only [go_sem, Try.ntmps67, Try.results67]
 rw [wrap_i64 (by omega) (by omega)]
 exact WeakR.of_eq (by congr 1; split <;> omega)
theorem tmod_nat (a b : Nat) : Int.tmod (a : Int) (b : Int) = ((a % b : Nat) : Int) := rfl
theorem tdiv_nat (a b : Nat) : Int.tdiv (a : Int) (b : Int) = ((a / b : Nat) : Int) := rfl
theorem gcd_ok (a b : Nat) (ha : a ≤ 4611686018427387904) (hb : b ≤ 4611686018427387904) : Ctr Try.prog 54 [.int .i64 a, .int .i64 b] [] (.int .i64 (Nat.gcd a b)) [] := by
 refine Ctr.intro Try.mixed Try.func54 rfl Try.okF54 ?_
 simp -implicitDefEqProofs -dsimp only [go_sem, Try.ntmps54, Try.results54]
 refine LoopT.intro (fun p : Nat × Nat => p.1 ≤ 4611686018427387904 ∧ p.2 ≤ 4611686018427387904 ∧ Nat.gcd p.1 p.2 = Nat.gcd a b) (fun p => ⟨[.int .i64 p.1, .int .i64 p.2, .undef, .undef, .undef, .undef, .undef, .undef, .undef, .undef, .undef, .undef, .undef], [], 0⟩) (fun p => p.2) (a, b) ⟨ha, hb, rfl⟩ ?_ (fun p hi => ?_)
 · refine Weak.cut (0) (by simp) (by simp) ?_ ?_
   · simp [LeC, LeV, ren, cutF]
   · rfl
 obtain ⟨x, y⟩ := p
 dsimp only at hi ⊢
 simp -implicitDefEqProofs -dsimp only [go_sem]
 refine condT.split (fun h1 => ?_) (fun h1 => ?_)
 · simp -implicitDefEqProofs -dsimp only [go_sem, h1]
   have hy : y ≠ 0 := by simpa using h1
   rw [tmod_nat]
   refine ⟨by kernel_rfl, by omega, (y, x % y), ⟨hi.2.1, ?_, ?_⟩, ?_, Nat.mod_lt _ (by omega)⟩
   · exact Nat.le_trans (Nat.mod_le _ _) hi.1
   · rw [← hi.2.2]; dsimp only; rw [Nat.gcd_comm x y, Nat.gcd_rec y x, Nat.gcd_comm]
   refine Weak.cut (0) (by simp) (by simp) ?_ ?_
   · simp [LeC, LeV, ren, cutF]
   · rfl
 · simp -implicitDefEqProofs -dsimp only [go_sem, h1]
   have hy : y = 0 := by simpa using h1
   subst hy
   (first | refine callT.at (abs_ok (x : Int) (by omega) (by omega)) ⟨.inl rfl, trivial⟩ ?_ | refine callS.at (abs_ok (x : Int) (by omega) (by omega)) ⟨.inl rfl, trivial⟩ ?_)
   simp -implicitDefEqProofs -dsimp only [go_sem]
   exact WeakR.of_eq (by rw [← hi.2.2]; simp)
theorem fraction_ok (a b : Nat) (ha : a ≤ 4611686018427387904) (hb : b ≤ 4611686018427387904) (hb0 : 0 < b) : Ctr Try.prog 43 [.int .i64 a, .int .i64 b] [] (.tup [.int .i64 ((a / Nat.gcd a b : Nat) : Int), .int .i64 ((b / Nat.gcd a b : Nat) : Int)]) [] := by
 refine Ctr.intro Try.mixed Try.func43 rfl Try.okF43 ?_
 simp -implicitDefEqProofs -dsimp only [go_sem, Try.ntmps43, Try.results43]
 (first | refine callT.at (gcd_ok a b ha hb) ⟨.inl rfl, .inl rfl, trivial⟩ ?_ | refine callS.at (gcd_ok a b ha hb) ⟨.inl rfl, .inl rfl, trivial⟩ ?_)
 have hg : 0 < Nat.gcd a b := Nat.gcd_pos_of_pos_right _ hb0
 simp -implicitDefEqProofs -dsimp only [go_sem, tdiv_nat]
 have h1 := Nat.div_le_self a (Nat.gcd a b)
 have h2 := Nat.div_le_self b (Nat.gcd a b)
 generalize a / Nat.gcd a b = q1 at *
 generalize b / Nat.gcd a b = q2 at *
 rw [wrap_i64 (by omega) (by omega), wrap_i64 (by omega) (by omega)]
 refine ⟨by kernel_rfl, by omega, by omega, ?_⟩
 exact WeakR.refl _ _ _
theorem l2Reduce_ok (a b : Nat) (ha : a ≤ 4611686018427387904) (hb : b ≤ 4611686018427387904) (hb0 : 0 < b) : Ctr Try.prog 44 [.int .i64 a, .int .i64 b] [] (.tup [.int .i64 ((a / Nat.gcd a b : Nat) : Int), .int .i64 ((b / Nat.gcd a b : Nat) : Int)]) [] := by
 refine Ctr.intro Try.mixed Try.func44 rfl Try.okF44 ?_
 simp -implicitDefEqProofs -dsimp only [go_sem, Try.ntmps44, Try.results44]
 rw [wrap_i64 (by omega) (by omega)]
 (first | refine callT.at (l1Most_ok (a : Int) (0 - (a : Int))) ⟨.inl rfl, .inl rfl, trivial⟩ ?_ | refine callS.at (l1Most_ok (a : Int) (0 - (a : Int))) ⟨.inl rfl, .inl rfl, trivial⟩ ?_)
 simp -implicitDefEqProofs -dsimp only [go_sem]
 refine LoopT.intro (fun p : Nat × Nat => p.1 ≤ 4611686018427387904 ∧ p.2 ≤ 4611686018427387904 ∧ Nat.gcd p.1 p.2 = Nat.gcd a b) (fun p => ⟨[.int .i64 a, .int .i64 b, .undef, .undef, .undef, .undef, .int .i64 p.1, .int .i64 p.2, .undef, .undef, .undef, .undef, .undef, .undef, .undef, .undef, .undef, .undef, .undef, .undef, .undef, .undef, .undef, .undef, .undef, .undef, .undef], [], 0⟩) (fun p => p.2) (a, b) ⟨ha, hb, rfl⟩ ?_ (fun p hi => ?_)
 · refine Weak.cut (0) (by simp) (by simp) ?_ ?_
   · rw [show max (a : Int) (0 - (a : Int)) = a by omega]
     simp [LeC, LeV, ren, cutF]
   · rfl
 obtain ⟨x, y⟩ := p
 dsimp only at hi ⊢
 simp -implicitDefEqProofs -dsimp only [go_sem]
 refine condT.split (fun h1 => ?_) (fun h1 => ?_)
 · simp -implicitDefEqProofs -dsimp only [go_sem, h1]
   have hy : y ≠ 0 := by simpa using h1
   rw [tmod_nat]
   refine ⟨by omega, (y, x % y), ⟨hi.2.1, ?_, ?_⟩, ?_, Nat.mod_lt _ (by omega)⟩
   · exact Nat.le_trans (Nat.mod_le _ _) hi.1
   · rw [← hi.2.2]; dsimp only; rw [Nat.gcd_comm x y, Nat.gcd_rec y x, Nat.gcd_comm]
   refine Weak.cut (0) (by simp) (by simp) ?_ ?_
   · simp [LeC, LeV, ren, cutF]
   · rfl
 · simp -implicitDefEqProofs -dsimp only [go_sem, h1]
   have hy : y = 0 := by simpa using h1
   subst hy
   have hx : x = Nat.gcd a b := by rw [← hi.2.2]; simp
   subst hx
   have hg : 0 < Nat.gcd a b := Nat.gcd_pos_of_pos_right _ hb0
   rw [tdiv_nat, tdiv_nat]
   have h1 := Nat.div_le_self a (Nat.gcd a b)
   have h2 := Nat.div_le_self b (Nat.gcd a b)
   generalize a / Nat.gcd a b = q1 at *
   generalize b / Nat.gcd a b = q2 at *
   rw [wrap_i64 (by omega) (by omega), wrap_i64 (by omega) (by omega)]
   refine ⟨by kernel_rfl, by omega, by omega, ?_⟩
   exact WeakR.refl _ _ _
theorem listedB_all {α : Type} {p : α → Bool} {k : α → Int} {m : Nat} {L : List α} (h : listedB p k m L = true) : (∀ x ∈ L, p x = true) ∧ L.length ≤ m := by
 simp only [listedB, Bool.and_eq_true, decide_eq_true_eq, List.all_eq_true, List.mem_range] at h
 refine ⟨fun x hx => ?_, h.2⟩
 obtain ⟨i, hi, rfl⟩ := List.getElem_of_mem hx
 have := h.1 i hi
 simp only [listedQ, List.getElem?_eq_getElem hi, Bool.and_eq_true] at this
 exact this.1
theorem listedB_lt {α : Type} {p : α → Bool} {k : α → Int} {m : Nat} {L : List α} (h : listedB p k m L = true) : (L.map k).Pairwise (· < ·) := by
 simp only [listedB, Bool.and_eq_true, List.all_eq_true, List.mem_range] at h
 have adj : ∀ j, (hj : j + 1 < L.length) → k (L[j]'(by omega)) < k L[j + 1] := by
   intro j hj
   have := h.1 (j + 1) hj
   rw [listedQ_succ hj] at this
   simp at this
   exact this.2
 rw [List.pairwise_iff_getElem]
 intro i j hi hj hij
 simp only [List.length_map] at hi hj
 simp only [List.getElem_map]
 induction j with
 | zero => omega
 | succ j ih =>
   have h1 := adj j hj
   rcases Nat.lt_succ_iff_lt_or_eq.1 hij with h2 | h2
   · have := ih (by simpa using (by omega : j < L.length)) h2 (by omega)
     omega
   · subst h2; exact h1
def wsum {α : Type} (f : α → Int) (L : List α) : Int := L.foldl (fun a x => IntKind.i64.wrap (a + f x)) 0
theorem wsum_succ {α : Type} (f : α → Int) {L : List α} {i : Nat} (hi : i < L.length) : wsum f (L.take (i + 1)) = IntKind.i64.wrap (wsum f (L.take i) + f L[i]) := by
 rw [List.take_succ_eq_append_getElem hi, wsum, List.foldl_append]
 rfl
def psum {α : Type} (f : α → Int) (L : List α) : Int := (L.map f).sum
theorem psum_succ {α : Type} (f : α → Int) {L : List α} {i : Nat} (hi : i < L.length) : psum f (L.take (i + 1)) = psum f (L.take i) + f L[i] := by
 rw [psum, List.take_succ_eq_append_getElem hi, List.map_append, List.sum_append]
 show _ = (List.map f (List.take i L)).sum + f L[i]
 simp
theorem psum_bound {α : Type} {f : α → Int} {B : Int} : ∀ {L : List α}, (∀ x ∈ L, 0 ≤ f x ∧ f x ≤ B) → 0 ≤ psum f L ∧ psum f L ≤ L.length * B
 | [], _ => by simp [psum]
 | x :: L, h => by
   have h1 := h x (by simp)
   have h2 := psum_bound (L := L) (fun y hy => h y (by simp [hy]))
   have e : psum f (x :: L) = f x + psum f L := by simp [psum]
   rw [e, List.length_cons]
   have : ((L.length + 1 : Nat) : Int) * B = L.length * B + B := by rw [Int.natCast_add, Int.add_mul]; simp
   omega
theorem wsum_psum {α : Type} {f : α → Int} {B : Int} {L : List α} (h : ∀ x ∈ L, 0 ≤ f x ∧ f x ≤ B) (hB : L.length * B ≤ 9223372036854775807) : wsum f L = psum f L := by
 have hB0 : 0 ≤ B ∨ L = [] := by
   cases L with
   | nil => exact .inr rfl
   | cons x L => have := h x (by simp); exact .inl (by omega)
 have key : ∀ i, i ≤ L.length → wsum f (L.take i) = psum f (L.take i) := by
   intro i
   induction i with
   | zero => intro _; simp [wsum, psum]
   | succ i ih =>
     intro hi
     have hi' : i < L.length := hi
     rw [wsum_succ f hi', psum_succ f hi', ih (by omega)]
     have h1 := psum_bound (L := L.take (i + 1)) (fun x hx => h x (List.mem_of_mem_take hx))
     rw [psum_succ f hi'] at h1
     have h2 : (((L.take (i + 1)).length : Nat) : Int) * B ≤ L.length * B := by
       rcases hB0 with h0 | h0
       · exact Int.mul_le_mul_of_nonneg_right (by simp; omega) h0
       · subst h0; simp at hi'
     rw [wrap_i64 (by omega) (by omega)]
 have := key L.length (Nat.le_refl _)
 simpa using this
end Go.Proofs
end
section
set_option maxRecDepth 100000
namespace Go.Proofs
open Go.Lv
structure WeekRow where
 Week : Int
 Events : Int
 Felt : Int
 Picks : Int
 Lost : Int
def WeekRow.cs (r : WeekRow) : List V := [.int .i64 r.Week, .int .i64 r.Events, .int .i64 r.Felt, .int .i64 r.Picks, .int .i64 r.Lost]
def WeekRow.v (r : WeekRow) : V := .agg [.int .i64 r.Week, .int .i64 r.Events, .int .i64 r.Felt, .int .i64 r.Picks, .int .i64 r.Lost]
theorem WeekRow.csl (a : WeekRow) : a.cs.length = 5 := rfl
instance : FlatP WeekRow.cs 5 := ⟨fun _ => rfl, fun _ d => by cases d <;> rfl, fun _ => rfl, fun _ => rfl⟩
def WeekRow.ok (r : WeekRow) : Prop := i64R r.Week ∧ i64R r.Events ∧ i64R r.Felt ∧ i64R r.Picks ∧ i64R r.Lost
abbrev WeekRow.rows (L : List WeekRow) : List V := Go.Lv.rows WeekRow.cs L
abbrev WeekRow.sl (L : List WeekRow) : V := .sl L.length 5 (Go.Lv.rows WeekRow.cs L)
abbrev WeekRow.zs : List V := [.int .i64 0, .int .i64 0, .int .i64 0, .int .i64 0, .int .i64 0]
def WeekRow.mk1 (k : Int) : WeekRow := ⟨k, k + 1, k + 1 + 1, k + 1 + 1 + 1, k + 1 + 1 + 1 + 1⟩
def WeekRow.marks (k : Int) (n : Nat) : List WeekRow := (List.range n).map fun i : Nat => WeekRow.mk1 (k + 5 * (i : Int))
@[simp] theorem WeekRow.marks_len (k : Int) (n : Nat) : (WeekRow.marks k n).length = n := by simp [WeekRow.marks]
theorem areListedWeekRow_ok (L : List WeekRow) (p : WeekRow → Bool) (key : WeekRow → Int) (most : Int) (fv fk : Nat) (vc kc : List V) (hvc : ∀ d, vc.all (noOwn d) = true) (hkc : ∀ d, kc.all (noOwn d) = true) (hv : ∀ x, Ctr Try.prog fv (WeekRow.v x :: vc) [] (.bool (p x)) []) (hkey : ∀ x, Ctr Try.prog fk (WeekRow.v x :: kc) [] (.int .i64 (key x)) []) (m : Nat) (hm : most = m) (hl : L.length ≤ 281474976710656) :
   Ctr Try.prog 46 [WeekRow.sl L, .int .i64 most, .fn (.func fv) [] vc, .fn (.func fk) [] kc] [] (.bool (listedB p key m L)) [] := by
 subst hm
 refine Ctr.intro Try.mixed Try.func46 rfl Try.okF46 ?_
 simp -implicitDefEqProofs -dsimp only [go_sem, Try.ntmps46, Try.results46]
 have hvc2 : ∀ f d, vc.map (ren f d) = vc := fun f d => map_ren f (hvc d)
 have hkc2 : ∀ f d, kc.map (ren f d) = kc := fun f d => map_ren f (hkc d)
 refine LoopT.intro (fun i : Nat => i ≤ L.length ∧ (List.range i).all (listedQ p key L) = true) (fun i => ⟨[WeekRow.sl L, .int .i64 m, .fn (.func fv) [] vc, .fn (.func fk) [] kc, .undef, .undef, .undef, .undef, .undef, .undef, .undef, WeekRow.sl L, .int .i64 L.length, .int .i64 i, .undef, .undef, .undef, .undef, .undef, .undef, .undef, .undef, .undef, .undef, .undef, .undef, .undef, .undef, .undef, .undef, .undef, .undef, .undef, .undef, .undef, .undef, .undef, .undef, .undef, .undef, .undef, .undef, .undef, .undef], [], 0⟩) (fun i => L.length - i) 0 ⟨Nat.zero_le _, rfl⟩ ?_ (fun i hi => ?_)
 · refine Weak.cut (0) (by simp) (by simp) ?_ ?_
   · simp [LeC, LeV, ren, cutF, hvc2, hkc2]
   · rfl
 simp -implicitDefEqProofs -dsimp only [go_sem]
 refine condT.split (fun h1 => ?_) (fun h1 => ?_)
 · simp -implicitDefEqProofs -dsimp only [go_sem, h1]
   have hi' : i < L.length := by simpa using h1
   have h5 := WeekRow.csl L[i]
   have hr := rows_at WeekRow.csl hi'
   (repeat1' (first | simp -implicitDefEqProofs -dsimp only [go_sem, hr, WeekRow.cs] | simp -dsimp (disch := omega) only [wrap_i64]))
   repeat (with_reducible refine sideA ?_)
   refine callT.intro (hv L[i]) ⟨.inl rfl, LeL_same (hvc2 _ _)⟩ (.inl (by simp only [List.nil_append, List.cons_append, List.all_cons, hvc, Bool.and_true]; rfl)) ⟨refOk_fn (hvc 3), rfl⟩ ?_
   simp -implicitDefEqProofs -dsimp only [go_sem]
   refine guardT.splitF (fun h2 => ?_) (fun h2 => ?_) <;> simp -implicitDefEqProofs -dsimp only [go_sem, h2]
   · have hw : p L[i] = true := by simpa using h2
     refine guardT.splitT (fun h3 => ?_) (fun h3 => ?_) <;> simp -implicitDefEqProofs -dsimp only [go_sem, h3]
     · obtain ⟨j, rfl⟩ : ∃ j, i = j + 1 := ⟨i - 1, by simp at h3; omega⟩
       have hj : j < L.length := by omega
       refine callT.intro (hkey L[j + 1]) ⟨.inl rfl, LeL_same (hkc2 _ _)⟩ (.inl (by simp only [List.nil_append, List.cons_append, List.all_cons, hkc, Bool.and_true]; rfl)) ⟨refOk_fn (hkc 3), rfl⟩ ?_
       have hw1 : IntKind.i64.wrap (((j + 1 : Nat) : Int) - 1) = (j : Int) := by rw [wrap_i64 (by omega) (by omega)]; omega
       have hr2 := rows_at WeekRow.csl hj
       (repeat1' (first | simp -implicitDefEqProofs -dsimp only [go_sem, hw1, hr2, WeekRow.cs] | simp -dsimp (disch := omega) only [wrap_i64]))
       repeat (with_reducible refine sideA ?_)
       refine callT.intro (hkey L[j]) ⟨.inl rfl, LeL_same (hkc2 _ _)⟩ (.inl (by simp only [List.nil_append, List.cons_append, List.all_cons, hkc, Bool.and_true]; rfl)) ⟨refOk_fn (hkc 3), rfl⟩ ?_
       (repeat1' (first | simp -implicitDefEqProofs -dsimp only [go_sem] | simp -dsimp (disch := omega) only [wrap_i64]))
       refine condT.split (fun h4 => ?_) (fun h4 => ?_) <;> simp -implicitDefEqProofs -dsimp only [go_sem, h4]
       · refine WeakR.drop' ?_ rfl
         have hq : listedQ p key L (j + 1) = false := by
           rw [listedQ_succ hi', hw]
           simp at h4 ⊢
           omega
         rw [listedB_false hi' hq]
       · refine ⟨j + 1 + 1, ⟨hi', range_all_succ hi.2 (by rw [listedQ_succ hi', hw]; simp at h4 ⊢; omega)⟩, ?_, by omega⟩
         refine Weak.cut (0) (by simp) (by simp) ?_ ?_
         · rw [wrap_i64 (by omega) (by omega)]
           simp [LeC, LeV, ren, cutF, hvc2, hkc2]
         · rfl
     · have h0 : i = 0 := by simp at h3; omega
       refine ⟨i + 1, ⟨hi', range_all_succ hi.2 (by subst h0; rw [listedQ_zero hi', hw])⟩, ?_, by omega⟩
       refine Weak.cut (0) (by simp) (by simp) ?_ ?_
       · rw [wrap_i64 (by omega) (by omega)]
         simp [LeC, LeV, ren, cutF, hvc2, hkc2]
       · rfl
   · have hw : p L[i] = false := by simpa using h2
     refine WeakR.drop' ?_ rfl
     have hq : listedQ p key L i = false := by simp [listedQ, hi', hw]
     rw [listedB_false hi' hq]
 · simp -implicitDefEqProofs -dsimp only [go_sem, h1]
   refine WeakR.drop' ?_ rfl
   have : i = L.length := by simp at h1; omega
   subst this
   rw [listedB, hi.2]
   simp
   try omega
end Go.Proofs
end
section
set_option maxRecDepth 100000
namespace Go.Proofs
open Go.Lv
def wrB (r : WeekRow) : Bool := inB' r.Week 1 5000 && inB' r.Events 0 9999 && inB' r.Felt 0 r.Events && inB' r.Picks 0 99999 && inB' r.Lost 0 9999
theorem l26One_ok (r : WeekRow) : Ctr Try.prog 45 [r.v] [] (.bool (wrB r)) [] := by
 refine Ctr.intro Try.mixed Try.func45 rfl Try.okF45 ?_
 simp -implicitDefEqProofs -dsimp only [go_sem, Try.ntmps45, Try.results45]
 simp -implicitDefEqProofs -dsimp only [go_sem, WeekRow.v]
 repeat' (first | (refine WeakR.drop' ?_ rfl; (simp [wrB, *]; done)) | ((first | refine callT.at (l1In_ok _ _ _) ⟨.inl rfl, .inl rfl, .inl rfl, trivial⟩ ?_ | refine callS.at (l1In_ok _ _ _) ⟨.inl rfl, .inl rfl, .inl rfl, trivial⟩ ?_); simp -implicitDefEqProofs -dsimp only [go_sem, *]) | (refine guardT.splitT (fun _ => ?_) (fun _ => ?_) <;> simp -implicitDefEqProofs -dsimp only [go_sem, *]))
theorem iIsWeekRow_ok (r : WeekRow) : Ctr Try.prog 47 [r.v] [] (.bool (wrB r)) [] := by
 refine Ctr.intro Try.mixed Try.func47 rfl Try.okF47 ?_
 simp -implicitDefEqProofs -dsimp only [go_sem, Try.ntmps47, Try.results47]
 simp -implicitDefEqProofs -dsimp only [go_sem, WeekRow.v]
 repeat' (first | (refine WeakR.drop' ?_ rfl; (simp [wrB, *]; done)) | ((first | refine callT.at (in_ok _ _ _) ⟨.inl rfl, .inl rfl, .inl rfl, trivial⟩ ?_ | refine callS.at (in_ok _ _ _) ⟨.inl rfl, .inl rfl, .inl rfl, trivial⟩ ?_); simp -implicitDefEqProofs -dsimp only [go_sem, *]) | (refine guardT.splitT (fun _ => ?_) (fun _ => ?_) <;> simp -implicitDefEqProofs -dsimp only [go_sem, *]))
def wrsB (L : List WeekRow) : Bool := listedB wrB WeekRow.Week 12 L
theorem l26Good_ok (L : List WeekRow) (hl : L.length ≤ 281474976710656) : Ctr Try.prog 28 [WeekRow.sl L] [] (.bool (wrsB L)) [] := by
 refine Ctr.intro Try.mixed Try.func28 rfl Try.okF28 ?_
 simp -implicitDefEqProofs -dsimp only [go_sem, Try.ntmps28, Try.results28]
 refine LoopT.intro (fun i : Nat => i ≤ L.length ∧ (List.range i).all (listedQ wrB WeekRow.Week L) = true) (fun i => ⟨[WeekRow.sl L, .undef, .undef, .int .i64 i, .undef, .undef, .undef, .undef, .undef, .undef, .undef, .undef, .undef, .undef, .undef, .undef, .undef, .undef, .undef, .undef, .undef, .undef, .undef, .undef, .undef, .undef, .undef, .undef, .undef, .undef, .undef, .undef, .undef, .undef, .undef, .undef, .undef], [], 0⟩) (fun i => L.length - i) 0 ⟨Nat.zero_le _, rfl⟩ ?_ (fun i hi => ?_)
 · refine Weak.cut (0) (by simp) (by simp) ?_ ?_
   · simp [LeC, LeV, ren, cutF]
   · rfl
 simp -implicitDefEqProofs -dsimp only [go_sem]
 refine condT.split (fun h1 => ?_) (fun h1 => ?_)
 · simp -implicitDefEqProofs -dsimp only [go_sem, h1]
   have hi' : i < L.length := by simpa using h1
   have h5 := WeekRow.csl L[i]
   have hr := rows_at WeekRow.csl hi'
   simp -implicitDefEqProofs -dsimp only [go_sem, hr]
   repeat (with_reducible refine sideA ?_)
   (first | refine callT.at (l26One_ok L[i]) ⟨.inl rfl, trivial⟩ ?_ | refine callS.at (l26One_ok L[i]) ⟨.inl rfl, trivial⟩ ?_)
   simp -implicitDefEqProofs -dsimp only [go_sem]
   refine guardT.splitF (fun h2 => ?_) (fun h2 => ?_) <;> simp -implicitDefEqProofs -dsimp only [go_sem, h2]
   · have hw : wrB L[i] = true := by simpa using h2
     refine guardT.splitT (fun h3 => ?_) (fun h3 => ?_) <;> simp -implicitDefEqProofs -dsimp only [go_sem, h3]
     · obtain ⟨j, rfl⟩ : ∃ j, i = j + 1 := ⟨i - 1, by simp at h3; omega⟩
       have hj : j < L.length := by omega
       have hw1 : IntKind.i64.wrap (((j + 1 : Nat) : Int) - 1) = (j : Int) := by rw [wrap_i64 (by omega) (by omega)]; omega
       have hr2 := rows_at WeekRow.csl hj
       simp -implicitDefEqProofs -dsimp only [go_sem, hw1, hr, hr2, WeekRow.cs]
       repeat (with_reducible refine sideA ?_)
       refine condT.split (fun h4 => ?_) (fun h4 => ?_) <;> simp -implicitDefEqProofs -dsimp only [go_sem, h4]
       · refine WeakR.drop' ?_ rfl
         have hq : listedQ wrB WeekRow.Week L (j + 1) = false := by
           rw [listedQ_succ hi', hw]
           simp at h4 ⊢
           omega
         rw [wrsB, listedB_false hi' hq]
       · refine ⟨j + 1 + 1, ⟨hi', range_all_succ hi.2 (by rw [listedQ_succ hi', hw]; simp at h4 ⊢; omega)⟩, ?_, by omega⟩
         refine Weak.cut (0) (by simp) (by simp) ?_ ?_
         · rw [wrap_i64 (by omega) (by omega)]
           simp [LeC, LeV, ren, cutF]
         · rfl
     · have h0 : i = 0 := by simp at h3; omega
       refine ⟨i + 1, ⟨hi', range_all_succ hi.2 (by subst h0; rw [listedQ_zero hi', hw])⟩, ?_, by omega⟩
       refine Weak.cut (0) (by simp) (by simp) ?_ ?_
       · rw [wrap_i64 (by omega) (by omega)]
         simp [LeC, LeV, ren, cutF]
       · rfl
   · have hw : wrB L[i] = false := by simpa using h2
     refine WeakR.drop' ?_ rfl
     have hq : listedQ wrB WeekRow.Week L i = false := by simp [listedQ, hi', hw]
     rw [wrsB, listedB_false hi' hq]
 · simp -implicitDefEqProofs -dsimp only [go_sem, h1]
   refine WeakR.drop' ?_ rfl
   have : i = L.length := by simp at h1; omega
   subst this
   rw [wrsB, listedB, hi.2]
   simp
   try omega
theorem weekOf_ok (r : WeekRow) : Ctr Try.prog 48 [r.v] [] (.int .i64 r.Week) [] := by
 refine Ctr.intro Try.mixed Try.func48 rfl Try.okF48 ?_
 simp -implicitDefEqProofs -dsimp only [go_sem, Try.ntmps48, Try.results48]
 simp -implicitDefEqProofs -dsimp only [go_sem, WeekRow.v]
 exact WeakR.drop' rfl rfl
theorem iAreWeekRows_ok (L : List WeekRow) (hl : L.length ≤ 281474976710656) : Ctr Try.prog 31 [WeekRow.sl L] [] (.bool (wrsB L)) [] := by
 refine Ctr.intro Try.mixed Try.func31 rfl Try.okF31 ?_
 simp -implicitDefEqProofs -dsimp only [go_sem, Try.ntmps31, Try.results31]
 refine callS.intro (areListedWeekRow_ok L wrB WeekRow.Week 12 _ _ [] [] (fun _ => rfl) (fun _ => rfl) iIsWeekRow_ok weekOf_ok 12 rfl hl) ⟨.inl rfl, .inl rfl, .inl rfl, .inl rfl, trivial⟩ (.inl rfl) ?_
 simp -implicitDefEqProofs -dsimp only [go_sem]
 exact WeakR.drop' rfl rfl
theorem wrB_iff {r : WeekRow} : wrB r = true ↔ (1 ≤ r.Week ∧ r.Week ≤ 5000) ∧ (0 ≤ r.Events ∧ r.Events ≤ 9999) ∧ (0 ≤ r.Felt ∧ r.Felt ≤ r.Events) ∧ (0 ≤ r.Picks ∧ r.Picks ≤ 99999) ∧ 0 ≤ r.Lost ∧ r.Lost ≤ 9999 := by
 simp [wrB, inB', and_assoc]
def tot (L : List WeekRow) : WeekRow := ⟨0, wsum WeekRow.Events L, wsum WeekRow.Felt L, wsum WeekRow.Picks L, wsum WeekRow.Lost L⟩
theorem totals_ok (L : List WeekRow) (hl : L.length ≤ 281474976710656) : Ctr Try.prog 42 [WeekRow.sl L] [] (tot L).v [] := by
 refine Ctr.intro Try.mixed Try.func42 rfl Try.okF42 ?_
 simp -implicitDefEqProofs -dsimp only [go_sem, Try.ntmps42, Try.results42]
 refine LoopT.intro (fun i : Nat => i ≤ L.length) (fun i => ⟨[.undef, .undef, .ptr 0 0, .ptr 1 0, .undef, .undef, .undef, WeekRow.sl L, .int .i64 L.length, .int .i64 i, .undef, .undef, .undef, .undef, .undef, .undef, .undef, .undef, .undef, .undef, .undef, .undef, .undef, .undef, .undef, .undef, .undef, .undef, .undef, .undef, .undef, .undef, .undef, .undef, .undef, .undef, .undef, .undef, .undef], [some WeekRow.zs, some (tot (L.take i)).cs], 0⟩) (fun i => L.length - i) 0 (Nat.zero_le _) ?_ (fun i hi => ?_)
 · refine Weak.cut (2) (by simp) (by simp) ?_ ?_
   · simp [LeC, LeV, ren, cutF]
   · rfl
 simp -implicitDefEqProofs -dsimp only [go_sem]
 refine condT.split (fun h1 => ?_) (fun h1 => ?_)
 · simp -implicitDefEqProofs -dsimp only [go_sem, h1]
   have hi' : i < L.length := by simpa using h1
   have h5 := WeekRow.csl L[i]
   have hr := rows_at WeekRow.csl hi'
   simp -implicitDefEqProofs -dsimp only [go_sem, hr, WeekRow.cs, tot]
   repeat (with_reducible refine sideA ?_)
   refine ⟨i + 1, hi', ?_, by omega⟩
   refine Weak.cut (2) (by simp) (by simp) ?_ ?_
   · rw [wrap_i64 (by omega) (by omega)]
     simp [LeC, LeV, ren, cutF]
   · simp [cutH, cutB, ren, wsum_succ _ hi']
 · simp -implicitDefEqProofs -dsimp only [go_sem, h1, WeekRow.cs, tot]
   have : i = L.length := by simp at h1; omega
   subst this
   exact WeakR.drop' (by simp [WeekRow.v, tot]) rfl
end Go.Proofs
end
section
set_option maxRecDepth 100000
namespace Go.Proofs
open Go.Lv
theorem wrsB_all {L : List WeekRow} (h : wrsB L = true) : (∀ x ∈ L, wrB x = true) ∧ L.length ≤ 12 := listedB_all h
theorem wrs_picks {L : List WeekRow} (h : ∀ x ∈ L, wrB x = true) : ∀ x ∈ L, 0 ≤ x.Picks ∧ x.Picks ≤ 99999 := fun x hx => (wrB_iff.1 (h x hx)).2.2.2.1
theorem wrs_events {L : List WeekRow} (h : ∀ x ∈ L, wrB x = true) : ∀ x ∈ L, 0 ≤ x.Events ∧ x.Events ≤ 9999 := fun x hx => (wrB_iff.1 (h x hx)).2.1
theorem psum_take_le {α : Type} {f : α → Int} {B : Int} {L : List α} (h : ∀ x ∈ L, 0 ≤ f x ∧ f x ≤ B) (hB : 0 ≤ B) {n : Nat} (hn : L.length ≤ n) (i : Nat) : 0 ≤ psum f (L.take i) ∧ psum f (L.take i) ≤ n * B := by
 have h1 := psum_bound (L := L.take i) (fun x hx => h x (List.mem_of_mem_take hx))
 have h2 : (((L.take i).length : Nat) : Int) * B ≤ n * B := Int.mul_le_mul_of_nonneg_right (by simp; omega) hB
 omega
def picksR (L : List WeekRow) : List V :=
 if wrsB L = true ∧ psum WeekRow.Events L ≠ 0 then
   [.int .i64 (((psum WeekRow.Picks L).toNat / Nat.gcd (psum WeekRow.Picks L).toNat (psum WeekRow.Events L).toNat : Nat) : Int), .int .i64 (((psum WeekRow.Events L).toNat / Nat.gcd (psum WeekRow.Picks L).toNat (psum WeekRow.Events L).toNat : Nat) : Int), .bool true]
 else [.int .i64 0, .int .i64 0, .bool false]
theorem sPicksForEvent_ok (L : List WeekRow) (hl : L.length ≤ 281474976710656) : Ctr Try.prog 27 [WeekRow.sl L] [] (.tup (picksR L)) [] := by
 refine Ctr.intro Try.mixed Try.func27 rfl Try.okF27 ?_
 simp -implicitDefEqProofs -dsimp only [go_sem, Try.ntmps27, Try.results27]
 (first | refine callT.at (l26Good_ok L hl) ⟨.inl rfl, trivial⟩ ?_ | refine callS.at (l26Good_ok L hl) ⟨.inl rfl, trivial⟩ ?_)
 simp -implicitDefEqProofs -dsimp only [go_sem]
 refine condT.split (fun h1 => ?_) (fun h1 => ?_) <;> simp -implicitDefEqProofs -dsimp only [go_sem, h1]
 · obtain ⟨hv, hlen⟩ := wrsB_all h1
   have hp := psum_take_le (wrs_picks hv) (by decide) hlen
   have he := psum_take_le (wrs_events hv) (by decide) hlen
   refine LoopT.intro (fun i : Nat => i ≤ L.length) (fun i => ⟨[WeekRow.sl L, .undef, .undef, .undef, .undef, .int .i64 (psum WeekRow.Picks (L.take i)), .int .i64 (psum WeekRow.Events (L.take i)), .int .i64 i, .undef, .undef, .undef, .undef, .undef, .undef, .undef, .undef, .undef, .undef, .undef, .undef, .undef, .undef, .undef, .undef, .undef, .undef, .undef, .undef, .undef, .undef, .undef, .undef, .undef, .undef, .undef, .undef, .undef, .undef, .undef, .undef, .undef, .undef], [], 0⟩) (fun i => L.length - i) 0 (Nat.zero_le _) ?_ (fun i hi => ?_)
   · refine Weak.cut (0) (by simp) (by simp) ?_ ?_
     · simp [LeC, LeV, ren, cutF, psum]
     · rfl
   simp -implicitDefEqProofs -dsimp only [go_sem]
   refine condT.split (fun h2 => ?_) (fun h2 => ?_)
   · simp -implicitDefEqProofs -dsimp only [go_sem, h2]
     have hi' : i < L.length := by simpa using h2
     have hr := rows_at WeekRow.csl hi'
     have e1 := psum_succ WeekRow.Picks hi'
     have e2 := psum_succ WeekRow.Events hi'
     have p1 := hp (i + 1)
     have p2 := he (i + 1)
     (repeat1' (first | simp -implicitDefEqProofs -dsimp only [go_sem, hr, WeekRow.cs] | simp -dsimp (disch := omega) only [wrap_i64]))
     repeat (with_reducible refine sideA ?_)
     refine ⟨i + 1, hi', ?_, by omega⟩
     refine Weak.cut (0) (by simp) (by simp) ?_ ?_
     · rw [e1, e2]
       simp [LeC, LeV, ren, cutF]
     · rfl
   · simp -implicitDefEqProofs -dsimp only [go_sem, h2]
     have : i = L.length := by simp at h2; omega
     subst this
     have hp0 := hp L.length
     have he0 := he L.length
     rw [List.take_length] at hp0 he0
     rw [List.take_length]
     refine condT.split (fun h3 => ?_) (fun h3 => ?_) <;> simp -implicitDefEqProofs -dsimp only [go_sem, h3]
     · refine WeakR.drop' ?_ (by rfl)
       have h3' : psum WeekRow.Events L = 0 := by simpa using h3
       rw [picksR, if_neg (by simp [h3'])]
     · have h3' : psum WeekRow.Events L ≠ 0 := by simpa using h3
       obtain ⟨a, ha⟩ := Int.eq_ofNat_of_zero_le hp0.1
       obtain ⟨b, hb⟩ := Int.eq_ofNat_of_zero_le he0.1
       rw [ha, hb]
       (first | refine callT.at (l2Reduce_ok a b (by omega) (by omega) (by omega)) ⟨.inl rfl, .inl rfl, trivial⟩ ?_ | refine callS.at (l2Reduce_ok a b (by omega) (by omega) (by omega)) ⟨.inl rfl, .inl rfl, trivial⟩ ?_)
       simp -implicitDefEqProofs -dsimp only [go_sem]
       refine WeakR.drop' ?_ (by rfl)
       rw [picksR, if_pos ⟨h1, h3'⟩, ha, hb]
       simp
 · refine WeakR.drop' ?_ (by rfl)
   rw [picksR, if_neg (by simp [h1])]
theorem iPicksForEvent_ok (L : List WeekRow) (hl : L.length ≤ 281474976710656) : Ctr Try.prog 26 [WeekRow.sl L] [] (.tup (picksR L)) [] := by
 refine Ctr.intro Try.mixed Try.func26 rfl Try.okF26 ?_
 simp -implicitDefEqProofs -dsimp only [go_sem, Try.ntmps26, Try.results26]
 (first | refine callT.at (totals_ok L hl) ⟨.inl rfl, trivial⟩ ?_ | refine callS.at (totals_ok L hl) ⟨.inl rfl, trivial⟩ ?_)
 simp -implicitDefEqProofs -dsimp only [go_sem, WeekRow.v]
 (first | refine callT.at (iAreWeekRows_ok L hl) ⟨.inl rfl, trivial⟩ ?_ | refine callS.at (iAreWeekRows_ok L hl) ⟨.inl rfl, trivial⟩ ?_)
 simp -implicitDefEqProofs -dsimp only [go_sem]
 have fin0 : (wrsB L = false ∨ wsum WeekRow.Events L = 0) → V.tup [.int .i64 0, .int .i64 0, .bool false] = .tup (picksR L) := by
   intro h
   rw [picksR, if_neg]
   rintro ⟨h1, h2⟩
   obtain ⟨hv, hlen⟩ := wrsB_all h1
   rw [wsum_psum (wrs_events hv) (by omega)] at h
   simp [h1, h2] at h
 refine guardT.splitF (fun h1 => ?_) (fun h1 => ?_) <;> simp -implicitDefEqProofs -dsimp only [go_sem, h1]
 · simp -implicitDefEqProofs -dsimp only [go_sem, tot]
   dsimp only [tot]
   refine condT.split (fun h3 => ?_) (fun h3 => ?_) <;> simp -implicitDefEqProofs -dsimp only [go_sem, h3]
   · exact WeakR.drop' (fin0 (.inr (by simpa using h3))) rfl
   · have h1' : wrsB L = true := by simpa using h1
     obtain ⟨hv, hlen⟩ := wrsB_all h1'
     have hp0 := psum_take_le (wrs_picks hv) (by decide) hlen L.length
     have he0 := psum_take_le (wrs_events hv) (by decide) hlen L.length
     rw [List.take_length] at hp0 he0
     have h3' : wsum WeekRow.Events L ≠ 0 := by simpa using h3
     rw [wsum_psum (wrs_events hv) (by omega)] at h3' ⊢
     rw [wsum_psum (wrs_picks hv) (by omega)]
     obtain ⟨a, ha⟩ := Int.eq_ofNat_of_zero_le hp0.1
     obtain ⟨b, hb⟩ := Int.eq_ofNat_of_zero_le he0.1
     rw [ha, hb]
     (first | refine callT.at (fraction_ok a b (by omega) (by omega) (by omega)) ⟨.inl rfl, .inl rfl, trivial⟩ ?_ | refine callS.at (fraction_ok a b (by omega) (by omega) (by omega)) ⟨.inl rfl, .inl rfl, trivial⟩ ?_)
     simp -implicitDefEqProofs -dsimp only [go_sem]
     refine WeakR.drop' ?_ (by rfl)
     rw [picksR, if_pos ⟨h1', h3'⟩, ha, hb]
     simp
 · exact WeakR.drop' (fin0 (.inl (by simpa using h1))) rfl
end Go.Proofs
end
section
set_option maxRecDepth 100000
namespace Go.Proofs
open Go.Lv
def IntS.cs (x : Int) : List V := [.int .i64 x]
instance : FlatP IntS.cs 1 := ⟨fun _ => rfl, fun _ d => by cases d <;> rfl, fun _ => rfl, fun _ => rfl⟩
theorem IntS.csl (a : Int) : (IntS.cs a).length = 1 := rfl
abbrev IntS.ok (x : Int) : Prop := i64R x
abbrev IntS.sl (L : List Int) : V := .sl L.length 1 (Go.Lv.rows IntS.cs L)
abbrev IntS.zs : List V := [.int .i64 0]
def IntS.marks (k : Int) (n : Nat) : List Int := (List.range n).map fun i : Nat => k + (i : Int)
@[simp] theorem IntS.marks_len (k : Int) (n : Nat) : (IntS.marks k n).length = n := by simp [IntS.marks]
abbrev IntS.v (x : Int) : V := .int .i64 x
end Go.Proofs
end
section
namespace Go.Lv
variable {α : Type}
def posK (lt : α → α → Bool) (S : List α) (x : α) : Nat → Nat
 | 0 => 0
 | k + 1 => match S[k]? with
   | some y => if lt x y then posK lt S x k else k + 1
   | none => k + 1
theorem posK_le (lt : α → α → Bool) (S : List α) (x : α) : ∀ k, posK lt S x k ≤ k
 | 0 => Nat.le_refl _
 | k + 1 => by
   have := posK_le lt S x k
   unfold posK
   cases S[k]? with
   | none => simp
   | some y => dsimp only; split <;> omega
theorem posK_down {lt : α → α → Bool} {S : List α} {x : α} {k : Nat} (hk : k < S.length) (h : lt x S[k] = true) : posK lt S x (k + 1) = posK lt S x k := by
 simp [posK, hk, h]
theorem posK_stay {lt : α → α → Bool} {S : List α} {x : α} {k : Nat} (hk : k < S.length) (h : lt x S[k] = false) : posK lt S x (k + 1) = k + 1 := by
 simp [posK, hk, h]
def putAt (S : List α) (x : α) (j : Nat) : List α := S.take j ++ x :: S.drop j
theorem putAt_len (S : List α) (x : α) (j : Nat) : (putAt S x j).length = S.length + 1 := by
 simp [putAt]; omega
theorem putAt_end (S : List α) (x : α) : putAt S x S.length = S ++ [x] := by simp [putAt]
def ins (lt : α → α → Bool) (S : List α) (x : α) : List α := putAt S x (posK lt S x S.length)
def insSort (lt : α → α → Bool) (L : List α) : List α := L.foldl (ins lt) []
theorem ins_len (lt : α → α → Bool) (S : List α) (x : α) : (ins lt S x).length = S.length + 1 := putAt_len _ _ _
theorem insSort_snoc (lt : α → α → Bool) (L : List α) (x : α) : insSort lt (L ++ [x]) = ins lt (insSort lt L) x := by simp [insSort]
theorem insSort_take {lt : α → α → Bool} {L : List α} {i : Nat} (hi : i < L.length) : insSort lt (L.take (i + 1)) = ins lt (insSort lt (L.take i)) L[i] := by
 rw [List.take_succ_eq_append_getElem hi, insSort_snoc]
theorem insSort_len (lt : α → α → Bool) (L : List α) : (insSort lt L).length = L.length := by
 have key : ∀ (L S : List α), (L.foldl (ins lt) S).length = S.length + L.length := by
   intro L
   induction L with
   | nil => intro S; simp
   | cons a L ih => intro S; rw [List.foldl_cons, ih, ins_len]; simp; omega
 have := key L []
 simpa [insSort] using this
theorem insSort_one (lt : α → α → Bool) (L : List α) (h : L.length ≤ 1) : insSort lt L = L := by
 match L, h with
 | [], _ => rfl
 | [a], _ => rfl
def midS (S R : List α) (x : α) (j : Nat) : List α := putAt S x j ++ R
theorem midS_len (S R : List α) (x : α) (j : Nat) : (midS S R x j).length = S.length + 1 + R.length := by simp [midS, putAt_len]
theorem midS_get {S R : List α} {x : α} {j : Nat} (hj : j ≤ S.length) (h : j < (midS S R x j).length) : (midS S R x j)[j] = x := by
 have : (midS S R x j)[j]? = some x := by
   rw [midS, putAt, List.append_assoc, List.getElem?_append_right (by simp; omega)]
   simp [Nat.min_eq_left hj]
 rw [List.getElem?_eq_getElem h] at this
 exact Option.some.inj this
theorem midS_get_below {S R : List α} {x : α} {j : Nat} (hj : j < S.length) (h : j < (midS S R x (j + 1)).length) : (midS S R x (j + 1))[j] = S[j] := by
 have : (midS S R x (j + 1))[j]? = some S[j] := by
   rw [midS, putAt, List.append_assoc, List.getElem?_append_left (by simp; omega), List.getElem?_take_of_lt (by omega), List.getElem?_eq_getElem hj]
 rw [List.getElem?_eq_getElem h] at this
 exact Option.some.inj this
theorem midS_swap {S R : List α} {x : α} {j : Nat} (hj : j < S.length) : ((midS S R x (j + 1)).set (j + 1) S[j]).set j x = midS S R x j := by
 have hd : S.drop j = S[j] :: S.drop (j + 1) := List.drop_eq_getElem_cons hj
 have ht : S.take (j + 1) = S.take j ++ [S[j]] := List.take_succ_eq_append_getElem hj
 have hl : (S.take j).length = j := by simp; omega
 simp only [midS, putAt, ht, hd, List.append_assoc, List.cons_append, List.nil_append, List.singleton_append]
 rw [List.set_append_right _ _ (by omega), hl, List.set_append_right _ _ (by omega), hl]
 simp
def srtS (lt : α → α → Bool) (L : List α) (i : Nat) : List α := insSort lt (L.take i) ++ L.drop i
theorem srtS_one (lt : α → α → Bool) (L : List α) : srtS lt L 1 = L := by
 rw [srtS, insSort_one lt _ (by simp; omega), List.take_append_drop]
theorem srtS_end (lt : α → α → Bool) (L : List α) {i : Nat} (h : L.length ≤ i) : srtS lt L i = insSort lt L := by
 simp [srtS, List.take_of_length_le h, List.drop_eq_nil_of_le h]
theorem srtS_mid {lt : α → α → Bool} {L : List α} {i : Nat} (hi : i < L.length) : srtS lt L i = midS (insSort lt (L.take i)) (L.drop (i + 1)) L[i] i := by
 have hl : (insSort lt (L.take i)).length = i := by rw [insSort_len]; simp; omega
 rw [srtS, List.drop_eq_getElem_cons hi, midS]
 have := putAt_end (insSort lt (L.take i)) L[i]
 rw [hl] at this
 rw [this]; simp
theorem srtS_next {lt : α → α → Bool} {L : List α} {i j : Nat} (hi : i < L.length) (h : posK lt (insSort lt (L.take i)) L[i] i = j) : midS (insSort lt (L.take i)) (L.drop (i + 1)) L[i] j = srtS lt L (i + 1) := by
 have hl : (insSort lt (L.take i)).length = i := by rw [insSort_len]; simp; omega
 rw [srtS, insSort_take hi, ins, hl, h, midS]
end Go.Lv
end
section
namespace Go.Lv
theorem splice_row {α : Type} {cs : α → List V} {w : Nat} (hw : ∀ a, (cs a).length = w) {L : List α} {i : Nat} (hi : i < L.length) (x : α) : splice (rows cs L) (i * w) (cs x) = rows cs (L.set i x) := by
 have e : L = L.take i ++ L[i] :: L.drop (i + 1) := by rw [← List.drop_eq_getElem_cons hi, List.take_append_drop]
 have e2 : L.set i x = L.take i ++ x :: L.drop (i + 1) := by rw [List.set_eq_take_append_cons_drop, if_pos hi]
 have hA : (rows cs (L.take i)).length = i * w := by rw [rows_len hw, List.length_take, Nat.min_eq_left (by omega)]
 rw [e2, rowsOf_append, rows_cons]
 conv => lhs; rw [e, rowsOf_append, rows_cons]
 rw [splice_mid0 hA, splice_zero]
 congr 2
 rw [List.drop_append_of_le_length (by rw [hw, hw]; exact Nat.le_refl _), List.drop_of_length_le (by rw [hw, hw]; exact Nat.le_refl _)]
 rfl
end Go.Lv
end
section
set_option maxRecDepth 100000
set_option maxHeartbeats 1000000
namespace Go.Proofs
open Go.Lv
def ltI (x y : Int) : Bool := decide (x < y)
theorem isNaNI_ok (a : Int) : Ctr Try.prog 73 [.int .i64 a] [] (.bool false) [] := by
 refine Ctr.intro Try.mixed Try.func73 rfl Try.okF73 ?_
 simp -implicitDefEqProofs -dsimp only [go_sem, Try.ntmps73, Try.results73]
 exact WeakR.drop' (by simp) (by rfl)
theorem lessInt_ok (a b : Int) : Ctr Try.prog 62 [.int .i64 a, .int .i64 b] [] (.bool (decide (a < b))) [] := by
 refine Ctr.intro Try.mixed Try.func62 rfl Try.okF62 ?_
 simp -implicitDefEqProofs -dsimp only [go_sem, Try.ntmps62, Try.results62]
 repeat (with_reducible refine sideA ?_)
 (first | refine callT.at (isNaNI_ok a) ⟨leA, trivial⟩ ?_ | refine callS.at (isNaNI_ok a) ⟨leA, trivial⟩ ?_)
 (repeat ((repeat1' (first | simp -implicitDefEqProofs -dsimp only [go_sem] | simp -dsimp (disch := omega) only [wrap_i64])); repeat (with_reducible refine sideA ?_)))
 exact WeakR.drop' rfl (by rfl)
theorem insertionInt_ok (L : List Int) (hl : L.length ≤ 19) :
   Ctr Try.prog 56 [.osl 0 0 L.length 1, .int .i64 0, .int .i64 L.length] [some (rows IntS.cs L)] (.tup []) [some (rows IntS.cs (insSort ltI L))] := by
 rw [show ltI = fun x y : Int => decide (x < y) from rfl]
 generalize hlt : (fun x y : Int => decide (x < y)) = lt
 have ltv : ∀ x y, lt x y = decide (x < y) := fun x y => by rw [← hlt]
 refine Ctr.intro Try.mixed Try.func56 rfl Try.okF56 ?_
 simp -implicitDefEqProofs -dsimp only [go_sem, Try.ntmps56, Try.results56]
 refine LoopT.intro (fun i : Nat => 1 ≤ i ∧ (i ≤ 1 ∨ i ≤ L.length)) (fun i => ⟨[.osl 0 0 L.length 1, .int .i64 0, .int .i64 L.length, .undef, .undef, .undef, .int .i64 i, .undef, .undef, .undef, .undef, .undef, .undef, .undef, .undef, .undef, .undef, .undef, .undef, .undef, .undef, .undef, .undef, .undef, .undef, .undef, .undef, .undef, .undef, .undef, .undef, .undef, .undef, .undef, .undef, .undef, .undef, .undef, .undef, .undef, .undef, .undef, .undef, .undef, .undef, .undef, .undef, .undef, .undef], [some (rows IntS.cs (srtS lt L i))], 1⟩) (fun i => L.length - i) 1 ⟨Nat.le_refl _, .inl (Nat.le_refl _)⟩ ?_ (fun i hi => ?_)
 · refine Weak.cut (1) (by simp) (by simp) ?_ ?_
   · (simp [LeC, LeV, ren, cutF]; rfl)
   · rw [srtS_one]; simp [cutH, cutB, map_ren_rows]
 simp -implicitDefEqProofs -dsimp only [go_sem]
 refine condT.split (fun h1 => ?_) (fun h1 => ?_)
 · simp -implicitDefEqProofs -dsimp only [go_sem, h1]
   have hi' : i < L.length := by simpa using h1
   have hS : (insSort lt (L.take i)).length = i := by rw [insSort_len]; simp; omega
   rw [srtS_mid hi']
   refine LoopT.intro (fun j : Nat => j ≤ i ∧ posK lt (insSort lt (L.take i)) L[i] i = posK lt (insSort lt (L.take i)) L[i] j) (fun j => ⟨[.osl 0 0 L.length 1, .int .i64 0, .int .i64 L.length, .undef, .undef, .undef, .int .i64 i, .int .i64 j, .undef, .undef, .undef, .undef, .undef, .undef, .undef, .undef, .undef, .undef, .undef, .undef, .undef, .undef, .undef, .undef, .undef, .undef, .undef, .undef, .undef, .undef, .undef, .undef, .undef, .undef, .undef, .undef, .undef, .undef, .undef, .undef, .undef, .undef, .undef, .undef, .undef, .undef, .undef, .undef, .undef], [some (rows IntS.cs (midS (insSort lt (L.take i)) (L.drop (i + 1)) L[i] j))], 1⟩) (fun j => j) i ⟨Nat.le_refl _, rfl⟩ ?_ (fun j hj => ?_)
   · refine Weak.cut (1) (by simp) (by simp) ?_ ?_
     · simp [LeC, LeV, ren, cutF]
     · simp [cutH, cutB, map_ren_rows]
   have hml : ∀ j, (midS (insSort lt (L.take i)) (L.drop (i + 1)) L[i] j).length = L.length := fun j => by rw [midS_len, hS, List.length_drop]; omega
   simp -implicitDefEqProofs -dsimp only [go_sem]
   refine ⟨by kernel_rfl, ?_⟩
   cases j with
   | zero =>
     have hz : ((0 : Nat) : Int) = 0 := rfl
     (repeat ((repeat1' (first | simp -implicitDefEqProofs -dsimp only [go_sem, hz] | simp -dsimp (disch := omega) only [wrap_i64])); repeat (with_reducible refine sideA ?_)))
     refine ⟨i + 1, ⟨by omega, .inr hi'⟩, ?_, by omega⟩
     refine Weak.cut (1) (by simp) (by simp) ?_ ?_
     · simp [LeC, LeV, ren, cutF]
     · rw [srtS_next (j := 0) hi' hj.2]
       simp [cutH, cutB, map_ren_rows]
   | succ j =>
     have hjS : j < (insSort lt (L.take i)).length := by rw [hS]; omega
     have hg : decide ((0 : Int) < ((j + 1 : Nat) : Int)) = true := decide_eq_true (by omega)
     have hw1 : IntKind.i64.wrap (((j + 1 : Nat) : Int) - 1) = (j : Int) := by rw [wrap_i64 (by omega) (by omega)]; omega
     have hk1 : j + 1 < (midS (insSort lt (L.take i)) (L.drop (i + 1)) L[i] (j + 1)).length := by rw [hml]; omega
     have hk0 : j < (midS (insSort lt (L.take i)) (L.drop (i + 1)) L[i] (j + 1)).length := by rw [hml]; omega
     have g1 := midS_get (S := insSort lt (L.take i)) (R := L.drop (i + 1)) (x := L[i]) (j := j + 1) (by omega) hk1
     have g0 := midS_get_below (R := L.drop (i + 1)) (x := L[i]) hjS hk0
     have hr1 := rows_at IntS.csl hk1
     have hr0 := rows_at IntS.csl hk0
     have hlr := rows_len (w := 1) IntS.csl (midS (insSort lt (L.take i)) (L.drop (i + 1)) L[i] (j + 1))
     rw [g1] at hr1
     rw [g0] at hr0
     rw [hml] at hlr
     (repeat ((repeat1' (first | simp -implicitDefEqProofs -dsimp only [go_sem, hg, hw1, hr1, hr0, hlr, IntS.cs] | simp -dsimp (disch := omega) only [wrap_i64])); repeat (with_reducible refine sideA ?_)))
     (first | refine callT.at (lessInt_ok L[i] (insSort lt (L.take i))[j]) ⟨leA, leA, trivial⟩ ?_ | refine callS.at (lessInt_ok L[i] (insSort lt (L.take i))[j]) ⟨leA, leA, trivial⟩ ?_)
     simp -implicitDefEqProofs -dsimp only [go_sem]
     have hlx := ltv L[i] (insSort lt (L.take i))[j]
     rw [← hlx]
     refine condT.split (fun h2 => ?_) (fun h2 => ?_)
     · have s1 := splice_row IntS.csl hk1 (insSort lt (L.take i))[j]
       have s2 := splice_row (L := (midS (insSort lt (L.take i)) (L.drop (i + 1)) L[i] (j + 1)).set (j + 1) (insSort lt (L.take i))[j]) IntS.csl (by rw [List.length_set]; exact hk0) L[i]
       rw [midS_swap hjS] at s2
       simp only [IntS.cs] at s1 s2
       (repeat ((repeat1' (first | simp -implicitDefEqProofs -dsimp only [go_sem, h2, hw1, hr1, hr0, hlr, IntS.cs] | simp -dsimp (disch := omega) only [wrap_i64])); repeat (with_reducible refine sideA ?_)))
       have hl2 : (rows IntS.cs ((midS (insSort lt (L.take i)) (L.drop (i + 1)) L[i] (j + 1)).set (j + 1) (insSort lt (L.take i))[j])).length = L.length * 1 := by rw [rows_len (w := 1) IntS.csl, List.length_set, hml]
       rw [s1, s2]
       refine ⟨by rw [hl2]; omega, j, ⟨by omega, hj.2.trans (posK_down hjS h2)⟩, ?_, by omega⟩
       refine Weak.cut (1) (by simp) (by simp) ?_ ?_
       · simp [LeC, LeV, ren, cutF]
       · simp [cutH, cutB, map_ren_rows]
     · simp -implicitDefEqProofs -dsimp only [go_sem, h2]
       have hp := posK_stay hjS h2
       refine ⟨i + 1, ⟨by omega, .inr hi'⟩, ?_, by omega⟩
       refine Weak.cut (1) (by simp) (by simp) ?_ ?_
       · rw [wrap_i64 (by omega) (by omega)]; simp [LeC, LeV, ren, cutF]
       · rw [srtS_next hi' (hj.2.trans hp)]
         simp [cutH, cutB, map_ren_rows]
 · simp -implicitDefEqProofs -dsimp only [go_sem, h1]
   have h1' : L.length ≤ i := by simp at h1; omega
   rw [srtS_end lt L h1']
   exact WeakR.refl _ _ _
theorem len64_ok (n : Nat) (hn : n ≤ 12) : Ctr Try.prog 66 [.int .u64 n] [] (.int .i64 (if n = 0 then 0 else if n = 1 then 1 else if n ≤ 3 then 2 else if n ≤ 7 then 3 else 4)) [] := by
 have c1 : decide ((4294967296 : Int) ≤ (n : Int)) = false := by simp; omega
 have c2 : decide ((65536 : Int) ≤ (n : Int)) = false := by simp; omega
 have c3 : decide ((256 : Int) ≤ (n : Int)) = false := by simp; omega
 refine Ctr.intro Try.mixed Try.func66 rfl Try.okF66 ?_
 simp -implicitDefEqProofs -dsimp only [go_sem, Try.ntmps66, Try.results66]
 (repeat ((repeat1' (first | simp -implicitDefEqProofs -dsimp only [go_sem, c1, c2, c3] | simp -dsimp (disch := omega) only [wrap_i64])); repeat (with_reducible refine sideA ?_)))
 have hc : n = 0 ∨ n = 1 ∨ n = 2 ∨ n = 3 ∨ n = 4 ∨ n = 5 ∨ n = 6 ∨ n = 7 ∨ n = 8 ∨ n = 9 ∨ n = 10 ∨ n = 11 ∨ n = 12 := by omega
 rcases hc with rfl | rfl | rfl | rfl | rfl | rfl | rfl | rfl | rfl | rfl | rfl | rfl | rfl <;> exact ⟨by decide, WeakR.drop' (by first | rfl | kernel_rfl) (by rfl)⟩
theorem len_ok (n : Nat) (hn : n ≤ 12) : Ctr Try.prog 53 [.int .u64 n] [] (.int .i64 (if n = 0 then 0 else if n = 1 then 1 else if n ≤ 3 then 2 else if n ≤ 7 then 3 else 4)) [] := by
 refine Ctr.intro Try.mixed Try.func53 rfl Try.okF53 ?_
 simp -implicitDefEqProofs -dsimp only [go_sem, Try.ntmps53, Try.results53]
 (repeat ((repeat1' (first | simp -implicitDefEqProofs -dsimp only [go_sem] | simp -dsimp (disch := omega) only [wrap_i64])); repeat (with_reducible refine sideA ?_)))
 (first | refine callT.at (len64_ok n hn) ⟨leA, trivial⟩ ?_ | refine callS.at (len64_ok n hn) ⟨leA, trivial⟩ ?_)
 (repeat ((repeat1' (first | simp -implicitDefEqProofs -dsimp only [go_sem] | simp -dsimp (disch := omega) only [wrap_i64])); repeat (with_reducible refine sideA ?_)))
 exact WeakR.drop' rfl (by rfl)
theorem pdqInt_ok (L : List Int) (z : Int) (hl : L.length ≤ 12) : Ctr Try.prog 52 [.osl 0 0 L.length 1, .int .i64 0, .int .i64 L.length, .int .i64 z] [some (rows IntS.cs L)] (.tup []) [some (rows IntS.cs (insSort ltI L))] := by
 have c1 : decide ((L.length : Int) ≤ 12) = true := by simp; omega
 refine Ctr.intro Try.mixed Try.func52 rfl Try.okF52 ?_
 simp -implicitDefEqProofs -dsimp only [go_sem, Try.ntmps52, Try.results52]
 (repeat ((repeat1' (first | simp -implicitDefEqProofs -dsimp only [go_sem] | simp -dsimp (disch := omega) only [wrap_i64])); repeat (with_reducible refine sideA ?_)))
 refine LoopT.intro (fun _ : Unit => True) (fun _ => ⟨[.osl 0 0 L.length 1, .int .i64 0, .int .i64 L.length, .int .i64 z, .undef, .undef, .undef, .undef, .bool true, .bool true, .undef, .undef, .undef, .undef, .undef, .undef, .undef, .undef, .undef, .undef, .undef, .undef, .undef, .undef, .undef, .undef, .undef, .undef, .undef, .undef, .undef, .undef, .undef, .undef, .undef, .undef, .undef, .undef, .undef, .undef, .undef, .undef, .undef, .undef, .undef, .undef, .undef, .undef, .undef, .undef, .undef, .undef, .undef, .undef, .undef, .undef, .undef, .undef, .undef, .undef, .undef, .undef, .undef, .undef, .undef, .undef, .undef, .undef, .undef, .undef, .undef, .undef, .undef, .undef, .undef, .undef, .undef, .undef, .undef, .undef, .undef, .undef, .undef, .undef, .undef, .undef, .undef, .undef, .undef, .undef, .undef, .undef, .undef, .undef, .undef, .undef, .undef, .undef, .undef, .undef, .undef, .undef, .undef, .undef, .undef, .undef, .undef, .undef, .undef, .undef, .undef, .undef, .undef, .undef, .undef, .undef, .undef, .undef, .undef, .undef, .undef, .undef, .undef, .undef, .undef, .undef, .undef, .undef, .undef, .undef, .undef, .undef, .undef, .undef], [some (rows IntS.cs L)], 1⟩) (fun _ => 0) () trivial ?_ (fun _ _ => ?_)
 · refine Weak.cut (1) (by simp) (by simp) ?_ ?_
   · simp [LeC, LeV, ren, cutF]
   · simp [cutH, cutB, map_ren_rows]
 (repeat ((repeat1' (first | simp -implicitDefEqProofs -dsimp only [go_sem, c1, Int.sub_zero] | simp -dsimp (disch := omega) only [wrap_i64])); repeat (with_reducible refine sideA ?_)))
 refine callS.lend [0] false ( insertionInt_ok L (by omega)) (by decide) ⟨leO, leO, leO, trivial⟩ lendA ( grown_one (by simp [rows_length, insSort_len])) (.inl rfl) ?_
 (repeat ((repeat1' (first | simp -implicitDefEqProofs -dsimp only [go_sem] | simp -dsimp (disch := omega) only [wrap_i64])); repeat (with_reducible refine sideA ?_)))
 exact WeakR.refl _ _ _
theorem sortInt_ok (L : List Int) (hl : L.length ≤ 12) : Ctr Try.prog 41 [.osl 0 0 L.length 1] [some (rows IntS.cs L)] (.tup []) [some (rows IntS.cs (insSort ltI L))] := by
 have hw : IntKind.u64.wrap (L.length : Int) = (L.length : Int) := by simp [IntKind.wrap, IntKind.bits, IntKind.signed]; omega
 refine Ctr.intro Try.mixed Try.func41 rfl Try.okF41 ?_
 simp -implicitDefEqProofs -dsimp only [go_sem, Try.ntmps41, Try.results41]
 (repeat ((repeat1' (first | simp -implicitDefEqProofs -dsimp only [go_sem, hw] | simp -dsimp (disch := omega) only [wrap_i64])); repeat (with_reducible refine sideA ?_)))
 (first | refine callT.at (len_ok L.length hl) ⟨leA, trivial⟩ ?_ | refine callS.at (len_ok L.length hl) ⟨leA, trivial⟩ ?_)
 (repeat ((repeat1' (first | simp -implicitDefEqProofs -dsimp only [go_sem] | simp -dsimp (disch := omega) only [wrap_i64])); repeat (with_reducible refine sideA ?_)))
 refine callS.lend [0] false ( pdqInt_ok L _ hl) (by decide) ⟨leO, leO, leO, leO, trivial⟩ lendA ( grown_one (by simp [rows_length, insSort_len])) (.inl rfl) ?_
 (repeat ((repeat1' (first | simp -implicitDefEqProofs -dsimp only [go_sem] | simp -dsimp (disch := omega) only [wrap_i64])); repeat (with_reducible refine sideA ?_)))
 exact WeakR.refl _ _ _
end Go.Proofs
end
section
set_option maxRecDepth 100000
set_option maxHeartbeats 1000000
namespace Go.Proofs
open Go.Lv
def evs (L : List WeekRow) : List Int := L.map WeekRow.Events
def srtE (L : List WeekRow) (i : Nat) : List Int := insSort ltI ((evs L).take i)
theorem srtE_len {L : List WeekRow} {i : Nat} (h : i ≤ L.length) : (srtE L i).length = i := by simp [srtE, insSort_len, evs]; omega
theorem srtE_succ {L : List WeekRow} {i : Nat} (h : i < L.length) : srtE L (i + 1) = ins ltI (srtE L i) L[i].Events := by
 have h' : i < (evs L).length := by simpa [evs] using h
 rw [srtE, insSort_take h']; simp [srtE, evs]
theorem srtE_all (L : List WeekRow) : srtE L L.length = insSort ltI (evs L) := by
 have : L.length = (evs L).length := by simp [evs]
 rw [srtE, this, List.take_length]
theorem mid_ix {n : Nat} (h0 : n ≠ 0) (h : n ≤ 12) : IntKind.i64.wrap ((IntKind.i64.wrap ((n : Int) - 1)).tdiv 2) = (((n - 1) / 2 : Nat) : Int) := by
 rw [wrap_i64 (n := (n : Int) - 1) (by omega) (by omega), Int.tdiv_eq_ediv_of_nonneg (by omega), wrap_i64 (by omega) (by omega)]
 omega
theorem getD_ix {S : List Int} {k : Nat} (h : k < S.length) : S.getD k 0 = S[k] := by simp [List.getD, h]
def medR (L : List WeekRow) : List V := if wrsB L = true ∧ L ≠ [] then [.int .i64 ((insSort ltI (evs L)).getD ((L.length - 1) / 2) 0), .bool true] else [.int .i64 0, .bool false]
theorem medR_no {L : List WeekRow} (h : wrsB L = false ∨ L.length = 0) : medR L = [.int .i64 0, .bool false] := by
 rw [medR, if_neg]
 rintro ⟨h1, h2⟩
 rcases h with h | h
 · simp [h1] at h
 · exact h2 (List.length_eq_zero_iff.1 h)
theorem sMedianEvents_ok (L : List WeekRow) (hl : L.length ≤ 281474976710656) : Ctr Try.prog 24 [WeekRow.sl L] [] (.tup (medR L)) [] := by
 by_cases hB : wrsB L = true ∧ L.length ≠ 0
 case neg =>
   have hB' : wrsB L = false ∨ L.length = 0 := by
     cases h : wrsB L
     · exact .inl rfl
     · exact .inr (by simpa [h] using hB)
   rw [medR_no hB']
   refine Ctr.intro Try.mixed Try.func24 rfl Try.okF24 ?_
   simp -implicitDefEqProofs -dsimp only [go_sem, Try.ntmps24, Try.results24]
   (first | refine callT.at (l26Good_ok L hl) ⟨.inl rfl, trivial⟩ ?_ | refine callS.at (l26Good_ok L hl) ⟨.inl rfl, trivial⟩ ?_)
   simp -implicitDefEqProofs -dsimp only [go_sem]
   repeat' (first | (refine WeakR.drop' ?_ rfl; (simp [*]; done)) | (refine guardT.splitF (fun _ => ?_) (fun _ => ?_) <;> (repeat ((repeat1' (first | simp -implicitDefEqProofs -dsimp only [go_sem, *] | simp -dsimp (disch := omega) only [wrap_i64])); repeat (with_reducible refine sideA ?_)))) | (refine condT.split (fun _ => ?_) (fun _ => ?_) <;> (repeat ((repeat1' (first | simp -implicitDefEqProofs -dsimp only [go_sem, *] | simp -dsimp (disch := omega) only [wrap_i64])); repeat (with_reducible refine sideA ?_)))))
   all_goals (exfalso; rcases hB' with h | h <;> simp_all; done)
 obtain ⟨h1, h0⟩ := hB
 obtain ⟨hv, hlen⟩ := wrsB_all h1
 have hd0 : ((L.length : Int) == 0) = false := by simp; intro h; simp [h] at h0
 refine Ctr.intro Try.mixed Try.func24 rfl Try.okF24 ?_
 simp -implicitDefEqProofs -dsimp only [go_sem, Try.ntmps24, Try.results24]
 (first | refine callT.at (l26Good_ok L hl) ⟨.inl rfl, trivial⟩ ?_ | refine callS.at (l26Good_ok L hl) ⟨.inl rfl, trivial⟩ ?_)
 (repeat ((repeat1' (first | simp -implicitDefEqProofs -dsimp only [go_sem, h1, hd0] | simp -dsimp (disch := omega) only [wrap_i64])); repeat (with_reducible refine sideA ?_)))
 refine LoopT.intro (fun i : Nat => i ≤ L.length) (fun i => ⟨[WeekRow.sl L, .undef, .undef, .undef, .osl 0 0 i 1, .int .i64 i, .undef, .undef, .undef, .undef, .undef, .undef, .undef, .undef, .undef, .undef, .undef, .undef, .undef, .undef, .undef, .undef, .undef, .undef, .undef, .undef, .undef, .undef, .undef, .undef, .undef, .undef, .undef, .undef, .undef, .undef, .undef, .undef, .undef, .undef, .undef, .undef, .undef, .undef, .undef, .undef, .undef, .undef, .undef, .undef, .undef, .undef, .undef, .undef, .undef, .undef, .undef, .undef, .undef, .undef, .undef, .undef, .undef, .undef], [some (rows IntS.cs (srtE L i))], 0⟩) (fun i => L.length - i) 0 (Nat.zero_le _) ?_ (fun i hi => ?_)
 · refine Weak.cut (1) (by simp) (by simp) ?_ ?_
   · simp [LeC, LeV, ren, cutF]
   · simp [cutH, cutB, srtE, insSort, rows]
 simp -implicitDefEqProofs -dsimp only [go_sem]
 refine condT.split (fun h2 => ?_) (fun h2 => ?_)
 · have hi' : i < L.length := by simpa using h2
   have hS := srtE_len (L := L) hi
   have hr0 := rows_at WeekRow.csl hi'
   (repeat ((repeat1' (first | simp -implicitDefEqProofs -dsimp only [go_sem, h2] | simp -dsimp (disch := omega) only [wrap_i64])); repeat (with_reducible refine sideA ?_)))
   refine LoopT.intro (fun j : Nat => j ≤ i ∧ posK ltI (srtE L i) L[i].Events i = posK ltI (srtE L i) L[i].Events j) (fun j => ⟨[WeekRow.sl L, .undef, .undef, .undef, .osl 0 0 i 1, .int .i64 i, .int .i64 j, .undef, .undef, .undef, .undef, .undef, .undef, .undef, .undef, .undef, .undef, .undef, .undef, .undef, .undef, .undef, .undef, .undef, .undef, .undef, .undef, .undef, .undef, .undef, .undef, .undef, .undef, .undef, .undef, .undef, .undef, .undef, .undef, .undef, .undef, .undef, .undef, .undef, .undef, .undef, .undef, .undef, .undef, .undef, .undef, .undef, .undef, .undef, .undef, .undef, .undef, .undef, .undef, .undef, .undef, .undef, .undef, .undef], [some (rows IntS.cs (srtE L i))], 0⟩) (fun j => j) i ⟨Nat.le_refl _, rfl⟩ ?_ (fun j hj => ?_)
   · refine Weak.cut (1) (by simp) (by simp) ?_ ?_
     · simp [LeC, LeV, ren, cutF]
     · simp [cutH, cutB, map_ren_rows]
   have fin : ∀ j : Nat, j ≤ i → posK ltI (srtE L i) L[i].Events i = j → rows IntS.cs ((srtE L i).take j) ++ [V.int .i64 L[i].Events] ++ rows IntS.cs ((srtE L i).drop j) = rows IntS.cs (srtE L (i + 1)) := by
     intro j hj hp
     have hm : rows IntS.cs [L[i].Events] = [V.int .i64 L[i].Events] := rfl
     rw [srtE_succ hi', ins, hS, hp, putAt, rowsOf_append, rows_cons, ← hm, List.append_assoc]
     rfl
   simp -implicitDefEqProofs -dsimp only [go_sem]
   refine ⟨by kernel_rfl, ?_⟩
   cases j with
   | zero =>
     have hz : ((0 : Nat) : Int) = 0 := rfl
     (repeat ((repeat1' (first | simp -implicitDefEqProofs -dsimp only [go_sem, hz] | simp -dsimp (disch := omega) only [wrap_i64])); repeat (with_reducible refine sideA ?_)))
     refine chT.intro [false, true, true, true, false, true, true, true, true, true, true, false, true, true, true, false, false] [true, true, true, true, true, true, true, true, true, true, true, true, true, true, true, true, false] [some ⟨none, 41, 38, []⟩, none, none, none, some ⟨some 0, 45, 38, [44]⟩, none, none, none, none, none, none, some ⟨some 4, 52, 38, [44, 51]⟩, none, none, none, some ⟨some 11, 56, 38, [44, 51, 55]⟩, none] [⟨15, 56, 38, [44, 51, 55]⟩] (by kernel_rfl) (by rfl) ?_
     have hf := fin 0 (by omega) hj.2
     have htk := rows_take IntS.csl (srtE L i) i
     rw [List.take_of_length_le (Nat.le_of_eq hS)] at htk
     simp only [List.take_zero, rows_nil, List.nil_append, List.drop_zero, List.cons_append] at hf
     (repeat ((repeat1' (first | simp -implicitDefEqProofs -dsimp only [go_sem, hr0, WeekRow.cs, Nat.sub_zero, htk] | simp -dsimp (disch := omega) only [wrap_i64])); repeat (with_reducible refine sideA ?_)))
     refine ⟨⟨by omega, by omega, rows_noOwn _ _⟩, i + 1, hi', ?_, by omega⟩
     refine Weak.pick [2] (by decide) (fun j hj => by omega) ?_ ?_
     · simp [LeG, LeC, LeV, ren, pickF, posOf]; omega
     · simp only [pickH, List.map_cons, List.map_nil, pickB, List.getElem?_cons_zero, List.getElem?_cons_succ, hf, map_ren_rows]
   | succ j =>
     have hjS : j < (srtE L i).length := by omega
     have hg : decide ((0 : Int) < ((j + 1 : Nat) : Int)) = true := decide_eq_true (by omega)
     have hw1 : IntKind.i64.wrap (((j + 1 : Nat) : Int) - 1) = (j : Int) := by rw [wrap_i64 (by omega) (by omega)]; omega
     have hrj := rows_at IntS.csl hjS
     have hlr := rows_len (w := 1) IntS.csl (srtE L i)
     (repeat ((repeat1' (first | simp -implicitDefEqProofs -dsimp only [go_sem, hg, hw1, hrj, hr0, hlr, hS, IntS.cs, WeekRow.cs] | simp -dsimp (disch := omega) only [wrap_i64])); repeat (with_reducible refine sideA ?_)))
     refine condT.split (fun h3 => ?_) (fun h3 => ?_)
     · (repeat ((repeat1' (first | simp -implicitDefEqProofs -dsimp only [go_sem, h3, hw1] | simp -dsimp (disch := omega) only [wrap_i64])); repeat (with_reducible refine sideA ?_)))
       refine ⟨j, ⟨by omega, hj.2.trans (posK_down hjS h3)⟩, ?_, by omega⟩
       refine Weak.cut (1) (by simp) (by simp) ?_ ?_
       · simp [LeC, LeV, ren, cutF]
       · simp [cutH, cutB, map_ren_rows]
     · (repeat ((repeat1' (first | simp -implicitDefEqProofs -dsimp only [go_sem, h3] | simp -dsimp (disch := omega) only [wrap_i64])); repeat (with_reducible refine sideA ?_)))
       have hp := hj.2.trans (posK_stay hjS h3)
       have hf := fin (j + 1) hj.1 hp
       refine chT.intro [false, true, true, true, false, true, true, true, true, true, true, false, true, true, true, false, false] [true, true, true, true, true, true, true, true, true, true, true, true, true, true, true, true, false] [some ⟨none, 41, 38, []⟩, none, none, none, some ⟨some 0, 45, 38, [44]⟩, none, none, none, none, none, none, some ⟨some 4, 52, 38, [44, 51]⟩, none, none, none, some ⟨some 11, 56, 38, [44, 51, 55]⟩, none] [⟨15, 56, 38, [44, 51, 55]⟩] (by kernel_rfl) (by rfl) ?_
       have ht := rows_take IntS.csl (srtE L i) (j + 1)
       have hd := rows_drop IntS.csl (srtE L i) (j + 1)
       have htk := rows_take IntS.csl ((srtE L i).drop (j + 1)) (i - (j + 1))
       rw [List.take_of_length_le (l := (srtE L i).drop (j + 1)) (by rw [List.length_drop, hS]; exact Nat.le_refl _)] at htk
       by_cases hji : j + 1 < i
       · have hif : (((j + 1 : Nat) : Int) = 0 ∨ ((j + 1 : Nat) : Int) < (i : Int)) = True := eq_true (by omega)
         (repeat ((repeat1' (first | simp -implicitDefEqProofs -dsimp only [go_sem, hr0, WeekRow.cs, ht, hd, htk, Nat.sub_zero, hif, if_true] | simp -dsimp (disch := omega) only [wrap_i64])); repeat (with_reducible refine sideA ?_)))
         refine ⟨⟨by omega, by omega, by rw [hf]; exact rows_noOwn _ _⟩, i + 1, hi', ?_, by omega⟩
         refine Weak.pick [2] (by decide) (fun j hj => by omega) ?_ ?_
         · simp [LeG, LeC, LeV, ren, pickF, posOf]; omega
         · simp only [pickH, List.map_cons, List.map_nil, pickB, List.getElem?_cons_zero, List.getElem?_cons_succ, hf, map_ren_rows]
       · have hif : (((j + 1 : Nat) : Int) = 0 ∨ ((j + 1 : Nat) : Int) < (i : Int)) = False := eq_false (by omega)
         have hdz : (srtE L i).drop (j + 1) = [] := List.drop_of_length_le (by omega)
         rw [hdz, rows_nil, List.append_nil] at hf
         (repeat ((repeat1' (first | simp -implicitDefEqProofs -dsimp only [go_sem, hr0, WeekRow.cs, ht, Nat.sub_zero, hif, if_false] | simp -dsimp (disch := omega) only [wrap_i64])); repeat (with_reducible refine sideA ?_)))
         refine ⟨⟨by omega, by omega, by rw [hf]; exact rows_noOwn _ _⟩, i + 1, hi', ?_, by omega⟩
         refine Weak.pick [2] (by decide) (fun j hj => by omega) ?_ ?_
         · simp [LeG, LeC, LeV, ren, pickF, posOf]; omega
         · simp only [pickH, List.map_cons, List.map_nil, pickB, List.getElem?_cons_zero, List.getElem?_cons_succ, hf, map_ren_rows, List.append_nil]
 · simp -implicitDefEqProofs -dsimp only [go_sem, h2]
   have hi' : i = L.length := by simp at h2; omega
   subst hi'
   have hlt : (L.length - 1) / 2 < (insSort ltI (evs L)).length := by rw [insSort_len]; simp [evs]; omega
   have hrm := rows_at IntS.csl hlt
   have hm : medR L = [.int .i64 ((insSort ltI (evs L))[(L.length - 1) / 2]), .bool true] := by
     rw [medR, if_pos ⟨h1, by intro h; simp [h] at h0⟩, getD_ix hlt]
   rw [srtE_all, hm]
   (repeat ((repeat1' (first | simp -implicitDefEqProofs -dsimp only [go_sem, mid_ix h0 hlen, hrm, IntS.cs] | simp -dsimp (disch := omega) only [wrap_i64])); repeat (with_reducible refine sideA ?_)))
   exact WeakR.drop' rfl rfl
theorem iMedianEvents_ok (L : List WeekRow) (hl : L.length ≤ 281474976710656) : Ctr Try.prog 23 [WeekRow.sl L] [] (.tup (medR L)) [] := by
 by_cases hB : wrsB L = true ∧ L.length ≠ 0
 case neg =>
   have hB' : wrsB L = false ∨ L.length = 0 := by
     cases h : wrsB L
     · exact .inl rfl
     · exact .inr (by simpa [h] using hB)
   rw [medR_no hB']
   refine Ctr.intro Try.mixed Try.func23 rfl Try.okF23 ?_
   simp -implicitDefEqProofs -dsimp only [go_sem, Try.ntmps23, Try.results23]
   (first | refine callT.at (iAreWeekRows_ok L hl) ⟨.inl rfl, trivial⟩ ?_ | refine callS.at (iAreWeekRows_ok L hl) ⟨.inl rfl, trivial⟩ ?_)
   simp -implicitDefEqProofs -dsimp only [go_sem]
   repeat' (first | (refine WeakR.drop' ?_ rfl; (simp [*]; done)) | (refine guardT.splitF (fun _ => ?_) (fun _ => ?_) <;> (repeat ((repeat1' (first | simp -implicitDefEqProofs -dsimp only [go_sem, *] | simp -dsimp (disch := omega) only [wrap_i64])); repeat (with_reducible refine sideA ?_)))) | (refine condT.split (fun _ => ?_) (fun _ => ?_) <;> (repeat ((repeat1' (first | simp -implicitDefEqProofs -dsimp only [go_sem, *] | simp -dsimp (disch := omega) only [wrap_i64])); repeat (with_reducible refine sideA ?_)))))
   all_goals (exfalso; rcases hB' with h | h <;> simp_all; done)
 obtain ⟨h1, h0⟩ := hB
 obtain ⟨hv, hlen⟩ := wrsB_all h1
 have hd0 : ((L.length : Int) == 0) = false := by simp; intro h; simp [h] at h0
 refine Ctr.intro Try.mixed Try.func23 rfl Try.okF23 ?_
 simp -implicitDefEqProofs -dsimp only [go_sem, Try.ntmps23, Try.results23]
 (first | refine callT.at (iAreWeekRows_ok L hl) ⟨.inl rfl, trivial⟩ ?_ | refine callS.at (iAreWeekRows_ok L hl) ⟨.inl rfl, trivial⟩ ?_)
 (repeat ((repeat1' (first | simp -implicitDefEqProofs -dsimp only [go_sem, h1, hd0] | simp -dsimp (disch := omega) only [wrap_i64])); repeat (with_reducible refine sideA ?_)))
 refine LoopT.intro (fun i : Nat => i ≤ L.length) (fun i => ⟨[.undef, .undef, .undef, .undef, .osl 0 0 i 1, .undef, .undef, .undef, .undef, .undef, .undef, .undef, .undef, .undef, .undef, .undef, WeekRow.sl L, .int .i64 L.length, .int .i64 i, .undef, .undef, .undef, .undef, .undef, .undef, .undef, .undef, .undef, .undef, .undef, .undef, .undef, .undef, .undef, .undef, .undef, .undef], [some (rows IntS.cs ((evs L).take i))], 0⟩) (fun i => L.length - i) 0 (Nat.zero_le _) ?_ (fun i hi => ?_)
 · refine Weak.cut (1) (by simp) (by simp) ?_ ?_
   · simp [LeC, LeV, ren, cutF]
   · simp [cutH, cutB, rows]
 simp -implicitDefEqProofs -dsimp only [go_sem]
 refine condT.split (fun h2 => ?_) (fun h2 => ?_)
 · have hi' : i < L.length := by simpa using h2
   have hr0 := rows_at WeekRow.csl hi'
   (repeat ((repeat1' (first | simp -implicitDefEqProofs -dsimp only [go_sem, h2, hr0, WeekRow.cs] | simp -dsimp (disch := omega) only [wrap_i64])); repeat (with_reducible refine sideA ?_)))
   have hl1 : ((evs L).take i).length = i := by simp [evs]; omega
   have e1 : (evs L).take (i + 1) = (evs L).take i ++ [L[i].Events] := by simp [evs, List.take_add_one, hi']
   refine ⟨by rw [rows_len (w := 1) IntS.csl, hl1], by omega, by omega, i + 1, hi', ?_, by omega⟩
   refine Weak.cut (1) (by simp) (by simp) ?_ ?_
   · simp [LeC, LeV, ren, cutF]
   · rw [e1, ← rows_snoc]; simp [cutH, cutB, map_ren_rows, ren, IntS.cs]
 · simp -implicitDefEqProofs -dsimp only [go_sem, h2]
   have hi' : i = L.length := by simp at h2; omega
   subst hi'
   have e1 : (evs L).take L.length = evs L := by rw [show L.length = (evs L).length by simp [evs]]; exact List.take_length
   have e2 : (evs L).length = L.length := by simp [evs]
   have hs := sortInt_ok (evs L) (by omega)
   rw [e2] at hs
   rw [e1]
   (repeat ((repeat1' (first | simp -implicitDefEqProofs -dsimp only [go_sem] | simp -dsimp (disch := omega) only [wrap_i64])); repeat (with_reducible refine sideA ?_)))
   refine callS.lend [0] false ( hs) (by decide) ⟨leO, trivial⟩ lendA ( grown_one (by simp [rows_length, insSort_len])) (.inl rfl) ?_
   have hlt : (L.length - 1) / 2 < (insSort ltI (evs L)).length := by rw [insSort_len]; simp [evs]; omega
   have hrm := rows_at IntS.csl hlt
   have hm : medR L = [.int .i64 ((insSort ltI (evs L))[(L.length - 1) / 2]), .bool true] := by
     rw [medR, if_pos ⟨h1, by intro h; simp [h] at h0⟩, getD_ix hlt]
   rw [hm]
   (repeat ((repeat1' (first | simp -implicitDefEqProofs -dsimp only [go_sem, mid_ix h0 hlen, hrm, IntS.cs] | simp -dsimp (disch := omega) only [wrap_i64])); repeat (with_reducible refine sideA ?_)))
   exact WeakR.drop' rfl rfl
end Go.Proofs
end
section
set_option maxRecDepth 100000
namespace Go.Proofs
open Go.Lv
def iota (a : Int) (n : Nat) : List Int := (List.range n).map fun i : Nat => a + (i : Int)
theorem iota_len (a : Int) (n : Nat) : (iota a n).length = n := by simp [iota]
theorem iota_succ (a : Int) (n : Nat) : iota a (n + 1) = iota a n ++ [a + (n : Int)] := by simp [iota, List.range_succ]
def gapAt (L : List WeekRow) (j : Nat) : List Int := match L[j]?, L[j + 1]? with
 | some a, some b => iota (a.Week + 1) (b.Week - (a.Week + 1)).toNat
 | _, _ => []
def missTo (L : List WeekRow) (n : Nat) : List Int := (List.range n).flatMap (gapAt L)
theorem missTo_succ (L : List WeekRow) (n : Nat) : missTo L (n + 1) = missTo L n ++ gapAt L n := by simp [missTo, List.range_succ]
theorem gapAt_eq {L : List WeekRow} {n : Nat} (h : n + 1 < L.length) : gapAt L n = iota (L[n].Week + 1) (L[n + 1].Week - (L[n].Week + 1)).toNat := by
 have : n < L.length := by omega
 simp [gapAt, this, h]
theorem missTo_len {L : List WeekRow} (hv : ∀ x ∈ L, wrB x = true) : ∀ n, (missTo L n).length ≤ n * 5000
 | 0 => by simp [missTo]
 | n + 1 => by
   have ih := missTo_len hv n
   rw [missTo_succ, List.length_append]
   have : (gapAt L n).length ≤ 5000 := by
     unfold gapAt
     split
     · rename_i a b h1 h2
       have ha := wrB_iff.1 (hv a (List.mem_of_getElem? h1))
       have hb := wrB_iff.1 (hv b (List.mem_of_getElem? h2))
       rw [iota_len]; omega
     · simp
   omega
def missR (L : List WeekRow) : Option (List Int) := if wrsB L = true ∧ (missTo L (L.length - 1)).length ≤ 100 then some (missTo L (L.length - 1)) else none
theorem sMissingWeeks_ok (L : List WeekRow) (hl : L.length ≤ 281474976710656) : Ctr Try.prog 19 [WeekRow.sl L] [] (optO 1 (missR L)) (optOh IntS.cs (missR L)) := by
 refine Ctr.intro Try.mixed Try.func19 rfl Try.okF19 ?_
 simp -implicitDefEqProofs -dsimp only [go_sem, Try.ntmps19, Try.results19]
 (first | refine callT.at (l26Good_ok L hl) ⟨.inl rfl, trivial⟩ ?_ | refine callS.at (l26Good_ok L hl) ⟨.inl rfl, trivial⟩ ?_)
 simp -implicitDefEqProofs -dsimp only [go_sem]
 refine condT.split (fun h1 => ?_) (fun h1 => ?_) <;> simp -implicitDefEqProofs -dsimp only [go_sem, h1]
 · have hn : missR L = none := by rw [missR, if_neg]; simp at h1; simp [h1]
   rw [hn]
   exact WeakR.refl _ _ _
 have h1' : wrsB L = true := by simpa using h1
 obtain ⟨hv, hlen⟩ := wrsB_all h1'
 refine LoopT.intro (fun n : Nat => n = 0 ∨ n + 1 ≤ L.length) (fun n => ⟨[WeekRow.sl L, .undef, .undef, .undef, .osl 0 0 (missTo L n).length 1, .int .i64 ((n : Int) + 1), .undef, .undef, .undef, .undef, .undef, .undef, .undef, .undef, .undef, .undef, .undef, .undef, .undef, .undef, .undef, .undef, .undef, .undef, .undef, .undef, .undef, .undef, .undef, .undef, .undef, .undef, .undef, .undef, .undef, .undef, .undef, .undef, .undef, .undef, .undef, .undef, .undef], [some (rows IntS.cs (missTo L n))], 0⟩) (fun n => L.length - n) 0 (.inl rfl) ?_ (fun n hi => ?_)
 · refine Weak.cut (1) (by simp) (by simp) ?_ ?_
   · simp [LeC, LeV, ren, cutF, missTo]
   · simp [cutH, cutB, missTo, rows]
 simp -implicitDefEqProofs -dsimp only [go_sem]
 refine condT.split (fun h2 => ?_) (fun h2 => ?_)
 · simp -implicitDefEqProofs -dsimp only [go_sem, h2]
   have hi' : n + 1 < L.length := by simp at h2; omega
   have hn : n < L.length := by omega
   have hr := rows_at WeekRow.csl hi'
   have hr0 := rows_at WeekRow.csl hn
   have hw1 : IntKind.i64.wrap ((n : Int) + 1 - 1) = (n : Int) := by rw [wrap_i64 (by omega) (by omega)]; omega
   have hva := wrB_iff.1 (hv _ (List.getElem_mem hn))
   have hvb := wrB_iff.1 (hv _ (List.getElem_mem hi'))
   have hml := missTo_len hv n
   (repeat1' (first | simp -implicitDefEqProofs -dsimp only [go_sem, hw1, hr0, WeekRow.cs] | simp -dsimp (disch := omega) only [wrap_i64]))
   repeat (with_reducible refine sideA ?_)
   refine LoopT.intro (fun k : Nat => k ≤ (L[n + 1].Week - (L[n].Week + 1)).toNat) (fun k => ⟨[WeekRow.sl L, .undef, .undef, .undef, .osl 0 0 (missTo L n ++ iota (L[n].Week + 1) k).length 1, .int .i64 ((n : Int) + 1), .int .i64 (L[n].Week + 1 + (k : Int)), .undef, .undef, .undef, .undef, .undef, .undef, .undef, .undef, .undef, .undef, .undef, .undef, .undef, .undef, .undef, .undef, .undef, .undef, .undef, .undef, .undef, .undef, .undef, .undef, .undef, .undef, .undef, .undef, .undef, .undef, .undef, .undef, .undef, .undef, .undef, .undef], [some (rows IntS.cs (missTo L n ++ iota (L[n].Week + 1) k))], 0⟩) (fun k => (L[n + 1].Week - (L[n].Week + 1)).toNat - k) 0 (Nat.zero_le _) ?_ (fun k hk => ?_)
   · refine Weak.cut (1) (by simp) (by simp) ?_ ?_
     · simp [LeC, LeV, ren, cutF, iota]
     · simp [cutH, cutB, iota, map_ren_rows]
   have hc : ((n : Int) + 1).toNat = n + 1 := by omega
   simp -implicitDefEqProofs -dsimp only [go_sem, hc, hr, WeekRow.cs]
   repeat (with_reducible refine sideA ?_)
   refine condT.split (fun h3 => ?_) (fun h3 => ?_)
   · simp -implicitDefEqProofs -dsimp only [go_sem, h3]
     have hk' : k < (L[n + 1].Week - (L[n].Week + 1)).toNat := by simp at h3; omega
     have hlk := iota_len (L[n].Week + 1) k
     (repeat1' (first | simp -implicitDefEqProofs -dsimp only [go_sem, rows_length, List.length_append, Nat.mul_one, rows_cell] | simp -dsimp (disch := omega) only [wrap_i64]))
     repeat (with_reducible refine sideA ?_)

     refine ⟨k + 1, hk', ?_, by omega⟩
     refine Weak.cut (1) (by simp) (by simp) ?_ ?_
     · simp [LeC, LeV, ren, cutF, iota_succ]
       omega
     · rw [iota_succ, ← List.append_assoc, ← rows_snoc]
       simp [cutH, cutB, map_ren_rows, killC, ren, IntS.cs]
   · simp -implicitDefEqProofs -dsimp only [go_sem, h3]
     have hk' : k = (L[n + 1].Week - (L[n].Week + 1)).toNat := by simp at h3; omega
     have e : missTo L (n + 1) = missTo L n ++ iota (L[n].Week + 1) k := by rw [missTo_succ, gapAt_eq hi', hk']
     rw [wrap_i64 (by omega) (by omega)]
     refine ⟨n + 1, .inr (by omega), ?_, by omega⟩
     refine Weak.cut (1) (by simp) (by simp) ?_ ?_
     · rw [e]
       simp [LeC, LeV, ren, cutF]
     · rw [e]
       simp [cutH, cutB, map_ren_rows]
 · simp -implicitDefEqProofs -dsimp only [go_sem, h2]
   have hn : missTo L (L.length - 1) = missTo L n := by
     simp at h2
     rcases hi with rfl | hi
     · have : L.length - 1 = 0 := by omega
       rw [this]
     · congr 1; omega
   refine condT.split (fun h3 => ?_) (fun h3 => ?_) <;> simp -implicitDefEqProofs -dsimp only [go_sem, h3]
   · have hR : missR L = none := by
       rw [missR, if_neg]
       rw [hn]
       simp at h3
       omega
     rw [hR]
     exact WeakR.pick [1] (by decide) (fun j hj => by omega) (.inl rfl) rfl
   · have hR : missR L = some (missTo L n) := by
       rw [missR, if_pos, hn]
       rw [hn]
       simp at h3
       exact ⟨h1', by omega⟩
     rw [hR]
     exact WeakR.refl _ _ _
theorem iMissingWeeks_ok (L : List WeekRow) (hl : L.length ≤ 281474976710656) : Ctr Try.prog 18 [WeekRow.sl L] [] (optN 1 (missR L)) (optNh IntS.cs (missR L)) := by
 refine Ctr.intro Try.mixed Try.func18 rfl Try.okF18 ?_
 simp -implicitDefEqProofs -dsimp only [go_sem, Try.ntmps18, Try.results18]
 (first | refine callT.at (iAreWeekRows_ok L hl) ⟨.inl rfl, trivial⟩ ?_ | refine callS.at (iAreWeekRows_ok L hl) ⟨.inl rfl, trivial⟩ ?_)
 simp -implicitDefEqProofs -dsimp only [go_sem]
 refine condT.split (fun h1 => ?_) (fun h1 => ?_) <;> simp -implicitDefEqProofs -dsimp only [go_sem, h1]
 · have hn : missR L = none := by rw [missR, if_neg]; simp at h1; simp [h1]
   rw [hn]
   exact WeakR.refl _ _ _
 have h1' : wrsB L = true := by simpa using h1
 obtain ⟨hv, hlen⟩ := wrsB_all h1'
 refine LoopT.intro (fun n : Nat => n = 0 ∨ n + 1 ≤ L.length) (fun n => ⟨[WeekRow.sl L, .undef, .undef, .undef, .osl 0 0 (missTo L n).length 1, .int .i64 ((n : Int) + 1), .undef, .undef, .undef, .undef, .undef, .undef, .undef, .undef, .undef, .undef, .undef, .undef, .undef, .undef, .undef, .undef, .undef, .undef, .undef, .undef, .undef, .undef, .undef, .undef, .undef, .undef, .undef, .undef, .undef, .undef, .undef, .undef, .undef, .undef, .undef], [some (rows IntS.cs (missTo L n))], 0⟩) (fun n => L.length - n) 0 (.inl rfl) ?_ (fun n hi => ?_)
 · refine Weak.cut (1) (by simp) (by simp) ?_ ?_
   · simp [LeC, LeV, ren, cutF, missTo]
   · simp [cutH, cutB, missTo, rows]
 simp -implicitDefEqProofs -dsimp only [go_sem]
 refine condT.split (fun h2 => ?_) (fun h2 => ?_)
 · simp -implicitDefEqProofs -dsimp only [go_sem, h2]
   have hi' : n + 1 < L.length := by simp at h2; omega
   have hn : n < L.length := by omega
   have hr := rows_at WeekRow.csl hi'
   have hr0 := rows_at WeekRow.csl hn
   have hw1 : IntKind.i64.wrap ((n : Int) + 1 - 1) = (n : Int) := by rw [wrap_i64 (by omega) (by omega)]; omega
   have hva := wrB_iff.1 (hv _ (List.getElem_mem hn))
   have hvb := wrB_iff.1 (hv _ (List.getElem_mem hi'))
   have hml := missTo_len hv n
   (repeat1' (first | simp -implicitDefEqProofs -dsimp only [go_sem, hw1, hr0, WeekRow.cs] | simp -dsimp (disch := omega) only [wrap_i64]))
   repeat (with_reducible refine sideA ?_)
   refine LoopT.intro (fun k : Nat => k ≤ (L[n + 1].Week - (L[n].Week + 1)).toNat) (fun k => ⟨[WeekRow.sl L, .undef, .undef, .undef, .osl 0 0 (missTo L n ++ iota (L[n].Week + 1) k).length 1, .int .i64 ((n : Int) + 1), .int .i64 (L[n].Week + 1 + (k : Int)), .undef, .undef, .undef, .undef, .undef, .undef, .undef, .undef, .undef, .undef, .undef, .undef, .undef, .undef, .undef, .undef, .undef, .undef, .undef, .undef, .undef, .undef, .undef, .undef, .undef, .undef, .undef, .undef, .undef, .undef, .undef, .undef, .undef, .undef], [some (rows IntS.cs (missTo L n ++ iota (L[n].Week + 1) k))], 0⟩) (fun k => (L[n + 1].Week - (L[n].Week + 1)).toNat - k) 0 (Nat.zero_le _) ?_ (fun k hk => ?_)
   · refine Weak.cut (1) (by simp) (by simp) ?_ ?_
     · simp [LeC, LeV, ren, cutF, iota]
     · simp [cutH, cutB, iota, map_ren_rows]
   have hc : ((n : Int) + 1).toNat = n + 1 := by omega
   simp -implicitDefEqProofs -dsimp only [go_sem, hc, hr, WeekRow.cs]
   repeat (with_reducible refine sideA ?_)
   refine condT.split (fun h3 => ?_) (fun h3 => ?_)
   · simp -implicitDefEqProofs -dsimp only [go_sem, h3]
     have hk' : k < (L[n + 1].Week - (L[n].Week + 1)).toNat := by simp at h3; omega
     have hlk := iota_len (L[n].Week + 1) k
     (repeat1' (first | simp -implicitDefEqProofs -dsimp only [go_sem, rows_length, List.length_append, Nat.mul_one, rows_cell] | simp -dsimp (disch := omega) only [wrap_i64]))
     repeat (with_reducible refine sideA ?_)

     refine ⟨k + 1, hk', ?_, by omega⟩
     refine Weak.cut (1) (by simp) (by simp) ?_ ?_
     · simp [LeC, LeV, ren, cutF, iota_succ]
       omega
     · rw [iota_succ, ← List.append_assoc, ← rows_snoc]
       simp [cutH, cutB, map_ren_rows, killC, ren, IntS.cs]
   · simp -implicitDefEqProofs -dsimp only [go_sem, h3]
     have hk' : k = (L[n + 1].Week - (L[n].Week + 1)).toNat := by simp at h3; omega
     have e : missTo L (n + 1) = missTo L n ++ iota (L[n].Week + 1) k := by rw [missTo_succ, gapAt_eq hi', hk']
     rw [wrap_i64 (by omega) (by omega)]
     refine ⟨n + 1, .inr (by omega), ?_, by omega⟩
     refine Weak.cut (1) (by simp) (by simp) ?_ ?_
     · rw [e]
       simp [LeC, LeV, ren, cutF]
     · rw [e]
       simp [cutH, cutB, map_ren_rows]
 · simp -implicitDefEqProofs -dsimp only [go_sem, h2]
   have hn : missTo L (L.length - 1) = missTo L n := by
     simp at h2
     rcases hi with rfl | hi
     · have : L.length - 1 = 0 := by omega
       rw [this]
     · congr 1; omega
   refine condT.split (fun h3 => ?_) (fun h3 => ?_) <;> simp -implicitDefEqProofs -dsimp only [go_sem, h3]
   · have hR : missR L = none := by
       rw [missR, if_neg]
       rw [hn]
       simp at h3
       omega
     rw [hR]
     exact WeakR.drop' rfl rfl
   · have hR : missR L = some (missTo L n) := by
       rw [missR, if_pos, hn]
       rw [hn]
       simp at h3
       exact ⟨h1', by omega⟩
     rw [hR]
     exact WeakR.refl _ _ _
end Go.Proofs
end
section
set_option maxRecDepth 100000
set_option maxHeartbeats 1000000
namespace Go.Proofs
open Go.Lv
def Asc (S : List WeekRow) : Prop := S.Pairwise fun x y => x.Week < y.Week
theorem asc_of {L : List WeekRow} (h : wrsB L = true) : Asc L := List.pairwise_map.1 (listedB_lt h)
end Go.Proofs
end
section
set_option maxRecDepth 100000
set_option maxHeartbeats 1000000
namespace Go.Proofs
open Go.Lv
def swS (lim : Int) (P : List (Int × Int)) (r : WeekRow) : List (Int × Int) :=
 if r.Events ≤ lim then P else match P.getLast? with
   | some p => if p.2 = r.Week - 1 then P.dropLast ++ [(p.1, r.Week)] else P ++ [(r.Week, r.Week)]
   | none => P ++ [(r.Week, r.Week)]
def swarms (lim : Int) (L : List WeekRow) : List (Int × Int) := L.foldl (swS lim) []
theorem swarms_succ {lim : Int} {L : List WeekRow} {i : Nat} (hi : i < L.length) : swarms lim (L.take (i + 1)) = swS lim (swarms lim (L.take i)) L[i] := by
 rw [swarms, List.take_succ_eq_append_getElem hi, List.foldl_append]; rfl
theorem swS_len (lim : Int) (P : List (Int × Int)) (r : WeekRow) : (swS lim P r).length ≤ P.length + 1 := by
 unfold swS
 split
 · omega
 · split
   · split
     · simp only [List.length_append, List.length_dropLast, List.length_cons, List.length_nil]; omega
     · simp
   · simp
theorem swarms_len (lim : Int) (L : List WeekRow) : ∀ i, i ≤ L.length → (swarms lim (L.take i)).length ≤ i
 | 0, _ => by simp [swarms]
 | i + 1, hi => by
   rw [swarms_succ (by omega)]
   have := swarms_len lim L i (by omega)
   have := swS_len lim (swarms lim (L.take i)) L[i]
   omega
structure SwI (lim : Int) (P : List (Int × Int)) (D : List WeekRow) : Prop where
 ok : ∀ p ∈ P, p.1 ≤ p.2 ∧ ∃ r ∈ D, p.2 ≤ r.Week
 cov : ∀ w, (∃ p ∈ P, p.1 ≤ w ∧ w ≤ p.2) ↔ ∃ r ∈ D, r.Week = w ∧ lim < r.Events
theorem swI_step {lim : Int} {P : List (Int × Int)} {D : List WeekRow} {r : WeekRow} (I : SwI lim P D) (hr : ∀ d ∈ D, d.Week < r.Week) : SwI lim (swS lim P r) (D ++ [r]) := by
 have lt : ∀ p ∈ P, p.2 < r.Week := fun p hp => by
   obtain ⟨_, d, hd, h2⟩ := I.ok p hp
   have := hr d hd
   omega
 have rhs : ∀ w, (∃ d ∈ D ++ [r], d.Week = w ∧ lim < d.Events) ↔ (∃ d ∈ D, d.Week = w ∧ lim < d.Events) ∨ (r.Week = w ∧ lim < r.Events) := by
   intro w
   constructor
   · rintro ⟨d, hd, h⟩
     rcases List.mem_append.1 hd with h1 | h1
     · exact .inl ⟨d, h1, h⟩
     · rw [List.mem_singleton.1 h1] at h; exact .inr h
   · rintro (⟨d, hd, h⟩ | h)
     · exact ⟨d, List.mem_append_left _ hd, h⟩
     · exact ⟨r, by simp, h⟩
 have old : ∀ p ∈ P, p.1 ≤ p.2 ∧ ∃ d ∈ D ++ [r], p.2 ≤ d.Week := fun p hp => by
   obtain ⟨h1, d, hd, h2⟩ := I.ok p hp
   exact ⟨h1, d, List.mem_append_left _ hd, h2⟩
 have hnew : lim < r.Events → SwI lim (P ++ [(r.Week, r.Week)]) (D ++ [r]) := fun he => by
   refine ⟨fun p hp => ?_, fun w => ?_⟩
   · rcases List.mem_append.1 hp with h | h
     · exact old p h
     · rw [List.mem_singleton.1 h]
       exact ⟨Int.le_refl _, r, by simp, Int.le_refl _⟩
   · rw [rhs, ← I.cov]
     constructor
     · rintro ⟨p, hp, h⟩
       rcases List.mem_append.1 hp with h1 | h1
       · exact .inl ⟨p, h1, h⟩
       · rw [List.mem_singleton.1 h1] at h
         exact .inr ⟨by have := h.1; have := h.2; simp only at *; omega, he⟩
     · rintro (⟨p, hp, h⟩ | ⟨h, _⟩)
       · exact ⟨p, List.mem_append_left _ hp, h⟩
       · exact ⟨(r.Week, r.Week), by simp, by simp [h]⟩
 unfold swS
 split
 · rename_i he
   refine ⟨old, fun w => ?_⟩
   rw [rhs, ← I.cov]
   constructor
   · exact .inl
   · rintro (h | ⟨_, h⟩)
     · exact h
     · omega
 · rename_i he
   split
   · rename_i q hq
     split
     · rename_i hqw
       have hPe : P = P.dropLast ++ [q] := by
         have hne : P ≠ [] := by intro e; rw [e] at hq; cases hq
         have h1 := List.dropLast_concat_getLast hne
         rw [List.getLast?_eq_some_getLast hne] at hq
         rw [← Option.some.inj hq]
         exact h1.symm
       have hqm : q ∈ P := by rw [hPe]; simp
       have hq1 := (I.ok q hqm).1
       refine ⟨fun p hp => ?_, fun w => ?_⟩
       · rcases List.mem_append.1 hp with h | h
         · exact old p (by rw [hPe]; exact List.mem_append_left _ h)
         · rw [List.mem_singleton.1 h]
           exact ⟨by simp only; omega, r, by simp, Int.le_refl _⟩
       · rw [rhs, ← I.cov]
         constructor
         · rintro ⟨p, hp, h⟩
           rcases List.mem_append.1 hp with h1 | h1
           · exact .inl ⟨p, by rw [hPe]; exact List.mem_append_left _ h1, h⟩
           · rw [List.mem_singleton.1 h1] at h
             simp only at h
             rcases Int.lt_or_le q.2 w with h2 | h2
             · exact .inr ⟨by omega, by omega⟩
             · exact .inl ⟨q, hqm, h.1, h2⟩
         · rintro (⟨p, hp, h⟩ | ⟨h, _⟩)
           · rw [hPe] at hp
             rcases List.mem_append.1 hp with h1 | h1
             · exact ⟨p, List.mem_append_left _ h1, h⟩
             · rw [List.mem_singleton.1 h1] at h
               exact ⟨(q.1, r.Week), by simp, h.1, by simp only; omega⟩
           · exact ⟨(q.1, r.Week), by simp, by simp only; omega, by simp only; omega⟩
     · exact hnew (by omega)
   · exact hnew (by omega)
theorem swI_all {lim : Int} {L : List WeekRow} (h : Asc L) : ∀ i, i ≤ L.length → SwI lim (swarms lim (L.take i)) (L.take i)
 | 0, _ => ⟨fun p hp => by simp [swarms] at hp, fun w => by simp [swarms]⟩
 | i + 1, hi => by
   rw [swarms_succ (by omega), List.take_succ_eq_append_getElem (by omega)]
   refine swI_step (swI_all h i (by omega)) fun d hd => ?_
   obtain ⟨j, hj, rfl⟩ := List.getElem_of_mem hd
   have hj' : j < i := by simp at hj; omega
   rw [List.getElem_take]
   exact (List.pairwise_iff_getElem.1 h) j i (by omega) (by omega) hj'
theorem swarms_in {lim : Int} {L : List WeekRow} (h : Asc L) {i : Nat} (hi : i < L.length) : ((swarms lim L).any fun p => decide (p.1 ≤ L[i].Week) && decide (L[i].Week ≤ p.2)) = decide (lim < L[i].Events) := by
 have I := swI_all (lim := lim) h L.length (Nat.le_refl _)
 rw [List.take_length] at I
 rw [Bool.eq_iff_iff, List.any_eq_true, decide_eq_true_eq]
 have hc := I.cov L[i].Week
 constructor
 · rintro ⟨p, hp, hh⟩
   simp only [Bool.and_eq_true, decide_eq_true_eq] at hh
   obtain ⟨r, hr, hw, he⟩ := hc.1 ⟨p, hp, hh⟩
   obtain ⟨j, hj, rfl⟩ := List.getElem_of_mem hr
   have : j = i := by
     rcases Nat.lt_trichotomy j i with c | c | c
     · have := (List.pairwise_iff_getElem.1 h) j i hj hi c; omega
     · exact c
     · have := (List.pairwise_iff_getElem.1 h) i j hi hj c; omega
   subst this
   exact he
 · intro he
   obtain ⟨p, hp, hh⟩ := hc.2 ⟨L[i], List.getElem_mem hi, rfl, he⟩
   exact ⟨p, hp, by simp only [Bool.and_eq_true, decide_eq_true_eq]; exact hh⟩
theorem missing_not {L : List WeekRow} (h : Asc L) : ∀ n, n + 1 ≤ L.length → ∀ y ∈ missTo L n, ∀ x ∈ L, x.Week ≠ y := by
 intro n hn y hy x hx
 obtain ⟨j, hj, hg⟩ := List.mem_flatMap.1 hy
 have hj' : j < n := by simpa using hj
 rw [gapAt_eq (by omega)] at hg
 simp only [iota, List.mem_map, List.mem_range] at hg
 obtain ⟨t, ht, rfl⟩ := hg
 obtain ⟨i, hi, rfl⟩ := List.getElem_of_mem hx
 have P := List.pairwise_iff_getElem.1 h
 rcases Nat.lt_or_ge j i with c | c
 · rcases Nat.lt_or_ge (j + 1) i with d | d
   · have := P (j + 1) i (by omega) hi d; omega
   · have : i = j + 1 := by omega
     subst this
     omega
 · rcases Nat.lt_or_ge i j with d | d
   · have := P i j hi (by omega) d; omega
   · have : i = j := by omega
     subst this
     omega
theorem ins_le {S : List Int} (n : Int) (hs : S.Pairwise (· ≤ ·)) : (ins ltI S n).Pairwise (· ≤ ·) ∧ (ins ltI S n).Perm (n :: S) := by
 have key : ∀ j, j ≤ S.length → (∀ i (hi : i < S.length), j ≤ i → n < S[i]) → (∀ i (hi : i < S.length), posK ltI S n j ≤ i → n < S[i]) ∧ (∀ i (hi : i < S.length), i < posK ltI S n j → S[i] ≤ n) := by
   intro j
   induction j with
   | zero => intro _ h; exact ⟨fun i hi _ => h i hi (Nat.zero_le _), fun i hi h2 => by simp [posK] at h2⟩
   | succ j ih =>
     intro hj h
     have hjl : j < S.length := by omega
     cases hlt : ltI n S[j] with
     | true =>
       rw [posK_down hjl hlt]
       refine ih (by omega) fun i hi hij => ?_
       rcases Nat.lt_or_ge j i with c | c
       · exact h i hi c
       · have : i = j := by omega
         subst this
         simpa [ltI] using hlt
     | false =>
       rw [posK_stay hjl hlt]
       refine ⟨h, fun i hi h2 => ?_⟩
       have hle : S[j] ≤ n := by simpa [ltI] using hlt
       rcases Nat.lt_or_ge i j with c | c
       · have := (List.pairwise_iff_getElem.1 hs) i j hi hjl c; omega
       · have : i = j := by omega
         subst this
         exact hle
 obtain ⟨k1, k2⟩ := key S.length (Nat.le_refl _) fun i hi h => by omega
 have hp := posK_le ltI S n S.length
 unfold ins putAt
 generalize posK ltI S n S.length = j at k1 k2 hp
 refine ⟨?_, ?_⟩
 · rw [List.pairwise_append]
   refine ⟨hs.sublist (List.take_sublist _ _), List.pairwise_cons.2 ⟨fun y hy => ?_, hs.sublist (List.drop_sublist _ _)⟩, fun x hx y hy => ?_⟩
   · obtain ⟨i, hi, rfl⟩ := List.getElem_of_mem hy
     rw [List.getElem_drop]
     rw [List.length_drop] at hi
     have := k1 (j + i) (by omega) (by omega)
     omega
   · obtain ⟨i, hi, rfl⟩ := List.getElem_of_mem hx
     rw [List.length_take] at hi
     rw [List.getElem_take]
     have h1 := k2 i (by omega) (by omega)
     rcases List.mem_cons.1 hy with e | e
     · rw [e]; exact h1
     · obtain ⟨i2, hi2, rfl⟩ := List.getElem_of_mem e
       rw [List.getElem_drop]
       rw [List.length_drop] at hi2
       have := k1 (j + i2) (by omega) (by omega)
       omega
 · refine List.perm_middle.trans ?_
   rw [List.take_append_drop]
theorem insSort_le (L : List Int) : (insSort ltI L).Pairwise (· ≤ ·) ∧ (insSort ltI L).Perm L := by
 have key : ∀ i, i ≤ L.length → (insSort ltI (L.take i)).Pairwise (· ≤ ·) ∧ (insSort ltI (L.take i)).Perm (L.take i) := by
   intro i
   induction i with
   | zero => intro _; simp [insSort]
   | succ i ih =>
     intro hi
     obtain ⟨h1, h2⟩ := ih (by omega)
     rw [insSort_take hi]
     obtain ⟨g1, g2⟩ := ins_le L[i] h1
     refine ⟨g1, g2.trans ((h2.cons _).trans ?_)⟩
     rw [List.take_succ_eq_append_getElem hi]
     exact (List.perm_append_singleton _ _).symm
 have := key L.length (Nat.le_refl _)
 rwa [List.take_length] at this
theorem median_half {E : List Int} (h0 : 0 < E.length) : E.length ≤ 2 * E.countP (fun x => decide (x ≤ (insSort ltI E).getD ((E.length - 1) / 2) 0)) ∧ E.length ≤ 2 * E.countP (fun x => decide ((insSort ltI E).getD ((E.length - 1) / 2) 0 ≤ x)) := by
 obtain ⟨hs, hp⟩ := insSort_le E
 have hl : (insSort ltI E).length = E.length := insSort_len _ _
 rw [← hp.countP_eq, ← hp.countP_eq, ← hl]
 generalize insSort ltI E = S at hs hl
 have hk : (S.length - 1) / 2 < S.length := by omega
 have P := List.pairwise_iff_getElem.1 hs
 have hm : S.getD ((S.length - 1) / 2) 0 = S[(S.length - 1) / 2] := getD_ix hk
 rw [hm]
 generalize hkk : (S.length - 1) / 2 = k at hk
 have c1 : k + 1 ≤ S.countP (fun x => decide (x ≤ S[k])) := by
   have e : S.countP (fun x => decide (x ≤ S[k])) = (S.take (k + 1)).countP (fun x => decide (x ≤ S[k])) + (S.drop (k + 1)).countP (fun x => decide (x ≤ S[k])) := by
     rw [← List.countP_append, List.take_append_drop]
   have e2 : (S.take (k + 1)).countP (fun x => decide (x ≤ S[k])) = (S.take (k + 1)).length := by
     rw [List.countP_eq_length]
     intro x hx
     obtain ⟨i, hi, rfl⟩ := List.getElem_of_mem hx
     rw [List.length_take] at hi
     rw [List.getElem_take]
     rcases Nat.lt_or_ge i k with c | c
     · have := P i k (by omega) hk c
       simpa using this
     · have : i = k := by omega
       subst this
       simp
   rw [e, e2, List.length_take]
   omega
 have c2 : S.length - k ≤ S.countP (fun x => decide (S[k] ≤ x)) := by
   have e : S.countP (fun x => decide (S[k] ≤ x)) = (S.take k).countP (fun x => decide (S[k] ≤ x)) + (S.drop k).countP (fun x => decide (S[k] ≤ x)) := by
     rw [← List.countP_append, List.take_append_drop]
   have e2 : (S.drop k).countP (fun x => decide (S[k] ≤ x)) = (S.drop k).length := by
     rw [List.countP_eq_length]
     intro x hx
     obtain ⟨i, hi, rfl⟩ := List.getElem_of_mem hx
     rw [List.length_drop] at hi
     rw [List.getElem_drop]
     rcases Nat.lt_or_ge k (k + i) with c | c
     · have := P k (k + i) hk (by omega) c
       simpa using this
     · have : i = 0 := by omega
       subst this
       simp
   rw [e, e2, List.length_drop]
   omega
 constructor <;> omega
end Go.Proofs
end
section
namespace Go.Lv
theorem Ctr.weak {P : Program} {f : FuncId} {args : List V} {r r' : V} {hout hout' : Hp} (h : Ctr P f args [] r hout) (hw : WeakR 0 r hout r' hout') : Ctr P f args [] r' hout' :=
 ⟨h.1, fun w vs m av h1 h2 h3 h4 h5 => (h.2 w vs m av h1 h2 h3 h4 h5).mono fun e w' ⟨v, m', g1, g2, g3, g4, g5⟩ => by
   obtain ⟨m2, k1, k2, k3⟩ := hw w m [] av w' m' v rfl (Nat.zero_le _) h2 g2.size g3 g4 g5
   exact ⟨v, m2, g1, g2, k1, k2, k3⟩⟩
section
variable {α : Type} {cs : α → List V} {w : Nat} [FlatP cs w]
def frzV (cs : α → List V) (w : Nat) (R : Option (List α)) : V := .tup [.sl (R.getD []).length w (rows cs (R.getD [])), .bool R.isSome]
theorem frzN (R : Option (List α)) : WeakR 0 (optN w R) (optNh cs R) (frzV cs w R) [] := by
 cases R with
 | none =>
   intro w0 m0 h0 av0 W m val e1 e2 hlt hle H hx hi
   refine ⟨m, H, ?_, hi⟩
   change RV W m [] _ true val (.tup [.nilsl, .bool false]) at hx
   cases hx with
   | tup a vs ha hra =>
     refine .tup _ _ ha (fun i hi => ?_)
     match i, hi with
     | 0, _ => exact (hra 0 (by simp)).leE LeE.nil
     | 1, _ => exact hra 1 (by simp)
 | some L =>
   refine WeakR.pick [] (by decide) (fun j hj => by omega) (.inl ?_) rfl
   simp [frzV, optN, optNh, ren, pickF, posOf, frzR, take_rows, map_ren_rows]
theorem frzO (R : Option (List α)) : WeakR 0 (optO w R) (optOh cs R) (frzV cs w R) [] := by
 cases R with
 | none =>
   refine WeakR.pick [] (by decide) (fun j hj => by omega) (.inl ?_) rfl
   simp [frzV, optO, optOh, ren, pickF, posOf, frzR, rows]
 | some L =>
   refine WeakR.pick [] (by decide) (fun j hj => by omega) (.inl ?_) rfl
   simp [frzV, optO, optOh, ren, pickF, posOf, frzR, take_rows, map_ren_rows]
end
end Go.Lv
end
