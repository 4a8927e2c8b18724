/-
  A part of the proof: texts put together by a program of the prover. Conditions: none.
-/
import Derived.Test.YtgnnoacaghelhaaDoorZForgettingLaw3
import Derived.Test.YtgnnoacaghelhaaDoorProg
import Derived.KernelRfl
set_option linter.unusedSimpArgs false
set_option linter.unusedVariables false
section
namespace Go.Proofs
open Go.Lv

theorem Tryd.mixed : Tryd.prog.follows .mixedOrders = true := by kernel_rfl
@[go_sem] theorem Tryd.tsz1 : tszOf Tryd.prog 1 = some (1, false) := by kernel_rfl
@[go_sem] theorem Tryd.udef1 : (Tryd.prog.underlying 1).isSome = true := by kernel_rfl
@[go_sem] theorem Tryd.zero1 : zeroOf Tryd.prog 1 = some [.lit ((Go.Value.nilFunc))] := by kernel_rfl
@[go_sem] theorem Tryd.tsz2 : tszOf Tryd.prog 2 = some (1, false) := by kernel_rfl
@[go_sem] theorem Tryd.udef2 : (Tryd.prog.underlying 2).isSome = true := by kernel_rfl
@[go_sem] theorem Tryd.zero2 : zeroOf Tryd.prog 2 = some [.int .i64 0] := by kernel_rfl
@[go_sem] theorem Tryd.isInt2 : isIntT Tryd.prog 2 = some .i64 := by kernel_rfl
@[go_sem] theorem Tryd.tsz3 : tszOf Tryd.prog 3 = some (1, false) := by kernel_rfl
@[go_sem] theorem Tryd.udef3 : (Tryd.prog.underlying 3).isSome = true := by kernel_rfl
@[go_sem] theorem Tryd.zero3 : zeroOf Tryd.prog 3 = some [.int .i64 0] := by kernel_rfl
@[go_sem] theorem Tryd.isInt3 : isIntT Tryd.prog 3 = some .i64 := by kernel_rfl
@[go_sem] theorem Tryd.tsz4 : tszOf Tryd.prog 4 = some (1, false) := by kernel_rfl
@[go_sem] theorem Tryd.udef4 : (Tryd.prog.underlying 4).isSome = true := by kernel_rfl
@[go_sem] theorem Tryd.zero4 : zeroOf Tryd.prog 4 = some [.bool false] := by kernel_rfl
@[go_sem] theorem Tryd.isBool4 : isBoolT Tryd.prog 4 = true := by kernel_rfl
@[go_sem] theorem Tryd.tsz5 : tszOf Tryd.prog 5 = some (1, false) := by kernel_rfl
theorem Tryd.cz5 : Tryd.prog.cellsOf 5 = 1 := by kernel_rfl
@[go_sem] theorem Tryd.udef5 : (Tryd.prog.underlying 5).isSome = true := by kernel_rfl
@[go_sem] theorem Tryd.zero5 : zeroOf Tryd.prog 5 = some [.int .u8 0] := by kernel_rfl
@[go_sem] theorem Tryd.isInt5 : isIntT Tryd.prog 5 = some .u8 := by kernel_rfl
@[go_sem] theorem Tryd.tsz6 : tszOf Tryd.prog 6 = some (1, false) := by kernel_rfl
@[go_sem] theorem Tryd.udef6 : (Tryd.prog.underlying 6).isSome = true := by kernel_rfl
@[go_sem] theorem Tryd.zero6 : zeroOf Tryd.prog 6 = some [.int .u8 0] := by kernel_rfl
@[go_sem] theorem Tryd.isInt6 : isIntT Tryd.prog 6 = some .u8 := by kernel_rfl
@[go_sem] theorem Tryd.tsz7 : tszOf Tryd.prog 7 = some (4, true) := by kernel_rfl
@[go_sem] theorem Tryd.udef7 : (Tryd.prog.underlying 7).isSome = true := by kernel_rfl
@[go_sem] theorem Tryd.zero7 : zeroOf Tryd.prog 7 = some [.int .i64 0, .int .i64 0, .bool false, .int .u8 0] := by kernel_rfl
@[go_sem] theorem Tryd.pl7 : plOf Tryd.prog 7 = some [(0, 1), (1, 1), (2, 1), (3, 1)] := by kernel_rfl
@[go_sem] theorem Tryd.tsz8 : tszOf Tryd.prog 8 = some (4, true) := by kernel_rfl
@[go_sem] theorem Tryd.udef8 : (Tryd.prog.underlying 8).isSome = true := by kernel_rfl
@[go_sem] theorem Tryd.zero8 : zeroOf Tryd.prog 8 = some [.int .i64 0, .int .i64 0, .bool false, .int .u8 0] := by kernel_rfl
@[go_sem] theorem Tryd.pl8 : plOf Tryd.prog 8 = some [(0, 1), (1, 1), (2, 1), (3, 1)] := by kernel_rfl
@[go_sem] theorem Tryd.tsz9 : tszOf Tryd.prog 9 = some (1, false) := by kernel_rfl
@[go_sem] theorem Tryd.udef9 : (Tryd.prog.underlying 9).isSome = true := by kernel_rfl
@[go_sem] theorem Tryd.zero9 : zeroOf Tryd.prog 9 = some [.str ByteArray.empty] := by kernel_rfl
@[go_sem] theorem Tryd.isU8S9 : isU8S Tryd.prog 9 = false := by kernel_rfl
@[go_sem] theorem Tryd.isIntN9 : isIntT Tryd.prog 9 = none := by kernel_rfl
@[go_sem] theorem Tryd.isStr9 : isStr Tryd.prog 9 = true := by kernel_rfl
@[go_sem] theorem Tryd.tsz10 : tszOf Tryd.prog 10 = some (1, false) := by kernel_rfl
@[go_sem] theorem Tryd.udef10 : (Tryd.prog.underlying 10).isSome = true := by kernel_rfl
@[go_sem] theorem Tryd.zero10 : zeroOf Tryd.prog 10 = some [.str ByteArray.empty] := by kernel_rfl
@[go_sem] theorem Tryd.isU8S10 : isU8S Tryd.prog 10 = false := by kernel_rfl
@[go_sem] theorem Tryd.isIntN10 : isIntT Tryd.prog 10 = none := by kernel_rfl
@[go_sem] theorem Tryd.isStr10 : isStr Tryd.prog 10 = true := by kernel_rfl
@[go_sem] theorem Tryd.tsz11 : tszOf Tryd.prog 11 = some (1, false) := by kernel_rfl
@[go_sem] theorem Tryd.udef11 : (Tryd.prog.underlying 11).isSome = true := by kernel_rfl
@[go_sem] theorem Tryd.zero11 : zeroOf Tryd.prog 11 = some [.str ByteArray.empty] := by kernel_rfl
@[go_sem] theorem Tryd.isU8S11 : isU8S Tryd.prog 11 = false := by kernel_rfl
@[go_sem] theorem Tryd.isIntN11 : isIntT Tryd.prog 11 = none := by kernel_rfl
@[go_sem] theorem Tryd.isStr11 : isStr Tryd.prog 11 = true := by kernel_rfl
@[go_sem] theorem Tryd.tsz12 : tszOf Tryd.prog 12 = some (1, false) := by kernel_rfl
@[go_sem] theorem Tryd.udef12 : (Tryd.prog.underlying 12).isSome = true := by kernel_rfl
@[go_sem] theorem Tryd.zero12 : zeroOf Tryd.prog 12 = some [.int .u64 0] := by kernel_rfl
@[go_sem] theorem Tryd.isInt12 : isIntT Tryd.prog 12 = some .u64 := by kernel_rfl
@[go_sem] theorem Tryd.tsz13 : tszOf Tryd.prog 13 = some (2, true) := by kernel_rfl
@[go_sem] theorem Tryd.udef13 : (Tryd.prog.underlying 13).isSome = true := by kernel_rfl
@[go_sem] theorem Tryd.zero13 : zeroOf Tryd.prog 13 = some [.str ByteArray.empty, .int .u64 0] := by kernel_rfl
@[go_sem] theorem Tryd.pl13 : plOf Tryd.prog 13 = some [(0, 1), (1, 1)] := by kernel_rfl
@[go_sem] theorem Tryd.tsz14 : tszOf Tryd.prog 14 = some (2, true) := by kernel_rfl
@[go_sem] theorem Tryd.udef14 : (Tryd.prog.underlying 14).isSome = true := by kernel_rfl
@[go_sem] theorem Tryd.zero14 : zeroOf Tryd.prog 14 = some [.str ByteArray.empty, .int .u64 0] := by kernel_rfl
@[go_sem] theorem Tryd.pl14 : plOf Tryd.prog 14 = some [(0, 1), (1, 1)] := by kernel_rfl
@[go_sem] theorem Tryd.tsz15 : tszOf Tryd.prog 15 = some (1, false) := by kernel_rfl
@[go_sem] theorem Tryd.udef15 : (Tryd.prog.underlying 15).isSome = true := by kernel_rfl
@[go_sem] theorem Tryd.zero15 : zeroOf Tryd.prog 15 = some [.lit ((Go.Value.pointer none))] := by kernel_rfl
@[go_sem] theorem Tryd.tsz16 : tszOf Tryd.prog 16 = some (1, false) := by kernel_rfl
@[go_sem] theorem Tryd.udef16 : (Tryd.prog.underlying 16).isSome = true := by kernel_rfl
@[go_sem] theorem Tryd.zero16 : zeroOf Tryd.prog 16 = some [.lit ((Go.Value.pointer none))] := by kernel_rfl
@[go_sem] theorem Tryd.tsz17 : tszOf Tryd.prog 17 = some (1, false) := by kernel_rfl
@[go_sem] theorem Tryd.udef17 : (Tryd.prog.underlying 17).isSome = true := by kernel_rfl
@[go_sem] theorem Tryd.zero17 : zeroOf Tryd.prog 17 = some [.lit ((Go.Value.pointer none))] := by kernel_rfl
@[go_sem] theorem Tryd.tsz18 : tszOf Tryd.prog 18 = some (1, true) := by kernel_rfl
@[go_sem] theorem Tryd.udef18 : (Tryd.prog.underlying 18).isSome = true := by kernel_rfl
@[go_sem] theorem Tryd.zero18 : zeroOf Tryd.prog 18 = some [.lit ((Go.Value.pointer none))] := by kernel_rfl
@[go_sem] theorem Tryd.pl18 : plOf Tryd.prog 18 = some [(0, 1)] := by kernel_rfl
@[go_sem] theorem Tryd.tsz19 : tszOf Tryd.prog 19 = some (1, true) := by kernel_rfl
@[go_sem] theorem Tryd.udef19 : (Tryd.prog.underlying 19).isSome = true := by kernel_rfl
@[go_sem] theorem Tryd.zero19 : zeroOf Tryd.prog 19 = some [.lit ((Go.Value.pointer none))] := by kernel_rfl
@[go_sem] theorem Tryd.pl19 : plOf Tryd.prog 19 = some [(0, 1)] := by kernel_rfl
@[go_sem] theorem Tryd.tsz20 : tszOf Tryd.prog 20 = some (1, false) := by kernel_rfl
@[go_sem] theorem Tryd.udef20 : (Tryd.prog.underlying 20).isSome = true := by kernel_rfl
@[go_sem] theorem Tryd.zero20 : zeroOf Tryd.prog 20 = some [.lit ((Go.Value.nilIface))] := by kernel_rfl
@[go_sem] theorem Tryd.tsz21 : tszOf Tryd.prog 21 = some (1, false) := by kernel_rfl
@[go_sem] theorem Tryd.udef21 : (Tryd.prog.underlying 21).isSome = true := by kernel_rfl
@[go_sem] theorem Tryd.zero21 : zeroOf Tryd.prog 21 = some [.int .i32 0] := by kernel_rfl
@[go_sem] theorem Tryd.isInt21 : isIntT Tryd.prog 21 = some .i32 := by kernel_rfl
@[go_sem] theorem Tryd.tsz22 : tszOf Tryd.prog 22 = some (1, false) := by kernel_rfl
@[go_sem] theorem Tryd.udef22 : (Tryd.prog.underlying 22).isSome = true := by kernel_rfl
@[go_sem] theorem Tryd.zero22 : zeroOf Tryd.prog 22 = some [.nilsl] := by kernel_rfl
@[go_sem] theorem Tryd.el22 : elOf Tryd.prog 22 = some (5, 1, 1) := by kernel_rfl
@[go_sem] theorem Tryd.isSl22 : isSl Tryd.prog 22 = true := by kernel_rfl
@[go_sem] theorem Tryd.isU8S22 : isU8S Tryd.prog 22 = true := by kernel_rfl
@[go_sem] theorem Tryd.tsz23 : tszOf Tryd.prog 23 = some (1, false) := by kernel_rfl
@[go_sem] theorem Tryd.udef23 : (Tryd.prog.underlying 23).isSome = true := by kernel_rfl
@[go_sem] theorem Tryd.zero23 : zeroOf Tryd.prog 23 = some [.lit ((Go.Value.nilFunc))] := by kernel_rfl
@[go_sem] theorem Tryd.tsz24 : tszOf Tryd.prog 24 = some (1, false) := by kernel_rfl
@[go_sem] theorem Tryd.udef24 : (Tryd.prog.underlying 24).isSome = true := by kernel_rfl
@[go_sem] theorem Tryd.zero24 : zeroOf Tryd.prog 24 = some [.nilsl] := by kernel_rfl
@[go_sem] theorem Tryd.el24 : elOf Tryd.prog 24 = some (39, 5, 40) := by kernel_rfl
@[go_sem] theorem Tryd.isSl24 : isSl Tryd.prog 24 = true := by kernel_rfl
@[go_sem] theorem Tryd.tsz25 : tszOf Tryd.prog 25 = some (1, false) := by kernel_rfl
@[go_sem] theorem Tryd.udef25 : (Tryd.prog.underlying 25).isSome = true := by kernel_rfl
@[go_sem] theorem Tryd.zero25 : zeroOf Tryd.prog 25 = some [.lit ((Go.Value.nilFunc))] := by kernel_rfl
@[go_sem] theorem Tryd.tsz26 : tszOf Tryd.prog 26 = some (1, false) := by kernel_rfl
@[go_sem] theorem Tryd.udef26 : (Tryd.prog.underlying 26).isSome = true := by kernel_rfl
@[go_sem] theorem Tryd.zero26 : zeroOf Tryd.prog 26 = some [.nilsl] := by kernel_rfl
@[go_sem] theorem Tryd.el26 : elOf Tryd.prog 26 = some (3, 1, 8) := by kernel_rfl
@[go_sem] theorem Tryd.isSl26 : isSl Tryd.prog 26 = true := by kernel_rfl
@[go_sem] theorem Tryd.tsz28 : tszOf Tryd.prog 28 = some (1, false) := by kernel_rfl
@[go_sem] theorem Tryd.udef28 : (Tryd.prog.underlying 28).isSome = true := by kernel_rfl
@[go_sem] theorem Tryd.zero28 : zeroOf Tryd.prog 28 = some [.lit ((Go.Value.nilFunc))] := by kernel_rfl
@[go_sem] theorem Tryd.tsz29 : tszOf Tryd.prog 29 = some (1, false) := by kernel_rfl
@[go_sem] theorem Tryd.udef29 : (Tryd.prog.underlying 29).isSome = true := by kernel_rfl
@[go_sem] theorem Tryd.zero29 : zeroOf Tryd.prog 29 = some [.lit ((Go.Value.nilFunc))] := by kernel_rfl
@[go_sem] theorem Tryd.tsz30 : tszOf Tryd.prog 30 = some (1, false) := by kernel_rfl
@[go_sem] theorem Tryd.udef30 : (Tryd.prog.underlying 30).isSome = true := by kernel_rfl
@[go_sem] theorem Tryd.zero30 : zeroOf Tryd.prog 30 = some [.lit ((Go.Value.nilFunc))] := by kernel_rfl
@[go_sem] theorem Tryd.tsz32 : tszOf Tryd.prog 32 = some (1, false) := by kernel_rfl
@[go_sem] theorem Tryd.udef32 : (Tryd.prog.underlying 32).isSome = true := by kernel_rfl
@[go_sem] theorem Tryd.zero32 : zeroOf Tryd.prog 32 = some [.lit ((Go.Value.nilFunc))] := by kernel_rfl
@[go_sem] theorem Tryd.tsz34 : tszOf Tryd.prog 34 = some (1, false) := by kernel_rfl
@[go_sem] theorem Tryd.udef34 : (Tryd.prog.underlying 34).isSome = true := by kernel_rfl
@[go_sem] theorem Tryd.zero34 : zeroOf Tryd.prog 34 = some [.lit ((Go.Value.nilFunc))] := by kernel_rfl
@[go_sem] theorem Tryd.tsz36 : tszOf Tryd.prog 36 = some (1, false) := by kernel_rfl
@[go_sem] theorem Tryd.udef36 : (Tryd.prog.underlying 36).isSome = true := by kernel_rfl
@[go_sem] theorem Tryd.zero36 : zeroOf Tryd.prog 36 = some [.lit ((Go.Value.nilFunc))] := by kernel_rfl
@[go_sem] theorem Tryd.tsz37 : tszOf Tryd.prog 37 = some (1, false) := by kernel_rfl
@[go_sem] theorem Tryd.udef37 : (Tryd.prog.underlying 37).isSome = true := by kernel_rfl
@[go_sem] theorem Tryd.zero37 : zeroOf Tryd.prog 37 = some [.lit ((Go.Value.nilFunc))] := by kernel_rfl
@[go_sem] theorem Tryd.tsz38 : tszOf Tryd.prog 38 = some (5, true) := by kernel_rfl
@[go_sem] theorem Tryd.udef38 : (Tryd.prog.underlying 38).isSome = true := by kernel_rfl
@[go_sem] theorem Tryd.zero38 : zeroOf Tryd.prog 38 = some [.int .i64 0, .int .i64 0, .int .i64 0, .int .i64 0, .int .i64 0] := by kernel_rfl
@[go_sem] theorem Tryd.pl38 : plOf Tryd.prog 38 = some [(0, 1), (1, 1), (2, 1), (3, 1), (4, 1)] := by kernel_rfl
@[go_sem] theorem Tryd.tsz39 : tszOf Tryd.prog 39 = some (5, true) := by kernel_rfl
@[go_sem] theorem Tryd.udef39 : (Tryd.prog.underlying 39).isSome = true := by kernel_rfl
@[go_sem] theorem Tryd.zero39 : zeroOf Tryd.prog 39 = some [.int .i64 0, .int .i64 0, .int .i64 0, .int .i64 0, .int .i64 0] := by kernel_rfl
@[go_sem] theorem Tryd.flatEq39 : flatEq Tryd.prog 39 = some [.int .i64, .int .i64, .int .i64, .int .i64, .int .i64] := by kernel_rfl
@[go_sem] theorem Tryd.pl39 : plOf Tryd.prog 39 = some [(0, 1), (1, 1), (2, 1), (3, 1), (4, 1)] := by kernel_rfl
@[go_sem] theorem Tryd.fd39_0 : fdOf Tryd.prog 39 0 = some (0, 1, false) := by kernel_rfl
@[go_sem] theorem Tryd.fd39_1 : fdOf Tryd.prog 39 1 = some (1, 1, false) := by kernel_rfl
@[go_sem] theorem Tryd.fd39_2 : fdOf Tryd.prog 39 2 = some (2, 1, false) := by kernel_rfl
@[go_sem] theorem Tryd.fd39_3 : fdOf Tryd.prog 39 3 = some (3, 1, false) := by kernel_rfl
@[go_sem] theorem Tryd.fd39_4 : fdOf Tryd.prog 39 4 = some (4, 1, false) := by kernel_rfl
@[go_sem] theorem Tryd.tsz40 : tszOf Tryd.prog 40 = some (1, false) := by kernel_rfl
@[go_sem] theorem Tryd.udef40 : (Tryd.prog.underlying 40).isSome = true := by kernel_rfl
@[go_sem] theorem Tryd.zero40 : zeroOf Tryd.prog 40 = some [.lit ((Go.Value.nilFunc))] := by kernel_rfl
@[go_sem] theorem Tryd.tsz41 : tszOf Tryd.prog 41 = some (1, false) := by kernel_rfl
@[go_sem] theorem Tryd.udef41 : (Tryd.prog.underlying 41).isSome = true := by kernel_rfl
@[go_sem] theorem Tryd.zero41 : zeroOf Tryd.prog 41 = some [.lit ((Go.Value.nilFunc))] := by kernel_rfl
@[go_sem] theorem Tryd.tsz42 : tszOf Tryd.prog 42 = some (1, false) := by kernel_rfl
@[go_sem] theorem Tryd.udef42 : (Tryd.prog.underlying 42).isSome = true := by kernel_rfl
@[go_sem] theorem Tryd.zero42 : zeroOf Tryd.prog 42 = some [.lit ((Go.Value.nilFunc))] := by kernel_rfl
@[go_sem] theorem Tryd.tsz43 : tszOf Tryd.prog 43 = some (1, false) := by kernel_rfl
@[go_sem] theorem Tryd.udef43 : (Tryd.prog.underlying 43).isSome = true := by kernel_rfl
@[go_sem] theorem Tryd.zero43 : zeroOf Tryd.prog 43 = some [.nilsl] := by kernel_rfl
@[go_sem] theorem Tryd.el43 : elOf Tryd.prog 43 = some (109, 3, 24) := by kernel_rfl
@[go_sem] theorem Tryd.isSl43 : isSl Tryd.prog 43 = true := by kernel_rfl
@[go_sem] theorem Tryd.tsz44 : tszOf Tryd.prog 44 = some (1, false) := by kernel_rfl
@[go_sem] theorem Tryd.udef44 : (Tryd.prog.underlying 44).isSome = true := by kernel_rfl
@[go_sem] theorem Tryd.zero44 : zeroOf Tryd.prog 44 = some [.nilsl] := by kernel_rfl
@[go_sem] theorem Tryd.el44 : elOf Tryd.prog 44 = some (101, 5, 40) := by kernel_rfl
@[go_sem] theorem Tryd.isSl44 : isSl Tryd.prog 44 = true := by kernel_rfl
@[go_sem] theorem Tryd.tsz45 : tszOf Tryd.prog 45 = some (5, true) := by kernel_rfl
@[go_sem] theorem Tryd.udef45 : (Tryd.prog.underlying 45).isSome = true := by kernel_rfl
@[go_sem] theorem Tryd.zero45 : zeroOf Tryd.prog 45 = some [.int .i64 0, .nilsl, .nilsl, .int .i64 0, .int .i64 0] := by kernel_rfl
@[go_sem] theorem Tryd.pl45 : plOf Tryd.prog 45 = some [(0, 1), (1, 1), (2, 1), (3, 1), (4, 1)] := by kernel_rfl
@[go_sem] theorem Tryd.tsz46 : tszOf Tryd.prog 46 = some (5, true) := by kernel_rfl
@[go_sem] theorem Tryd.udef46 : (Tryd.prog.underlying 46).isSome = true := by kernel_rfl
@[go_sem] theorem Tryd.zero46 : zeroOf Tryd.prog 46 = some [.int .i64 0, .nilsl, .nilsl, .int .i64 0, .int .i64 0] := by kernel_rfl
@[go_sem] theorem Tryd.pl46 : plOf Tryd.prog 46 = some [(0, 1), (1, 1), (2, 1), (3, 1), (4, 1)] := by kernel_rfl
@[go_sem] theorem Tryd.fd46_0 : fdOf Tryd.prog 46 0 = some (0, 1, false) := by kernel_rfl
@[go_sem] theorem Tryd.fd46_1 : fdOf Tryd.prog 46 1 = some (1, 1, false) := by kernel_rfl
@[go_sem] theorem Tryd.fd46_2 : fdOf Tryd.prog 46 2 = some (2, 1, false) := by kernel_rfl
@[go_sem] theorem Tryd.fd46_3 : fdOf Tryd.prog 46 3 = some (3, 1, false) := by kernel_rfl
@[go_sem] theorem Tryd.fd46_4 : fdOf Tryd.prog 46 4 = some (4, 1, false) := by kernel_rfl
@[go_sem] theorem Tryd.tsz47 : tszOf Tryd.prog 47 = some (1, false) := by kernel_rfl
@[go_sem] theorem Tryd.udef47 : (Tryd.prog.underlying 47).isSome = true := by kernel_rfl
@[go_sem] theorem Tryd.zero47 : zeroOf Tryd.prog 47 = some [.lit ((Go.Value.nilFunc))] := by kernel_rfl
@[go_sem] theorem Tryd.tsz48 : tszOf Tryd.prog 48 = some (1, false) := by kernel_rfl
@[go_sem] theorem Tryd.udef48 : (Tryd.prog.underlying 48).isSome = true := by kernel_rfl
@[go_sem] theorem Tryd.zero48 : zeroOf Tryd.prog 48 = some [.lit ((Go.Value.nilFunc))] := by kernel_rfl
@[go_sem] theorem Tryd.tsz49 : tszOf Tryd.prog 49 = some (1, false) := by kernel_rfl
@[go_sem] theorem Tryd.udef49 : (Tryd.prog.underlying 49).isSome = true := by kernel_rfl
@[go_sem] theorem Tryd.zero49 : zeroOf Tryd.prog 49 = some [.lit ((Go.Value.nilFunc))] := by kernel_rfl
@[go_sem] theorem Tryd.tsz51 : tszOf Tryd.prog 51 = some (1, false) := by kernel_rfl
@[go_sem] theorem Tryd.udef51 : (Tryd.prog.underlying 51).isSome = true := by kernel_rfl
@[go_sem] theorem Tryd.zero51 : zeroOf Tryd.prog 51 = some [.lit ((Go.Value.nilFunc))] := by kernel_rfl
@[go_sem] theorem Tryd.tsz52 : tszOf Tryd.prog 52 = some (3, true) := by kernel_rfl
@[go_sem] theorem Tryd.udef52 : (Tryd.prog.underlying 52).isSome = true := by kernel_rfl
@[go_sem] theorem Tryd.zero52 : zeroOf Tryd.prog 52 = some [.int .i64 0, .int .i64 0, .int .i64 0] := by kernel_rfl
@[go_sem] theorem Tryd.pl52 : plOf Tryd.prog 52 = some [(0, 1), (1, 1), (2, 1)] := by kernel_rfl
@[go_sem] theorem Tryd.tsz53 : tszOf Tryd.prog 53 = some (3, true) := by kernel_rfl
@[go_sem] theorem Tryd.udef53 : (Tryd.prog.underlying 53).isSome = true := by kernel_rfl
@[go_sem] theorem Tryd.zero53 : zeroOf Tryd.prog 53 = some [.int .i64 0, .int .i64 0, .int .i64 0] := by kernel_rfl
@[go_sem] theorem Tryd.flatEq53 : flatEq Tryd.prog 53 = some [.int .i64, .int .i64, .int .i64] := by kernel_rfl
@[go_sem] theorem Tryd.pl53 : plOf Tryd.prog 53 = some [(0, 1), (1, 1), (2, 1)] := by kernel_rfl
@[go_sem] theorem Tryd.fd53_0 : fdOf Tryd.prog 53 0 = some (0, 1, false) := by kernel_rfl
@[go_sem] theorem Tryd.fd53_1 : fdOf Tryd.prog 53 1 = some (1, 1, false) := by kernel_rfl
@[go_sem] theorem Tryd.fd53_2 : fdOf Tryd.prog 53 2 = some (2, 1, false) := by kernel_rfl
@[go_sem] theorem Tryd.tsz55 : tszOf Tryd.prog 55 = some (1, false) := by kernel_rfl
@[go_sem] theorem Tryd.udef55 : (Tryd.prog.underlying 55).isSome = true := by kernel_rfl
@[go_sem] theorem Tryd.zero55 : zeroOf Tryd.prog 55 = some [.lit ((Go.Value.nilFunc))] := by kernel_rfl
@[go_sem] theorem Tryd.tsz56 : tszOf Tryd.prog 56 = some (1, false) := by kernel_rfl
@[go_sem] theorem Tryd.udef56 : (Tryd.prog.underlying 56).isSome = true := by kernel_rfl
@[go_sem] theorem Tryd.zero56 : zeroOf Tryd.prog 56 = some [.lit ((Go.Value.nilFunc))] := by kernel_rfl
@[go_sem] theorem Tryd.tsz58 : tszOf Tryd.prog 58 = some (1, false) := by kernel_rfl
@[go_sem] theorem Tryd.udef58 : (Tryd.prog.underlying 58).isSome = true := by kernel_rfl
@[go_sem] theorem Tryd.zero58 : zeroOf Tryd.prog 58 = some [.lit ((Go.Value.nilFunc))] := by kernel_rfl
@[go_sem] theorem Tryd.tsz59 : tszOf Tryd.prog 59 = some (1, false) := by kernel_rfl
@[go_sem] theorem Tryd.udef59 : (Tryd.prog.underlying 59).isSome = true := by kernel_rfl
@[go_sem] theorem Tryd.zero59 : zeroOf Tryd.prog 59 = some [.lit ((Go.Value.nilFunc))] := by kernel_rfl
@[go_sem] theorem Tryd.tsz60 : tszOf Tryd.prog 60 = some (7, true) := by kernel_rfl
@[go_sem] theorem Tryd.udef60 : (Tryd.prog.underlying 60).isSome = true := by kernel_rfl
@[go_sem] theorem Tryd.zero60 : zeroOf Tryd.prog 60 = some [.int .i64 0, .int .i64 0, .int .i64 0, .int .i64 0, .int .i64 0, .int .i64 0, .int .i64 0] := by kernel_rfl
@[go_sem] theorem Tryd.pl60 : plOf Tryd.prog 60 = some [(0, 1), (1, 1), (2, 1), (3, 1), (4, 1), (5, 1), (6, 1)] := by kernel_rfl
@[go_sem] theorem Tryd.tsz61 : tszOf Tryd.prog 61 = some (7, true) := by kernel_rfl
@[go_sem] theorem Tryd.udef61 : (Tryd.prog.underlying 61).isSome = true := by kernel_rfl
@[go_sem] theorem Tryd.zero61 : zeroOf Tryd.prog 61 = some [.int .i64 0, .int .i64 0, .int .i64 0, .int .i64 0, .int .i64 0, .int .i64 0, .int .i64 0] := by kernel_rfl
@[go_sem] theorem Tryd.flatEq61 : flatEq Tryd.prog 61 = some [.int .i64, .int .i64, .int .i64, .int .i64, .int .i64, .int .i64, .int .i64] := by kernel_rfl
@[go_sem] theorem Tryd.pl61 : plOf Tryd.prog 61 = some [(0, 1), (1, 1), (2, 1), (3, 1), (4, 1), (5, 1), (6, 1)] := by kernel_rfl
@[go_sem] theorem Tryd.fd61_0 : fdOf Tryd.prog 61 0 = some (0, 1, false) := by kernel_rfl
@[go_sem] theorem Tryd.fd61_1 : fdOf Tryd.prog 61 1 = some (1, 1, false) := by kernel_rfl
@[go_sem] theorem Tryd.fd61_2 : fdOf Tryd.prog 61 2 = some (2, 1, false) := by kernel_rfl
@[go_sem] theorem Tryd.fd61_3 : fdOf Tryd.prog 61 3 = some (3, 1, false) := by kernel_rfl
@[go_sem] theorem Tryd.fd61_4 : fdOf Tryd.prog 61 4 = some (4, 1, false) := by kernel_rfl
@[go_sem] theorem Tryd.fd61_5 : fdOf Tryd.prog 61 5 = some (5, 1, false) := by kernel_rfl
@[go_sem] theorem Tryd.fd61_6 : fdOf Tryd.prog 61 6 = some (6, 1, false) := by kernel_rfl
@[go_sem] theorem Tryd.tsz63 : tszOf Tryd.prog 63 = some (1, false) := by kernel_rfl
@[go_sem] theorem Tryd.udef63 : (Tryd.prog.underlying 63).isSome = true := by kernel_rfl
@[go_sem] theorem Tryd.zero63 : zeroOf Tryd.prog 63 = some [.lit ((Go.Value.nilFunc))] := by kernel_rfl
@[go_sem] theorem Tryd.tsz64 : tszOf Tryd.prog 64 = some (1, false) := by kernel_rfl
@[go_sem] theorem Tryd.udef64 : (Tryd.prog.underlying 64).isSome = true := by kernel_rfl
@[go_sem] theorem Tryd.zero64 : zeroOf Tryd.prog 64 = some [.lit ((Go.Value.nilFunc))] := by kernel_rfl
@[go_sem] theorem Tryd.tsz65 : tszOf Tryd.prog 65 = some (1, false) := by kernel_rfl
@[go_sem] theorem Tryd.udef65 : (Tryd.prog.underlying 65).isSome = true := by kernel_rfl
@[go_sem] theorem Tryd.zero65 : zeroOf Tryd.prog 65 = some [.lit ((Go.Value.nilFunc))] := by kernel_rfl
@[go_sem] theorem Tryd.tsz66 : tszOf Tryd.prog 66 = some (1, false) := by kernel_rfl
@[go_sem] theorem Tryd.udef66 : (Tryd.prog.underlying 66).isSome = true := by kernel_rfl
@[go_sem] theorem Tryd.zero66 : zeroOf Tryd.prog 66 = some [.nilsl] := by kernel_rfl
@[go_sem] theorem Tryd.el66 : elOf Tryd.prog 66 = some (128, 2, 16) := by kernel_rfl
@[go_sem] theorem Tryd.isSl66 : isSl Tryd.prog 66 = true := by kernel_rfl
@[go_sem] theorem Tryd.tsz67 : tszOf Tryd.prog 67 = some (5, true) := by kernel_rfl
@[go_sem] theorem Tryd.udef67 : (Tryd.prog.underlying 67).isSome = true := by kernel_rfl
@[go_sem] theorem Tryd.zero67 : zeroOf Tryd.prog 67 = some [.int .i64 0, .int .i64 0, .nilsl, .int .i64 0, .int .i64 0] := by kernel_rfl
@[go_sem] theorem Tryd.pl67 : plOf Tryd.prog 67 = some [(0, 1), (1, 1), (2, 1), (3, 1), (4, 1)] := by kernel_rfl
@[go_sem] theorem Tryd.tsz68 : tszOf Tryd.prog 68 = some (5, true) := by kernel_rfl
@[go_sem] theorem Tryd.udef68 : (Tryd.prog.underlying 68).isSome = true := by kernel_rfl
@[go_sem] theorem Tryd.zero68 : zeroOf Tryd.prog 68 = some [.int .i64 0, .int .i64 0, .nilsl, .int .i64 0, .int .i64 0] := by kernel_rfl
@[go_sem] theorem Tryd.pl68 : plOf Tryd.prog 68 = some [(0, 1), (1, 1), (2, 1), (3, 1), (4, 1)] := by kernel_rfl
@[go_sem] theorem Tryd.fd68_0 : fdOf Tryd.prog 68 0 = some (0, 1, false) := by kernel_rfl
@[go_sem] theorem Tryd.fd68_1 : fdOf Tryd.prog 68 1 = some (1, 1, false) := by kernel_rfl
@[go_sem] theorem Tryd.fd68_2 : fdOf Tryd.prog 68 2 = some (2, 1, false) := by kernel_rfl
@[go_sem] theorem Tryd.fd68_3 : fdOf Tryd.prog 68 3 = some (3, 1, false) := by kernel_rfl
@[go_sem] theorem Tryd.fd68_4 : fdOf Tryd.prog 68 4 = some (4, 1, false) := by kernel_rfl
@[go_sem] theorem Tryd.tsz69 : tszOf Tryd.prog 69 = some (1, false) := by kernel_rfl
@[go_sem] theorem Tryd.udef69 : (Tryd.prog.underlying 69).isSome = true := by kernel_rfl
@[go_sem] theorem Tryd.zero69 : zeroOf Tryd.prog 69 = some [.lit ((Go.Value.nilFunc))] := by kernel_rfl
@[go_sem] theorem Tryd.tsz71 : tszOf Tryd.prog 71 = some (1, false) := by kernel_rfl
@[go_sem] theorem Tryd.udef71 : (Tryd.prog.underlying 71).isSome = true := by kernel_rfl
@[go_sem] theorem Tryd.zero71 : zeroOf Tryd.prog 71 = some [.lit ((Go.Value.nilFunc))] := by kernel_rfl
@[go_sem] theorem Tryd.tsz72 : tszOf Tryd.prog 72 = some (1, false) := by kernel_rfl
@[go_sem] theorem Tryd.udef72 : (Tryd.prog.underlying 72).isSome = true := by kernel_rfl
@[go_sem] theorem Tryd.zero72 : zeroOf Tryd.prog 72 = some [.lit ((Go.Value.nilFunc))] := by kernel_rfl
@[go_sem] theorem Tryd.tsz74 : tszOf Tryd.prog 74 = some (1, false) := by kernel_rfl
@[go_sem] theorem Tryd.udef74 : (Tryd.prog.underlying 74).isSome = true := by kernel_rfl
@[go_sem] theorem Tryd.zero74 : zeroOf Tryd.prog 74 = some [.lit ((Go.Value.nilFunc))] := by kernel_rfl
@[go_sem] theorem Tryd.tsz75 : tszOf Tryd.prog 75 = some (2, true) := by kernel_rfl
@[go_sem] theorem Tryd.udef75 : (Tryd.prog.underlying 75).isSome = true := by kernel_rfl
@[go_sem] theorem Tryd.zero75 : zeroOf Tryd.prog 75 = some [.int .i64 0, .int .i64 0] := by kernel_rfl
@[go_sem] theorem Tryd.pl75 : plOf Tryd.prog 75 = some [(0, 1), (1, 1)] := by kernel_rfl
@[go_sem] theorem Tryd.tsz76 : tszOf Tryd.prog 76 = some (2, true) := by kernel_rfl
@[go_sem] theorem Tryd.udef76 : (Tryd.prog.underlying 76).isSome = true := by kernel_rfl
@[go_sem] theorem Tryd.zero76 : zeroOf Tryd.prog 76 = some [.int .i64 0, .int .i64 0] := by kernel_rfl
@[go_sem] theorem Tryd.flatEq76 : flatEq Tryd.prog 76 = some [.int .i64, .int .i64] := by kernel_rfl
@[go_sem] theorem Tryd.pl76 : plOf Tryd.prog 76 = some [(0, 1), (1, 1)] := by kernel_rfl
@[go_sem] theorem Tryd.fd76_0 : fdOf Tryd.prog 76 0 = some (0, 1, false) := by kernel_rfl
@[go_sem] theorem Tryd.fd76_1 : fdOf Tryd.prog 76 1 = some (1, 1, false) := by kernel_rfl
@[go_sem] theorem Tryd.tsz78 : tszOf Tryd.prog 78 = some (1, false) := by kernel_rfl
@[go_sem] theorem Tryd.udef78 : (Tryd.prog.underlying 78).isSome = true := by kernel_rfl
@[go_sem] theorem Tryd.zero78 : zeroOf Tryd.prog 78 = some [.lit ((Go.Value.nilFunc))] := by kernel_rfl
@[go_sem] theorem Tryd.tsz79 : tszOf Tryd.prog 79 = some (1, false) := by kernel_rfl
@[go_sem] theorem Tryd.udef79 : (Tryd.prog.underlying 79).isSome = true := by kernel_rfl
@[go_sem] theorem Tryd.zero79 : zeroOf Tryd.prog 79 = some [.lit ((Go.Value.nilFunc))] := by kernel_rfl
@[go_sem] theorem Tryd.tsz80 : tszOf Tryd.prog 80 = some (1, false) := by kernel_rfl
@[go_sem] theorem Tryd.udef80 : (Tryd.prog.underlying 80).isSome = true := by kernel_rfl
@[go_sem] theorem Tryd.zero80 : zeroOf Tryd.prog 80 = some [.lit ((Go.Value.nilFunc))] := by kernel_rfl
@[go_sem] theorem Tryd.tsz81 : tszOf Tryd.prog 81 = some (1, false) := by kernel_rfl
@[go_sem] theorem Tryd.udef81 : (Tryd.prog.underlying 81).isSome = true := by kernel_rfl
@[go_sem] theorem Tryd.zero81 : zeroOf Tryd.prog 81 = some [.lit ((Go.Value.nilFunc))] := by kernel_rfl
@[go_sem] theorem Tryd.tsz82 : tszOf Tryd.prog 82 = some (1, false) := by kernel_rfl
@[go_sem] theorem Tryd.udef82 : (Tryd.prog.underlying 82).isSome = true := by kernel_rfl
@[go_sem] theorem Tryd.zero82 : zeroOf Tryd.prog 82 = some [.lit ((Go.Value.nilFunc))] := by kernel_rfl
@[go_sem] theorem Tryd.tsz83 : tszOf Tryd.prog 83 = some (1, false) := by kernel_rfl
@[go_sem] theorem Tryd.udef83 : (Tryd.prog.underlying 83).isSome = true := by kernel_rfl
@[go_sem] theorem Tryd.zero83 : zeroOf Tryd.prog 83 = some [.lit ((Go.Value.nilFunc))] := by kernel_rfl
@[go_sem] theorem Tryd.tsz84 : tszOf Tryd.prog 84 = some (1, false) := by kernel_rfl
@[go_sem] theorem Tryd.udef84 : (Tryd.prog.underlying 84).isSome = true := by kernel_rfl
@[go_sem] theorem Tryd.zero84 : zeroOf Tryd.prog 84 = some [.lit ((Go.Value.nilFunc))] := by kernel_rfl
@[go_sem] theorem Tryd.tsz85 : tszOf Tryd.prog 85 = some (1, false) := by kernel_rfl
@[go_sem] theorem Tryd.udef85 : (Tryd.prog.underlying 85).isSome = true := by kernel_rfl
@[go_sem] theorem Tryd.zero85 : zeroOf Tryd.prog 85 = some [.lit ((Go.Value.nilFunc))] := by kernel_rfl
@[go_sem] theorem Tryd.tsz86 : tszOf Tryd.prog 86 = some (1, false) := by kernel_rfl
@[go_sem] theorem Tryd.udef86 : (Tryd.prog.underlying 86).isSome = true := by kernel_rfl
@[go_sem] theorem Tryd.zero86 : zeroOf Tryd.prog 86 = some [.lit ((Go.Value.nilFunc))] := by kernel_rfl
@[go_sem] theorem Tryd.tsz87 : tszOf Tryd.prog 87 = some (1, false) := by kernel_rfl
@[go_sem] theorem Tryd.udef87 : (Tryd.prog.underlying 87).isSome = true := by kernel_rfl
@[go_sem] theorem Tryd.zero87 : zeroOf Tryd.prog 87 = some [.lit ((Go.Value.pointer none))] := by kernel_rfl
@[go_sem] theorem Tryd.tsz88 : tszOf Tryd.prog 88 = some (1, false) := by kernel_rfl
@[go_sem] theorem Tryd.udef88 : (Tryd.prog.underlying 88).isSome = true := by kernel_rfl
@[go_sem] theorem Tryd.zero88 : zeroOf Tryd.prog 88 = some [.int .u64 0] := by kernel_rfl
@[go_sem] theorem Tryd.isInt88 : isIntT Tryd.prog 88 = some .u64 := by kernel_rfl
@[go_sem] theorem Tryd.tsz89 : tszOf Tryd.prog 89 = some (3, true) := by kernel_rfl
@[go_sem] theorem Tryd.udef89 : (Tryd.prog.underlying 89).isSome = true := by kernel_rfl
@[go_sem] theorem Tryd.zero89 : zeroOf Tryd.prog 89 = some [.nilsl, .int .i64 0, .int .u64 0] := by kernel_rfl
@[go_sem] theorem Tryd.pl89 : plOf Tryd.prog 89 = some [(0, 1), (1, 1), (2, 1)] := by kernel_rfl
@[go_sem] theorem Tryd.tsz90 : tszOf Tryd.prog 90 = some (3, true) := by kernel_rfl
@[go_sem] theorem Tryd.udef90 : (Tryd.prog.underlying 90).isSome = true := by kernel_rfl
@[go_sem] theorem Tryd.zero90 : zeroOf Tryd.prog 90 = some [.nilsl, .int .i64 0, .int .u64 0] := by kernel_rfl
@[go_sem] theorem Tryd.pl90 : plOf Tryd.prog 90 = some [(0, 1), (1, 1), (2, 1)] := by kernel_rfl
@[go_sem] theorem Tryd.fd90_0 : fdOf Tryd.prog 90 0 = some (0, 1, false) := by kernel_rfl
@[go_sem] theorem Tryd.fd90_1 : fdOf Tryd.prog 90 1 = some (1, 1, false) := by kernel_rfl
@[go_sem] theorem Tryd.fd90_2 : fdOf Tryd.prog 90 2 = some (2, 1, false) := by kernel_rfl
@[go_sem] theorem Tryd.tsz91 : tszOf Tryd.prog 91 = some (1, false) := by kernel_rfl
@[go_sem] theorem Tryd.udef91 : (Tryd.prog.underlying 91).isSome = true := by kernel_rfl
@[go_sem] theorem Tryd.zero91 : zeroOf Tryd.prog 91 = some [.lit ((Go.Value.nilFunc))] := by kernel_rfl
@[go_sem] theorem Tryd.tsz92 : tszOf Tryd.prog 92 = some (1, false) := by kernel_rfl
@[go_sem] theorem Tryd.udef92 : (Tryd.prog.underlying 92).isSome = true := by kernel_rfl
@[go_sem] theorem Tryd.zero92 : zeroOf Tryd.prog 92 = some [.lit ((Go.Value.nilFunc))] := by kernel_rfl
@[go_sem] theorem Tryd.tsz93 : tszOf Tryd.prog 93 = some (1, false) := by kernel_rfl
@[go_sem] theorem Tryd.udef93 : (Tryd.prog.underlying 93).isSome = true := by kernel_rfl
@[go_sem] theorem Tryd.zero93 : zeroOf Tryd.prog 93 = some [.lit ((Go.Value.nilFunc))] := by kernel_rfl
@[go_sem] theorem Tryd.tsz94 : tszOf Tryd.prog 94 = some (1, false) := by kernel_rfl
@[go_sem] theorem Tryd.udef94 : (Tryd.prog.underlying 94).isSome = true := by kernel_rfl
@[go_sem] theorem Tryd.zero94 : zeroOf Tryd.prog 94 = some [.lit ((Go.Value.nilFunc))] := by kernel_rfl
@[go_sem] theorem Tryd.tsz95 : tszOf Tryd.prog 95 = some (1, false) := by kernel_rfl
@[go_sem] theorem Tryd.udef95 : (Tryd.prog.underlying 95).isSome = true := by kernel_rfl
@[go_sem] theorem Tryd.zero95 : zeroOf Tryd.prog 95 = some [.lit ((Go.Value.nilFunc))] := by kernel_rfl
@[go_sem] theorem Tryd.tsz96 : tszOf Tryd.prog 96 = some (1, false) := by kernel_rfl
@[go_sem] theorem Tryd.udef96 : (Tryd.prog.underlying 96).isSome = true := by kernel_rfl
@[go_sem] theorem Tryd.zero96 : zeroOf Tryd.prog 96 = some [.lit ((Go.Value.nilFunc))] := by kernel_rfl
@[go_sem] theorem Tryd.tsz97 : tszOf Tryd.prog 97 = some (1, false) := by kernel_rfl
@[go_sem] theorem Tryd.udef97 : (Tryd.prog.underlying 97).isSome = true := by kernel_rfl
@[go_sem] theorem Tryd.zero97 : zeroOf Tryd.prog 97 = some [.lit ((Go.Value.nilFunc))] := by kernel_rfl
@[go_sem] theorem Tryd.tsz98 : tszOf Tryd.prog 98 = some (1, false) := by kernel_rfl
@[go_sem] theorem Tryd.udef98 : (Tryd.prog.underlying 98).isSome = true := by kernel_rfl
@[go_sem] theorem Tryd.zero98 : zeroOf Tryd.prog 98 = some [.lit ((Go.Value.nilFunc))] := by kernel_rfl
@[go_sem] theorem Tryd.tsz99 : tszOf Tryd.prog 99 = some (1, false) := by kernel_rfl
@[go_sem] theorem Tryd.udef99 : (Tryd.prog.underlying 99).isSome = true := by kernel_rfl
@[go_sem] theorem Tryd.zero99 : zeroOf Tryd.prog 99 = some [.lit ((Go.Value.nilFunc))] := by kernel_rfl
@[go_sem] theorem Tryd.tsz100 : tszOf Tryd.prog 100 = some (5, true) := by kernel_rfl
@[go_sem] theorem Tryd.udef100 : (Tryd.prog.underlying 100).isSome = true := by kernel_rfl
@[go_sem] theorem Tryd.zero100 : zeroOf Tryd.prog 100 = some [.int .i64 0, .int .i64 0, .int .i64 0, .int .i64 0, .int .i64 0] := by kernel_rfl
@[go_sem] theorem Tryd.pl100 : plOf Tryd.prog 100 = some [(0, 1), (1, 1), (2, 1), (3, 1), (4, 1)] := by kernel_rfl
@[go_sem] theorem Tryd.tsz101 : tszOf Tryd.prog 101 = some (5, true) := by kernel_rfl
@[go_sem] theorem Tryd.udef101 : (Tryd.prog.underlying 101).isSome = true := by kernel_rfl
@[go_sem] theorem Tryd.zero101 : zeroOf Tryd.prog 101 = some [.int .i64 0, .int .i64 0, .int .i64 0, .int .i64 0, .int .i64 0] := by kernel_rfl
@[go_sem] theorem Tryd.flatEq101 : flatEq Tryd.prog 101 = some [.int .i64, .int .i64, .int .i64, .int .i64, .int .i64] := by kernel_rfl
@[go_sem] theorem Tryd.pl101 : plOf Tryd.prog 101 = some [(0, 1), (1, 1), (2, 1), (3, 1), (4, 1)] := by kernel_rfl
@[go_sem] theorem Tryd.fd101_0 : fdOf Tryd.prog 101 0 = some (0, 1, false) := by kernel_rfl
@[go_sem] theorem Tryd.fd101_1 : fdOf Tryd.prog 101 1 = some (1, 1, false) := by kernel_rfl
@[go_sem] theorem Tryd.fd101_2 : fdOf Tryd.prog 101 2 = some (2, 1, false) := by kernel_rfl
@[go_sem] theorem Tryd.fd101_3 : fdOf Tryd.prog 101 3 = some (3, 1, false) := by kernel_rfl
@[go_sem] theorem Tryd.fd101_4 : fdOf Tryd.prog 101 4 = some (4, 1, false) := by kernel_rfl
@[go_sem] theorem Tryd.tsz102 : tszOf Tryd.prog 102 = some (1, false) := by kernel_rfl
@[go_sem] theorem Tryd.udef102 : (Tryd.prog.underlying 102).isSome = true := by kernel_rfl
@[go_sem] theorem Tryd.zero102 : zeroOf Tryd.prog 102 = some [.lit ((Go.Value.nilFunc))] := by kernel_rfl
@[go_sem] theorem Tryd.tsz103 : tszOf Tryd.prog 103 = some (1, false) := by kernel_rfl
@[go_sem] theorem Tryd.udef103 : (Tryd.prog.underlying 103).isSome = true := by kernel_rfl
@[go_sem] theorem Tryd.zero103 : zeroOf Tryd.prog 103 = some [.lit ((Go.Value.nilFunc))] := by kernel_rfl
@[go_sem] theorem Tryd.tsz104 : tszOf Tryd.prog 104 = some (1, false) := by kernel_rfl
@[go_sem] theorem Tryd.udef104 : (Tryd.prog.underlying 104).isSome = true := by kernel_rfl
@[go_sem] theorem Tryd.zero104 : zeroOf Tryd.prog 104 = some [.lit ((Go.Value.nilFunc))] := by kernel_rfl
@[go_sem] theorem Tryd.tsz105 : tszOf Tryd.prog 105 = some (1, false) := by kernel_rfl
@[go_sem] theorem Tryd.udef105 : (Tryd.prog.underlying 105).isSome = true := by kernel_rfl
@[go_sem] theorem Tryd.zero105 : zeroOf Tryd.prog 105 = some [.lit ((Go.Value.nilFunc))] := by kernel_rfl
@[go_sem] theorem Tryd.tsz106 : tszOf Tryd.prog 106 = some (1, false) := by kernel_rfl
@[go_sem] theorem Tryd.udef106 : (Tryd.prog.underlying 106).isSome = true := by kernel_rfl
@[go_sem] theorem Tryd.zero106 : zeroOf Tryd.prog 106 = some [.lit ((Go.Value.nilFunc))] := by kernel_rfl
@[go_sem] theorem Tryd.tsz107 : tszOf Tryd.prog 107 = some (1, false) := by kernel_rfl
@[go_sem] theorem Tryd.udef107 : (Tryd.prog.underlying 107).isSome = true := by kernel_rfl
@[go_sem] theorem Tryd.zero107 : zeroOf Tryd.prog 107 = some [.lit ((Go.Value.nilFunc))] := by kernel_rfl
@[go_sem] theorem Tryd.tsz108 : tszOf Tryd.prog 108 = some (3, true) := by kernel_rfl
@[go_sem] theorem Tryd.udef108 : (Tryd.prog.underlying 108).isSome = true := by kernel_rfl
@[go_sem] theorem Tryd.zero108 : zeroOf Tryd.prog 108 = some [.int .i64 0, .bool false, .int .i64 0] := by kernel_rfl
@[go_sem] theorem Tryd.pl108 : plOf Tryd.prog 108 = some [(0, 1), (1, 1), (2, 1)] := by kernel_rfl
@[go_sem] theorem Tryd.tsz109 : tszOf Tryd.prog 109 = some (3, true) := by kernel_rfl
@[go_sem] theorem Tryd.udef109 : (Tryd.prog.underlying 109).isSome = true := by kernel_rfl
@[go_sem] theorem Tryd.zero109 : zeroOf Tryd.prog 109 = some [.int .i64 0, .bool false, .int .i64 0] := by kernel_rfl
@[go_sem] theorem Tryd.flatEq109 : flatEq Tryd.prog 109 = some [.int .i64, .bool, .int .i64] := by kernel_rfl
@[go_sem] theorem Tryd.pl109 : plOf Tryd.prog 109 = some [(0, 1), (1, 1), (2, 1)] := by kernel_rfl
@[go_sem] theorem Tryd.fd109_0 : fdOf Tryd.prog 109 0 = some (0, 1, false) := by kernel_rfl
@[go_sem] theorem Tryd.fd109_1 : fdOf Tryd.prog 109 1 = some (1, 1, false) := by kernel_rfl
@[go_sem] theorem Tryd.fd109_2 : fdOf Tryd.prog 109 2 = some (2, 1, false) := by kernel_rfl
@[go_sem] theorem Tryd.tsz110 : tszOf Tryd.prog 110 = some (1, false) := by kernel_rfl
@[go_sem] theorem Tryd.udef110 : (Tryd.prog.underlying 110).isSome = true := by kernel_rfl
@[go_sem] theorem Tryd.zero110 : zeroOf Tryd.prog 110 = some [.lit ((Go.Value.nilFunc))] := by kernel_rfl
@[go_sem] theorem Tryd.tsz111 : tszOf Tryd.prog 111 = some (1, false) := by kernel_rfl
@[go_sem] theorem Tryd.udef111 : (Tryd.prog.underlying 111).isSome = true := by kernel_rfl
@[go_sem] theorem Tryd.zero111 : zeroOf Tryd.prog 111 = some [.lit ((Go.Value.nilFunc))] := by kernel_rfl
@[go_sem] theorem Tryd.tsz112 : tszOf Tryd.prog 112 = some (1, false) := by kernel_rfl
@[go_sem] theorem Tryd.udef112 : (Tryd.prog.underlying 112).isSome = true := by kernel_rfl
@[go_sem] theorem Tryd.zero112 : zeroOf Tryd.prog 112 = some [.lit ((Go.Value.nilFunc))] := by kernel_rfl
@[go_sem] theorem Tryd.tsz113 : tszOf Tryd.prog 113 = some (1, false) := by kernel_rfl
@[go_sem] theorem Tryd.udef113 : (Tryd.prog.underlying 113).isSome = true := by kernel_rfl
@[go_sem] theorem Tryd.zero113 : zeroOf Tryd.prog 113 = some [.lit ((Go.Value.nilFunc))] := by kernel_rfl
@[go_sem] theorem Tryd.tsz114 : tszOf Tryd.prog 114 = some (1, false) := by kernel_rfl
@[go_sem] theorem Tryd.udef114 : (Tryd.prog.underlying 114).isSome = true := by kernel_rfl
@[go_sem] theorem Tryd.zero114 : zeroOf Tryd.prog 114 = some [.lit ((Go.Value.nilFunc))] := by kernel_rfl
@[go_sem] theorem Tryd.tsz115 : tszOf Tryd.prog 115 = some (1, false) := by kernel_rfl
@[go_sem] theorem Tryd.udef115 : (Tryd.prog.underlying 115).isSome = true := by kernel_rfl
@[go_sem] theorem Tryd.zero115 : zeroOf Tryd.prog 115 = some [.nilsl] := by kernel_rfl
@[go_sem] theorem Tryd.el115 : elOf Tryd.prog 115 = some (9, 1, 16) := by kernel_rfl
@[go_sem] theorem Tryd.isSl115 : isSl Tryd.prog 115 = true := by kernel_rfl
@[go_sem] theorem Tryd.tsz116 : tszOf Tryd.prog 116 = some (1, false) := by kernel_rfl
@[go_sem] theorem Tryd.udef116 : (Tryd.prog.underlying 116).isSome = true := by kernel_rfl
@[go_sem] theorem Tryd.zero116 : zeroOf Tryd.prog 116 = some [.lit ((Go.Value.nilFunc))] := by kernel_rfl
@[go_sem] theorem Tryd.tsz117 : tszOf Tryd.prog 117 = some (1, false) := by kernel_rfl
@[go_sem] theorem Tryd.udef117 : (Tryd.prog.underlying 117).isSome = true := by kernel_rfl
@[go_sem] theorem Tryd.zero117 : zeroOf Tryd.prog 117 = some [.lit ((Go.Value.nilFunc))] := by kernel_rfl
@[go_sem] theorem Tryd.tsz118 : tszOf Tryd.prog 118 = some (1, false) := by kernel_rfl
@[go_sem] theorem Tryd.udef118 : (Tryd.prog.underlying 118).isSome = true := by kernel_rfl
@[go_sem] theorem Tryd.zero118 : zeroOf Tryd.prog 118 = some [.lit ((Go.Value.nilFunc))] := by kernel_rfl
@[go_sem] theorem Tryd.tsz119 : tszOf Tryd.prog 119 = some (1, false) := by kernel_rfl
@[go_sem] theorem Tryd.udef119 : (Tryd.prog.underlying 119).isSome = true := by kernel_rfl
@[go_sem] theorem Tryd.zero119 : zeroOf Tryd.prog 119 = some [.lit ((Go.Value.nilFunc))] := by kernel_rfl
@[go_sem] theorem Tryd.tsz120 : tszOf Tryd.prog 120 = some (1, false) := by kernel_rfl
@[go_sem] theorem Tryd.udef120 : (Tryd.prog.underlying 120).isSome = true := by kernel_rfl
@[go_sem] theorem Tryd.zero120 : zeroOf Tryd.prog 120 = some [.lit ((Go.Value.nilFunc))] := by kernel_rfl
@[go_sem] theorem Tryd.tsz122 : tszOf Tryd.prog 122 = some (1, false) := by kernel_rfl
@[go_sem] theorem Tryd.udef122 : (Tryd.prog.underlying 122).isSome = true := by kernel_rfl
@[go_sem] theorem Tryd.zero122 : zeroOf Tryd.prog 122 = some [.lit ((Go.Value.nilFunc))] := by kernel_rfl
@[go_sem] theorem Tryd.tsz123 : tszOf Tryd.prog 123 = some (1, false) := by kernel_rfl
@[go_sem] theorem Tryd.udef123 : (Tryd.prog.underlying 123).isSome = true := by kernel_rfl
@[go_sem] theorem Tryd.zero123 : zeroOf Tryd.prog 123 = some [.lit ((Go.Value.nilFunc))] := by kernel_rfl
@[go_sem] theorem Tryd.tsz124 : tszOf Tryd.prog 124 = some (1, false) := by kernel_rfl
@[go_sem] theorem Tryd.udef124 : (Tryd.prog.underlying 124).isSome = true := by kernel_rfl
@[go_sem] theorem Tryd.zero124 : zeroOf Tryd.prog 124 = some [.lit ((Go.Value.nilFunc))] := by kernel_rfl
@[go_sem] theorem Tryd.tsz125 : tszOf Tryd.prog 125 = some (1, false) := by kernel_rfl
@[go_sem] theorem Tryd.udef125 : (Tryd.prog.underlying 125).isSome = true := by kernel_rfl
@[go_sem] theorem Tryd.zero125 : zeroOf Tryd.prog 125 = some [.lit ((Go.Value.nilFunc))] := by kernel_rfl
@[go_sem] theorem Tryd.tsz126 : tszOf Tryd.prog 126 = some (1, false) := by kernel_rfl
@[go_sem] theorem Tryd.udef126 : (Tryd.prog.underlying 126).isSome = true := by kernel_rfl
@[go_sem] theorem Tryd.zero126 : zeroOf Tryd.prog 126 = some [.lit ((Go.Value.nilFunc))] := by kernel_rfl
@[go_sem] theorem Tryd.tsz127 : tszOf Tryd.prog 127 = some (2, true) := by kernel_rfl
@[go_sem] theorem Tryd.udef127 : (Tryd.prog.underlying 127).isSome = true := by kernel_rfl
@[go_sem] theorem Tryd.zero127 : zeroOf Tryd.prog 127 = some [.int .i64 0, .int .i64 0] := by kernel_rfl
@[go_sem] theorem Tryd.pl127 : plOf Tryd.prog 127 = some [(0, 1), (1, 1)] := by kernel_rfl
@[go_sem] theorem Tryd.tsz128 : tszOf Tryd.prog 128 = some (2, true) := by kernel_rfl
@[go_sem] theorem Tryd.udef128 : (Tryd.prog.underlying 128).isSome = true := by kernel_rfl
@[go_sem] theorem Tryd.zero128 : zeroOf Tryd.prog 128 = some [.int .i64 0, .int .i64 0] := by kernel_rfl
@[go_sem] theorem Tryd.flatEq128 : flatEq Tryd.prog 128 = some [.int .i64, .int .i64] := by kernel_rfl
@[go_sem] theorem Tryd.pl128 : plOf Tryd.prog 128 = some [(0, 1), (1, 1)] := by kernel_rfl
@[go_sem] theorem Tryd.fd128_0 : fdOf Tryd.prog 128 0 = some (0, 1, false) := by kernel_rfl
@[go_sem] theorem Tryd.fd128_1 : fdOf Tryd.prog 128 1 = some (1, 1, false) := by kernel_rfl
@[go_sem] theorem Tryd.tsz129 : tszOf Tryd.prog 129 = some (1, false) := by kernel_rfl
@[go_sem] theorem Tryd.udef129 : (Tryd.prog.underlying 129).isSome = true := by kernel_rfl
@[go_sem] theorem Tryd.zero129 : zeroOf Tryd.prog 129 = some [.lit ((Go.Value.nilFunc))] := by kernel_rfl
@[go_sem] theorem Tryd.tsz130 : tszOf Tryd.prog 130 = some (1, false) := by kernel_rfl
@[go_sem] theorem Tryd.udef130 : (Tryd.prog.underlying 130).isSome = true := by kernel_rfl
@[go_sem] theorem Tryd.zero130 : zeroOf Tryd.prog 130 = some [.lit ((Go.Value.nilFunc))] := by kernel_rfl
@[go_sem] theorem Tryd.tsz131 : tszOf Tryd.prog 131 = some (1, false) := by kernel_rfl
@[go_sem] theorem Tryd.udef131 : (Tryd.prog.underlying 131).isSome = true := by kernel_rfl
@[go_sem] theorem Tryd.zero131 : zeroOf Tryd.prog 131 = some [.lit ((Go.Value.nilFunc))] := by kernel_rfl
@[go_sem] theorem Tryd.tsz132 : tszOf Tryd.prog 132 = some (1, false) := by kernel_rfl
@[go_sem] theorem Tryd.udef132 : (Tryd.prog.underlying 132).isSome = true := by kernel_rfl
@[go_sem] theorem Tryd.zero132 : zeroOf Tryd.prog 132 = some [.lit ((Go.Value.nilFunc))] := by kernel_rfl
@[go_sem] theorem Tryd.tsz133 : tszOf Tryd.prog 133 = some (1, false) := by kernel_rfl
@[go_sem] theorem Tryd.udef133 : (Tryd.prog.underlying 133).isSome = true := by kernel_rfl
@[go_sem] theorem Tryd.zero133 : zeroOf Tryd.prog 133 = some [.lit ((Go.Value.nilFunc))] := by kernel_rfl
@[go_sem] theorem Tryd.tsz134 : tszOf Tryd.prog 134 = some (1, false) := by kernel_rfl
@[go_sem] theorem Tryd.udef134 : (Tryd.prog.underlying 134).isSome = true := by kernel_rfl
@[go_sem] theorem Tryd.zero134 : zeroOf Tryd.prog 134 = some [.lit ((Go.Value.nilFunc))] := by kernel_rfl
@[go_sem] theorem Tryd.tsz135 : tszOf Tryd.prog 135 = some (1, false) := by kernel_rfl
@[go_sem] theorem Tryd.udef135 : (Tryd.prog.underlying 135).isSome = true := by kernel_rfl
@[go_sem] theorem Tryd.zero135 : zeroOf Tryd.prog 135 = some [.lit ((Go.Value.nilFunc))] := by kernel_rfl
@[go_sem] theorem Tryd.tsz136 : tszOf Tryd.prog 136 = some (1, false) := by kernel_rfl
@[go_sem] theorem Tryd.udef136 : (Tryd.prog.underlying 136).isSome = true := by kernel_rfl
@[go_sem] theorem Tryd.zero136 : zeroOf Tryd.prog 136 = some [.lit ((Go.Value.nilFunc))] := by kernel_rfl
@[go_sem] theorem Tryd.tsz137 : tszOf Tryd.prog 137 = some (1, false) := by kernel_rfl
@[go_sem] theorem Tryd.udef137 : (Tryd.prog.underlying 137).isSome = true := by kernel_rfl
@[go_sem] theorem Tryd.zero137 : zeroOf Tryd.prog 137 = some [.lit ((Go.Value.nilFunc))] := by kernel_rfl
@[go_sem] theorem Tryd.tsz138 : tszOf Tryd.prog 138 = some (1, false) := by kernel_rfl
@[go_sem] theorem Tryd.udef138 : (Tryd.prog.underlying 138).isSome = true := by kernel_rfl
@[go_sem] theorem Tryd.zero138 : zeroOf Tryd.prog 138 = some [.lit ((Go.Value.nilFunc))] := by kernel_rfl
@[go_sem] theorem Tryd.tsz139 : tszOf Tryd.prog 139 = some (1, false) := by kernel_rfl
@[go_sem] theorem Tryd.udef139 : (Tryd.prog.underlying 139).isSome = true := by kernel_rfl
@[go_sem] theorem Tryd.zero139 : zeroOf Tryd.prog 139 = some [.lit ((Go.Value.nilFunc))] := by kernel_rfl
@[go_sem] theorem Tryd.tsz140 : tszOf Tryd.prog 140 = some (1, false) := by kernel_rfl
@[go_sem] theorem Tryd.udef140 : (Tryd.prog.underlying 140).isSome = true := by kernel_rfl
@[go_sem] theorem Tryd.zero140 : zeroOf Tryd.prog 140 = some [.int .u64 0] := by kernel_rfl
@[go_sem] theorem Tryd.isInt140 : isIntT Tryd.prog 140 = some .u64 := by kernel_rfl
@[go_sem] theorem Tryd.tsz141 : tszOf Tryd.prog 141 = some (1, false) := by kernel_rfl
@[go_sem] theorem Tryd.udef141 : (Tryd.prog.underlying 141).isSome = true := by kernel_rfl
@[go_sem] theorem Tryd.zero141 : zeroOf Tryd.prog 141 = some [.lit ((Go.Value.nilFunc))] := by kernel_rfl
@[go_sem] theorem Tryd.tsz142 : tszOf Tryd.prog 142 = some (1, false) := by kernel_rfl
@[go_sem] theorem Tryd.udef142 : (Tryd.prog.underlying 142).isSome = true := by kernel_rfl
@[go_sem] theorem Tryd.zero142 : zeroOf Tryd.prog 142 = some [.lit ((Go.Value.nilFunc))] := by kernel_rfl
@[go_sem] theorem Tryd.tsz143 : tszOf Tryd.prog 143 = some (1, false) := by kernel_rfl
@[go_sem] theorem Tryd.udef143 : (Tryd.prog.underlying 143).isSome = true := by kernel_rfl
@[go_sem] theorem Tryd.zero143 : zeroOf Tryd.prog 143 = some [.lit ((Go.Value.nilFunc))] := by kernel_rfl
@[go_sem] theorem Tryd.tsz144 : tszOf Tryd.prog 144 = some (1, false) := by kernel_rfl
@[go_sem] theorem Tryd.udef144 : (Tryd.prog.underlying 144).isSome = true := by kernel_rfl
@[go_sem] theorem Tryd.zero144 : zeroOf Tryd.prog 144 = some [.lit ((Go.Value.nilFunc))] := by kernel_rfl
@[go_sem] theorem Tryd.tsz145 : tszOf Tryd.prog 145 = some (1, false) := by kernel_rfl
@[go_sem] theorem Tryd.udef145 : (Tryd.prog.underlying 145).isSome = true := by kernel_rfl
@[go_sem] theorem Tryd.zero145 : zeroOf Tryd.prog 145 = some [.lit ((Go.Value.nilFunc))] := by kernel_rfl
@[go_sem] theorem Tryd.tsz146 : tszOf Tryd.prog 146 = some (1, false) := by kernel_rfl
@[go_sem] theorem Tryd.udef146 : (Tryd.prog.underlying 146).isSome = true := by kernel_rfl
@[go_sem] theorem Tryd.zero146 : zeroOf Tryd.prog 146 = some [.lit ((Go.Value.nilFunc))] := by kernel_rfl
@[go_sem] theorem Tryd.tsz147 : tszOf Tryd.prog 147 = some (1, false) := by kernel_rfl
@[go_sem] theorem Tryd.udef147 : (Tryd.prog.underlying 147).isSome = true := by kernel_rfl
@[go_sem] theorem Tryd.zero147 : zeroOf Tryd.prog 147 = some [.lit ((Go.Value.nilFunc))] := by kernel_rfl
@[go_sem] theorem Tryd.tsz148 : tszOf Tryd.prog 148 = some (1, false) := by kernel_rfl
@[go_sem] theorem Tryd.udef148 : (Tryd.prog.underlying 148).isSome = true := by kernel_rfl
@[go_sem] theorem Tryd.zero148 : zeroOf Tryd.prog 148 = some [.lit ((Go.Value.nilFunc))] := by kernel_rfl
@[go_sem] theorem Tryd.tsz149 : tszOf Tryd.prog 149 = some (1, false) := by kernel_rfl
@[go_sem] theorem Tryd.udef149 : (Tryd.prog.underlying 149).isSome = true := by kernel_rfl
@[go_sem] theorem Tryd.zero149 : zeroOf Tryd.prog 149 = some [.lit ((Go.Value.nilFunc))] := by kernel_rfl
@[go_sem] theorem Tryd.tsz150 : tszOf Tryd.prog 150 = some (1, false) := by kernel_rfl
@[go_sem] theorem Tryd.udef150 : (Tryd.prog.underlying 150).isSome = true := by kernel_rfl
@[go_sem] theorem Tryd.zero150 : zeroOf Tryd.prog 150 = some [.lit ((Go.Value.nilFunc))] := by kernel_rfl
@[go_sem] theorem Tryd.tsz151 : tszOf Tryd.prog 151 = some (1, false) := by kernel_rfl
@[go_sem] theorem Tryd.udef151 : (Tryd.prog.underlying 151).isSome = true := by kernel_rfl
@[go_sem] theorem Tryd.zero151 : zeroOf Tryd.prog 151 = some [.lit ((Go.Value.nilFunc))] := by kernel_rfl
@[go_sem] theorem Tryd.tsz152 : tszOf Tryd.prog 152 = some (1, false) := by kernel_rfl
@[go_sem] theorem Tryd.udef152 : (Tryd.prog.underlying 152).isSome = true := by kernel_rfl
@[go_sem] theorem Tryd.zero152 : zeroOf Tryd.prog 152 = some [.lit ((Go.Value.nilFunc))] := by kernel_rfl
@[go_sem] theorem Tryd.tsz153 : tszOf Tryd.prog 153 = some (1, false) := by kernel_rfl
@[go_sem] theorem Tryd.udef153 : (Tryd.prog.underlying 153).isSome = true := by kernel_rfl
@[go_sem] theorem Tryd.zero153 : zeroOf Tryd.prog 153 = some [.lit ((Go.Value.nilFunc))] := by kernel_rfl
@[go_sem] theorem Tryd.tsz154 : tszOf Tryd.prog 154 = some (1, false) := by kernel_rfl
@[go_sem] theorem Tryd.udef154 : (Tryd.prog.underlying 154).isSome = true := by kernel_rfl
@[go_sem] theorem Tryd.zero154 : zeroOf Tryd.prog 154 = some [.lit ((Go.Value.nilFunc))] := by kernel_rfl
@[go_sem] theorem Tryd.tsz155 : tszOf Tryd.prog 155 = some (1, false) := by kernel_rfl
@[go_sem] theorem Tryd.udef155 : (Tryd.prog.underlying 155).isSome = true := by kernel_rfl
@[go_sem] theorem Tryd.zero155 : zeroOf Tryd.prog 155 = some [.lit ((Go.Value.nilFunc))] := by kernel_rfl
@[go_sem] theorem Tryd.tsz156 : tszOf Tryd.prog 156 = some (1, false) := by kernel_rfl
@[go_sem] theorem Tryd.udef156 : (Tryd.prog.underlying 156).isSome = true := by kernel_rfl
@[go_sem] theorem Tryd.zero156 : zeroOf Tryd.prog 156 = some [.lit ((Go.Value.pointer none))] := by kernel_rfl
@[go_sem] theorem Tryd.tsz157 : tszOf Tryd.prog 157 = some (2, true) := by kernel_rfl
@[go_sem] theorem Tryd.udef157 : (Tryd.prog.underlying 157).isSome = true := by kernel_rfl
@[go_sem] theorem Tryd.zero157 : zeroOf Tryd.prog 157 = some [.lit ((Go.Value.pointer none)), .nilsl] := by kernel_rfl
@[go_sem] theorem Tryd.pl157 : plOf Tryd.prog 157 = some [(0, 1), (1, 1)] := by kernel_rfl
@[go_sem] theorem Tryd.tsz158 : tszOf Tryd.prog 158 = some (2, true) := by kernel_rfl
@[go_sem] theorem Tryd.udef158 : (Tryd.prog.underlying 158).isSome = true := by kernel_rfl
@[go_sem] theorem Tryd.zero158 : zeroOf Tryd.prog 158 = some [.lit ((Go.Value.pointer none)), .nilsl] := by kernel_rfl
@[go_sem] theorem Tryd.pl158 : plOf Tryd.prog 158 = some [(0, 1), (1, 1)] := by kernel_rfl
@[go_sem] theorem Tryd.fd158_0 : fdOf Tryd.prog 158 0 = some (0, 1, false) := by kernel_rfl
@[go_sem] theorem Tryd.fd158_1 : fdOf Tryd.prog 158 1 = some (1, 1, false) := by kernel_rfl
@[go_sem] theorem Tryd.tsz159 : tszOf Tryd.prog 159 = some (1, false) := by kernel_rfl
@[go_sem] theorem Tryd.udef159 : (Tryd.prog.underlying 159).isSome = true := by kernel_rfl
@[go_sem] theorem Tryd.zero159 : zeroOf Tryd.prog 159 = some [.lit ((Go.Value.nilFunc))] := by kernel_rfl
@[go_sem] theorem Tryd.tsz160 : tszOf Tryd.prog 160 = some (1, false) := by kernel_rfl
@[go_sem] theorem Tryd.udef160 : (Tryd.prog.underlying 160).isSome = true := by kernel_rfl
@[go_sem] theorem Tryd.zero160 : zeroOf Tryd.prog 160 = some [.lit ((Go.Value.nilIface))] := by kernel_rfl
@[go_sem] theorem Tryd.tsz161 : tszOf Tryd.prog 161 = some (1, false) := by kernel_rfl
@[go_sem] theorem Tryd.udef161 : (Tryd.prog.underlying 161).isSome = true := by kernel_rfl
@[go_sem] theorem Tryd.zero161 : zeroOf Tryd.prog 161 = some [.lit ((Go.Value.nilIface))] := by kernel_rfl
@[go_sem] theorem Tryd.tsz163 : tszOf Tryd.prog 163 = some (1, false) := by kernel_rfl
@[go_sem] theorem Tryd.udef163 : (Tryd.prog.underlying 163).isSome = true := by kernel_rfl
@[go_sem] theorem Tryd.zero163 : zeroOf Tryd.prog 163 = some [.lit ((Go.Value.nilFunc))] := by kernel_rfl
@[go_sem] theorem Tryd.tsz165 : tszOf Tryd.prog 165 = some (1, false) := by kernel_rfl
@[go_sem] theorem Tryd.udef165 : (Tryd.prog.underlying 165).isSome = true := by kernel_rfl
@[go_sem] theorem Tryd.zero165 : zeroOf Tryd.prog 165 = some [.lit ((Go.Value.nilFunc))] := by kernel_rfl
@[go_sem] theorem Tryd.tsz166 : tszOf Tryd.prog 166 = some (1, false) := by kernel_rfl
@[go_sem] theorem Tryd.udef166 : (Tryd.prog.underlying 166).isSome = true := by kernel_rfl
@[go_sem] theorem Tryd.zero166 : zeroOf Tryd.prog 166 = some [.lit ((Go.Value.nilFunc))] := by kernel_rfl
@[go_sem] theorem Tryd.tsz167 : tszOf Tryd.prog 167 = some (1, false) := by kernel_rfl
@[go_sem] theorem Tryd.udef167 : (Tryd.prog.underlying 167).isSome = true := by kernel_rfl
@[go_sem] theorem Tryd.zero167 : zeroOf Tryd.prog 167 = some [.lit ((Go.Value.nilFunc))] := by kernel_rfl
@[go_sem] theorem Tryd.tsz168 : tszOf Tryd.prog 168 = some (1, false) := by kernel_rfl
@[go_sem] theorem Tryd.udef168 : (Tryd.prog.underlying 168).isSome = true := by kernel_rfl
@[go_sem] theorem Tryd.zero168 : zeroOf Tryd.prog 168 = some [.lit ((Go.Value.nilFunc))] := by kernel_rfl
@[go_sem] theorem Tryd.tsz169 : tszOf Tryd.prog 169 = some (1, false) := by kernel_rfl
@[go_sem] theorem Tryd.udef169 : (Tryd.prog.underlying 169).isSome = true := by kernel_rfl
@[go_sem] theorem Tryd.zero169 : zeroOf Tryd.prog 169 = some [.lit ((Go.Value.map none))] := by kernel_rfl
@[go_sem] theorem Tryd.mapOf169 : mapOf Tryd.prog 169 = some (.int .i64, .bool false) := by kernel_rfl
@[go_sem] theorem Tryd.tsz170 : tszOf Tryd.prog 170 = some (1, false) := by kernel_rfl
@[go_sem] theorem Tryd.udef170 : (Tryd.prog.underlying 170).isSome = true := by kernel_rfl
@[go_sem] theorem Tryd.zero170 : zeroOf Tryd.prog 170 = some [.lit ((Go.Value.nilFunc))] := by kernel_rfl
@[go_sem] theorem Tryd.tsz171 : tszOf Tryd.prog 171 = some (1, false) := by kernel_rfl
@[go_sem] theorem Tryd.udef171 : (Tryd.prog.underlying 171).isSome = true := by kernel_rfl
@[go_sem] theorem Tryd.zero171 : zeroOf Tryd.prog 171 = some [.lit ((Go.Value.nilFunc))] := by kernel_rfl
@[go_sem] theorem Tryd.tsz172 : tszOf Tryd.prog 172 = some (1, false) := by kernel_rfl
@[go_sem] theorem Tryd.udef172 : (Tryd.prog.underlying 172).isSome = true := by kernel_rfl
@[go_sem] theorem Tryd.zero172 : zeroOf Tryd.prog 172 = some [.int .i64 0] := by kernel_rfl
@[go_sem] theorem Tryd.isInt172 : isIntT Tryd.prog 172 = some .i64 := by kernel_rfl
@[go_sem] theorem Tryd.tsz174 : tszOf Tryd.prog 174 = some (1, false) := by kernel_rfl
@[go_sem] theorem Tryd.udef174 : (Tryd.prog.underlying 174).isSome = true := by kernel_rfl
@[go_sem] theorem Tryd.zero174 : zeroOf Tryd.prog 174 = some [.lit ((Go.Value.nilFunc))] := by kernel_rfl
@[go_sem] theorem Tryd.tsz175 : tszOf Tryd.prog 175 = some (1, false) := by kernel_rfl
@[go_sem] theorem Tryd.udef175 : (Tryd.prog.underlying 175).isSome = true := by kernel_rfl
@[go_sem] theorem Tryd.zero175 : zeroOf Tryd.prog 175 = some [.lit ((Go.Value.nilFunc))] := by kernel_rfl
@[go_sem] theorem Tryd.tsz176 : tszOf Tryd.prog 176 = some (1, false) := by kernel_rfl
@[go_sem] theorem Tryd.udef176 : (Tryd.prog.underlying 176).isSome = true := by kernel_rfl
@[go_sem] theorem Tryd.zero176 : zeroOf Tryd.prog 176 = some [.lit ((Go.Value.nilFunc))] := by kernel_rfl
@[go_sem] theorem Tryd.tsz177 : tszOf Tryd.prog 177 = some (1, false) := by kernel_rfl
@[go_sem] theorem Tryd.udef177 : (Tryd.prog.underlying 177).isSome = true := by kernel_rfl
@[go_sem] theorem Tryd.zero177 : zeroOf Tryd.prog 177 = some [.lit ((Go.Value.nilFunc))] := by kernel_rfl
@[go_sem] theorem Tryd.tsz178 : tszOf Tryd.prog 178 = some (1, false) := by kernel_rfl
@[go_sem] theorem Tryd.udef178 : (Tryd.prog.underlying 178).isSome = true := by kernel_rfl
@[go_sem] theorem Tryd.zero178 : zeroOf Tryd.prog 178 = some [.lit ((Go.Value.nilFunc))] := by kernel_rfl
@[go_sem] theorem Tryd.tsz179 : tszOf Tryd.prog 179 = some (1, false) := by kernel_rfl
@[go_sem] theorem Tryd.udef179 : (Tryd.prog.underlying 179).isSome = true := by kernel_rfl
@[go_sem] theorem Tryd.zero179 : zeroOf Tryd.prog 179 = some [.int .u32 0] := by kernel_rfl
@[go_sem] theorem Tryd.isInt179 : isIntT Tryd.prog 179 = some .u32 := by kernel_rfl
@[go_sem] theorem Tryd.tsz180 : tszOf Tryd.prog 180 = some (1, false) := by kernel_rfl
@[go_sem] theorem Tryd.udef180 : (Tryd.prog.underlying 180).isSome = true := by kernel_rfl
@[go_sem] theorem Tryd.zero180 : zeroOf Tryd.prog 180 = some [.lit ((Go.Value.nilFunc))] := by kernel_rfl
@[go_sem] theorem Tryd.tsz181 : tszOf Tryd.prog 181 = some (1, false) := by kernel_rfl
@[go_sem] theorem Tryd.udef181 : (Tryd.prog.underlying 181).isSome = true := by kernel_rfl
@[go_sem] theorem Tryd.zero181 : zeroOf Tryd.prog 181 = some [.lit ((Go.Value.nilFunc))] := by kernel_rfl
@[go_sem] theorem Tryd.tsz182 : tszOf Tryd.prog 182 = some (1, false) := by kernel_rfl
@[go_sem] theorem Tryd.udef182 : (Tryd.prog.underlying 182).isSome = true := by kernel_rfl
@[go_sem] theorem Tryd.zero182 : zeroOf Tryd.prog 182 = some [.lit ((Go.Value.nilFunc))] := by kernel_rfl
@[go_sem] theorem Tryd.tsz183 : tszOf Tryd.prog 183 = some (1, false) := by kernel_rfl
@[go_sem] theorem Tryd.udef183 : (Tryd.prog.underlying 183).isSome = true := by kernel_rfl
@[go_sem] theorem Tryd.zero183 : zeroOf Tryd.prog 183 = some [.lit ((Go.Value.nilFunc))] := by kernel_rfl
@[go_sem] theorem Tryd.tsz184 : tszOf Tryd.prog 184 = some (1, false) := by kernel_rfl
@[go_sem] theorem Tryd.udef184 : (Tryd.prog.underlying 184).isSome = true := by kernel_rfl
@[go_sem] theorem Tryd.zero184 : zeroOf Tryd.prog 184 = some [.lit ((Go.Value.nilFunc))] := by kernel_rfl
@[go_sem] theorem Tryd.tsz185 : tszOf Tryd.prog 185 = some (1, false) := by kernel_rfl
@[go_sem] theorem Tryd.udef185 : (Tryd.prog.underlying 185).isSome = true := by kernel_rfl
@[go_sem] theorem Tryd.zero185 : zeroOf Tryd.prog 185 = some [.lit ((Go.Value.nilFunc))] := by kernel_rfl
@[go_sem] theorem Tryd.tsz186 : tszOf Tryd.prog 186 = some (1, false) := by kernel_rfl
@[go_sem] theorem Tryd.udef186 : (Tryd.prog.underlying 186).isSome = true := by kernel_rfl
@[go_sem] theorem Tryd.zero186 : zeroOf Tryd.prog 186 = some [.lit ((Go.Value.pointer none))] := by kernel_rfl
@[go_sem] theorem Tryd.tsz187 : tszOf Tryd.prog 187 = some (1, false) := by kernel_rfl
@[go_sem] theorem Tryd.udef187 : (Tryd.prog.underlying 187).isSome = true := by kernel_rfl
@[go_sem] theorem Tryd.zero187 : zeroOf Tryd.prog 187 = some [.lit ((Go.Value.pointer none))] := by kernel_rfl
@[go_sem] theorem Tryd.tsz188 : tszOf Tryd.prog 188 = some (1, false) := by kernel_rfl
@[go_sem] theorem Tryd.udef188 : (Tryd.prog.underlying 188).isSome = true := by kernel_rfl
@[go_sem] theorem Tryd.zero188 : zeroOf Tryd.prog 188 = some [.lit ((Go.Value.nilFunc))] := by kernel_rfl
@[go_sem] theorem Tryd.tsz189 : tszOf Tryd.prog 189 = some (1, false) := by kernel_rfl
@[go_sem] theorem Tryd.udef189 : (Tryd.prog.underlying 189).isSome = true := by kernel_rfl
@[go_sem] theorem Tryd.zero189 : zeroOf Tryd.prog 189 = some [.lit ((Go.Value.nilFunc))] := by kernel_rfl
@[go_sem] theorem Tryd.tsz190 : tszOf Tryd.prog 190 = some (1, false) := by kernel_rfl
@[go_sem] theorem Tryd.udef190 : (Tryd.prog.underlying 190).isSome = true := by kernel_rfl
@[go_sem] theorem Tryd.zero190 : zeroOf Tryd.prog 190 = some [.lit ((Go.Value.nilFunc))] := by kernel_rfl
@[go_sem] theorem Tryd.tsz191 : tszOf Tryd.prog 191 = some (1, false) := by kernel_rfl
@[go_sem] theorem Tryd.udef191 : (Tryd.prog.underlying 191).isSome = true := by kernel_rfl
@[go_sem] theorem Tryd.zero191 : zeroOf Tryd.prog 191 = some [.lit ((Go.Value.nilFunc))] := by kernel_rfl
@[go_sem] theorem Tryd.tsz192 : tszOf Tryd.prog 192 = some (1, false) := by kernel_rfl
@[go_sem] theorem Tryd.udef192 : (Tryd.prog.underlying 192).isSome = true := by kernel_rfl
@[go_sem] theorem Tryd.zero192 : zeroOf Tryd.prog 192 = some [.lit ((Go.Value.pointer none))] := by kernel_rfl
@[go_sem] theorem Tryd.tsz193 : tszOf Tryd.prog 193 = some (1, false) := by kernel_rfl
@[go_sem] theorem Tryd.udef193 : (Tryd.prog.underlying 193).isSome = true := by kernel_rfl
@[go_sem] theorem Tryd.zero193 : zeroOf Tryd.prog 193 = some [.lit ((Go.Value.nilFunc))] := by kernel_rfl
@[go_sem] theorem Tryd.tsz194 : tszOf Tryd.prog 194 = some (1, false) := by kernel_rfl
@[go_sem] theorem Tryd.udef194 : (Tryd.prog.underlying 194).isSome = true := by kernel_rfl
@[go_sem] theorem Tryd.zero194 : zeroOf Tryd.prog 194 = some [.lit ((Go.Value.nilFunc))] := by kernel_rfl
@[go_sem] theorem Tryd.tsz195 : tszOf Tryd.prog 195 = some (1, false) := by kernel_rfl
@[go_sem] theorem Tryd.udef195 : (Tryd.prog.underlying 195).isSome = true := by kernel_rfl
@[go_sem] theorem Tryd.zero195 : zeroOf Tryd.prog 195 = some [.lit ((Go.Value.nilFunc))] := by kernel_rfl
@[go_sem] theorem Tryd.tsz196 : tszOf Tryd.prog 196 = some (1, false) := by kernel_rfl
@[go_sem] theorem Tryd.udef196 : (Tryd.prog.underlying 196).isSome = true := by kernel_rfl
@[go_sem] theorem Tryd.zero196 : zeroOf Tryd.prog 196 = some [.lit ((Go.Value.nilFunc))] := by kernel_rfl
@[go_sem] theorem Tryd.tsz197 : tszOf Tryd.prog 197 = some (1, false) := by kernel_rfl
@[go_sem] theorem Tryd.udef197 : (Tryd.prog.underlying 197).isSome = true := by kernel_rfl
@[go_sem] theorem Tryd.zero197 : zeroOf Tryd.prog 197 = some [.lit ((Go.Value.nilFunc))] := by kernel_rfl
@[go_sem] theorem Tryd.tsz198 : tszOf Tryd.prog 198 = some (1, false) := by kernel_rfl
@[go_sem] theorem Tryd.udef198 : (Tryd.prog.underlying 198).isSome = true := by kernel_rfl
@[go_sem] theorem Tryd.zero198 : zeroOf Tryd.prog 198 = some [.lit ((Go.Value.nilFunc))] := by kernel_rfl
@[go_sem] theorem Tryd.tsz199 : tszOf Tryd.prog 199 = some (1, false) := by kernel_rfl
@[go_sem] theorem Tryd.udef199 : (Tryd.prog.underlying 199).isSome = true := by kernel_rfl
@[go_sem] theorem Tryd.zero199 : zeroOf Tryd.prog 199 = some [.lit ((Go.Value.nilFunc))] := by kernel_rfl
@[go_sem] theorem Tryd.tsz200 : tszOf Tryd.prog 200 = some (1, false) := by kernel_rfl
@[go_sem] theorem Tryd.udef200 : (Tryd.prog.underlying 200).isSome = true := by kernel_rfl
@[go_sem] theorem Tryd.zero200 : zeroOf Tryd.prog 200 = some [.lit ((Go.Value.nilFunc))] := by kernel_rfl
@[go_sem] theorem Tryd.tsz201 : tszOf Tryd.prog 201 = some (1, false) := by kernel_rfl
@[go_sem] theorem Tryd.udef201 : (Tryd.prog.underlying 201).isSome = true := by kernel_rfl
@[go_sem] theorem Tryd.zero201 : zeroOf Tryd.prog 201 = some [.lit ((Go.Value.nilFunc))] := by kernel_rfl
@[go_sem] theorem Tryd.tsz203 : tszOf Tryd.prog 203 = some (1, false) := by kernel_rfl
@[go_sem] theorem Tryd.udef203 : (Tryd.prog.underlying 203).isSome = true := by kernel_rfl
@[go_sem] theorem Tryd.zero203 : zeroOf Tryd.prog 203 = some [.lit ((Go.Value.pointer none))] := by kernel_rfl
@[go_sem] theorem Tryd.tsz204 : tszOf Tryd.prog 204 = some (1, false) := by kernel_rfl
@[go_sem] theorem Tryd.udef204 : (Tryd.prog.underlying 204).isSome = true := by kernel_rfl
@[go_sem] theorem Tryd.zero204 : zeroOf Tryd.prog 204 = some [.lit ((Go.Value.nilFunc))] := by kernel_rfl
@[go_sem] theorem Tryd.tsz205 : tszOf Tryd.prog 205 = some (1, false) := by kernel_rfl
@[go_sem] theorem Tryd.udef205 : (Tryd.prog.underlying 205).isSome = true := by kernel_rfl
@[go_sem] theorem Tryd.zero205 : zeroOf Tryd.prog 205 = some [.lit ((Go.Value.nilFunc))] := by kernel_rfl
@[go_sem] theorem Tryd.tsz206 : tszOf Tryd.prog 206 = some (1, false) := by kernel_rfl
@[go_sem] theorem Tryd.udef206 : (Tryd.prog.underlying 206).isSome = true := by kernel_rfl
@[go_sem] theorem Tryd.zero206 : zeroOf Tryd.prog 206 = some [.int .u64 0] := by kernel_rfl
@[go_sem] theorem Tryd.isInt206 : isIntT Tryd.prog 206 = some .u64 := by kernel_rfl
@[go_sem] theorem Tryd.tsz207 : tszOf Tryd.prog 207 = some (1, false) := by kernel_rfl
@[go_sem] theorem Tryd.udef207 : (Tryd.prog.underlying 207).isSome = true := by kernel_rfl
@[go_sem] theorem Tryd.zero207 : zeroOf Tryd.prog 207 = some [.lit ((Go.Value.nilFunc))] := by kernel_rfl
@[go_sem] theorem Tryd.tsz208 : tszOf Tryd.prog 208 = some (1, false) := by kernel_rfl
@[go_sem] theorem Tryd.udef208 : (Tryd.prog.underlying 208).isSome = true := by kernel_rfl
@[go_sem] theorem Tryd.zero208 : zeroOf Tryd.prog 208 = some [.lit ((Go.Value.nilFunc))] := by kernel_rfl
@[go_sem] theorem Tryd.tsz209 : tszOf Tryd.prog 209 = some (1, false) := by kernel_rfl
@[go_sem] theorem Tryd.udef209 : (Tryd.prog.underlying 209).isSome = true := by kernel_rfl
@[go_sem] theorem Tryd.zero209 : zeroOf Tryd.prog 209 = some [.lit ((Go.Value.nilFunc))] := by kernel_rfl
@[go_sem] theorem Tryd.tsz210 : tszOf Tryd.prog 210 = some (1, false) := by kernel_rfl
@[go_sem] theorem Tryd.udef210 : (Tryd.prog.underlying 210).isSome = true := by kernel_rfl
@[go_sem] theorem Tryd.zero210 : zeroOf Tryd.prog 210 = some [.lit ((Go.Value.pointer none))] := by kernel_rfl
@[go_sem] theorem Tryd.tsz211 : tszOf Tryd.prog 211 = some (1, false) := by kernel_rfl
@[go_sem] theorem Tryd.udef211 : (Tryd.prog.underlying 211).isSome = true := by kernel_rfl
@[go_sem] theorem Tryd.zero211 : zeroOf Tryd.prog 211 = some [.lit ((Go.Value.nilFunc))] := by kernel_rfl
@[go_sem] theorem Tryd.tsz212 : tszOf Tryd.prog 212 = some (1, false) := by kernel_rfl
@[go_sem] theorem Tryd.udef212 : (Tryd.prog.underlying 212).isSome = true := by kernel_rfl
@[go_sem] theorem Tryd.zero212 : zeroOf Tryd.prog 212 = some [.lit ((Go.Value.nilFunc))] := by kernel_rfl
@[go_sem] theorem Tryd.tsz213 : tszOf Tryd.prog 213 = some (1, false) := by kernel_rfl
@[go_sem] theorem Tryd.udef213 : (Tryd.prog.underlying 213).isSome = true := by kernel_rfl
@[go_sem] theorem Tryd.zero213 : zeroOf Tryd.prog 213 = some [.lit ((Go.Value.nilFunc))] := by kernel_rfl
@[go_sem] theorem Tryd.tsz214 : tszOf Tryd.prog 214 = some (1, false) := by kernel_rfl
@[go_sem] theorem Tryd.udef214 : (Tryd.prog.underlying 214).isSome = true := by kernel_rfl
@[go_sem] theorem Tryd.zero214 : zeroOf Tryd.prog 214 = some [.lit ((Go.Value.nilFunc))] := by kernel_rfl
@[go_sem] theorem Tryd.tsz216 : tszOf Tryd.prog 216 = some (1, false) := by kernel_rfl
@[go_sem] theorem Tryd.udef216 : (Tryd.prog.underlying 216).isSome = true := by kernel_rfl
@[go_sem] theorem Tryd.zero216 : zeroOf Tryd.prog 216 = some [.lit ((Go.Value.nilFunc))] := by kernel_rfl
@[go_sem] theorem Tryd.tsz217 : tszOf Tryd.prog 217 = some (1, false) := by kernel_rfl
@[go_sem] theorem Tryd.udef217 : (Tryd.prog.underlying 217).isSome = true := by kernel_rfl
@[go_sem] theorem Tryd.zero217 : zeroOf Tryd.prog 217 = some [.lit ((Go.Value.pointer none))] := by kernel_rfl
@[go_sem] theorem Tryd.tsz218 : tszOf Tryd.prog 218 = some (1, false) := by kernel_rfl
@[go_sem] theorem Tryd.udef218 : (Tryd.prog.underlying 218).isSome = true := by kernel_rfl
@[go_sem] theorem Tryd.zero218 : zeroOf Tryd.prog 218 = some [.lit ((Go.Value.nilFunc))] := by kernel_rfl
@[go_sem] theorem Tryd.tsz219 : tszOf Tryd.prog 219 = some (1, false) := by kernel_rfl
@[go_sem] theorem Tryd.udef219 : (Tryd.prog.underlying 219).isSome = true := by kernel_rfl
@[go_sem] theorem Tryd.zero219 : zeroOf Tryd.prog 219 = some [.lit ((Go.Value.nilFunc))] := by kernel_rfl
@[go_sem] theorem Tryd.tsz220 : tszOf Tryd.prog 220 = some (256, true) := by kernel_rfl
@[go_sem] theorem Tryd.udef220 : (Tryd.prog.underlying 220).isSome = true := by kernel_rfl
@[go_sem] theorem Tryd.ar220 : arOf Tryd.prog 220 = some (256, 1, false) := by kernel_rfl
@[go_sem] theorem Tryd.pl220 : plOf Tryd.prog 220 = some [(0, 1), (1, 1), (2, 1), (3, 1), (4, 1), (5, 1), (6, 1), (7, 1), (8, 1), (9, 1), (10, 1), (11, 1), (12, 1), (13, 1), (14, 1), (15, 1), (16, 1), (17, 1), (18, 1), (19, 1), (20, 1), (21, 1), (22, 1), (23, 1), (24, 1), (25, 1), (26, 1), (27, 1), (28, 1), (29, 1), (30, 1), (31, 1), (32, 1), (33, 1), (34, 1), (35, 1), (36, 1), (37, 1), (38, 1), (39, 1), (40, 1), (41, 1), (42, 1), (43, 1), (44, 1), (45, 1), (46, 1), (47, 1), (48, 1), (49, 1), (50, 1), (51, 1), (52, 1), (53, 1), (54, 1), (55, 1), (56, 1), (57, 1), (58, 1), (59, 1), (60, 1), (61, 1), (62, 1), (63, 1), (64, 1), (65, 1), (66, 1), (67, 1), (68, 1), (69, 1), (70, 1), (71, 1), (72, 1), (73, 1), (74, 1), (75, 1), (76, 1), (77, 1), (78, 1), (79, 1), (80, 1), (81, 1), (82, 1), (83, 1), (84, 1), (85, 1), (86, 1), (87, 1), (88, 1), (89, 1), (90, 1), (91, 1), (92, 1), (93, 1), (94, 1), (95, 1), (96, 1), (97, 1), (98, 1), (99, 1), (100, 1), (101, 1), (102, 1), (103, 1), (104, 1), (105, 1), (106, 1), (107, 1), (108, 1), (109, 1), (110, 1), (111, 1), (112, 1), (113, 1), (114, 1), (115, 1), (116, 1), (117, 1), (118, 1), (119, 1), (120, 1), (121, 1), (122, 1), (123, 1), (124, 1), (125, 1), (126, 1), (127, 1), (128, 1), (129, 1), (130, 1), (131, 1), (132, 1), (133, 1), (134, 1), (135, 1), (136, 1), (137, 1), (138, 1), (139, 1), (140, 1), (141, 1), (142, 1), (143, 1), (144, 1), (145, 1), (146, 1), (147, 1), (148, 1), (149, 1), (150, 1), (151, 1), (152, 1), (153, 1), (154, 1), (155, 1), (156, 1), (157, 1), (158, 1), (159, 1), (160, 1), (161, 1), (162, 1), (163, 1), (164, 1), (165, 1), (166, 1), (167, 1), (168, 1), (169, 1), (170, 1), (171, 1), (172, 1), (173, 1), (174, 1), (175, 1), (176, 1), (177, 1), (178, 1), (179, 1), (180, 1), (181, 1), (182, 1), (183, 1), (184, 1), (185, 1), (186, 1), (187, 1), (188, 1), (189, 1), (190, 1), (191, 1), (192, 1), (193, 1), (194, 1), (195, 1), (196, 1), (197, 1), (198, 1), (199, 1), (200, 1), (201, 1), (202, 1), (203, 1), (204, 1), (205, 1), (206, 1), (207, 1), (208, 1), (209, 1), (210, 1), (211, 1), (212, 1), (213, 1), (214, 1), (215, 1), (216, 1), (217, 1), (218, 1), (219, 1), (220, 1), (221, 1), (222, 1), (223, 1), (224, 1), (225, 1), (226, 1), (227, 1), (228, 1), (229, 1), (230, 1), (231, 1), (232, 1), (233, 1), (234, 1), (235, 1), (236, 1), (237, 1), (238, 1), (239, 1), (240, 1), (241, 1), (242, 1), (243, 1), (244, 1), (245, 1), (246, 1), (247, 1), (248, 1), (249, 1), (250, 1), (251, 1), (252, 1), (253, 1), (254, 1), (255, 1)] := by kernel_rfl
@[go_sem] theorem Tryd.tsz221 : tszOf Tryd.prog 221 = some (2, true) := by kernel_rfl
@[go_sem] theorem Tryd.udef221 : (Tryd.prog.underlying 221).isSome = true := by kernel_rfl
@[go_sem] theorem Tryd.zero221 : zeroOf Tryd.prog 221 = some [.int .u8 0, .int .u8 0] := by kernel_rfl
@[go_sem] theorem Tryd.pl221 : plOf Tryd.prog 221 = some [(0, 1), (1, 1)] := by kernel_rfl
@[go_sem] theorem Tryd.tsz222 : tszOf Tryd.prog 222 = some (2, true) := by kernel_rfl
@[go_sem] theorem Tryd.udef222 : (Tryd.prog.underlying 222).isSome = true := by kernel_rfl
@[go_sem] theorem Tryd.zero222 : zeroOf Tryd.prog 222 = some [.int .u8 0, .int .u8 0] := by kernel_rfl
@[go_sem] theorem Tryd.pl222 : plOf Tryd.prog 222 = some [(0, 1), (1, 1)] := by kernel_rfl
@[go_sem] theorem Tryd.fd222_0 : fdOf Tryd.prog 222 0 = some (0, 1, false) := by kernel_rfl
@[go_sem] theorem Tryd.fd222_1 : fdOf Tryd.prog 222 1 = some (1, 1, false) := by kernel_rfl
@[go_sem] theorem Tryd.tsz223 : tszOf Tryd.prog 223 = some (32, true) := by kernel_rfl
@[go_sem] theorem Tryd.udef223 : (Tryd.prog.underlying 223).isSome = true := by kernel_rfl
@[go_sem] theorem Tryd.zero223 : zeroOf Tryd.prog 223 = some [.int .u8 0, .int .u8 0, .int .u8 0, .int .u8 0, .int .u8 0, .int .u8 0, .int .u8 0, .int .u8 0, .int .u8 0, .int .u8 0, .int .u8 0, .int .u8 0, .int .u8 0, .int .u8 0, .int .u8 0, .int .u8 0, .int .u8 0, .int .u8 0, .int .u8 0, .int .u8 0, .int .u8 0, .int .u8 0, .int .u8 0, .int .u8 0, .int .u8 0, .int .u8 0, .int .u8 0, .int .u8 0, .int .u8 0, .int .u8 0, .int .u8 0, .int .u8 0] := by kernel_rfl
@[go_sem] theorem Tryd.ar223 : arOf Tryd.prog 223 = some (16, 2, true) := by kernel_rfl
@[go_sem] theorem Tryd.pl223 : plOf Tryd.prog 223 = some [(0, 2), (2, 2), (4, 2), (6, 2), (8, 2), (10, 2), (12, 2), (14, 2), (16, 2), (18, 2), (20, 2), (22, 2), (24, 2), (26, 2), (28, 2), (30, 2)] := by kernel_rfl
@[go_sem] theorem Tryd.tsz231 : tszOf Tryd.prog 231 = some (1, false) := by kernel_rfl
@[go_sem] theorem Tryd.udef231 : (Tryd.prog.underlying 231).isSome = true := by kernel_rfl
@[go_sem] theorem Tryd.zero231 : zeroOf Tryd.prog 231 = some [.lit ((Go.Value.nilFunc))] := by kernel_rfl
@[go_sem] theorem Tryd.tsz232 : tszOf Tryd.prog 232 = some (24, true) := by kernel_rfl
@[go_sem] theorem Tryd.udef232 : (Tryd.prog.underlying 232).isSome = true := by kernel_rfl
@[go_sem] theorem Tryd.zero232 : zeroOf Tryd.prog 232 = some [.int .u8 0, .int .u8 0, .int .u8 0, .int .u8 0, .int .u8 0, .int .u8 0, .int .u8 0, .int .u8 0, .int .u8 0, .int .u8 0, .int .u8 0, .int .u8 0, .int .u8 0, .int .u8 0, .int .u8 0, .int .u8 0, .int .u8 0, .int .u8 0, .int .u8 0, .int .u8 0, .int .u8 0, .int .u8 0, .int .u8 0, .int .u8 0] := by kernel_rfl
@[go_sem] theorem Tryd.ar232 : arOf Tryd.prog 232 = some (24, 1, false) := by kernel_rfl
@[go_sem] theorem Tryd.pl232 : plOf Tryd.prog 232 = some [(0, 1), (1, 1), (2, 1), (3, 1), (4, 1), (5, 1), (6, 1), (7, 1), (8, 1), (9, 1), (10, 1), (11, 1), (12, 1), (13, 1), (14, 1), (15, 1), (16, 1), (17, 1), (18, 1), (19, 1), (20, 1), (21, 1), (22, 1), (23, 1)] := by kernel_rfl
@[go_sem] theorem Tryd.tsz233 : tszOf Tryd.prog 233 = some (1, false) := by kernel_rfl
@[go_sem] theorem Tryd.udef233 : (Tryd.prog.underlying 233).isSome = true := by kernel_rfl
@[go_sem] theorem Tryd.zero233 : zeroOf Tryd.prog 233 = some [.lit ((Go.Value.nilFunc))] := by kernel_rfl
@[go_sem] theorem Tryd.tsz240 : tszOf Tryd.prog 240 = some (1, false) := by kernel_rfl
@[go_sem] theorem Tryd.udef240 : (Tryd.prog.underlying 240).isSome = true := by kernel_rfl
@[go_sem] theorem Tryd.zero240 : zeroOf Tryd.prog 240 = some [.lit ((Go.Value.nilFunc))] := by kernel_rfl
@[go_sem] theorem Tryd.tsz242 : tszOf Tryd.prog 242 = some (1, false) := by kernel_rfl
@[go_sem] theorem Tryd.udef242 : (Tryd.prog.underlying 242).isSome = true := by kernel_rfl
@[go_sem] theorem Tryd.zero242 : zeroOf Tryd.prog 242 = some [.lit ((Go.Value.nilFunc))] := by kernel_rfl
@[go_sem] theorem Tryd.tsz243 : tszOf Tryd.prog 243 = some (1, false) := by kernel_rfl
@[go_sem] theorem Tryd.udef243 : (Tryd.prog.underlying 243).isSome = true := by kernel_rfl
@[go_sem] theorem Tryd.zero243 : zeroOf Tryd.prog 243 = some [.lit ((Go.Value.nilFunc))] := by kernel_rfl
@[go_sem] theorem Tryd.tsz247 : tszOf Tryd.prog 247 = some (1, false) := by kernel_rfl
@[go_sem] theorem Tryd.udef247 : (Tryd.prog.underlying 247).isSome = true := by kernel_rfl
@[go_sem] theorem Tryd.zero247 : zeroOf Tryd.prog 247 = some [.lit ((Go.Value.nilFunc))] := by kernel_rfl
@[go_sem] theorem Tryd.tsz248 : tszOf Tryd.prog 248 = some (1, false) := by kernel_rfl
@[go_sem] theorem Tryd.udef248 : (Tryd.prog.underlying 248).isSome = true := by kernel_rfl
@[go_sem] theorem Tryd.zero248 : zeroOf Tryd.prog 248 = some [.lit ((Go.Value.nilFunc))] := by kernel_rfl
@[go_sem] theorem Tryd.tsz249 : tszOf Tryd.prog 249 = some (1, false) := by kernel_rfl
@[go_sem] theorem Tryd.udef249 : (Tryd.prog.underlying 249).isSome = true := by kernel_rfl
@[go_sem] theorem Tryd.zero249 : zeroOf Tryd.prog 249 = some [.lit ((Go.Value.nilFunc))] := by kernel_rfl
@[go_sem] theorem Tryd.tsz250 : tszOf Tryd.prog 250 = some (1, false) := by kernel_rfl
@[go_sem] theorem Tryd.udef250 : (Tryd.prog.underlying 250).isSome = true := by kernel_rfl
@[go_sem] theorem Tryd.zero250 : zeroOf Tryd.prog 250 = some [.lit ((Go.Value.nilFunc))] := by kernel_rfl
@[go_sem] theorem Tryd.tsz252 : tszOf Tryd.prog 252 = some (20, true) := by kernel_rfl
@[go_sem] theorem Tryd.udef252 : (Tryd.prog.underlying 252).isSome = true := by kernel_rfl
@[go_sem] theorem Tryd.zero252 : zeroOf Tryd.prog 252 = some [.int .u64 0, .int .u64 0, .int .u64 0, .int .u64 0, .int .u64 0, .int .u64 0, .int .u64 0, .int .u64 0, .int .u64 0, .int .u64 0, .int .u64 0, .int .u64 0, .int .u64 0, .int .u64 0, .int .u64 0, .int .u64 0, .int .u64 0, .int .u64 0, .int .u64 0, .int .u64 0] := by kernel_rfl
@[go_sem] theorem Tryd.ar252 : arOf Tryd.prog 252 = some (20, 1, false) := by kernel_rfl
@[go_sem] theorem Tryd.pl252 : plOf Tryd.prog 252 = some [(0, 1), (1, 1), (2, 1), (3, 1), (4, 1), (5, 1), (6, 1), (7, 1), (8, 1), (9, 1), (10, 1), (11, 1), (12, 1), (13, 1), (14, 1), (15, 1), (16, 1), (17, 1), (18, 1), (19, 1)] := by kernel_rfl
@[go_sem] theorem Tryd.tsz253 : tszOf Tryd.prog 253 = some (65, true) := by kernel_rfl
@[go_sem] theorem Tryd.udef253 : (Tryd.prog.underlying 253).isSome = true := by kernel_rfl
@[go_sem] theorem Tryd.ar253 : arOf Tryd.prog 253 = some (65, 1, false) := by kernel_rfl
@[go_sem] theorem Tryd.pl253 : plOf Tryd.prog 253 = some [(0, 1), (1, 1), (2, 1), (3, 1), (4, 1), (5, 1), (6, 1), (7, 1), (8, 1), (9, 1), (10, 1), (11, 1), (12, 1), (13, 1), (14, 1), (15, 1), (16, 1), (17, 1), (18, 1), (19, 1), (20, 1), (21, 1), (22, 1), (23, 1), (24, 1), (25, 1), (26, 1), (27, 1), (28, 1), (29, 1), (30, 1), (31, 1), (32, 1), (33, 1), (34, 1), (35, 1), (36, 1), (37, 1), (38, 1), (39, 1), (40, 1), (41, 1), (42, 1), (43, 1), (44, 1), (45, 1), (46, 1), (47, 1), (48, 1), (49, 1), (50, 1), (51, 1), (52, 1), (53, 1), (54, 1), (55, 1), (56, 1), (57, 1), (58, 1), (59, 1), (60, 1), (61, 1), (62, 1), (63, 1), (64, 1)] := by kernel_rfl
@[go_sem] theorem Tryd.tsz254 : tszOf Tryd.prog 254 = some (1, false) := by kernel_rfl
@[go_sem] theorem Tryd.udef254 : (Tryd.prog.underlying 254).isSome = true := by kernel_rfl
@[go_sem] theorem Tryd.zero254 : zeroOf Tryd.prog 254 = some [.lit ((Go.Value.nilFunc))] := by kernel_rfl
@[go_sem] theorem Tryd.tsz255 : tszOf Tryd.prog 255 = some (1, false) := by kernel_rfl
@[go_sem] theorem Tryd.udef255 : (Tryd.prog.underlying 255).isSome = true := by kernel_rfl
@[go_sem] theorem Tryd.zero255 : zeroOf Tryd.prog 255 = some [.lit ((Go.Value.pointer none))] := by kernel_rfl
@[go_sem] theorem Tryd.tsz256 : tszOf Tryd.prog 256 = some (1, true) := by kernel_rfl
@[go_sem] theorem Tryd.udef256 : (Tryd.prog.underlying 256).isSome = true := by kernel_rfl
@[go_sem] theorem Tryd.zero256 : zeroOf Tryd.prog 256 = some [.str ByteArray.empty] := by kernel_rfl
@[go_sem] theorem Tryd.pl256 : plOf Tryd.prog 256 = some [(0, 1)] := by kernel_rfl
@[go_sem] theorem Tryd.tsz257 : tszOf Tryd.prog 257 = some (1, true) := by kernel_rfl
@[go_sem] theorem Tryd.udef257 : (Tryd.prog.underlying 257).isSome = true := by kernel_rfl
@[go_sem] theorem Tryd.zero257 : zeroOf Tryd.prog 257 = some [.str ByteArray.empty] := by kernel_rfl
@[go_sem] theorem Tryd.pl257 : plOf Tryd.prog 257 = some [(0, 1)] := by kernel_rfl
@[go_sem] theorem Tryd.tsz258 : tszOf Tryd.prog 258 = some (32, true) := by kernel_rfl
@[go_sem] theorem Tryd.udef258 : (Tryd.prog.underlying 258).isSome = true := by kernel_rfl
@[go_sem] theorem Tryd.zero258 : zeroOf Tryd.prog 258 = some [.int .u8 0, .int .u8 0, .int .u8 0, .int .u8 0, .int .u8 0, .int .u8 0, .int .u8 0, .int .u8 0, .int .u8 0, .int .u8 0, .int .u8 0, .int .u8 0, .int .u8 0, .int .u8 0, .int .u8 0, .int .u8 0, .int .u8 0, .int .u8 0, .int .u8 0, .int .u8 0, .int .u8 0, .int .u8 0, .int .u8 0, .int .u8 0, .int .u8 0, .int .u8 0, .int .u8 0, .int .u8 0, .int .u8 0, .int .u8 0, .int .u8 0, .int .u8 0] := by kernel_rfl
@[go_sem] theorem Tryd.ar258 : arOf Tryd.prog 258 = some (32, 1, false) := by kernel_rfl
@[go_sem] theorem Tryd.pl258 : plOf Tryd.prog 258 = some [(0, 1), (1, 1), (2, 1), (3, 1), (4, 1), (5, 1), (6, 1), (7, 1), (8, 1), (9, 1), (10, 1), (11, 1), (12, 1), (13, 1), (14, 1), (15, 1), (16, 1), (17, 1), (18, 1), (19, 1), (20, 1), (21, 1), (22, 1), (23, 1), (24, 1), (25, 1), (26, 1), (27, 1), (28, 1), (29, 1), (30, 1), (31, 1)] := by kernel_rfl
@[go_sem] theorem Tryd.tsz259 : tszOf Tryd.prog 259 = some (64, true) := by kernel_rfl
@[go_sem] theorem Tryd.udef259 : (Tryd.prog.underlying 259).isSome = true := by kernel_rfl
@[go_sem] theorem Tryd.zero259 : zeroOf Tryd.prog 259 = some [.int .u8 0, .int .u8 0, .int .u8 0, .int .u8 0, .int .u8 0, .int .u8 0, .int .u8 0, .int .u8 0, .int .u8 0, .int .u8 0, .int .u8 0, .int .u8 0, .int .u8 0, .int .u8 0, .int .u8 0, .int .u8 0, .int .u8 0, .int .u8 0, .int .u8 0, .int .u8 0, .int .u8 0, .int .u8 0, .int .u8 0, .int .u8 0, .int .u8 0, .int .u8 0, .int .u8 0, .int .u8 0, .int .u8 0, .int .u8 0, .int .u8 0, .int .u8 0, .int .u8 0, .int .u8 0, .int .u8 0, .int .u8 0, .int .u8 0, .int .u8 0, .int .u8 0, .int .u8 0, .int .u8 0, .int .u8 0, .int .u8 0, .int .u8 0, .int .u8 0, .int .u8 0, .int .u8 0, .int .u8 0, .int .u8 0, .int .u8 0, .int .u8 0, .int .u8 0, .int .u8 0, .int .u8 0, .int .u8 0, .int .u8 0, .int .u8 0, .int .u8 0, .int .u8 0, .int .u8 0, .int .u8 0, .int .u8 0, .int .u8 0, .int .u8 0] := by kernel_rfl
@[go_sem] theorem Tryd.ar259 : arOf Tryd.prog 259 = some (64, 1, false) := by kernel_rfl
@[go_sem] theorem Tryd.pl259 : plOf Tryd.prog 259 = some [(0, 1), (1, 1), (2, 1), (3, 1), (4, 1), (5, 1), (6, 1), (7, 1), (8, 1), (9, 1), (10, 1), (11, 1), (12, 1), (13, 1), (14, 1), (15, 1), (16, 1), (17, 1), (18, 1), (19, 1), (20, 1), (21, 1), (22, 1), (23, 1), (24, 1), (25, 1), (26, 1), (27, 1), (28, 1), (29, 1), (30, 1), (31, 1), (32, 1), (33, 1), (34, 1), (35, 1), (36, 1), (37, 1), (38, 1), (39, 1), (40, 1), (41, 1), (42, 1), (43, 1), (44, 1), (45, 1), (46, 1), (47, 1), (48, 1), (49, 1), (50, 1), (51, 1), (52, 1), (53, 1), (54, 1), (55, 1), (56, 1), (57, 1), (58, 1), (59, 1), (60, 1), (61, 1), (62, 1), (63, 1)] := by kernel_rfl
@[go_sem] theorem Tryd.tsz260 : tszOf Tryd.prog 260 = some (4, true) := by kernel_rfl
@[go_sem] theorem Tryd.udef260 : (Tryd.prog.underlying 260).isSome = true := by kernel_rfl
@[go_sem] theorem Tryd.zero260 : zeroOf Tryd.prog 260 = some [.lit ((Go.Value.pointer none)), .lit ((Go.Value.pointer none)), .lit ((Go.Value.pointer none)), .str ByteArray.empty] := by kernel_rfl
@[go_sem] theorem Tryd.pl260 : plOf Tryd.prog 260 = some [(0, 1), (1, 1), (2, 1), (3, 1)] := by kernel_rfl
@[go_sem] theorem Tryd.tsz261 : tszOf Tryd.prog 261 = some (4, true) := by kernel_rfl
@[go_sem] theorem Tryd.udef261 : (Tryd.prog.underlying 261).isSome = true := by kernel_rfl
@[go_sem] theorem Tryd.zero261 : zeroOf Tryd.prog 261 = some [.lit ((Go.Value.pointer none)), .lit ((Go.Value.pointer none)), .lit ((Go.Value.pointer none)), .str ByteArray.empty] := by kernel_rfl
@[go_sem] theorem Tryd.pl261 : plOf Tryd.prog 261 = some [(0, 1), (1, 1), (2, 1), (3, 1)] := by kernel_rfl
@[go_sem] theorem Tryd.tsz262 : tszOf Tryd.prog 262 = some (0, true) := by kernel_rfl
@[go_sem] theorem Tryd.udef262 : (Tryd.prog.underlying 262).isSome = true := by kernel_rfl
@[go_sem] theorem Tryd.zero262 : zeroOf Tryd.prog 262 = some [] := by kernel_rfl
@[go_sem] theorem Tryd.ar262 : arOf Tryd.prog 262 = some (0, 1, false) := by kernel_rfl
@[go_sem] theorem Tryd.pl262 : plOf Tryd.prog 262 = some [] := by kernel_rfl
@[go_sem] theorem Tryd.tsz263 : tszOf Tryd.prog 263 = some (0, true) := by kernel_rfl
@[go_sem] theorem Tryd.udef263 : (Tryd.prog.underlying 263).isSome = true := by kernel_rfl
@[go_sem] theorem Tryd.zero263 : zeroOf Tryd.prog 263 = some [] := by kernel_rfl
@[go_sem] theorem Tryd.pl263 : plOf Tryd.prog 263 = some [(0, 0)] := by kernel_rfl
@[go_sem] theorem Tryd.tsz264 : tszOf Tryd.prog 264 = some (0, true) := by kernel_rfl
@[go_sem] theorem Tryd.udef264 : (Tryd.prog.underlying 264).isSome = true := by kernel_rfl
@[go_sem] theorem Tryd.zero264 : zeroOf Tryd.prog 264 = some [] := by kernel_rfl
@[go_sem] theorem Tryd.pl264 : plOf Tryd.prog 264 = some [(0, 0)] := by kernel_rfl
@[go_sem] theorem Tryd.tsz265 : tszOf Tryd.prog 265 = some (1, false) := by kernel_rfl
@[go_sem] theorem Tryd.udef265 : (Tryd.prog.underlying 265).isSome = true := by kernel_rfl
@[go_sem] theorem Tryd.zero265 : zeroOf Tryd.prog 265 = some [.int .u8 0] := by kernel_rfl
@[go_sem] theorem Tryd.isInt265 : isIntT Tryd.prog 265 = some .u8 := by kernel_rfl
@[go_sem] theorem Tryd.tsz266 : tszOf Tryd.prog 266 = some (1, false) := by kernel_rfl
@[go_sem] theorem Tryd.udef266 : (Tryd.prog.underlying 266).isSome = true := by kernel_rfl
@[go_sem] theorem Tryd.zero266 : zeroOf Tryd.prog 266 = some [.int .u8 0] := by kernel_rfl
@[go_sem] theorem Tryd.isInt266 : isIntT Tryd.prog 266 = some .u8 := by kernel_rfl
@[go_sem] theorem Tryd.tsz267 : tszOf Tryd.prog 267 = some (1, false) := by kernel_rfl
@[go_sem] theorem Tryd.udef267 : (Tryd.prog.underlying 267).isSome = true := by kernel_rfl
@[go_sem] theorem Tryd.zero267 : zeroOf Tryd.prog 267 = some [.lit ((Go.Value.nilFunc))] := by kernel_rfl
@[go_sem] theorem Tryd.tsz268 : tszOf Tryd.prog 268 = some (1, false) := by kernel_rfl
@[go_sem] theorem Tryd.udef268 : (Tryd.prog.underlying 268).isSome = true := by kernel_rfl
@[go_sem] theorem Tryd.zero268 : zeroOf Tryd.prog 268 = some [.int .i32 0] := by kernel_rfl
@[go_sem] theorem Tryd.isInt268 : isIntT Tryd.prog 268 = some .i32 := by kernel_rfl
@[go_sem] theorem Tryd.tsz269 : tszOf Tryd.prog 269 = some (1, false) := by kernel_rfl
@[go_sem] theorem Tryd.udef269 : (Tryd.prog.underlying 269).isSome = true := by kernel_rfl
@[go_sem] theorem Tryd.zero269 : zeroOf Tryd.prog 269 = some [.int .i32 0] := by kernel_rfl
@[go_sem] theorem Tryd.isInt269 : isIntT Tryd.prog 269 = some .i32 := by kernel_rfl
@[go_sem] theorem Tryd.tsz270 : tszOf Tryd.prog 270 = some (11, true) := by kernel_rfl
@[go_sem] theorem Tryd.udef270 : (Tryd.prog.underlying 270).isSome = true := by kernel_rfl
@[go_sem] theorem Tryd.zero270 : zeroOf Tryd.prog 270 = some [.int .u64 0, .int .u64 0, .int .u32 0, .int .u8 0, .int .u8 0, .int .u8 0, .int .u8 0, .lit ((Go.Value.nilFunc)), .lit ((Go.Value.pointer none)), .int .i32 0, .int .i32 0] := by kernel_rfl
@[go_sem] theorem Tryd.pl270 : plOf Tryd.prog 270 = some [(0, 1), (1, 1), (2, 1), (3, 1), (4, 1), (5, 1), (6, 1), (7, 1), (8, 1), (9, 1), (10, 1)] := by kernel_rfl
@[go_sem] theorem Tryd.tsz271 : tszOf Tryd.prog 271 = some (11, true) := by kernel_rfl
@[go_sem] theorem Tryd.udef271 : (Tryd.prog.underlying 271).isSome = true := by kernel_rfl
@[go_sem] theorem Tryd.zero271 : zeroOf Tryd.prog 271 = some [.int .u64 0, .int .u64 0, .int .u32 0, .int .u8 0, .int .u8 0, .int .u8 0, .int .u8 0, .lit ((Go.Value.nilFunc)), .lit ((Go.Value.pointer none)), .int .i32 0, .int .i32 0] := by kernel_rfl
@[go_sem] theorem Tryd.pl271 : plOf Tryd.prog 271 = some [(0, 1), (1, 1), (2, 1), (3, 1), (4, 1), (5, 1), (6, 1), (7, 1), (8, 1), (9, 1), (10, 1)] := by kernel_rfl
@[go_sem] theorem Tryd.isPt2 : isPt Tryd.prog 2 = false := by kernel_rfl
@[go_sem] theorem Tryd.isPt3 : isPt Tryd.prog 3 = false := by kernel_rfl
@[go_sem] theorem Tryd.isPt4 : isPt Tryd.prog 4 = false := by kernel_rfl
@[go_sem] theorem Tryd.isPt5 : isPt Tryd.prog 5 = false := by kernel_rfl
@[go_sem] theorem Tryd.isPt9 : isPt Tryd.prog 9 = false := by kernel_rfl
@[go_sem] theorem Tryd.isPt22 : isPt Tryd.prog 22 = false := by kernel_rfl
@[go_sem] theorem Tryd.isPt24 : isPt Tryd.prog 24 = false := by kernel_rfl
@[go_sem] theorem Tryd.isPt26 : isPt Tryd.prog 26 = false := by kernel_rfl
@[go_sem] theorem Tryd.isPt39 : isPt Tryd.prog 39 = false := by kernel_rfl
@[go_sem] theorem Tryd.isPt43 : isPt Tryd.prog 43 = false := by kernel_rfl
@[go_sem] theorem Tryd.isPt44 : isPt Tryd.prog 44 = false := by kernel_rfl
@[go_sem] theorem Tryd.isPt46 : isPt Tryd.prog 46 = false := by kernel_rfl
@[go_sem] theorem Tryd.isPt61 : isPt Tryd.prog 61 = false := by kernel_rfl
@[go_sem] theorem Tryd.isPt66 : isPt Tryd.prog 66 = false := by kernel_rfl
@[go_sem] theorem Tryd.isPt68 : isPt Tryd.prog 68 = false := by kernel_rfl
@[go_sem] theorem Tryd.isPt76 : isPt Tryd.prog 76 = false := by kernel_rfl
@[go_sem] theorem Tryd.isPt87 : isPt Tryd.prog 87 = true := by kernel_rfl
@[go_sem] theorem Tryd.isPt88 : isPt Tryd.prog 88 = false := by kernel_rfl
@[go_sem] theorem Tryd.isPt101 : isPt Tryd.prog 101 = false := by kernel_rfl
@[go_sem] theorem Tryd.isPt109 : isPt Tryd.prog 109 = false := by kernel_rfl
@[go_sem] theorem Tryd.isPt115 : isPt Tryd.prog 115 = false := by kernel_rfl
@[go_sem] theorem Tryd.isPt128 : isPt Tryd.prog 128 = false := by kernel_rfl
@[go_sem] theorem Tryd.isPt140 : isPt Tryd.prog 140 = false := by kernel_rfl
@[go_sem] theorem Tryd.isPt156 : isPt Tryd.prog 156 = true := by kernel_rfl
@[go_sem] theorem Tryd.isPt158 : isPt Tryd.prog 158 = false := by kernel_rfl
@[go_sem] theorem Tryd.isPt179 : isPt Tryd.prog 179 = false := by kernel_rfl
@[go_sem] theorem Tryd.isPt203 : isPt Tryd.prog 203 = true := by kernel_rfl
@[go_sem] theorem Tryd.isPt206 : isPt Tryd.prog 206 = false := by kernel_rfl
@[go_sem] theorem Tryd.isPt217 : isPt Tryd.prog 217 = false := by kernel_rfl
theorem Tryd.okF6 : okF Tryd.prog 6 = true := by kernel_rfl
theorem Tryd.okF23 : okF Tryd.prog 23 = true := by kernel_rfl
theorem Tryd.okF27 : okF Tryd.prog 27 = true := by kernel_rfl
theorem Tryd.okF37 : okF Tryd.prog 37 = true := by kernel_rfl
theorem Tryd.okF44 : okF Tryd.prog 44 = true := by kernel_rfl
theorem Tryd.okF45 : okF Tryd.prog 45 = true := by kernel_rfl
theorem Tryd.okF46 : okF Tryd.prog 46 = true := by kernel_rfl
theorem Tryd.okF47 : okF Tryd.prog 47 = true := by kernel_rfl
theorem Tryd.okF48 : okF Tryd.prog 48 = true := by kernel_rfl
theorem Tryd.okF49 : okF Tryd.prog 49 = true := by kernel_rfl
theorem Tryd.okF50 : okF Tryd.prog 50 = true := by kernel_rfl
theorem Tryd.okF51 : okF Tryd.prog 51 = true := by kernel_rfl
theorem Tryd.okF52 : okF Tryd.prog 52 = true := by kernel_rfl
theorem Tryd.okF53 : okF Tryd.prog 53 = true := by kernel_rfl
theorem Tryd.okF54 : okF Tryd.prog 54 = true := by kernel_rfl
theorem Tryd.okF55 : okF Tryd.prog 55 = true := by kernel_rfl
theorem Tryd.okF56 : okF Tryd.prog 56 = true := by kernel_rfl
theorem Tryd.okF57 : okF Tryd.prog 57 = true := by kernel_rfl
theorem Tryd.okF58 : okF Tryd.prog 58 = true := by kernel_rfl
theorem Tryd.okF59 : okF Tryd.prog 59 = true := by kernel_rfl
theorem Tryd.okF60 : okF Tryd.prog 60 = true := by kernel_rfl
theorem Tryd.okF67 : okF Tryd.prog 67 = true := by kernel_rfl
theorem Tryd.okF69 : okF Tryd.prog 69 = true := by kernel_rfl
theorem Tryd.okF79 : okF Tryd.prog 79 = true := by kernel_rfl
theorem Tryd.okF91 : okF Tryd.prog 91 = true := by kernel_rfl
theorem Tryd.okF92 : okF Tryd.prog 92 = true := by kernel_rfl
theorem Tryd.okF93 : okF Tryd.prog 93 = true := by kernel_rfl
theorem Tryd.okF108 : okF Tryd.prog 108 = true := by kernel_rfl
theorem Tryd.okF109 : okF Tryd.prog 109 = true := by kernel_rfl
theorem Tryd.okF110 : okF Tryd.prog 110 = true := by kernel_rfl
theorem Tryd.okF111 : okF Tryd.prog 111 = true := by kernel_rfl
theorem Tryd.okF112 : okF Tryd.prog 112 = true := by kernel_rfl
theorem Tryd.okF113 : okF Tryd.prog 113 = true := by kernel_rfl
theorem Tryd.okF114 : okF Tryd.prog 114 = true := by kernel_rfl
theorem Tryd.okF115 : okF Tryd.prog 115 = true := by kernel_rfl
theorem Tryd.okF116 : okF Tryd.prog 116 = true := by kernel_rfl
theorem Tryd.okF117 : okF Tryd.prog 117 = true := by kernel_rfl
theorem Tryd.okF118 : okF Tryd.prog 118 = true := by kernel_rfl
theorem Tryd.okF119 : okF Tryd.prog 119 = true := by kernel_rfl
theorem Tryd.okF120 : okF Tryd.prog 120 = true := by kernel_rfl
theorem Tryd.okF121 : okF Tryd.prog 121 = true := by kernel_rfl
theorem Tryd.okF122 : okF Tryd.prog 122 = true := by kernel_rfl
theorem Tryd.okF125 : okF Tryd.prog 125 = true := by kernel_rfl
theorem Tryd.okF126 : okF Tryd.prog 126 = true := by kernel_rfl
theorem Tryd.okF127 : okF Tryd.prog 127 = true := by kernel_rfl
theorem Tryd.okF136 : okF Tryd.prog 136 = true := by kernel_rfl
theorem Tryd.okF145 : okF Tryd.prog 145 = true := by kernel_rfl
theorem Tryd.okF162 : okF Tryd.prog 162 = true := by kernel_rfl
theorem Tryd.okF163 : okF Tryd.prog 163 = true := by kernel_rfl
theorem Tryd.okF164 : okF Tryd.prog 164 = true := by kernel_rfl
theorem Tryd.okF165 : okF Tryd.prog 165 = true := by kernel_rfl
theorem Tryd.okF166 : okF Tryd.prog 166 = true := by kernel_rfl
theorem Tryd.okF167 : okF Tryd.prog 167 = true := by kernel_rfl
theorem Tryd.okF168 : okF Tryd.prog 168 = true := by kernel_rfl
theorem Tryd.okF169 : okF Tryd.prog 169 = true := by kernel_rfl
theorem Tryd.okF180 : okF Tryd.prog 180 = true := by kernel_rfl
theorem Tryd.okF203 : okF Tryd.prog 203 = true := by kernel_rfl
theorem Tryd.okF204 : okF Tryd.prog 204 = true := by kernel_rfl
theorem Tryd.okF205 : okF Tryd.prog 205 = true := by kernel_rfl
theorem Tryd.okF206 : okF Tryd.prog 206 = true := by kernel_rfl
theorem Tryd.okF212 : okF Tryd.prog 212 = true := by kernel_rfl
theorem Tryd.okF215 : okF Tryd.prog 215 = true := by kernel_rfl
theorem Tryd.okF216 : okF Tryd.prog 216 = true := by kernel_rfl
theorem Tryd.okF217 : okF Tryd.prog 217 = true := by kernel_rfl
theorem Tryd.okF218 : okF Tryd.prog 218 = true := by kernel_rfl
theorem Tryd.okF242 : okF Tryd.prog 242 = true := by kernel_rfl
theorem Tryd.okF243 : okF Tryd.prog 243 = true := by kernel_rfl
theorem Tryd.okF258 : okF Tryd.prog 258 = true := by kernel_rfl
theorem Tryd.okF259 : okF Tryd.prog 259 = true := by kernel_rfl
theorem Tryd.okF260 : okF Tryd.prog 260 = true := by kernel_rfl
theorem Tryd.okF261 : okF Tryd.prog 261 = true := by kernel_rfl
end Go.Proofs
end
section
namespace Go.Lv

def rows {α : Type} (cs : α → List V) (L : List α) : List V := L.flatMap cs

section
variable {α : Type} {cs : α → List V} {w : Nat}

theorem rows_len (h : ∀ a, (cs a).length = w) (L : List α) : (rows cs L).length = L.length * w := by
 induction L with
 | nil => simp [rows]
 | cons a L ih => simp [rows, h] at ih ⊢; rw [ih, Nat.succ_mul, Nat.add_comm]

theorem rowsOf_append (L K : List α) : rows cs (L ++ K) = rows cs L ++ rows cs K := by simp [rows]
theorem rows_nil : rows cs ([] : List α) = [] := rfl
theorem rows_cons (a : α) (L : List α) : rows cs (a :: L) = cs a ++ rows cs L := by simp [rows]
theorem rows_one (a : α) : rows cs [a] = cs a := by simp [rows]

theorem rows_drop (h : ∀ a, (cs a).length = w) (L : List α) (i : Nat) : (rows cs L).drop (i * w) = rows cs (L.drop i) := by
 induction i generalizing L with
 | zero => simp
 | succ i ih =>
   cases L with
   | nil => simp [rows]
   | cons a L =>
     rw [rows_cons, Nat.succ_mul, Nat.add_comm, ← List.drop_drop, List.drop_append, h a, Nat.sub_self, List.drop_zero]
     rw [show (cs a).drop w = [] by simp [h]]
     simpa using ih L

theorem rows_take (h : ∀ a, (cs a).length = w) (L : List α) (i : Nat) : (rows cs L).take (i * w) = rows cs (L.take i) := by
 induction i generalizing L with
 | zero => simp [rows]
 | succ i ih =>
   cases L with
   | nil => simp [rows]
   | cons a L =>
     rw [rows_cons, List.take_succ_cons, rows_cons, Nat.succ_mul, Nat.add_comm, List.take_append, h a, Nat.add_sub_cancel_left, ih]
     rw [List.take_of_length_le (by simp [h])]

theorem rows_at (h : ∀ a, (cs a).length = w) {L : List α} {i : Nat} (hi : i < L.length) : ((rows cs L).drop (i * w)).take w = cs L[i] := by
 rw [rows_drop h, List.drop_eq_getElem_cons hi, rows_cons, List.take_append, h, Nat.sub_self, List.take_zero, List.append_nil, List.take_of_length_le (by simp [h])]

theorem rows_all {p : V → Bool} (h : ∀ a, (cs a).all p = true) (L : List α) : (rows cs L).all p = true := by
 induction L with
 | nil => rfl
 | cons a L ih => rw [rows_cons, List.all_append, h a, ih]; rfl

theorem map_ren (f : Nat → R) {d : Nat} {l : List V} (h : l.all (noOwn d) = true) : l.map (ren f d) = l := by
 rw [List.map_congr_left (g := id) (fun x hx => ren_noOwn f d x (List.all_eq_true.1 h x hx)), List.map_id]

theorem wrap_i64 {n : Int} (h0 : -9223372036854775808 ≤ n) (h1 : n ≤ 9223372036854775807) : IntKind.i64.wrap n = n := by
 rw [IntKind.wrap_i64]; omega

def i64R (z : Int) : Prop := -9223372036854775808 ≤ z ∧ z ≤ 9223372036854775807
def lstR (ok : α → Prop) (L : List α) : Prop := L.length ≤ 9223372036854775807 ∧ ∀ x ∈ L, ok x

class FlatP (cs : α → List V) (w : outParam Nat) : Prop where
 len : ∀ a, (cs a).length = w
 plain : ∀ a d, (cs a).all (noOwn d) = true
 cell : ∀ a, (cs a).all isCell = true
 noro : ∀ a, (cs a).all (noRoB 0) = true

theorem rows_length [FlatP cs w] (L : List α) : (rows cs L).length = L.length * w := rows_len FlatP.len L
theorem map_ren_rows [FlatP cs w] (f : Nat → R) (d : Nat) (L : List α) : (rows cs L).map (ren f d) = rows cs L := map_ren f (rows_all (fun a => FlatP.plain a d) L)
theorem rows_cell [FlatP cs w] (L : List α) : (rows cs L).all isCell = true := rows_all FlatP.cell L
theorem rows_noRo [FlatP cs w] (L : List α) : (rows cs L).all (noRoB 0) = true := rows_all FlatP.noro L
theorem rows_noOwn [FlatP cs w] (L : List α) (d : Nat) : (rows cs L).all (noOwn d) = true := rows_all (fun a => FlatP.plain a d) L
theorem rows_refV [FlatP cs w] (p : Nat → Bool) (L : List α) (d : Nat) : (rows cs L).all (refV p d) = true := List.all_eq_true.2 fun x hx => refV_noOwn p d x (List.all_eq_true.1 (rows_noOwn (cs := cs) L d) x hx)
theorem noRoH_rows [FlatP cs w] (L : List α) : NoRoH [some (rows cs L)] := NoRoH.of (by simp only [hpNoRo, List.all_cons, List.all_nil, rows_noRo, Bool.and_self])
theorem take_rows [FlatP cs w] (L : List α) : (rows cs L).take (L.length * w) = rows cs L := List.take_of_length_le (by rw [rows_length]; exact Nat.le_refl _)

theorem le_snap [FlatP cs w] {h : Hp} {id : Nat} {L : List α} (hid : h[id]? = some (some (rows cs L))) : LeV (ren (snapR h 3) 3 (.osl id 0 L.length w)) (.sl L.length w (rows cs L)) := by
 refine .inl ?_
 simp only [ren, snapR, hid, map_ren_rows, List.drop_zero, take_rows]
theorem le_snap' [FlatP cs w] {h : Hp} {id n : Nat} {L : List α} (hid : h[id]? = some (some (rows cs L))) (hn : n = L.length) : LeV (ren (snapR h 3) 3 (.osl id 0 n w)) (.sl L.length w (rows cs L)) := by
 subst hn; exact le_snap hid
theorem le_nil {h : Hp} {w : Nat} : LeV (ren (snapR h 3) 3 .nilsl) (.sl 0 w []) := .inr (.inr (.inl ⟨rfl, w, rfl⟩))
theorem LeV.aggR {f : Nat → R} {d : Nat} {cs cs' : List V} (h : LeA (cs.map (ren f d)) cs') : LeV (ren f (d + 1) (.agg cs)) (.agg cs') := LeV.agg h
theorem leE_snap [FlatP cs w] {h : Hp} {id n n' : Nat} {L : List α} (hid : h[id]? = some (some (rows cs L))) (hn : n = L.length) (hn' : n' = L.length) : LeE (ren (snapR h 3) 2 (.osl id 0 n w)) (.sl n' w (rows cs L)) := by
 subst hn hn'
 refine .inl ?_
 simp only [ren, snapR, hid, map_ren_rows, List.drop_zero, take_rows]
theorem lend_one [FlatP cs w] {h : Hp} {id : Nat} {fz : Bool} {L : List α} (hid : h[id]? = some (some (rows cs L))) : pickH [id] h fz = [some (rows cs L)] := by
 simp only [pickH, List.map_cons, List.map_nil, pickB, hid, map_ren_rows]
theorem isMb_cells {l : List V} (h : l.all isCell = true) : isMb l = false := by
 match l, h with
 | [], _ => rfl
 | _ :: _ :: _, _ => rfl
 | [x], h => cases x <;> first | rfl | (simp [isCell] at h)
theorem isMb_rows [FlatP cs w] (L : List α) : isMb (rows cs L) = false := isMb_cells (rows_cell L)
theorem grown_one [FlatP cs w] {L L' : List α} (h : L.length = L'.length) : grown [some (rows cs L)] [some (rows cs L')] := by
 simp [grown, rows_length, h, isMb_rows]

theorem rows_snoc (L : List α) (a : α) : rows cs L ++ cs a = rows cs (L ++ [a]) := by rw [rowsOf_append, rows_one]

theorem LeL_same {f : V → V} : ∀ {l : List V}, l.map f = l → LeL (l.map f) l
 | [], _ => trivial
 | a :: l, h => by
   simp only [List.map_cons, List.cons.injEq] at h
   exact ⟨.inl h.1.symm, LeL_same h.2⟩

def intSet (ks : List Int) : List (Value × Value) := ks.map fun k => (.int .i64 k, .bool true)
theorem intSet_has {k : Int} : ∀ {ks : List Int} (i : Nat), k ∈ ks → ∃ j, mpFind (.int .i64) (.int .i64 k) (intSet ks) i = some (some (j, .bool true))
 | x :: ks, i, h => by
   by_cases e : k = x
   · subst e
     exact ⟨i, by simp [intSet, mpFind, Instr.sameNow]⟩
   · obtain ⟨j, hj⟩ := intSet_has (i + 1) ((List.mem_cons.1 h).resolve_left e)
     have e' : (k == x) = false := by simp [e]
     exact ⟨j, by simpa [intSet, mpFind, Instr.sameNow, e'] using hj⟩
theorem intSet_not {k : Int} : ∀ {ks : List Int} (i : Nat), k ∉ ks → mpFind (.int .i64) (.int .i64 k) (intSet ks) i = some none
 | [], i, _ => rfl
 | x :: ks, i, h => by
   simp at h
   have := intSet_not (i + 1) h.2
   have e' : (k == x) = false := by simp [h.1]
   simpa [intSet, mpFind, Instr.sameNow, e'] using this
theorem intSet_put {k : Int} {ks : List Int} : mpPut (.int .i64 k) (.bool true) none (intSet ks) = intSet (ks ++ [k]) := by simp [mpPut, intSet]

theorem splice_mid {A M ns : List V} {n j : Nat} (h : A.length = n) : splice (A ++ M) (n + j) ns = A ++ splice M j ns := by
 subst h
 unfold splice
 rw [List.take_append, List.drop_append, List.take_of_length_le (by omega), List.drop_of_length_le (by omega)]
 simp only [Nat.add_sub_cancel_left, List.nil_append, List.append_assoc]
 congr 3
 congr 1
 omega
theorem splice_mid0 {A M ns : List V} {n : Nat} (h : A.length = n) : splice (A ++ M) n ns = A ++ splice M 0 ns := by
 have := splice_mid (M := M) (ns := ns) (j := 0) h
 rwa [Nat.add_zero] at this

theorem apart {L : List α} {i : Nat} (hi : i < L.length) : ∃ A B, L = A ++ L[i] :: B ∧ A.length = i ∧ A = L.take i ∧ B = L.drop (i + 1) := by
 refine ⟨L.take i, L.drop (i + 1), ?_, by simp; omega, rfl, rfl⟩
 rw [← List.drop_eq_getElem_cons hi, List.take_append_drop]

theorem range_all_succ {q : Nat → Bool} {i : Nat} (h : (List.range i).all q = true) (h1 : q i = true) : (List.range (i + 1)).all q = true := by
 rw [List.range_succ, List.all_append, h]
 simp [h1]
end

theorem leA {x y : V} (h : LeV x y := by first | exact le_snap rfl | exact .inl rfl | exact le_nil | exact le_snap' rfl (by simp) | exact LeV.aggR (by first | ((repeat' (first | exact True.intro | exact leE_snap rfl (by simp) (by simp) | exact LeE.nil | exact LeE.refl _ | refine And.intro ?_ ?_)); done) | fail)) : LeV x y := h
theorem callT.at {P : Program} {h : Hp} {g : FuncId} {a c args : List V} {K : V → Hp → Prop} {x : Tag K} {as' : List V} {r : V} {hout : Hp} (hs : Ctr P g as' [] r hout) (hle : LeL ((a ++ args ++ c).map (ren (snapR h 3) 3)) as') (hk : K r hout)
   (hro : (a ++ args ++ c).all (noOwn 3) = true ∨ NoRo r ∧ NoRoH hout := by first | exact .inl rfl | exact .inr ⟨noRo_ok 3 rfl, by first | exact NoRoH.nil | exact noRoH_rows _ | exact NoRoH.of (by simp only [hpNoRo, List.all_cons, List.all_nil, rows_noRo, Bool.and_self])⟩)
   (hrf : refOk h 4 (.fn (.func g) a c) = true ∧ args.all (refOk h 3) = true := by first | exact ⟨rfl, rfl⟩ | exact ⟨rfl, by simp [refOk, refV, refB, noOwn, rows_noOwn, rows_refV]⟩ | simp [refOk, refV, refB, noOwn, rows_noOwn, rows_refV]) : callT P h (.fn (.func g) a c) args K x :=
 callT.intro hs hle hro hrf hk
theorem callS.at {P : Program} {t : List V} {h : Hp} {k : Nat} {dst : Option Tmp} {g : FuncId} {a c args : List V} {K : St → Prop} {x : Tag K} {as' : List V} {r : V} {hout : Hp} (hs : Ctr P g as' [] r hout)
   (hle : LeL ((a ++ args ++ c).map (ren (snapR h 3) 3)) as') (hk : K (afterCall ⟨t, h, k⟩ dst r hout))
   (hro : (a ++ args ++ c).all (noOwn 3) = true ∨ NoRo r ∧ NoRoH hout := by first | exact .inl rfl | exact .inr ⟨noRo_ok 3 rfl, by first | exact NoRoH.nil | exact noRoH_rows _ | exact NoRoH.of (by simp only [hpNoRo, List.all_cons, List.all_nil, rows_noRo, Bool.and_self])⟩) : callS P ⟨t, h, k⟩ dst (.fn (.func g) a c) args K x :=
 callS.intro hs hle hro hk
theorem lendA {sel : List Nat} {h hin : Hp} {fz : Bool} (hh : pickH sel h fz = hin := by first | exact lend_one rfl | rfl | (simp only [pickH, List.map_cons, List.map_nil, pickB, List.getElem?_cons_zero, List.getElem?_cons_succ, map_ren_rows]; done)) : pickH sel h fz = hin := hh
theorem leO {x y : V} (h : LeV x y := by first | exact .inl rfl | exact LeV.aggR (by first | ((repeat' (first | exact True.intro | exact LeE.nil | exact LeE.refl _ | refine And.intro ?_ ?_)); done) | fail)) : LeV x y := h
theorem sideA {a b : Prop} (hb : b) (ha : a := by first | omega | with_reducible rfl | (show drawOk _ = true; kernel_rfl) | (simp only [rows_length, rows_cell, List.length_append, List.length_cons, List.length_nil, List.all_append, List.all_cons, List.all_nil, isCell, Nat.mul_one, Nat.one_mul, Bool.and_self]; first | done | omega)) : a ∧ b := ⟨ha, hb⟩
attribute [go_sem] Nat.le_refl Int.toNat_natCast beq_self_eq_true bne_self_eq_false decide_true decide_false eq_self ne_eq Option.some.injEq not_false_eq_true Option.map_some map_ren_rows
theorem Weak.pk {t t2 : List V} {h h2 : Hp} {k : Nat} (sel : List Nat) (ht : LeG (ren (pickF sel h true) 3) t t2) (hh : pickH sel h true = h2) (hn : sel.Nodup := by decide) (hk : ∀ j, j < k → sel[j]? = some j := by (intro j hj; cases j <;> simp_all)) : Weak ⟨t, h, k⟩ ⟨t2, h2, k⟩ := Weak.pick sel hn hk ht hh
attribute [go_sem] Nat.reduceSub Nat.reduceAdd Nat.reduceMul Nat.reduceLT Nat.reduceLeDiff Nat.reduceEqDiff Nat.reduceDiv Nat.reduceMod Int.reduceToNat Int.reduceLE Int.reduceLT Int.reduceBEq Int.reduceBNe Int.reduceNeg Int.reduceAdd Int.reduceSub Int.reduceMul reduceCtorEq
end Go.Lv
end
section
set_option maxRecDepth 100000
namespace Go.Proofs
open Go.Lv
def inB' (n a b : Int) : Bool := decide (a ≤ n) && decide (n ≤ b)
theorem inB'_iff {n a b : Int} : inB' n a b = true ↔ a ≤ n ∧ n ≤ b := by simp [inB']
theorem in_ok (n a b : Int) : Ctr Tryd.prog 79 [.int .i64 n, .int .i64 a, .int .i64 b] [] (.bool (inB' n a b)) [] := by
 refine Ctr.intro Tryd.mixed Tryd.func79 rfl Tryd.okF79 ?_
 simp -implicitDefEqProofs -dsimp only [go_sem, Tryd.ntmps79, Tryd.results79]
 refine guardT.splitT (fun h1 => ?_) (fun h1 => ?_) <;> simp -implicitDefEqProofs -dsimp only [go_sem, h1]
 · exact WeakR.of_eq (by simp [inB', h1])
 · exact WeakR.of_eq (by simp [inB', h1])
theorem l1In_ok (n a b : Int) : Ctr Tryd.prog 127 [.int .i64 n, .int .i64 a, .int .i64 b] [] (.bool (inB' n a b)) [] := by
 refine Ctr.intro Tryd.mixed Tryd.func127 rfl Tryd.okF127 ?_
 simp -implicitDefEqProofs -dsimp only [go_sem, Tryd.ntmps127, Tryd.results127]
 refine guardT.splitT (fun h1 => ?_) (fun h1 => ?_) <;> simp -implicitDefEqProofs -dsimp only [go_sem, h1]
 · exact WeakR.of_eq (by simp [inB', h1])
 · exact WeakR.of_eq (by simp [inB', h1])
theorem l1Most_ok (a b : Int) : Ctr Tryd.prog 114 [.int .i64 a, .int .i64 b] [] (.int .i64 (max a b)) [] := by
 refine Ctr.intro Tryd.mixed Tryd.func114 rfl Tryd.okF114 ?_
 simp -implicitDefEqProofs -dsimp only [go_sem, Tryd.ntmps114, Tryd.results114]
 refine condT.split (fun h1 => ?_) (fun h1 => ?_) <;> simp -implicitDefEqProofs -dsimp only [go_sem, h1]
 · exact WeakR.of_eq (by simp at h1; congr 1; omega)
 · exact WeakR.of_eq (by simp at h1; congr 1; omega)
end Go.Proofs
end
section
set_option maxRecDepth 100000
namespace Go.Proofs
open Go.Lv
def placeB (x y : Int) : Bool := inB' x 0 999 && inB' y 0 999
theorem isTick_ok (n : Int) : Ctr Tryd.prog 116 [.int .i64 n] [] (.bool (inB' n 0 1000000)) [] := by
 refine Ctr.intro Tryd.mixed Tryd.func116 rfl Tryd.okF116 ?_
 simp -implicitDefEqProofs -dsimp only [go_sem, Tryd.ntmps116, Tryd.results116]
 repeat' (first | (refine WeakR.drop' ?_ (by rfl); first | rfl | (simp [placeB, *]; done)) | ((first | refine callT.at (in_ok _ _ _) ⟨leA, leA, leA, trivial⟩ ?_ | refine callS.at (in_ok _ _ _) ⟨leA, leA, leA, trivial⟩ ?_); simp -implicitDefEqProofs -dsimp only [go_sem, *]) | (refine guardT.splitT (fun _ => ?_) (fun _ => ?_) <;> simp -implicitDefEqProofs -dsimp only [go_sem, *]) | (refine guardT.splitF (fun _ => ?_) (fun _ => ?_) <;> simp -implicitDefEqProofs -dsimp only [go_sem, *]) | (refine condT.split (fun _ => ?_) (fun _ => ?_) <;> simp -implicitDefEqProofs -dsimp only [go_sem, *]))
theorem l2Tick_ok (n : Int) : Ctr Tryd.prog 136 [.int .i64 n] [] (.bool (inB' n 0 1000000)) [] := by
 refine Ctr.intro Tryd.mixed Tryd.func136 rfl Tryd.okF136 ?_
 simp -implicitDefEqProofs -dsimp only [go_sem, Tryd.ntmps136, Tryd.results136]
 repeat' (first | (refine WeakR.drop' ?_ (by rfl); first | rfl | (simp [placeB, *]; done)) | ((first | refine callT.at (l1In_ok _ _ _) ⟨leA, leA, leA, trivial⟩ ?_ | refine callS.at (l1In_ok _ _ _) ⟨leA, leA, leA, trivial⟩ ?_); simp -implicitDefEqProofs -dsimp only [go_sem, *]) | (refine guardT.splitT (fun _ => ?_) (fun _ => ?_) <;> simp -implicitDefEqProofs -dsimp only [go_sem, *]) | (refine guardT.splitF (fun _ => ?_) (fun _ => ?_) <;> simp -implicitDefEqProofs -dsimp only [go_sem, *]) | (refine condT.split (fun _ => ?_) (fun _ => ?_) <;> simp -implicitDefEqProofs -dsimp only [go_sem, *]))
theorem isStationId_ok (n : Int) : Ctr Tryd.prog 117 [.int .i64 n] [] (.bool (inB' n 1 99)) [] := by
 refine Ctr.intro Tryd.mixed Tryd.func117 rfl Tryd.okF117 ?_
 simp -implicitDefEqProofs -dsimp only [go_sem, Tryd.ntmps117, Tryd.results117]
 repeat' (first | (refine WeakR.drop' ?_ (by rfl); first | rfl | (simp [placeB, *]; done)) | ((first | refine callT.at (in_ok _ _ _) ⟨leA, leA, leA, trivial⟩ ?_ | refine callS.at (in_ok _ _ _) ⟨leA, leA, leA, trivial⟩ ?_); simp -implicitDefEqProofs -dsimp only [go_sem, *]) | (refine guardT.splitT (fun _ => ?_) (fun _ => ?_) <;> simp -implicitDefEqProofs -dsimp only [go_sem, *]) | (refine guardT.splitF (fun _ => ?_) (fun _ => ?_) <;> simp -implicitDefEqProofs -dsimp only [go_sem, *]) | (refine condT.split (fun _ => ?_) (fun _ => ?_) <;> simp -implicitDefEqProofs -dsimp only [go_sem, *]))
end Go.Proofs
end
section
set_option maxRecDepth 100000
namespace Go.Proofs
open Go.Lv
structure Heard where
 Station : Int
 Tick : Int
def Heard.cs (r : Heard) : List V := [.int .i64 r.Station, .int .i64 r.Tick]
def Heard.v (r : Heard) : V := .agg [.int .i64 r.Station, .int .i64 r.Tick]
theorem Heard.csl (a : Heard) : a.cs.length = 2 := rfl
theorem Heard.csp (a : Heard) : a.cs.all (noOwn 2) = true := rfl
instance : FlatP Heard.cs 2 := ⟨fun _ => rfl, fun _ d => by cases d <;> rfl, fun _ => rfl, fun _ => rfl⟩
def Heard.ok (r : Heard) : Prop := i64R r.Station ∧ i64R r.Tick
abbrev Heard.rows (L : List Heard) : List V := Go.Lv.rows Heard.cs L
abbrev Heard.sl (L : List Heard) : V := .sl L.length 2 (Go.Lv.rows Heard.cs L)
abbrev Heard.zs : List V := [.int .i64 0, .int .i64 0]
def Heard.mk1 (k : Int) : Heard := ⟨k, k + 1⟩
def Heard.marks (k : Int) (n : Nat) : List Heard := (List.range n).map fun i : Nat => Heard.mk1 (k + 2 * (i : Int))
@[simp] theorem Heard.marks_len (k : Int) (n : Nat) : (Heard.marks k n).length = n := by simp [Heard.marks]
theorem filterHeard_ok (L : List Heard) (p : Heard → Bool) (fv : Nat) (vc : List V) (hvc : ∀ d, vc.all (noOwn d) = true) (hv : ∀ x, Ctr Tryd.prog fv (Heard.v x :: vc) [] (.bool (p x)) []) (hl : L.length ≤ 16777216) :
   Ctr Tryd.prog 216 [Heard.sl L, .fn (.func fv) [] vc] [] (.osl 0 0 (L.filter p).length 2) [some (rows Heard.cs (L.filter p))] := by
 refine Ctr.intro Tryd.mixed Tryd.func216 rfl Tryd.okF216 ?_
 simp -implicitDefEqProofs -dsimp only [go_sem, Tryd.ntmps216, Tryd.results216]
 have hvc2 : ∀ f d, vc.map (ren f d) = vc := fun f d => map_ren f (hvc d)
 have hstep : ∀ {i : Nat} (hi : i < L.length), (L.take (i + 1)).filter p = (L.take i).filter p ++ if p L[i] then [L[i]] else [] := fun {i} hi => by
   rw [List.take_succ_eq_append_getElem hi, List.filter_append]
   congr 1
   cases h : p L[i] <;> simp [h]
 refine LoopT.intro (fun i : Nat => i ≤ L.length) (fun i => ⟨[.undef, .fn (.func fv) [] vc, .undef, .undef, .undef, .osl 0 0 ((L.take i).filter p).length 2, .undef, .undef, .undef, Heard.sl L, .int .i64 L.length, .int .i64 i, .undef, .undef, .undef, .undef, .undef, .undef, .undef, .undef, .undef, .undef, .undef, .undef], [some (rows Heard.cs ((L.take i).filter p))], 0⟩) (fun i => L.length - i) 0 (Nat.zero_le _) ?_ (fun i hi => ?_)
 · refine Weak.cut (1) (by simp) (by simp) ?_ ?_
   · simp [LeC, LeV, ren, cutF, hvc2]
   · simp [cutH, cutB, rows]
 simp -implicitDefEqProofs -dsimp only [go_sem]
 refine condT.split (fun h1 => ?_) (fun h1 => ?_)
 · simp -implicitDefEqProofs -dsimp only [go_sem, h1]
   have hi' : i < L.length := by simpa using h1
   have hf : ((L.take i).filter p).length ≤ i := Nat.le_trans (List.length_filter_le _ _) (by simp; omega)
   have h5 := Heard.csl L[i]
   have hr := rows_at Heard.csl hi'
   (repeat1' (first | simp -implicitDefEqProofs -dsimp only [go_sem, hr, Heard.cs] | simp -dsimp (disch := omega) only [wrap_i64]))
   repeat (with_reducible refine sideA ?_)
   refine callS.intro (hv L[i]) ⟨.inl rfl, LeL_same (hvc2 _ _)⟩ (.inl (by simp only [List.nil_append, List.cons_append, List.all_cons, hvc, Bool.and_true]; rfl)) ?_
   simp -implicitDefEqProofs -dsimp only [go_sem]
   refine condT.split (fun h2 => ?_) (fun h2 => ?_) <;> simp -implicitDefEqProofs -dsimp only [go_sem, h2]
   · try (repeat1' (first | simp -implicitDefEqProofs -dsimp only [go_sem, rows_length, Nat.mul_one, rows_cell, List.length_append, List.length_cons, List.length_nil] | simp -dsimp (disch := omega) only [wrap_i64]))
     repeat (with_reducible refine sideA ?_)
     refine ⟨i + 1, hi', ?_, by omega⟩
     refine Weak.cut (1) (by simp) (by simp) ?_ ?_
     · rw [hstep hi', h2]
       simp [LeC, LeV, ren, cutF, hvc2]
     · rw [hstep hi', h2, if_pos rfl, ← rows_snoc]
       simp [cutH, cutB, map_ren_rows, killC, ren, Heard.cs]
   · refine ⟨i + 1, hi', ?_, by omega⟩
     refine Weak.cut (1) (by simp) (by simp) ?_ ?_
     · rw [hstep hi', h2, wrap_i64 (by omega) (by omega)]
       simp [LeC, LeV, ren, cutF, hvc2]
     · rw [hstep hi', h2]
       simp [cutH, cutB, map_ren_rows]
 · simp -implicitDefEqProofs -dsimp only [go_sem, h1]
   have hi' : i = L.length := by simp at h1; omega
   subst hi'
   rw [List.take_length]
   exact WeakR.refl _ _ _
theorem differHeard_ok (L : List Heard) (key : Heard → Int) (fk : Nat) (hkey : ∀ x, Ctr Tryd.prog fk [Heard.v x] [] (.int .i64 (key x)) []) (hl : L.length ≤ 281474976710656) :
   Ctr Tryd.prog 118 [Heard.sl L, .fn (.func fk) [] []] [] (.bool (decide (L.map key).Nodup)) [] := by
 refine Ctr.intro Tryd.mixed Tryd.func118 rfl Tryd.okF118 ?_
 simp -implicitDefEqProofs -dsimp only [go_sem, Tryd.ntmps118, Tryd.results118]
 refine LoopT.intro (fun i : Nat => i ≤ L.length ∧ ((L.take i).map key).Nodup) (fun i => ⟨[.undef, .fn (.func fk) [] [], .undef, .undef, .undef, .mp 0, .undef, .undef, .undef, Heard.sl L, .int .i64 L.length, .int .i64 i, .undef, .undef, .undef, .undef, .undef, .undef, .undef, .undef, .undef, .undef, .undef, .undef, .undef], [some [.mb (intSet ((L.take i).map key))]], 0⟩) (fun i => L.length - i) 0 ⟨Nat.zero_le _, by simp⟩ ?_ (fun i hi => ?_)
 · refine Weak.cut (1) (by simp) (by simp) ?_ ?_
   · simp [LeC, LeV, ren, cutF]
   · simp [cutH, cutB, ren, intSet]
 simp -implicitDefEqProofs -dsimp only [go_sem]
 refine condT.split (fun h1 => ?_) (fun h1 => ?_)
 · simp -implicitDefEqProofs -dsimp only [go_sem, h1]
   have hi' : i < L.length := by simpa using h1
   have h5 := Heard.csl L[i]
   have hr := rows_at Heard.csl hi'
   have ht : (L.take (i + 1)).map key = (L.take i).map key ++ [key L[i]] := by rw [List.take_succ_eq_append_getElem hi', List.map_append]; rfl
   (repeat1' (first | simp -implicitDefEqProofs -dsimp only [go_sem, hr, Heard.cs] | simp -dsimp (disch := omega) only [wrap_i64]))
   repeat (with_reducible refine sideA ?_)
   (first | refine callT.at (hkey L[i]) ⟨.inl rfl, trivial⟩ ?_ | refine callS.at (hkey L[i]) ⟨.inl rfl, trivial⟩ ?_)
   simp -implicitDefEqProofs -dsimp only [go_sem]
   by_cases hm : key L[i] ∈ (L.take i).map key
   · obtain ⟨j, hj⟩ := intSet_has 0 hm
     simp -implicitDefEqProofs -dsimp only [go_sem, hj]
     refine WeakR.drop' ?_ (by rfl)
     have : ¬ (L.map key).Nodup := by
       intro hn
       have h2 : ((L.take (i + 1)).map key).Nodup := (List.map_take ▸ hn.sublist (List.take_sublist _ _))
       rw [ht] at h2
       have := (List.nodup_append.1 h2).2.2 _ hm (key L[i]) (by simp)
       exact this rfl
     rw [decide_eq_false this]
   · have hj := intSet_not 0 hm
     simp -implicitDefEqProofs -dsimp only [go_sem, hj]
     (first | refine callT.at (hkey L[i]) ⟨.inl rfl, trivial⟩ ?_ | refine callS.at (hkey L[i]) ⟨.inl rfl, trivial⟩ ?_)
     simp -implicitDefEqProofs -dsimp only [go_sem, hj, intSet_put]
     refine ⟨i + 1, ⟨hi', ?_⟩, ?_, by omega⟩
     · rw [ht, List.nodup_append]
       exact ⟨hi.2, by simp, fun a ha b hb => by simp at hb; subst hb; rintro rfl; exact hm ha⟩
     refine Weak.cut (1) (by simp) (by simp) ?_ ?_
     · rw [wrap_i64 (by omega) (by omega)]
       simp [LeC, LeV, ren, cutF]
     · rw [ht]
       simp [cutH, cutB, ren]
 · simp -implicitDefEqProofs -dsimp only [go_sem, h1]
   have hi' : i = L.length := by simp at h1; omega
   subst hi'
   have h2 := hi.2
   rw [List.take_length] at h2
   exact WeakR.drop' (by rw [decide_eq_true h2]) (by rfl)
end Go.Proofs
end
section
set_option maxRecDepth 100000
namespace Go.Proofs
open Go.Lv
structure Alarm where
 Now : Int
 State : Int
 Heard : List Heard
 Given : Int
 Cancelled : Int
def Alarm.cs (r : Alarm) : List V := [.int .i64 r.Now, .int .i64 r.State, .sl r.Heard.length 2 (Go.Lv.rows Heard.cs r.Heard), .int .i64 r.Given, .int .i64 r.Cancelled]
def Alarm.v (r : Alarm) : V := .agg [.int .i64 r.Now, .int .i64 r.State, .sl r.Heard.length 2 (Go.Lv.rows Heard.cs r.Heard), .int .i64 r.Given, .int .i64 r.Cancelled]
def Alarm.o (r : Alarm) (i0 : Nat) : V := .agg [.int .i64 r.Now, .int .i64 r.State, .osl i0 0 r.Heard.length 2, .int .i64 r.Given, .int .i64 r.Cancelled]
theorem Alarm.csl (a : Alarm) : a.cs.length = 5 := rfl
def Alarm.ok (r : Alarm) : Prop := i64R r.Now ∧ i64R r.State ∧ lstR Heard.ok r.Heard ∧ i64R r.Given ∧ i64R r.Cancelled
theorem Alarm.le {h : Hp} {r : Alarm} {i0 : Nat} (h0 : h[i0]? = some (some (rows Heard.cs r.Heard))) : LeV (ren (snapR h 3) 3 (r.o i0)) r.v := by
 refine .inl ?_
 simp only [Alarm.o, Alarm.v, ren, List.map_cons, List.map_nil, snapR, h0, map_ren_rows, List.drop_zero, take_rows]
end Go.Proofs
end
section
namespace Go.Lv
def idxI {α : Type} (p : α → Bool) (L : List α) : Int := match L.findIdx? p with
 | some i => i
 | none => -1
theorem idxI_found {α : Type} {p : α → Bool} {L : List α} {i : Nat} (h : i < L.length) (h0 : (L.take i).any p = false) (h1 : p L[i] = true) : idxI p L = i := by
 have : L.findIdx? p = some i := by
   rw [List.findIdx?_eq_some_iff_getElem]
   refine ⟨h, h1, fun j hj => ?_⟩
   have := List.any_eq_false.1 h0 L[j] (by rw [List.mem_take_iff_getElem]; exact ⟨j, by omega, rfl⟩)
   simpa using this
 simp [idxI, this]
theorem idxI_none {α : Type} {p : α → Bool} {L : List α} (h : L.any p = false) : idxI p L = -1 := by
 have : L.findIdx? p = none := by
   rw [List.findIdx?_eq_none_iff]
   intro x hx
   have := List.any_eq_false.1 h x hx
   simpa using this
 simp [idxI, this]
theorem idxI_any {α : Type} (p : α → Bool) (L : List α) : decide (0 ≤ idxI p L) = L.any p := by
 unfold idxI
 cases h : L.findIdx? p with
 | none =>
   rw [List.findIdx?_eq_none_iff] at h
   symm
   rw [show decide ((0 : Int) ≤ -1) = false from rfl, List.any_eq_false]
   intro x hx
   simp [h x hx]
 | some i =>
   rw [List.findIdx?_eq_some_iff_getElem] at h
   obtain ⟨hi, h1, _⟩ := h
   symm
   rw [show decide ((0 : Int) ≤ (i : Int)) = true from decide_eq_true (by omega), List.any_eq_true]
   exact ⟨_, List.getElem_mem hi, h1⟩
end Go.Lv
end
section
set_option maxRecDepth 100000
namespace Go.Proofs
open Go.Lv
theorem indexFuncHeard_ok (L : List Heard) (p : Heard → Bool) (fv : Nat) (vc : List V) (hvc : ∀ d, vc.all (noOwn d) = true) (hv : ∀ x, Ctr Tryd.prog fv (Heard.v x :: vc) [] (.bool (p x)) []) (hl : L.length ≤ 281474976710656) :
   Ctr Tryd.prog 169 [Heard.sl L, .fn (.func fv) [] vc] [] (.int .i64 (idxI p L)) [] := by
 refine Ctr.intro Tryd.mixed Tryd.func169 rfl Tryd.okF169 ?_
 simp -implicitDefEqProofs -dsimp only [go_sem, Tryd.ntmps169, Tryd.results169]
 have hvc2 : ∀ f d, vc.map (ren f d) = vc := fun f d => map_ren f (hvc d)
 refine LoopT.intro (fun i : Nat => i ≤ L.length ∧ (L.take i).any p = false) (fun i => ⟨[Heard.sl L, .fn (.func fv) [] vc, .undef, .undef, .undef, .undef, .undef, .int .i64 L.length, .int .i64 i, .undef, .undef, .undef, .undef, .undef, .undef, .undef, .undef, .undef, .undef], [], 0⟩) (fun i => L.length - i) 0 ⟨Nat.zero_le _, rfl⟩ ?_ (fun i hi => ?_)
 · refine Weak.cut (0) (by simp) (by simp) ?_ ?_
   · simp [LeC, LeV, ren, cutF, hvc2]
   · rfl
 simp -implicitDefEqProofs -dsimp only [go_sem]
 refine condT.split (fun h1 => ?_) (fun h1 => ?_)
 · simp -implicitDefEqProofs -dsimp only [go_sem, h1]
   have hi' : i < L.length := by simpa using h1
   have h5 := Heard.csl L[i]
   have hr := rows_at Heard.csl hi'
   (repeat1' (first | simp -implicitDefEqProofs -dsimp only [go_sem, hr, Heard.cs] | simp -dsimp (disch := omega) only [wrap_i64]))
   repeat (with_reducible refine sideA ?_)
   refine callS.intro (hv L[i]) ⟨.inl rfl, LeL_same (hvc2 _ _)⟩ (.inl (by simp only [List.nil_append, List.cons_append, List.all_cons, hvc, Bool.and_true]; rfl)) ?_
   simp -implicitDefEqProofs -dsimp only [go_sem]
   refine condT.split (fun h2 => ?_) (fun h2 => ?_) <;> simp -implicitDefEqProofs -dsimp only [go_sem, h2]
   · exact WeakR.drop' (by rw [idxI_found hi' hi.2 h2]) (by rfl)
   · refine ⟨i + 1, ⟨hi', by rw [List.take_succ_eq_append_getElem hi']; simp only [List.any_append, hi.2, List.any_cons, h2, List.any_nil, Bool.or_self]⟩, ?_, by omega⟩
     refine Weak.cut (0) (by simp) (by simp) ?_ ?_
     · rw [wrap_i64 (by omega) (by omega)]
       simp [LeC, LeV, ren, cutF, hvc2]
     · rfl
 · simp -implicitDefEqProofs -dsimp only [go_sem, h1]
   have hi' : i = L.length := by simp at h1; omega
   subst hi'
   have h2 := hi.2
   rw [List.take_length] at h2
   exact WeakR.drop' (by rw [idxI_none h2]) (by rfl)
theorem containsFuncHeard_ok (L : List Heard) (p : Heard → Bool) (fv : Nat) (vc : List V) (hvc : ∀ d, vc.all (noOwn d) = true) (hv : ∀ x, Ctr Tryd.prog fv (Heard.v x :: vc) [] (.bool (p x)) []) (hl : L.length ≤ 281474976710656) :
   Ctr Tryd.prog 120 [Heard.sl L, .fn (.func fv) [] vc] [] (.bool (L.any p)) [] := by
 refine Ctr.intro Tryd.mixed Tryd.func120 rfl Tryd.okF120 ?_
 simp -implicitDefEqProofs -dsimp only [go_sem, Tryd.ntmps120, Tryd.results120]
 have hvc2 : ∀ f d, vc.map (ren f d) = vc := fun f d => map_ren f (hvc d)
 refine callS.intro (indexFuncHeard_ok L p fv vc hvc hv hl) ⟨.inl rfl, .inl (by simp [ren, hvc2]), trivial⟩ (.inl (by simp [noOwn, hvc])) ?_
 simp -implicitDefEqProofs -dsimp only [go_sem]
 exact WeakR.drop' (by rw [idxI_any]) (by rfl)
theorem indexFuncFHeard_ok (L : List Heard) (p : Heard → Bool) (fv : Nat) (fa : V) (hf2 : noOwn 2 fa = true) (hf3 : noOwn 3 fa = true) (hv : ∀ x, Ctr Tryd.prog fv [fa, Heard.v x] [] (.bool (p x)) []) (hl : L.length ≤ 281474976710656) :
   Ctr Tryd.prog 169 [Heard.sl L, .fn (.func fv) [fa] []] [] (.int .i64 (idxI p L)) [] := by
 refine Ctr.intro Tryd.mixed Tryd.func169 rfl Tryd.okF169 ?_
 simp -implicitDefEqProofs -dsimp only [go_sem, Tryd.ntmps169, Tryd.results169]
 have hr2 : ∀ f, ren f 2 fa = fa := fun f => ren_noOwn f 2 fa hf2
 have hr3 : ∀ f, ren f 3 fa = fa := fun f => ren_noOwn f 3 fa hf3
 refine LoopT.intro (fun i : Nat => i ≤ L.length ∧ (L.take i).any p = false) (fun i => ⟨[Heard.sl L, .fn (.func fv) [fa] [], .undef, .undef, .undef, .undef, .undef, .int .i64 L.length, .int .i64 i, .undef, .undef, .undef, .undef, .undef, .undef, .undef, .undef, .undef, .undef], [], 0⟩) (fun i => L.length - i) 0 ⟨Nat.zero_le _, rfl⟩ ?_ (fun i hi => ?_)
 · refine Weak.cut (0) (by simp) (by simp) ?_ ?_
   · simp [LeC, LeV, ren, cutF, hr2]
   · rfl
 simp -implicitDefEqProofs -dsimp only [go_sem]
 refine condT.split (fun h1 => ?_) (fun h1 => ?_)
 · simp -implicitDefEqProofs -dsimp only [go_sem, h1]
   have hi' : i < L.length := by simpa using h1
   have h5 := Heard.csl L[i]
   have hr := rows_at Heard.csl hi'
   (repeat1' (first | simp -implicitDefEqProofs -dsimp only [go_sem, hr, Heard.cs] | simp -dsimp (disch := omega) only [wrap_i64]))
   repeat (with_reducible refine sideA ?_)
   refine callS.intro (hv L[i]) ⟨.inl (hr3 _).symm, .inl rfl, trivial⟩ (.inl (by simp only [List.append_nil, List.nil_append, List.cons_append, List.all_cons, hf3, Bool.and_true, Bool.true_and]; rfl)) ?_
   simp -implicitDefEqProofs -dsimp only [go_sem]
   refine condT.split (fun h2 => ?_) (fun h2 => ?_) <;> simp -implicitDefEqProofs -dsimp only [go_sem, h2]
   · exact WeakR.drop' (by rw [idxI_found hi' hi.2 h2]) (by rfl)
   · refine ⟨i + 1, ⟨hi', by rw [List.take_succ_eq_append_getElem hi']; simp only [List.any_append, hi.2, List.any_cons, h2, List.any_nil, Bool.or_self]⟩, ?_, by omega⟩
     refine Weak.cut (0) (by simp) (by simp) ?_ ?_
     · rw [wrap_i64 (by omega) (by omega)]
       simp [LeC, LeV, ren, cutF, hr2]
     · rfl
 · simp -implicitDefEqProofs -dsimp only [go_sem, h1]
   have hi' : i = L.length := by simp at h1; omega
   subst hi'
   have h2 := hi.2
   rw [List.take_length] at h2
   exact WeakR.drop' (by rw [idxI_none h2]) (by rfl)
theorem containsFuncFHeard_ok (L : List Heard) (p : Heard → Bool) (fv : Nat) (fa : V) (hf2 : noOwn 2 fa = true) (hf3 : noOwn 3 fa = true) (hv : ∀ x, Ctr Tryd.prog fv [fa, Heard.v x] [] (.bool (p x)) []) (hl : L.length ≤ 281474976710656) :
   Ctr Tryd.prog 120 [Heard.sl L, .fn (.func fv) [fa] []] [] (.bool (L.any p)) [] := by
 refine Ctr.intro Tryd.mixed Tryd.func120 rfl Tryd.okF120 ?_
 simp -implicitDefEqProofs -dsimp only [go_sem, Tryd.ntmps120, Tryd.results120]
 have hr2 : ∀ f, ren f 2 fa = fa := fun f => ren_noOwn f 2 fa hf2
 refine callS.intro (indexFuncFHeard_ok L p fv fa hf2 hf3 hv hl) ⟨.inl rfl, .inl (by simp [ren, hr2]), trivial⟩ (.inl (by simp [noOwn, hf2])) ?_
 simp -implicitDefEqProofs -dsimp only [go_sem]
 exact WeakR.drop' (by rw [idxI_any]) (by rfl)
end Go.Proofs
end
section
set_option maxRecDepth 100000
set_option maxHeartbeats 1000000
namespace Go.Proofs
open Go.Lv
def heardB (now : Int) (h : Heard) : Bool := inB' h.Station 1 99 && inB' h.Tick 0 now
theorem heardB_iff {now : Int} {h : Heard} : heardB now h = true ↔ (1 ≤ h.Station ∧ h.Station ≤ 99) ∧ 0 ≤ h.Tick ∧ h.Tick ≤ now := by simp [heardB, inB']
def hQ (now : Int) (L : List Heard) (i : Nat) : Bool :=
 match L[i]? with
 | none => true
 | some x => heardB now x && match i with
   | 0 => true
   | j + 1 => match L[j]? with
     | none => true
     | some y => decide (y.Tick ≤ x.Tick)
theorem hQ_zero {now : Int} {L : List Heard} (h0 : 0 < L.length) : hQ now L 0 = heardB now L[0] := by simp [hQ, h0]
theorem hQ_succ {now : Int} {L : List Heard} {j : Nat} (h : j + 1 < L.length) : hQ now L (j + 1) = (heardB now L[j + 1] && decide ((L[j]'(by omega)).Tick ≤ L[j + 1].Tick)) := by
 have : j < L.length := by omega
 simp [hQ, h, this]
def listB (now : Int) (L : List Heard) : Bool := (List.range L.length).all (hQ now L)
def acountB (a : Alarm) : Bool := inB' a.Now 0 1000000 && inB' a.State 0 3 && inB' a.Cancelled 0 a.Given && decide (a.Given ≤ 999)
def stateB (s : Int) (n : Nat) : Bool := if s = 1 then inB' n 1 2 else if s = 2 then inB' n 3 8 else decide (n = 0)
def freshB (a : Alarm) : Bool := decide (a.State ≠ 1) || a.Heard.all fun h => decide (a.Now - h.Tick ≤ 500)
def alarmB (a : Alarm) : Bool := acountB a && stateB a.State a.Heard.length && listB a.Now a.Heard && decide (a.Heard.map Heard.Station).Nodup && freshB a
theorem acountB_iff {a : Alarm} : acountB a = true ↔ (0 ≤ a.Now ∧ a.Now ≤ 1000000) ∧ (0 ≤ a.State ∧ a.State ≤ 3) ∧ (0 ≤ a.Cancelled ∧ a.Cancelled ≤ a.Given) ∧ a.Given ≤ 999 := by simp [acountB, inB', and_assoc]
theorem stateB_len {s : Int} {n : Nat} (h : stateB s n = true) : n ≤ 8 := by
 unfold stateB at h; split at h
 · have := inB'_iff.1 h; omega
 · split at h
   · have := inB'_iff.1 h; omega
   · simp at h; omega
theorem listB_all {now : Int} {L : List Heard} (h : listB now L = true) : ∀ x ∈ L, heardB now x = true := by
 intro x hx
 obtain ⟨i, hi, rfl⟩ := List.getElem_of_mem hx
 have := List.all_eq_true.1 h i (List.mem_range.2 hi)
 simp only [hQ, List.getElem?_eq_getElem hi, Bool.and_eq_true] at this
 exact this.1
theorem listB_mono {now : Int} {L : List Heard} (h : listB now L = true) : ∀ i (hi : i < L.length), (L[0]'(by omega)).Tick ≤ L[i].Tick
 | 0, _ => Int.le_refl _
 | i + 1, hi => by
   have ih := listB_mono h i (by omega)
   have := List.all_eq_true.1 h (i + 1) (List.mem_range.2 hi)
   rw [hQ_succ hi] at this
   simp at this
   omega
structure AlarmOk (a : Alarm) : Prop where
 now : 0 ≤ a.Now ∧ a.Now ≤ 1000000
 state : 0 ≤ a.State ∧ a.State ≤ 3
 canc : 0 ≤ a.Cancelled ∧ a.Cancelled ≤ a.Given
 given : a.Given ≤ 999
 st : stateB a.State a.Heard.length = true
 len : a.Heard.length ≤ 8
 lst : listB a.Now a.Heard = true
 heard : ∀ x ∈ a.Heard, heardB a.Now x = true
 nodup : (a.Heard.map Heard.Station).Nodup
 fresh : freshB a = true
theorem alarmB_ok {a : Alarm} (h : alarmB a = true) : AlarmOk a := by
 simp only [alarmB, Bool.and_eq_true, decide_eq_true_eq] at h
 obtain ⟨⟨⟨⟨h1, h2⟩, h3⟩, h4⟩, h5⟩ := h
 obtain ⟨a1, a2, a3, a4⟩ := acountB_iff.1 h1
 exact ⟨a1, a2, a3, a4, h2, stateB_len h2, h3, listB_all h3, h4, h5⟩
theorem isOld_ok (a : Alarm) (h : Heard) : Ctr Tryd.prog 121 [a.v, h.v] [] (.bool (decide (500 < IntKind.i64.wrap (a.Now - h.Tick)))) [] := by
 refine Ctr.intro Tryd.mixed Tryd.func121 rfl Tryd.okF121 ?_
 simp -implicitDefEqProofs -dsimp only [go_sem, Tryd.ntmps121, Tryd.results121]
 simp -implicitDefEqProofs -dsimp only [go_sem, Alarm.v, Heard.v]
 exact WeakR.drop' rfl (by rfl)
theorem fresh_any {a : Alarm} (h : AlarmOk a ∨ (0 ≤ a.Now ∧ a.Now ≤ 1000000) ∧ ∀ x ∈ a.Heard, heardB a.Now x = true) : (!(a.Heard.any fun h => decide (500 < IntKind.i64.wrap (a.Now - h.Tick)))) = a.Heard.all fun h => decide (a.Now - h.Tick ≤ 500) := by
 have hh : (0 ≤ a.Now ∧ a.Now ≤ 1000000) ∧ ∀ x ∈ a.Heard, heardB a.Now x = true := by
   rcases h with h | h
   · exact ⟨h.now, h.heard⟩
   · exact h
 rw [Bool.eq_iff_iff, Bool.not_eq_true', List.any_eq_false, List.all_eq_true]
 constructor
 · intro g x hx
   have h1 := g x hx
   have h2 := heardB_iff.1 (hh.2 x hx)
   rw [wrap_i64 (by omega) (by omega)] at h1
   simp at h1 ⊢; omega
 · intro g x hx
   have h1 := g x hx
   have h2 := heardB_iff.1 (hh.2 x hx)
   rw [wrap_i64 (by omega) (by omega)]
   simp at h1 ⊢; omega
theorem l21Count_ok (s : Int) (n : Nat) : Ctr Tryd.prog 163 [.int .i64 s, .int .i64 n] [] (.bool (stateB s n)) [] := by
 refine Ctr.intro Tryd.mixed Tryd.func163 rfl Tryd.okF163 ?_
 simp -implicitDefEqProofs -dsimp only [go_sem, Tryd.ntmps163, Tryd.results163]
 refine condT.split (fun h1 => ?_) (fun h1 => ?_) <;> simp -implicitDefEqProofs -dsimp only [go_sem, h1]
 · (first | refine callT.at (l1In_ok _ _ _) ⟨leA, leA, leA, trivial⟩ ?_ | refine callS.at (l1In_ok _ _ _) ⟨leA, leA, leA, trivial⟩ ?_)
   simp -implicitDefEqProofs -dsimp only [go_sem]
   exact WeakR.drop' (by rw [stateB, if_pos (by simpa using h1)]) (by rfl)
 · refine condT.split (fun h2 => ?_) (fun h2 => ?_) <;> simp -implicitDefEqProofs -dsimp only [go_sem, h2]
   · (first | refine callT.at (l1In_ok _ _ _) ⟨leA, leA, leA, trivial⟩ ?_ | refine callS.at (l1In_ok _ _ _) ⟨leA, leA, leA, trivial⟩ ?_)
     simp -implicitDefEqProofs -dsimp only [go_sem]
     exact WeakR.drop' (by rw [stateB, if_neg (by simpa using h1), if_pos (by simpa using h2)]) (by rfl)
   · exact WeakR.drop' (by rw [stateB, if_neg (by simpa using h1), if_neg (by simpa using h2)]; congr 1; rw [Bool.eq_iff_iff]; simp) (by rfl)
theorem l21Has_ok (L : List Heard) (s : Int) (hl : L.length ≤ 281474976710656) : Ctr Tryd.prog 164 [Heard.sl L, .int .i64 s] [] (.bool (L.any fun h => h.Station == s)) [] := by
 refine Ctr.intro Tryd.mixed Tryd.func164 rfl Tryd.okF164 ?_
 simp -implicitDefEqProofs -dsimp only [go_sem, Tryd.ntmps164, Tryd.results164]
 refine LoopT.intro (fun i : Nat => i ≤ L.length ∧ (L.take i).any (fun h => h.Station == s) = false) (fun i => ⟨[Heard.sl L, .int .i64 s, .undef, .undef, .undef, .int .i64 i, .undef, .undef, .undef, .undef, .undef, .undef, .undef, .undef, .undef, .undef, .undef, .undef, .undef], [], 0⟩) (fun i => L.length - i) 0 ⟨Nat.zero_le _, rfl⟩ ?_ (fun i hi => ?_)
 · refine Weak.cut (0) (by simp) (by simp) ?_ ?_
   · simp [LeC, LeV, ren, cutF]
   · rfl
 simp -implicitDefEqProofs -dsimp only [go_sem]
 refine condT.split (fun h1 => ?_) (fun h1 => ?_)
 · simp -implicitDefEqProofs -dsimp only [go_sem, h1]
   have hi' : i < L.length := by simpa using h1
   have hr := rows_at Heard.csl hi'
   (repeat ((repeat1' (first | simp -implicitDefEqProofs -dsimp only [go_sem, hr, Heard.cs] | simp -dsimp (disch := omega) only [wrap_i64])); repeat (with_reducible refine sideA ?_)))
   refine condT.split (fun h2 => ?_) (fun h2 => ?_) <;> (repeat ((repeat1' (first | simp -implicitDefEqProofs -dsimp only [go_sem, h2] | simp -dsimp (disch := omega) only [wrap_i64])); repeat (with_reducible refine sideA ?_)))
   · refine WeakR.drop' ?_ (by rfl)
     congr 1
     symm
     rw [List.any_eq_true]
     exact ⟨_, List.getElem_mem hi', h2⟩
   · refine ⟨i + 1, ⟨hi', by rw [List.take_succ_eq_append_getElem hi']; simp only [List.any_append, hi.2, List.any_cons, h2, List.any_nil, Bool.or_self]⟩, ?_, by omega⟩
     refine Weak.cut (0) (by simp) (by simp) ?_ ?_
     · simp [LeC, LeV, ren, cutF]
     · rfl
 · simp -implicitDefEqProofs -dsimp only [go_sem, h1]
   have hi' : i = L.length := by simp at h1; omega
   subst hi'
   have h2 := hi.2
   rw [List.take_length] at h2
   exact WeakR.drop' (by rw [h2]) (by rfl)
theorem stOf_ok (h : Heard) : Ctr Tryd.prog 119 [h.v] [] (.int .i64 h.Station) [] := by
 refine Ctr.intro Tryd.mixed Tryd.func119 rfl Tryd.okF119 ?_
 simp -implicitDefEqProofs -dsimp only [go_sem, Tryd.ntmps119, Tryd.results119]
 simp -implicitDefEqProofs -dsimp only [go_sem, Heard.v]
 exact WeakR.drop' rfl (by rfl)
theorem iIsAlarm_ok (a : Alarm) (hl : a.Heard.length ≤ 281474976710656) : Ctr Tryd.prog 60 [a.v] [] (.bool (alarmB a)) [] := by
 refine Ctr.intro Tryd.mixed Tryd.func60 rfl Tryd.okF60 ?_
 simp -implicitDefEqProofs -dsimp only [go_sem, Tryd.ntmps60, Tryd.results60]
 simp -implicitDefEqProofs -dsimp only [go_sem, Alarm.v]
 have bad : ∀ h, alarmB a = false → WeakR 0 (.bool false) h (.bool (alarmB a)) [] := fun h e => WeakR.drop' (by rw [e]) (by rfl)
 (first | refine callT.at (isTick_ok _) ⟨leA, trivial⟩ ?_ | refine callS.at (isTick_ok _) ⟨leA, trivial⟩ ?_)
 simp -implicitDefEqProofs -dsimp only [go_sem]
 refine guardT.splitF (fun h1 => ?_) (fun h1 => ?_) <;> simp -implicitDefEqProofs -dsimp only [go_sem, h1]
 rotate_left
 · exact bad _ (by simp at h1; simp [alarmB, acountB, h1])
 refine guardT.splitF (fun h2 => ?_) (fun h2 => ?_) <;> simp -implicitDefEqProofs -dsimp only [go_sem, h2]
 rotate_left
 · refine bad _ ?_
   cases h : alarmB a with
   | false => rfl
   | true => have := (alarmB_ok h).len; simp at h2; omega
 (first | refine callT.at (in_ok _ _ _) ⟨leA, leA, leA, trivial⟩ ?_ | refine callS.at (in_ok _ _ _) ⟨leA, leA, leA, trivial⟩ ?_)
 simp -implicitDefEqProofs -dsimp only [go_sem]
 refine guardT.splitF (fun h3 => ?_) (fun h3 => ?_) <;> simp -implicitDefEqProofs -dsimp only [go_sem, h3]
 rotate_left
 · exact bad _ (by simp at h3; simp [alarmB, acountB, h3])
 refine condT.split (fun h4 => ?_) (fun h4 => ?_) <;> simp -implicitDefEqProofs -dsimp only [go_sem, h4]
 · refine bad _ ?_
   cases h : alarmB a with
   | false => rfl
   | true => have := (alarmB_ok h).given; simp at h4; omega
 have hn : 0 ≤ a.Now ∧ a.Now ≤ 1000000 := inB'_iff.1 (by simpa using h1)
 have h8 : a.Heard.length ≤ 8 := by simp at h2; omega
 refine LoopT.intro (fun i : Nat => i ≤ a.Heard.length ∧ (List.range i).all (hQ a.Now a.Heard) = true) (fun i => ⟨[.undef, .ptr 0 0, .undef, .int .i64 a.Heard.length, .undef, .undef, .undef, .undef, .undef, .undef, .undef, .undef, .undef, .undef, .undef, .undef, .undef, .undef, .undef, .undef, .undef, .undef, .undef, .undef, .undef, .undef, .undef, .undef, .undef, .undef, .undef, Heard.sl a.Heard, .int .i64 a.Heard.length, .int .i64 i, .undef, .undef, .undef, .undef, .undef, .undef, .undef, .undef, .undef, .undef, .undef, .undef, .undef, .undef, .undef, .undef, .undef, .undef, .undef, .undef, .undef, .undef, .undef, .undef, .undef, .undef, .undef, .undef, .undef, .undef, .undef, .undef, .undef, .undef, .undef, .undef, .undef, .undef, .undef, .undef, .undef, .undef, .undef, .undef, .undef, .undef, .undef, .undef, .undef, .undef, .undef, .undef, .undef, .undef, .undef, .undef, .undef, .undef, .undef, .undef, .undef, .undef, .undef], [some a.cs], 0⟩) (fun i => a.Heard.length - i) 0 ⟨Nat.zero_le _, rfl⟩ ?_ (fun i hi => ?_)
 · refine Weak.cut (1) (by simp) (by simp) ?_ ?_
   · simp [LeC, LeV, ren, cutF]
   · simp [cutH, cutB, ren, Alarm.cs]
 have badq : ∀ h, i < a.Heard.length → hQ a.Now a.Heard i = false → WeakR 0 (.bool false) h (.bool (alarmB a)) [] := fun h hlt hq => bad h (by
   cases h : alarmB a with
   | false => rfl
   | true => have := List.all_eq_true.1 (alarmB_ok h).lst i (List.mem_range.2 hlt); rw [hq] at this; cases this)
 simp -implicitDefEqProofs -dsimp only [go_sem, Alarm.cs]
 refine condT.split (fun g1 => ?_) (fun g1 => ?_)
 · simp -implicitDefEqProofs -dsimp only [go_sem, g1]
   have hi' : i < a.Heard.length := by simpa using g1
   have h5 := Heard.csl a.Heard[i]
   have hr := rows_at Heard.csl hi'
   (repeat ((repeat1' (first | simp -implicitDefEqProofs -dsimp only [go_sem, hr, Heard.cs, Alarm.cs] | simp -dsimp (disch := omega) only [wrap_i64])); repeat (with_reducible refine sideA ?_)))
   (first | refine callT.at (isStationId_ok _) ⟨leA, trivial⟩ ?_ | refine callS.at (isStationId_ok _) ⟨leA, trivial⟩ ?_)
   simp -implicitDefEqProofs -dsimp only [go_sem]
   refine guardT.splitF (fun g2 => ?_) (fun g2 => ?_) <;> simp -implicitDefEqProofs -dsimp only [go_sem, g2, Alarm.cs]
   rotate_left
   · refine badq _ hi' ?_
     simp at g2
     simp [hQ, hi', heardB, g2]
   (first | refine callT.at (in_ok _ _ _) ⟨leA, leA, leA, trivial⟩ ?_ | refine callS.at (in_ok _ _ _) ⟨leA, leA, leA, trivial⟩ ?_)
   simp -implicitDefEqProofs -dsimp only [go_sem]
   refine guardT.splitF (fun g3 => ?_) (fun g3 => ?_) <;> simp -implicitDefEqProofs -dsimp only [go_sem, g3, Alarm.cs]
   rotate_left
   · refine badq _ hi' ?_
     simp at g3
     simp [hQ, hi', heardB, g3]
   have hv : heardB a.Now a.Heard[i] = true := by simp at g2 g3; simp [heardB, g2, g3]
   refine guardT.splitT (fun g4 => ?_) (fun g4 => ?_) <;> simp -implicitDefEqProofs -dsimp only [go_sem, g4, Alarm.cs]
   · obtain ⟨j, rfl⟩ : ∃ j, i = j + 1 := ⟨i - 1, by simp at g4; omega⟩
     have hj : j < a.Heard.length := by omega
     have hw1 : IntKind.i64.wrap (((j + 1 : Nat) : Int) - 1) = (j : Int) := by rw [wrap_i64 (by omega) (by omega)]; omega
     have hr2 := rows_at Heard.csl hj
     have h6 := Heard.csl a.Heard[j]
     (repeat ((repeat1' (first | simp -implicitDefEqProofs -dsimp only [go_sem, hr, hw1, hr2, Heard.cs, Alarm.cs] | simp -dsimp (disch := omega) only [wrap_i64])); repeat (with_reducible refine sideA ?_)))
     refine condT.split (fun g5 => ?_) (fun g5 => ?_) <;> (repeat ((repeat1' (first | simp -implicitDefEqProofs -dsimp only [go_sem, g5, hr, hr2, Heard.cs, Alarm.cs] | simp -dsimp (disch := omega) only [wrap_i64])); repeat (with_reducible refine sideA ?_)))
     · refine badq _ hi' ?_
       rw [hQ_succ hi', hv]
       simp at g5 ⊢; omega
     · refine ⟨j + 1 + 1, ⟨hi', range_all_succ hi.2 (by rw [hQ_succ hi', hv]; simp at g5 ⊢; omega)⟩, ?_, by omega⟩
       refine Weak.cut (1) (by simp) (by simp) ?_ ?_
       · simp [LeC, LeV, ren, cutF]
       · simp [cutH, cutB, ren, Alarm.cs]
   · have h0 : i = 0 := by simp at g4; omega
     subst h0
     try (repeat1' (first | simp -implicitDefEqProofs -dsimp only [go_sem] | simp -dsimp (disch := omega) only [wrap_i64]))
     refine ⟨1, ⟨hi', range_all_succ hi.2 (by rw [hQ_zero hi', hv])⟩, ?_, by omega⟩
     refine Weak.cut (1) (by simp) (by simp) ?_ ?_
     · simp [LeC, LeV, ren, cutF]
     · simp [cutH, cutB, ren, Alarm.cs]
 · simp -implicitDefEqProofs -dsimp only [go_sem, g1, Alarm.cs]
   have hi' : i = a.Heard.length := by simp at g1; omega
   subst hi'
   have hlst : listB a.Now a.Heard = true := hi.2
   have hall := listB_all hlst
   (first | refine callT.at (differHeard_ok a.Heard Heard.Station _ stOf_ok hl) ⟨leA, leA, trivial⟩ ?_ | refine callS.at (differHeard_ok a.Heard Heard.Station _ stOf_ok hl) ⟨leA, leA, trivial⟩ ?_)
   simp -implicitDefEqProofs -dsimp only [go_sem]
   refine condT.split (fun g2 => ?_) (fun g2 => ?_) <;> simp -implicitDefEqProofs -dsimp only [go_sem, g2, Alarm.cs]
   · exact bad _ (by simp at g2; simp [alarmB, g2])
   have hnd : decide (a.Heard.map Heard.Station).Nodup = true := by simpa using g2
   have hac : acountB a = inB' a.State 0 3 := by
     simp at h1 h3 h4
     simp [acountB, h1, h3, h4]
   have hal : alarmB a = (inB' a.State 0 3 && stateB a.State a.Heard.length && freshB a) := by
     rw [alarmB, hac, hlst, hnd]; simp
   have e0 : ∀ n : Nat, ((n : Int) == 0) = decide (n = 0) := fun n => by rw [Bool.eq_iff_iff]; simp
   by_cases s0 : a.State = 0
   · have c0 : (a.State == 0) = true := by simp [s0]
     simp -implicitDefEqProofs -dsimp only [go_sem, c0, e0]
     exact WeakR.drop' (by rw [hal]; simp [s0, inB', stateB, freshB]) (by rfl)
   have c0 : (a.State == 0) = false := by simp [s0]
   by_cases s3 : a.State = 3
   · have c3 : (a.State == 3) = true := by simp [s3]
     simp -implicitDefEqProofs -dsimp only [go_sem, c0, c3, e0]
     exact WeakR.drop' (by rw [hal]; simp [s3, inB', stateB, freshB]) (by rfl)
   have c3 : (a.State == 3) = false := by simp [s3]
   by_cases s1 : a.State = 1
   · have c1 : (a.State == 1) = true := by simp [s1]
     simp -implicitDefEqProofs -dsimp only [go_sem, c0, c3, c1]
     (first | refine callT.at (in_ok _ _ _) ⟨leA, leA, leA, trivial⟩ ?_ | refine callS.at (in_ok _ _ _) ⟨leA, leA, leA, trivial⟩ ?_)
     simp -implicitDefEqProofs -dsimp only [go_sem]
     refine guardT.splitT (fun g3 => ?_) (fun g3 => ?_) <;> simp -implicitDefEqProofs -dsimp only [go_sem, g3, Alarm.cs]
     · (first | refine callT.at (containsFuncFHeard_ok a.Heard (fun h => decide (500 < IntKind.i64.wrap (a.Now - h.Tick))) _ a.v (by rfl) (by rfl) (fun h => isOld_ok a h) hl) ⟨leA, leA, trivial⟩ ?_ | refine callS.at (containsFuncFHeard_ok a.Heard (fun h => decide (500 < IntKind.i64.wrap (a.Now - h.Tick))) _ a.v (by rfl) (by rfl) (fun h => isOld_ok a h) hl) ⟨leA, leA, trivial⟩ ?_)
       simp -implicitDefEqProofs -dsimp only [go_sem]
       refine WeakR.drop' ?_ (by rfl)
       rw [fresh_any (.inr ⟨hn, hall⟩), hal]
       simp [s1, inB', stateB, freshB]
       simp [inB'] at g3
       omega
     · refine WeakR.drop' ?_ (by rfl)
       rw [hal]
       simp [s1, stateB, g3]
   · have c1 : (a.State == 1) = false := by simp [s1]
     simp -implicitDefEqProofs -dsimp only [go_sem, c0, c3, c1]
     by_cases s2 : a.State = 2
     · have c2 : (a.State == 2) = true := by simp [s2]
       simp -implicitDefEqProofs -dsimp only [go_sem, c2]
       refine WeakR.drop' ?_ (by rfl)
       rw [hal]
       simp [s2, inB', stateB, freshB]
       omega
     · have c2 : (a.State == 2) = false := by simp [s2]
       simp -implicitDefEqProofs -dsimp only [go_sem, c2]
       refine WeakR.drop' ?_ (by rfl)
       have : inB' a.State 0 3 = false := by
         cases h : inB' a.State 0 3 with
         | false => rfl
         | true => have := inB'_iff.1 h; omega
       rw [hal, this]
       rfl
end Go.Proofs
end
section
set_option maxRecDepth 100000
set_option maxHeartbeats 1000000
namespace Go.Proofs
open Go.Lv
theorem nodup_snoc {L : List Heard} {i : Nat} (hi : i < L.length) : ((L.take (i + 1)).map Heard.Station).Nodup ↔ ((L.take i).map Heard.Station).Nodup ∧ ((L.take i).any fun h => h.Station == L[i].Station) = false := by
 rw [List.take_succ_eq_append_getElem hi, List.map_append, List.nodup_append]
 constructor
 · rintro ⟨a, _, b⟩
   refine ⟨a, ?_⟩
   rw [List.any_eq_false]
   intro x hx
   have := b x.Station (List.mem_map.2 ⟨x, hx, rfl⟩) L[i].Station (by simp)
   simpa using this
 · rintro ⟨a, b⟩
   refine ⟨a, by simp, ?_⟩
   intro x hx y hy
   obtain ⟨z, hz, rfl⟩ := List.mem_map.1 hx
   simp at hy; subst hy
   have := List.any_eq_false.1 b z hz
   simpa using this
theorem nodup_take {L : List Heard} (h : (L.map Heard.Station).Nodup) (i : Nat) : ((L.take i).map Heard.Station).Nodup := by
 rw [List.map_take]; exact (List.take_sublist i _).nodup h
theorem l21Good_ok (a : Alarm) (hl : a.Heard.length ≤ 281474976710656) : Ctr Tryd.prog 109 [a.v] [] (.bool (alarmB a)) [] := by
 refine Ctr.intro Tryd.mixed Tryd.func109 rfl Tryd.okF109 ?_
 simp -implicitDefEqProofs -dsimp only [go_sem, Tryd.ntmps109, Tryd.results109]
 simp -implicitDefEqProofs -dsimp only [go_sem, Alarm.v]
 have bad : ∀ h, alarmB a = false → WeakR 0 (.bool false) h (.bool (alarmB a)) [] := fun h e => WeakR.drop' (by rw [e]) (by rfl)
 (first | refine callT.at (l2Tick_ok _) ⟨leA, trivial⟩ ?_ | refine callS.at (l2Tick_ok _) ⟨leA, trivial⟩ ?_)
 simp -implicitDefEqProofs -dsimp only [go_sem]
 refine guardT.splitF (fun h1 => ?_) (fun h1 => ?_) <;> simp -implicitDefEqProofs -dsimp only [go_sem, h1]
 rotate_left
 · exact bad _ (by simp at h1; simp [alarmB, acountB, h1])
 (first | refine callT.at (l1In_ok _ _ _) ⟨leA, leA, leA, trivial⟩ ?_ | refine callS.at (l1In_ok _ _ _) ⟨leA, leA, leA, trivial⟩ ?_)
 simp -implicitDefEqProofs -dsimp only [go_sem]
 refine guardT.splitF (fun h2 => ?_) (fun h2 => ?_) <;> simp -implicitDefEqProofs -dsimp only [go_sem, h2]
 rotate_left
 · exact bad _ (by simp at h2; simp [alarmB, acountB, h2])
 (first | refine callT.at (l1In_ok _ _ _) ⟨leA, leA, leA, trivial⟩ ?_ | refine callS.at (l1In_ok _ _ _) ⟨leA, leA, leA, trivial⟩ ?_)
 simp -implicitDefEqProofs -dsimp only [go_sem]
 refine guardT.splitF (fun h3 => ?_) (fun h3 => ?_) <;> simp -implicitDefEqProofs -dsimp only [go_sem, h3]
 rotate_left
 · exact bad _ (by simp at h3; simp [alarmB, acountB, h3])
 refine guardT.splitF (fun h4 => ?_) (fun h4 => ?_) <;> simp -implicitDefEqProofs -dsimp only [go_sem, h4]
 rotate_left
 · refine bad _ ?_
   cases h : alarmB a with
   | false => rfl
   | true => have := (alarmB_ok h).given; simp at h4; omega
 (first | refine callT.at (l21Count_ok _ _) ⟨leA, leA, trivial⟩ ?_ | refine callS.at (l21Count_ok _ _) ⟨leA, leA, trivial⟩ ?_)
 simp -implicitDefEqProofs -dsimp only [go_sem]
 refine condT.split (fun h5 => ?_) (fun h5 => ?_) <;> simp -implicitDefEqProofs -dsimp only [go_sem, h5]
 · exact bad _ (by simp at h5; simp [alarmB, h5])
 have hn : 0 ≤ a.Now ∧ a.Now ≤ 1000000 := inB'_iff.1 (by simpa using h1)
 have hst : stateB a.State a.Heard.length = true := by simpa using h5
 have h8 := stateB_len hst
 have hac : acountB a = true := by simp at h1 h2 h3 h4; simp [acountB, h1, h2, h3, h4]
 refine LoopT.intro (fun i : Nat => i ≤ a.Heard.length ∧ (List.range i).all (hQ a.Now a.Heard) = true ∧ ((a.Heard.take i).map Heard.Station).Nodup) (fun i => ⟨[.undef, .ptr 0 0, .undef, .int .i64 i, .undef, .undef, .undef, .undef, .undef, .undef, .undef, .undef, .undef, .undef, .undef, .undef, .undef, .undef, .undef, .undef, .undef, .undef, .undef, .undef, .undef, .undef, .undef, .undef, .undef, .undef, .undef, .undef, .undef, .undef, .undef, .undef, .undef, .undef, .undef, .undef, .undef, .undef, .undef, .undef, .undef, .undef, .undef, .undef, .undef, .undef, .undef, .undef, .undef, .undef, .undef, .undef, .undef, .undef, .undef, .undef, .undef, .undef, .undef, .undef, .undef, .undef, .undef, .undef, .undef, .undef, .undef, .undef, .undef, .undef, .undef, .undef, .undef, .undef, .undef, .undef, .undef, .undef, .undef, .undef, .undef, .undef, .undef, .undef, .undef, .undef, .undef, .undef, .undef, .undef, .undef, .undef, .undef, .undef, .undef, .undef], [some a.cs], 0⟩) (fun i => a.Heard.length - i) 0 ⟨Nat.zero_le _, rfl, by simp⟩ ?_ (fun i hi => ?_)
 · refine Weak.cut (1) (by simp) (by simp) ?_ ?_
   · simp [LeC, LeV, ren, cutF]
   · simp [cutH, cutB, ren, Alarm.cs]
 have badq : ∀ h, i < a.Heard.length → hQ a.Now a.Heard i = false → WeakR 0 (.bool false) h (.bool (alarmB a)) [] := fun h hlt hq => bad h (by
   cases h : alarmB a with
   | false => rfl
   | true => have := List.all_eq_true.1 (alarmB_ok h).lst i (List.mem_range.2 hlt); rw [hq] at this; cases this)
 simp -implicitDefEqProofs -dsimp only [go_sem, Alarm.cs]
 refine condT.split (fun g1 => ?_) (fun g1 => ?_)
 · simp -implicitDefEqProofs -dsimp only [go_sem, g1]
   have hi' : i < a.Heard.length := by simpa using g1
   have h5 := Heard.csl a.Heard[i]
   have hr := rows_at Heard.csl hi'
   have hti : (a.Heard.take i).length = i := by simp; omega
   have hrt := rows_take Heard.csl a.Heard i
   (repeat ((repeat1' (first | simp -implicitDefEqProofs -dsimp only [go_sem, hr, Heard.cs, Alarm.cs] | simp -dsimp (disch := omega) only [wrap_i64])); repeat (with_reducible refine sideA ?_)))
   (first | refine callT.at (l1In_ok _ _ _) ⟨leA, leA, leA, trivial⟩ ?_ | refine callS.at (l1In_ok _ _ _) ⟨leA, leA, leA, trivial⟩ ?_)
   simp -implicitDefEqProofs -dsimp only [go_sem]
   refine guardT.splitF (fun g2 => ?_) (fun g2 => ?_) <;> simp -implicitDefEqProofs -dsimp only [go_sem, g2, Alarm.cs]
   rotate_left
   · refine badq _ hi' ?_
     simp at g2
     simp [hQ, hi', heardB, g2]
   (first | refine callT.at (l1In_ok _ _ _) ⟨leA, leA, leA, trivial⟩ ?_ | refine callS.at (l1In_ok _ _ _) ⟨leA, leA, leA, trivial⟩ ?_)
   simp -implicitDefEqProofs -dsimp only [go_sem]
   refine guardT.splitF (fun g3 => ?_) (fun g3 => ?_) <;> simp -implicitDefEqProofs -dsimp only [go_sem, g3, Alarm.cs]
   rotate_left
   · refine badq _ hi' ?_
     simp at g3
     simp [hQ, hi', heardB, g3]
   have hv : heardB a.Now a.Heard[i] = true := by simp at g2 g3; simp [heardB, g2, g3]
   have hc := l21Has_ok (a.Heard.take i) a.Heard[i].Station (by omega)
   simp only [Heard.sl, hti] at hc
   rw [← hrt] at hc
   refine guardT.splitT (fun g4 => ?_) (fun g4 => ?_) <;> simp -implicitDefEqProofs -dsimp only [go_sem, g4, Alarm.cs]
   · obtain ⟨j, rfl⟩ : ∃ j, i = j + 1 := ⟨i - 1, by simp at g4; omega⟩
     have hj : j < a.Heard.length := by omega
     have hw1 : IntKind.i64.wrap (((j + 1 : Nat) : Int) - 1) = (j : Int) := by rw [wrap_i64 (by omega) (by omega)]; omega
     have hr2 := rows_at Heard.csl hj
     have h6 := Heard.csl a.Heard[j]
     (repeat ((repeat1' (first | simp -implicitDefEqProofs -dsimp only [go_sem, hr, hw1, hr2, Heard.cs, Alarm.cs] | simp -dsimp (disch := omega) only [wrap_i64])); repeat (with_reducible refine sideA ?_)))
     refine guardT.splitF (fun g5 => ?_) (fun g5 => ?_) <;> (repeat ((repeat1' (first | simp -implicitDefEqProofs -dsimp only [go_sem, g5, hr, hr2, Heard.cs, Alarm.cs, Nat.sub_zero] | simp -dsimp (disch := omega) only [wrap_i64])); repeat (with_reducible refine sideA ?_)))
     rotate_left
     · refine badq _ hi' ?_
       rw [hQ_succ hi', hv]
       simp at g5 ⊢; omega
     have hq : hQ a.Now a.Heard (j + 1) = true := by rw [hQ_succ hi', hv]; simp at g5 ⊢; omega
     (first | refine callT.at (hc) ⟨leA, leA, trivial⟩ ?_ | refine callS.at (hc) ⟨leA, leA, trivial⟩ ?_)
     simp -implicitDefEqProofs -dsimp only [go_sem]
     refine condT.split (fun g6 => ?_) (fun g6 => ?_) <;> simp -implicitDefEqProofs -dsimp only [go_sem, g6, Alarm.cs]
     · refine bad _ ?_
       cases h : alarmB a with
       | false => rfl
       | true =>
         have := ((nodup_snoc hi').1 (nodup_take (alarmB_ok h).nodup _)).2
         rw [this] at g6; cases g6
     · try (repeat1' (first | simp -implicitDefEqProofs -dsimp only [go_sem] | simp -dsimp (disch := omega) only [wrap_i64]))
       refine ⟨_ + 1, ⟨hi', range_all_succ hi.2.1 hq, (nodup_snoc hi').2 ⟨hi.2.2, g6⟩⟩, ?_, by omega⟩
       refine Weak.cut (1) (by simp) (by simp) ?_ ?_
       · simp [LeC, LeV, ren, cutF]
       · simp [cutH, cutB, ren, Alarm.cs]
   · have h0 : i = 0 := by simp at g4; omega
     have hq : hQ a.Now a.Heard i = true := by subst h0; rw [hQ_zero hi', hv]
     (repeat ((repeat1' (first | simp -implicitDefEqProofs -dsimp only [go_sem, hr, Heard.cs, Alarm.cs, Nat.sub_zero] | simp -dsimp (disch := omega) only [wrap_i64])); repeat (with_reducible refine sideA ?_)))
     (first | refine callT.at (hc) ⟨leA, leA, trivial⟩ ?_ | refine callS.at (hc) ⟨leA, leA, trivial⟩ ?_)
     simp -implicitDefEqProofs -dsimp only [go_sem]
     refine condT.split (fun g6 => ?_) (fun g6 => ?_) <;> simp -implicitDefEqProofs -dsimp only [go_sem, g6, Alarm.cs]
     · refine bad _ ?_
       cases h : alarmB a with
       | false => rfl
       | true =>
         have := ((nodup_snoc hi').1 (nodup_take (alarmB_ok h).nodup _)).2
         rw [this] at g6; cases g6
     · try (repeat1' (first | simp -implicitDefEqProofs -dsimp only [go_sem] | simp -dsimp (disch := omega) only [wrap_i64]))
       refine ⟨_ + 1, ⟨hi', range_all_succ hi.2.1 hq, (nodup_snoc hi').2 ⟨hi.2.2, g6⟩⟩, ?_, by omega⟩
       refine Weak.cut (1) (by simp) (by simp) ?_ ?_
       · simp [LeC, LeV, ren, cutF]
       · simp [cutH, cutB, ren, Alarm.cs]
 · simp -implicitDefEqProofs -dsimp only [go_sem, g1, Alarm.cs]
   have hi' : i = a.Heard.length := by simp at g1; omega
   subst hi'
   have hlst : listB a.Now a.Heard = true := hi.2.1
   have hall := listB_all hlst
   have hnd := hi.2.2
   rw [List.take_length] at hnd
   have hal : alarmB a = freshB a := by
     rw [alarmB, hac, hst, hlst, decide_eq_true hnd]; simp
   by_cases s1 : a.State = 1
   · have c1 : (a.State != 1) = false := by simp [s1]
     have hpos : 0 < a.Heard.length := by
       rw [s1, stateB, if_pos rfl] at hst
       have := inB'_iff.1 hst; omega
     have hr := rows_at Heard.csl hpos
     rw [Nat.zero_mul, List.drop_zero] at hr
     have h6 := Heard.csl a.Heard[0]
     have hv0 := heardB_iff.1 (hall _ (List.getElem_mem hpos))
     (repeat ((repeat1' (first | simp -implicitDefEqProofs -dsimp only [go_sem, c1, hr, Heard.cs, Alarm.cs] | simp -dsimp (disch := omega) only [wrap_i64])); repeat (with_reducible refine sideA ?_)))
     refine WeakR.drop' ?_ (by rfl)
     rw [hal, freshB]
     congr 1
     have hw : IntKind.i64.wrap (a.Now - a.Heard[0].Tick) = a.Now - a.Heard[0].Tick := wrap_i64 (by omega) (by omega)
     have hm := listB_mono hlst
     rw [Bool.eq_iff_iff]
     simp only [s1, ne_eq, not_true_eq_false, decide_false, Bool.false_or, List.all_eq_true, decide_eq_true_eq]
     constructor
     · intro g x hx
       obtain ⟨j, hj, rfl⟩ := List.getElem_of_mem hx
       have := hm j hj
       first | omega | (rw [hw] at g; omega)
     · intro g
       have := g _ (List.getElem_mem hpos)
       first | omega | (rw [hw]; omega)
   · have c1 : (a.State != 1) = true := by simp [s1]
     (repeat ((repeat1' (first | simp -implicitDefEqProofs -dsimp only [go_sem, c1] | simp -dsimp (disch := omega) only [wrap_i64])); repeat (with_reducible refine sideA ?_)))
     refine WeakR.drop' ?_ (by rfl)
     rw [hal, freshB]
     simp [s1]
end Go.Proofs
end
section
set_option maxRecDepth 100000
set_option maxHeartbeats 1000000
namespace Go.Proofs
open Go.Lv
theorem WeakR.no {v : V} {h : Hp} {b : Bool} : WeakR 0 (.tup [v, .bool b]) h (.tup [.undef, .bool b]) [] := by
 intro w0 m0 h0 av0 w m val hk hkl hlt hle H hx hi
 have h2 : RV w m h (avm av0 m h) true val (.tup [.undef, .bool b]) := by
   generalize hg : V.tup [v, .bool b] = r at hx
   cases hx with
   | tup a a' ha hra =>
     cases hg
     refine .tup a _ ha (fun i hi => ?_)
     match i, hi with
     | 0, _ => exact .undef _
     | 1, hi => exact hra 1 (by simp)
   | _ => cases hg
 exact WeakR.drop rfl w0 m0 h0 av0 w m val hk hkl hlt hle H h2 hi
def tickAt (L : List Heard) (i : Nat) : Int := ((L[i]?).map Heard.Tick).getD 0
theorem tickAt_get {L : List Heard} {i : Nat} (h : i < L.length) : tickAt L i = L[i].Tick := by simp [tickAt, h]
def canB (a : Alarm) : Bool := a.State == 2 && (decide (a.Now - tickAt a.Heard 2 ≤ 1000) && decide (a.Cancelled < a.Given))
def clearA (a : Alarm) (s c : Int) : Alarm := ⟨a.Now, s, [], a.Given, c⟩
theorem state2 {a : Alarm} (A : AlarmOk a) (h : a.State = 2) : 3 ≤ a.Heard.length := by
 have := A.st
 rw [h, stateB, if_neg (by decide), if_pos rfl] at this
 have := inB'_iff.1 this; omega
theorem copyOfHeard_ok (L : List Heard) (hl : L.length ≤ 16777216) : Ctr Tryd.prog 215 [Heard.sl L] [] (.osl 0 0 L.length 2) [some (rows Heard.cs L)] := by
 refine Ctr.intro Tryd.mixed Tryd.func215 rfl Tryd.okF215 ?_
 simp -implicitDefEqProofs -dsimp only [go_sem, Tryd.ntmps215, Tryd.results215]
 repeat (with_reducible refine sideA ?_)
 exact WeakR.refl _ _ _
theorem copiedAlarm_ok (a : Alarm) (hl : a.Heard.length ≤ 16777216) : Ctr Tryd.prog 166 [a.v] [] (a.o 0) [some (rows Heard.cs a.Heard)] := by
 refine Ctr.intro Tryd.mixed Tryd.func166 rfl Tryd.okF166 ?_
 simp -implicitDefEqProofs -dsimp only [go_sem, Tryd.ntmps166, Tryd.results166]
 simp -implicitDefEqProofs -dsimp only [go_sem, Alarm.v]
 repeat (with_reducible refine sideA ?_)
 (first | refine callT.at (copyOfHeard_ok a.Heard hl) ⟨leA, trivial⟩ ?_ | refine callS.at (copyOfHeard_ok a.Heard hl) ⟨leA, trivial⟩ ?_)
 simp -implicitDefEqProofs -dsimp only [go_sem]
 repeat (with_reducible refine sideA ?_)
 refine WeakR.pick [2] (by decide) (fun j hj => by omega) (.inl ?_) ?_
 · first | rfl | (simp [ren, pickF, posOf, Alarm.o]; done)
 · simp only [pickH, List.map_cons, List.map_nil, pickB, List.getElem?_cons_zero, List.getElem?_cons_succ, map_ren_rows]
theorem l21Can_ok (a : Alarm) (ha : alarmB a = true) : Ctr Tryd.prog 113 [a.v] [] (.bool (canB a)) [] := by
 have A := alarmB_ok ha
 refine Ctr.intro Tryd.mixed Tryd.func113 rfl Tryd.okF113 ?_
 simp -implicitDefEqProofs -dsimp only [go_sem, Tryd.ntmps113, Tryd.results113]
 simp -implicitDefEqProofs -dsimp only [go_sem, Alarm.v]
 refine ⟨by kernel_rfl, ?_⟩
 by_cases hs : a.State = 2
 · have h3 := state2 A hs
   have hr := rows_at Heard.csl (show 2 < a.Heard.length by omega)
   have hh := heardB_iff.1 (A.heard _ (List.getElem_mem (show 2 < a.Heard.length by omega)))
   have hn := A.now
   have hb : (a.State == 2) = true := by simp [hs]
   have hw2 : IntKind.i64.wrap (a.Now - a.Heard[2].Tick) = a.Now - a.Heard[2].Tick := wrap_i64 (by omega) (by omega)
   (repeat ((repeat1' (first | simp -implicitDefEqProofs -dsimp only [go_sem, hb, hr, hw2, Heard.cs] | simp -dsimp (disch := omega) only [wrap_i64])); repeat (with_reducible refine sideA ?_)))
   refine guardT.splitT (fun g1 => ?_) (fun g1 => ?_) <;> simp -implicitDefEqProofs -dsimp only [go_sem, g1]
   · refine WeakR.drop' ?_ (by rfl)
     rw [canB, tickAt_get (by omega), hb, g1]; rfl
   · refine WeakR.drop' ?_ (by rfl)
     rw [canB, tickAt_get (by omega), hb, g1]; rfl
 · have hb : (a.State == 2) = false := by simp [hs]
   (repeat ((repeat1' (first | simp -implicitDefEqProofs -dsimp only [go_sem, hb] | simp -dsimp (disch := omega) only [wrap_i64])); repeat (with_reducible refine sideA ?_)))
   exact WeakR.drop' (by rw [canB, hb]; rfl) (by rfl)
theorem sCanCancel_ok (a : Alarm) (hl : a.Heard.length ≤ 16777216) : Ctr Tryd.prog 52 [a.v] [] (.tup [.bool (alarmB a && canB a), .bool (alarmB a)]) [] := by
 refine Ctr.intro Tryd.mixed Tryd.func52 rfl Tryd.okF52 ?_
 simp -implicitDefEqProofs -dsimp only [go_sem, Tryd.ntmps52, Tryd.results52]
 simp -implicitDefEqProofs -dsimp only [go_sem, Alarm.v]
 (first | refine callT.at (l21Good_ok a (by omega)) ⟨leA, trivial⟩ ?_ | refine callS.at (l21Good_ok a (by omega)) ⟨leA, trivial⟩ ?_)
 cases h : alarmB a with
 | false =>
   simp -implicitDefEqProofs -dsimp only [go_sem]
   exact WeakR.drop' rfl (by rfl)
 | true =>
   simp -implicitDefEqProofs -dsimp only [go_sem]
   (first | refine callT.at (l21Can_ok a h) ⟨leA, trivial⟩ ?_ | refine callS.at (l21Can_ok a h) ⟨leA, trivial⟩ ?_)
   simp -implicitDefEqProofs -dsimp only [go_sem]
   exact WeakR.drop' rfl (by rfl)
theorem stepCancel_ok (a : Alarm) (ha : alarmB a = true) : Ctr Tryd.prog 112 [a.v, .agg [.int .i64 3, .int .i64 0]] [] (.tup [.agg [.int .i64 a.Now, .int .i64 0, .nilsl, .int .i64 a.Given, .int .i64 (a.Cancelled + 1)], .bool (canB a)]) [] := by
 have A := alarmB_ok ha
 have hlen := A.len
 have hc := A.canc
 have hg := A.given
 have hw : IntKind.i64.wrap (a.Cancelled + 1) = a.Cancelled + 1 := wrap_i64 (by omega) (by omega)
 refine Ctr.intro Tryd.mixed Tryd.func112 rfl Tryd.okF112 ?_
 simp -implicitDefEqProofs -dsimp only [go_sem, Tryd.ntmps112, Tryd.results112]
 simp -implicitDefEqProofs -dsimp only [go_sem, Alarm.v]
 (first | refine callT.at (copiedAlarm_ok a (by omega)) ⟨leA, trivial⟩ ?_ | refine callS.at (copiedAlarm_ok a (by omega)) ⟨leA, trivial⟩ ?_)
 simp -implicitDefEqProofs -dsimp only [go_sem, Alarm.o]
 refine ⟨by kernel_rfl, ?_⟩
 by_cases hs : a.State = 2
 · have h3 := state2 A hs
   have hr := rows_at Heard.csl (show 2 < a.Heard.length by omega)
   have hh := heardB_iff.1 (A.heard _ (List.getElem_mem (show 2 < a.Heard.length by omega)))
   have hn := A.now
   have hb : (a.State == 2) = true := by simp [hs]
   have hw2 : IntKind.i64.wrap (a.Now - a.Heard[2].Tick) = a.Now - a.Heard[2].Tick := wrap_i64 (by omega) (by omega)
   have hI := iIsAlarm_ok (clearA a 0 (a.Cancelled + 1)) (by simp [clearA])
   simp only [Alarm.v, clearA, rows, List.length_nil, List.flatMap_nil] at hI
   have hcl : alarmB ⟨a.Now, 0, [], a.Given, a.Cancelled + 1⟩ = decide (a.Cancelled < a.Given) := by
     rw [Bool.eq_iff_iff]
     simp [alarmB, acountB, stateB, listB, freshB, inB']
     omega
   rw [hcl] at hI
   (repeat ((repeat1' (first | simp -implicitDefEqProofs -dsimp only [go_sem, hb, hr, hw, hw2, Heard.cs] | simp -dsimp (disch := omega) only [wrap_i64])); repeat (with_reducible refine sideA ?_)))
   refine guardT.splitT (fun g1 => ?_) (fun g1 => ?_) <;> simp -implicitDefEqProofs -dsimp only [go_sem, g1]
   · (first | refine callT.at (hI) ⟨leA, trivial⟩ ?_ | refine callS.at (hI) ⟨leA, trivial⟩ ?_)
     (repeat ((repeat1' (first | simp -implicitDefEqProofs -dsimp only [go_sem] | simp -dsimp (disch := omega) only [wrap_i64])); repeat (with_reducible refine sideA ?_)))
     have : (decide (a.Cancelled < a.Given)) = canB a := by rw [canB, tickAt_get (by omega), hb, g1]; rfl
     rw [this]
     exact WeakR.drop' rfl (by rfl)
   · have : canB a = false := by rw [canB, tickAt_get (by omega), hb, g1]; rfl
     rw [this]
     exact WeakR.drop' rfl (by rfl)
 · have hb : (a.State == 2) = false := by simp [hs]
   (repeat ((repeat1' (first | simp -implicitDefEqProofs -dsimp only [go_sem, hb, hw] | simp -dsimp (disch := omega) only [wrap_i64])); repeat (with_reducible refine sideA ?_)))
   have : canB a = false := by rw [canB, hb]; rfl
   rw [this]
   exact WeakR.drop' rfl (by rfl)
theorem iCanCancel_ok (a : Alarm) (hl : a.Heard.length ≤ 16777216) : Ctr Tryd.prog 51 [a.v] [] (.tup [.bool (alarmB a && canB a), .bool (alarmB a)]) [] := by
 refine Ctr.intro Tryd.mixed Tryd.func51 rfl Tryd.okF51 ?_
 simp -implicitDefEqProofs -dsimp only [go_sem, Tryd.ntmps51, Tryd.results51]
 simp -implicitDefEqProofs -dsimp only [go_sem, Alarm.v]
 (first | refine callT.at (iIsAlarm_ok a (by omega)) ⟨leA, trivial⟩ ?_ | refine callS.at (iIsAlarm_ok a (by omega)) ⟨leA, trivial⟩ ?_)
 cases h : alarmB a with
 | false =>
   simp -implicitDefEqProofs -dsimp only [go_sem]
   exact WeakR.drop' rfl (by rfl)
 | true =>
   simp -implicitDefEqProofs -dsimp only [go_sem]
   (first | refine callT.at (stepCancel_ok a h) ⟨leA, leA, trivial⟩ ?_ | refine callS.at (stepCancel_ok a h) ⟨leA, leA, trivial⟩ ?_)
   (repeat ((repeat1' (first | simp -implicitDefEqProofs -dsimp only [go_sem] | simp -dsimp (disch := omega) only [wrap_i64])); repeat (with_reducible refine sideA ?_)))
   exact WeakR.drop' rfl (by rfl)
end Go.Proofs
end
section
set_option maxRecDepth 100000
set_option maxHeartbeats 1000000
namespace Go.Proofs
open Go.Lv
theorem l21Own_ok (a : Alarm) (hl : a.Heard.length ≤ 16777216) : Ctr Tryd.prog 258 [a.v] [] (a.o 0) [some (rows Heard.cs a.Heard)] := by
 refine Ctr.intro Tryd.mixed Tryd.func258 rfl Tryd.okF258 ?_
 simp -implicitDefEqProofs -dsimp only [go_sem, Tryd.ntmps258, Tryd.results258]
 simp -implicitDefEqProofs -dsimp only [go_sem, Alarm.v]
 refine chT.intro [true, true, true, true, false, true, true, false, true, true, true, true, false, false] [true, true, true, true, true, true, true, true, true, true, true, true, false, false] [none, none, none, none, some ⟨none, 7, 66, []⟩, none, none, some ⟨some 4, 10, 66, [9]⟩, none, none, none, none, none, none] [⟨7, 10, 66, [9]⟩] (by kernel_rfl) (by rfl) ?_
 simp -implicitDefEqProofs -dsimp only [go_sem]
 repeat (with_reducible refine sideA ?_)
 refine ⟨⟨by omega, by omega, rows_all Heard.csp _⟩, ?_⟩
 refine WeakR.pick [2] (by decide) (fun j hj => by omega) (.inl ?_) ?_
 · first | rfl | (simp [ren, pickF, posOf, Alarm.o]; done)
 · simp only [pickH, List.map_cons, List.map_nil, pickB, List.getElem?_cons_zero, List.getElem?_cons_succ, map_ren_rows]
def waitH (now : Int) (L : List Heard) : List Heard := L.filter fun h => decide (now - h.Tick ≤ 500)
def waitA (a : Alarm) (v : Int) : Alarm := if a.State = 1 then ⟨a.Now + v, if (waitH (a.Now + v) a.Heard).length = 0 then 0 else 1, waitH (a.Now + v) a.Heard, a.Given, a.Cancelled⟩ else ⟨a.Now + v, a.State, a.Heard, a.Given, a.Cancelled⟩
theorem l21Wait_ok (a : Alarm) (v : Int) (ha : alarmB a = true) (h0 : 1 ≤ v) (h1 : v ≤ 1000000 - a.Now) : Ctr Tryd.prog 259 [a.v, .int .i64 v] [] ((waitA a v).o 0) [some (rows Heard.cs (waitA a v).Heard)] := by
 have A := alarmB_ok ha
 have hlen := A.len
 have hn := A.now
 have hw : IntKind.i64.wrap (a.Now + v) = a.Now + v := wrap_i64 (by omega) (by omega)
 refine Ctr.intro Tryd.mixed Tryd.func259 rfl Tryd.okF259 ?_
 simp -implicitDefEqProofs -dsimp only [go_sem, Tryd.ntmps259, Tryd.results259]
 simp -implicitDefEqProofs -dsimp only [go_sem, Alarm.v]
 (first | refine callT.at (l21Own_ok a (by omega)) ⟨leA, trivial⟩ ?_ | refine callS.at (l21Own_ok a (by omega)) ⟨leA, trivial⟩ ?_)
 (repeat ((repeat1' (first | simp -implicitDefEqProofs -dsimp only [go_sem, Alarm.o, hw] | simp -dsimp (disch := omega) only [wrap_i64])); repeat (with_reducible refine sideA ?_)))
 refine condT.split (fun g1 => ?_) (fun g1 => ?_) <;> (repeat ((repeat1' (first | simp -implicitDefEqProofs -dsimp only [go_sem, g1] | simp -dsimp (disch := omega) only [wrap_i64])); repeat (with_reducible refine sideA ?_)))
 · have : waitA a v = ⟨a.Now + v, a.State, a.Heard, a.Given, a.Cancelled⟩ := by rw [waitA, if_neg (by simpa using g1)]
   rw [this]
   refine WeakR.pick [2] (by decide) (fun j hj => by omega) (.inl ?_) ?_
   · first | rfl | (simp [ren, pickF, posOf]; done)
   · simp only [pickH, List.map_cons, List.map_nil, pickB, List.getElem?_cons_zero, List.getElem?_cons_succ, map_ren_rows]
 have g1' : a.State = 1 := by simpa using g1
 refine LoopT.intro (fun i : Nat => i ≤ a.Heard.length) (fun i => ⟨[.undef, .undef, .ptr 0 0, .undef, .ptr 1 0, .ptr 3 0, .int .i64 i, .undef, .undef, .undef, .undef, .undef, .undef, .undef, .undef, .undef, .undef, .undef, .undef, .undef, .undef, .undef, .undef, .undef, .undef, .undef, .undef, .undef, .undef, .undef, .undef, .undef, .undef, .undef, .undef, .undef, .undef, .undef, .undef, .undef, .undef, .undef, .undef, .undef, .undef, .undef, .undef, .undef, .undef, .undef, .undef, .undef, .undef], [some [.int .i64 a.Now, .int .i64 a.State, .sl a.Heard.length 2 (rows Heard.cs a.Heard), .int .i64 a.Given, .int .i64 a.Cancelled], some [.int .i64 0, .int .i64 0, .nilsl, .int .i64 0, .int .i64 0], some (rows Heard.cs a.Heard), some [.int .i64 (a.Now + v), .int .i64 a.State, .osl 4 0 (waitH (a.Now + v) (a.Heard.take i)).length 2, .int .i64 a.Given, .int .i64 a.Cancelled], some (rows Heard.cs (waitH (a.Now + v) (a.Heard.take i)))], 0⟩) (fun i => a.Heard.length - i) 0 (Nat.zero_le _) ?_ (fun i hi => ?_)
 · refine Weak.cut (5) (by simp) (by simp) ?_ ?_
   · simp [LeC, LeV, ren, cutF]
   · simp [cutH, cutB, ren, map_ren_rows, waitH, cutF]
     rfl
 simp -implicitDefEqProofs -dsimp only [go_sem]
 refine condT.split (fun h2 => ?_) (fun h2 => ?_)
 · simp -implicitDefEqProofs -dsimp only [go_sem, h2]
   have hi' : i < a.Heard.length := by simpa using h2
   have hr := rows_at Heard.csl hi'
   have hh := heardB_iff.1 (A.heard _ (List.getElem_mem hi'))
   have hw2 : IntKind.i64.wrap (a.Now + v - a.Heard[i].Tick) = a.Now + v - a.Heard[i].Tick := wrap_i64 (by omega) (by omega)
   have hlw : (waitH (a.Now + v) (a.Heard.take i)).length ≤ 8 := Nat.le_trans (List.length_filter_le _ _) (by simp; omega)
   have htk : waitH (a.Now + v) (a.Heard.take (i + 1)) = waitH (a.Now + v) (a.Heard.take i) ++ waitH (a.Now + v) [a.Heard[i]] := by
     rw [List.take_succ_eq_append_getElem hi', waitH, List.filter_append]; rfl
   (repeat ((repeat1' (first | simp -implicitDefEqProofs -dsimp only [go_sem, hr, Heard.cs, hw2] | simp -dsimp (disch := omega) only [wrap_i64])); repeat (with_reducible refine sideA ?_)))
   refine condT.split (fun g2 => ?_) (fun g2 => ?_) <;> (repeat ((repeat1' (first | simp -implicitDefEqProofs -dsimp only [go_sem, g2, hr, Heard.cs] | simp -dsimp (disch := omega) only [wrap_i64])); repeat (with_reducible refine sideA ?_)))
   · have h1e : waitH (a.Now + v) [a.Heard[i]] = [a.Heard[i]] := by simp only [waitH, List.filter_cons, g2, if_true, List.filter_nil]
     refine ⟨i + 1, hi', ?_, by omega⟩
     rw [htk, h1e]
     refine Weak.cut (5) (by simp) (by simp) ?_ ?_
     · simp [LeC, LeV, ren, cutF]
     · simp [cutH, cutB, ren, map_ren_rows, cutF, killB, killC, killF, rowsOf_append, rows_one, Heard.cs]
   · have h1e : waitH (a.Now + v) [a.Heard[i]] = [] := by simp only [waitH, List.filter_cons, g2, Bool.false_eq_true, if_false, List.filter_nil]
     refine ⟨i + 1, hi', ?_, by omega⟩
     rw [htk, h1e, List.append_nil]
     refine Weak.cut (5) (by simp) (by simp) ?_ ?_
     · simp [LeC, LeV, ren, cutF]
     · simp [cutH, cutB, ren, map_ren_rows, cutF]
 · simp -implicitDefEqProofs -dsimp only [go_sem, h2]
   have hi' : i = a.Heard.length := by simp at h2; omega
   subst hi'
   rw [List.take_length]
   have hwa : waitA a v = ⟨a.Now + v, if (waitH (a.Now + v) a.Heard).length = 0 then 0 else 1, waitH (a.Now + v) a.Heard, a.Given, a.Cancelled⟩ := by rw [waitA, if_pos g1']
   rw [hwa]
   refine condT.split (fun g3 => ?_) (fun g3 => ?_) <;> (repeat ((repeat1' (first | simp -implicitDefEqProofs -dsimp only [go_sem, g3] | simp -dsimp (disch := omega) only [wrap_i64])); repeat (with_reducible refine sideA ?_)))
   · rw [if_pos (by simp at g3; simp; omega)]
     refine WeakR.pick [4] (by decide) (fun j hj => by omega) (.inl ?_) ?_
     · first | rfl | (simp [ren, pickF, posOf]; done)
     · simp only [pickH, List.map_cons, List.map_nil, pickB, List.getElem?_cons_zero, List.getElem?_cons_succ, map_ren_rows]
   · rw [if_neg (by simp at g3; simp; omega), g1']
     refine WeakR.pick [4] (by decide) (fun j hj => by omega) (.inl ?_) ?_
     · first | rfl | (simp [ren, pickF, posOf]; done)
     · simp only [pickH, List.map_cons, List.map_nil, pickB, List.getElem?_cons_zero, List.getElem?_cons_succ, map_ren_rows]
end Go.Proofs
end
section
set_option maxRecDepth 100000
set_option maxHeartbeats 1000000
namespace Go.Proofs
open Go.Lv
def hearA (a : Alarm) (s : Int) : Alarm := ⟨a.Now, if a.Heard.length = 0 then 1 else if a.Heard.length = 2 then 2 else a.State, a.Heard ++ [⟨s, a.Now⟩], if a.Heard.length = 2 then a.Given + 1 else a.Given, a.Cancelled⟩
def okA (b : Bool) (a : Alarm) : Option Alarm := if (b && alarmB a) = true then some a else none
def stepA (a : Alarm) (k v : Int) : Option Alarm :=
 if k = 1 then okA (decide (v ≤ 1000000 - a.Now)) (waitA a v)
 else if k = 2 then okA (a.State != 3 && !(a.Heard.any fun h => h.Station == v)) (hearA a v)
 else if k = 3 then okA (canB a) (clearA a 0 (a.Cancelled + 1))
 else if k = 4 then okA (a.State == 2 && decide (500 < a.Now - tickAt a.Heard (a.Heard.length - 1))) (clearA a 3 a.Cancelled)
 else okA (a.State == 3) ⟨a.Now, 0, a.Heard, a.Given, a.Cancelled⟩
def stepB (k v : Int) : Bool := if k = 1 then decide (1 ≤ v) else if k = 2 then inB' v 1 99 else inB' k 3 5 && v == 0
def stepW (a : Alarm) (k v : Int) : Alarm :=
 if k = 1 then (if v ≤ 1000000 - a.Now then waitA a v else a) else if k = 2 then hearA a v else if k = 3 then clearA a 0 (a.Cancelled + 1) else if k = 4 then clearA a 3 a.Cancelled else ⟨a.Now, 0, a.Heard, a.Given, a.Cancelled⟩
def stO (w : Alarm) : Option Alarm → V
 | none => .tup [w.o 0, .bool false]
 | some a => .tup [a.o 0, .bool true]
def stH (w : Alarm) : Option Alarm → Hp
 | none => [some (rows Heard.cs w.Heard)]
 | some a => [some (rows Heard.cs a.Heard)]
theorem l21Clear_ok (a : Alarm) (s : Int) (hl : a.Heard.length ≤ 16777216) : Ctr Tryd.prog 261 [a.v, .int .i64 s] [] ((clearA a s a.Cancelled).o 0) [some []] := by
 refine Ctr.intro Tryd.mixed Tryd.func261 rfl Tryd.okF261 ?_
 simp -implicitDefEqProofs -dsimp only [go_sem, Tryd.ntmps261, Tryd.results261]
 simp -implicitDefEqProofs -dsimp only [go_sem, Alarm.v]
 (first | refine callT.at (l21Own_ok a hl) ⟨leA, trivial⟩ ?_ | refine callS.at (l21Own_ok a hl) ⟨leA, trivial⟩ ?_)
 (repeat ((repeat1' (first | simp -implicitDefEqProofs -dsimp only [go_sem, Alarm.o, clearA] | simp -dsimp (disch := omega) only [wrap_i64])); repeat (with_reducible refine sideA ?_)))
 refine WeakR.pick [4] (by decide) (fun j hj => by omega) (.inl ?_) ?_
 · first | rfl | (simp [ren, pickF, posOf]; done)
 · simp only [pickH, List.map_cons, List.map_nil, pickB, List.getElem?_cons_zero, List.getElem?_cons_succ, map_ren_rows]
theorem l21Hear_ok (a : Alarm) (v : Int) (ha : alarmB a = true) : Ctr Tryd.prog 260 [a.v, .int .i64 v] [] (.tup [(hearA a v).o 0, .bool ((a.State != 3 && !(a.Heard.any fun h => h.Station == v)) && alarmB (hearA a v))]) [some (rows Heard.cs (hearA a v).Heard)] := by
 have A := alarmB_ok ha
 have hlen := A.len
 have hn := A.now
 have hg := A.given
 have hc := A.canc
 have hw : IntKind.i64.wrap (a.Given + 1) = a.Given + 1 := wrap_i64 (by omega) (by omega)
 refine Ctr.intro Tryd.mixed Tryd.func260 rfl Tryd.okF260 ?_
 simp -implicitDefEqProofs -dsimp only [go_sem, Tryd.ntmps260, Tryd.results260]
 simp -implicitDefEqProofs -dsimp only [go_sem, Alarm.v]
 (first | refine callT.at (l21Own_ok a (by omega)) ⟨leA, trivial⟩ ?_ | refine callS.at (l21Own_ok a (by omega)) ⟨leA, trivial⟩ ?_)
 obtain ⟨H', hH'⟩ : ∃ H', H' = a.Heard ++ [(⟨v, a.Now⟩ : Heard)] := ⟨_, rfl⟩
 have hl' : a.Heard.length + 1 = H'.length := by rw [hH']; simp
 have hrow : rows Heard.cs a.Heard ++ [.int .i64 v, .int .i64 a.Now] = rows Heard.cs H' := by rw [hH', rowsOf_append, rows_one]; rfl
 (repeat ((repeat1' (first | simp -implicitDefEqProofs -dsimp only [go_sem, Alarm.o, hrow, hl'] | simp -dsimp (disch := omega) only [wrap_i64])); repeat (with_reducible refine sideA ?_)))
 by_cases e0 : a.Heard.length = 0
 · have b1 : ((H'.length : Int) == 1) = true := by simp; omega
   have hA : hearA a v = ⟨a.Now, 1, H', a.Given, a.Cancelled⟩ := by rw [hearA, if_pos e0, if_neg (by omega), hH']
   (repeat ((repeat1' (first | simp -implicitDefEqProofs -dsimp only [go_sem, b1, hrow, hl'] | simp -dsimp (disch := omega) only [wrap_i64])); repeat (with_reducible refine sideA ?_)))
   have hgood := l21Good_ok (hearA a v) (by rw [hA]; show H'.length ≤ _; omega)
   rw [hA] at hgood ⊢
   simp only [Alarm.v, Alarm.o] at hgood ⊢
   have hany := l21Has_ok a.Heard v (by omega)
   by_cases h3 : a.State = 3
   · have hs3 : (a.State != 3) = false := by simp [h3]
     (repeat ((repeat1' (first | simp -implicitDefEqProofs -dsimp only [go_sem, hs3, hrow, hl'] | simp -dsimp (disch := omega) only [wrap_i64])); repeat (with_reducible refine sideA ?_)))
     refine WeakR.pick [2] (by decide) (fun j hj => by omega) (.inl ?_) ?_
     · first | rfl | (simp [ren, pickF, posOf]; done)
     · simp only [pickH, List.map_cons, List.map_nil, pickB, List.getElem?_cons_zero, List.getElem?_cons_succ, map_ren_rows]
   · have hs3 : (a.State != 3) = true := by simp [h3]
     (repeat ((repeat1' (first | simp -implicitDefEqProofs -dsimp only [go_sem, hs3, hrow, hl'] | simp -dsimp (disch := omega) only [wrap_i64])); repeat (with_reducible refine sideA ?_)))
     (first | refine callT.at (hany) ⟨leA, leA, trivial⟩ ?_ | refine callS.at (hany) ⟨leA, leA, trivial⟩ ?_)
     cases hx : a.Heard.any fun h => h.Station == v with
     | true =>
       (repeat ((repeat1' (first | simp -implicitDefEqProofs -dsimp only [go_sem, hrow, hl'] | simp -dsimp (disch := omega) only [wrap_i64])); repeat (with_reducible refine sideA ?_)))
       refine WeakR.pick [2] (by decide) (fun j hj => by omega) (.inl ?_) ?_
       · first | rfl | (simp [ren, pickF, posOf]; done)
       · simp only [pickH, List.map_cons, List.map_nil, pickB, List.getElem?_cons_zero, List.getElem?_cons_succ, map_ren_rows]
     | false =>
       (repeat ((repeat1' (first | simp -implicitDefEqProofs -dsimp only [go_sem, hrow, hl'] | simp -dsimp (disch := omega) only [wrap_i64])); repeat (with_reducible refine sideA ?_)))
       (first | refine callT.at (hgood) ⟨leA, trivial⟩ ?_ | refine callS.at (hgood) ⟨leA, trivial⟩ ?_)
       (repeat ((repeat1' (first | simp -implicitDefEqProofs -dsimp only [go_sem, hrow, hl'] | simp -dsimp (disch := omega) only [wrap_i64])); repeat (with_reducible refine sideA ?_)))
       rw [hs3]
       refine WeakR.pick [2] (by decide) (fun j hj => by omega) (.inl ?_) ?_
       · first | rfl | (simp [ren, pickF, posOf]; done)
       · simp only [pickH, List.map_cons, List.map_nil, pickB, List.getElem?_cons_zero, List.getElem?_cons_succ, map_ren_rows]
 have b1 : ((H'.length : Int) == 1) = false := by simp; omega
 by_cases e2 : a.Heard.length = 2
 · have b3 : ((H'.length : Int) == 3) = true := by simp; omega
   have hA : hearA a v = ⟨a.Now, 2, H', a.Given + 1, a.Cancelled⟩ := by rw [hearA, if_neg e0, if_pos e2, if_pos e2, hH']
   (repeat ((repeat1' (first | simp -implicitDefEqProofs -dsimp only [go_sem, b1, b3, hw, hrow, hl'] | simp -dsimp (disch := omega) only [wrap_i64])); repeat (with_reducible refine sideA ?_)))
   have hgood := l21Good_ok (hearA a v) (by rw [hA]; show H'.length ≤ _; omega)
   rw [hA] at hgood ⊢
   simp only [Alarm.v, Alarm.o] at hgood ⊢
   have hany := l21Has_ok a.Heard v (by omega)
   by_cases h3 : a.State = 3
   · have hs3 : (a.State != 3) = false := by simp [h3]
     (repeat ((repeat1' (first | simp -implicitDefEqProofs -dsimp only [go_sem, hs3, hrow, hl'] | simp -dsimp (disch := omega) only [wrap_i64])); repeat (with_reducible refine sideA ?_)))
     refine WeakR.pick [2] (by decide) (fun j hj => by omega) (.inl ?_) ?_
     · first | rfl | (simp [ren, pickF, posOf]; done)
     · simp only [pickH, List.map_cons, List.map_nil, pickB, List.getElem?_cons_zero, List.getElem?_cons_succ, map_ren_rows]
   · have hs3 : (a.State != 3) = true := by simp [h3]
     (repeat ((repeat1' (first | simp -implicitDefEqProofs -dsimp only [go_sem, hs3, hrow, hl'] | simp -dsimp (disch := omega) only [wrap_i64])); repeat (with_reducible refine sideA ?_)))
     (first | refine callT.at (hany) ⟨leA, leA, trivial⟩ ?_ | refine callS.at (hany) ⟨leA, leA, trivial⟩ ?_)
     cases hx : a.Heard.any fun h => h.Station == v with
     | true =>
       (repeat ((repeat1' (first | simp -implicitDefEqProofs -dsimp only [go_sem, hrow, hl'] | simp -dsimp (disch := omega) only [wrap_i64])); repeat (with_reducible refine sideA ?_)))
       refine WeakR.pick [2] (by decide) (fun j hj => by omega) (.inl ?_) ?_
       · first | rfl | (simp [ren, pickF, posOf]; done)
       · simp only [pickH, List.map_cons, List.map_nil, pickB, List.getElem?_cons_zero, List.getElem?_cons_succ, map_ren_rows]
     | false =>
       (repeat ((repeat1' (first | simp -implicitDefEqProofs -dsimp only [go_sem, hrow, hl'] | simp -dsimp (disch := omega) only [wrap_i64])); repeat (with_reducible refine sideA ?_)))
       (first | refine callT.at (hgood) ⟨leA, trivial⟩ ?_ | refine callS.at (hgood) ⟨leA, trivial⟩ ?_)
       (repeat ((repeat1' (first | simp -implicitDefEqProofs -dsimp only [go_sem, hrow, hl'] | simp -dsimp (disch := omega) only [wrap_i64])); repeat (with_reducible refine sideA ?_)))
       rw [hs3]
       refine WeakR.pick [2] (by decide) (fun j hj => by omega) (.inl ?_) ?_
       · first | rfl | (simp [ren, pickF, posOf]; done)
       · simp only [pickH, List.map_cons, List.map_nil, pickB, List.getElem?_cons_zero, List.getElem?_cons_succ, map_ren_rows]
 · have b3 : ((H'.length : Int) == 3) = false := by simp; omega
   have hA : hearA a v = ⟨a.Now, a.State, H', a.Given, a.Cancelled⟩ := by rw [hearA, if_neg e0, if_neg e2, if_neg e2, hH']
   (repeat ((repeat1' (first | simp -implicitDefEqProofs -dsimp only [go_sem, b1, b3, hrow, hl'] | simp -dsimp (disch := omega) only [wrap_i64])); repeat (with_reducible refine sideA ?_)))
   have hgood := l21Good_ok (hearA a v) (by rw [hA]; show H'.length ≤ _; omega)
   rw [hA] at hgood ⊢
   simp only [Alarm.v, Alarm.o] at hgood ⊢
   have hany := l21Has_ok a.Heard v (by omega)
   by_cases h3 : a.State = 3
   · have hs3 : (a.State != 3) = false := by simp [h3]
     (repeat ((repeat1' (first | simp -implicitDefEqProofs -dsimp only [go_sem, hs3, hrow, hl'] | simp -dsimp (disch := omega) only [wrap_i64])); repeat (with_reducible refine sideA ?_)))
     refine WeakR.pick [2] (by decide) (fun j hj => by omega) (.inl ?_) ?_
     · first | rfl | (simp [ren, pickF, posOf]; done)
     · simp only [pickH, List.map_cons, List.map_nil, pickB, List.getElem?_cons_zero, List.getElem?_cons_succ, map_ren_rows]
   · have hs3 : (a.State != 3) = true := by simp [h3]
     (repeat ((repeat1' (first | simp -implicitDefEqProofs -dsimp only [go_sem, hs3, hrow, hl'] | simp -dsimp (disch := omega) only [wrap_i64])); repeat (with_reducible refine sideA ?_)))
     (first | refine callT.at (hany) ⟨leA, leA, trivial⟩ ?_ | refine callS.at (hany) ⟨leA, leA, trivial⟩ ?_)
     cases hx : a.Heard.any fun h => h.Station == v with
     | true =>
       (repeat ((repeat1' (first | simp -implicitDefEqProofs -dsimp only [go_sem, hrow, hl'] | simp -dsimp (disch := omega) only [wrap_i64])); repeat (with_reducible refine sideA ?_)))
       refine WeakR.pick [2] (by decide) (fun j hj => by omega) (.inl ?_) ?_
       · first | rfl | (simp [ren, pickF, posOf]; done)
       · simp only [pickH, List.map_cons, List.map_nil, pickB, List.getElem?_cons_zero, List.getElem?_cons_succ, map_ren_rows]
     | false =>
       (repeat ((repeat1' (first | simp -implicitDefEqProofs -dsimp only [go_sem, hrow, hl'] | simp -dsimp (disch := omega) only [wrap_i64])); repeat (with_reducible refine sideA ?_)))
       (first | refine callT.at (hgood) ⟨leA, trivial⟩ ?_ | refine callS.at (hgood) ⟨leA, trivial⟩ ?_)
       (repeat ((repeat1' (first | simp -implicitDefEqProofs -dsimp only [go_sem, hrow, hl'] | simp -dsimp (disch := omega) only [wrap_i64])); repeat (with_reducible refine sideA ?_)))
       rw [hs3]
       refine WeakR.pick [2] (by decide) (fun j hj => by omega) (.inl ?_) ?_
       · first | rfl | (simp [ren, pickF, posOf]; done)
       · simp only [pickH, List.map_cons, List.map_nil, pickB, List.getElem?_cons_zero, List.getElem?_cons_succ, map_ren_rows]
theorem okA_yes {b : Bool} {a : Alarm} (h1 : b = true) (h2 : alarmB a = true) : okA b a = some a := by rw [okA, h1, h2]; rfl
theorem okA_no {b : Bool} {a : Alarm} (h1 : b = false) : okA b a = none := by rw [okA, h1]; rfl
theorem okA_bad {b : Bool} {a : Alarm} (h1 : alarmB a = false) : okA b a = none := by rw [okA, h1, Bool.and_false]; rfl
theorem l21Make_ok (a : Alarm) (k v : Int) (ha : alarmB a = true) (hs : stepB k v = true) : Ctr Tryd.prog 243 [a.v, .agg [.int .i64 k, .int .i64 v]] [] (stO (stepW a k v) (stepA a k v)) (stH (stepW a k v) (stepA a k v)) := by
 have A := alarmB_ok ha
 have hlen := A.len
 have hn := A.now
 have hg := A.given
 have hc := A.canc
 by_cases k1 : k = 1
 · subst k1
   have hv : 1 ≤ v := by simpa [stepB] using hs
   have hw : IntKind.i64.wrap (1000000 - a.Now) = 1000000 - a.Now := wrap_i64 (by omega) (by omega)
   have hst : stepA a 1 v = okA (decide (v ≤ 1000000 - a.Now)) (waitA a v) := by rw [stepA, if_pos rfl]
   rw [hst]
   refine Ctr.intro Tryd.mixed Tryd.func243 rfl Tryd.okF243 ?_
   simp -implicitDefEqProofs -dsimp only [go_sem, Tryd.ntmps243, Tryd.results243]
   simp -implicitDefEqProofs -dsimp only [go_sem, Alarm.v]
   (first | refine callT.at (l21Own_ok a (by omega)) ⟨leA, trivial⟩ ?_ | refine callS.at (l21Own_ok a (by omega)) ⟨leA, trivial⟩ ?_)
   (repeat ((repeat1' (first | simp -implicitDefEqProofs -dsimp only [go_sem, Alarm.o, hw] | simp -dsimp (disch := omega) only [wrap_i64])); repeat (with_reducible refine sideA ?_)))
   refine condT.split (fun g1 => ?_) (fun g1 => ?_) <;> (repeat ((repeat1' (first | simp -implicitDefEqProofs -dsimp only [go_sem, g1] | simp -dsimp (disch := omega) only [wrap_i64])); repeat (with_reducible refine sideA ?_)))
   · rw [okA_no (by simpa using g1), show stepW a 1 v = a by rw [stepW, if_pos rfl, if_neg (by simpa using g1)]]
     simp only [stO, stH, Alarm.o, clearA, show rows Heard.cs ([] : List Heard) = [] from rfl]
     refine WeakR.pick [3] (by decide) (fun j hj => by omega) (.inl ?_) ?_
     · first | rfl | (simp [ren, pickF, posOf]; done)
     · simp only [pickH, List.map_cons, List.map_nil, pickB, List.getElem?_cons_zero, List.getElem?_cons_succ, map_ren_rows]
   have g1' : v ≤ 1000000 - a.Now := by simpa using g1
   (first | refine callT.at (l21Wait_ok a v ha hv g1') ⟨leA, leA, trivial⟩ ?_ | refine callS.at (l21Wait_ok a v ha hv g1') ⟨leA, leA, trivial⟩ ?_)
   (repeat ((repeat1' (first | simp -implicitDefEqProofs -dsimp only [go_sem, Alarm.o] | simp -dsimp (disch := omega) only [wrap_i64])); repeat (with_reducible refine sideA ?_)))
   have hgd := l21Good_ok (waitA a v) (by
     have : (waitA a v).Heard.length ≤ a.Heard.length := by
       unfold waitA; split
       · exact List.length_filter_le _ _
       · exact Nat.le_refl _
     omega)
   simp only [Alarm.v] at hgd
   (first | refine callT.at (hgd) ⟨leA, trivial⟩ ?_ | refine callS.at (hgd) ⟨leA, trivial⟩ ?_)
   (repeat ((repeat1' (first | simp -implicitDefEqProofs -dsimp only [go_sem] | simp -dsimp (disch := omega) only [wrap_i64])); repeat (with_reducible refine sideA ?_)))
   cases hA : alarmB (waitA a v) with
   | true =>
     rw [okA_yes (by simpa using g1') hA]
     simp only [stO, stH, Alarm.o]
     refine WeakR.pick [5] (by decide) (fun j hj => by omega) (.inl ?_) ?_
     · first | rfl | (simp [ren, pickF, posOf]; done)
     · simp only [pickH, List.map_cons, List.map_nil, pickB, List.getElem?_cons_zero, List.getElem?_cons_succ, map_ren_rows]
   | false =>
     rw [okA_bad hA]
     rw [show stepW a 1 v = waitA a v by rw [stepW, if_pos rfl, if_pos g1']]
     simp only [stO, stH, Alarm.o, clearA, show rows Heard.cs ([] : List Heard) = [] from rfl]
     refine WeakR.pick [5] (by decide) (fun j hj => by omega) (.inl ?_) ?_
     · first | rfl | (simp [ren, pickF, posOf]; done)
     · simp only [pickH, List.map_cons, List.map_nil, pickB, List.getElem?_cons_zero, List.getElem?_cons_succ, map_ren_rows]
 by_cases k2 : k = 2
 · subst k2
   have hst : stepA a 2 v = okA (a.State != 3 && !(a.Heard.any fun h => h.Station == v)) (hearA a v) := by rw [stepA, if_neg (by decide), if_pos rfl]
   rw [hst]
   have hgd := l21Good_ok (hearA a v) (by show (a.Heard ++ [_]).length ≤ _; simp; omega)
   have hhr := l21Hear_ok a v ha
   generalize hb : (a.State != 3 && !(a.Heard.any fun h => h.Station == v)) = b at hhr ⊢
   simp only [Alarm.v, Alarm.o] at hgd hhr
   refine Ctr.intro Tryd.mixed Tryd.func243 rfl Tryd.okF243 ?_
   simp -implicitDefEqProofs -dsimp only [go_sem, Tryd.ntmps243, Tryd.results243]
   simp -implicitDefEqProofs -dsimp only [go_sem, Alarm.v]
   (first | refine callT.at (l21Own_ok a (by omega)) ⟨leA, trivial⟩ ?_ | refine callS.at (l21Own_ok a (by omega)) ⟨leA, trivial⟩ ?_)
   (repeat ((repeat1' (first | simp -implicitDefEqProofs -dsimp only [go_sem, Alarm.o] | simp -dsimp (disch := omega) only [wrap_i64])); repeat (with_reducible refine sideA ?_)))
   (first | refine callT.at (hhr) ⟨leA, leA, trivial⟩ ?_ | refine callS.at (hhr) ⟨leA, leA, trivial⟩ ?_)
   (repeat ((repeat1' (first | simp -implicitDefEqProofs -dsimp only [go_sem] | simp -dsimp (disch := omega) only [wrap_i64])); repeat (with_reducible refine sideA ?_)))
   cases hX : (b && alarmB (hearA a v)) with
   | false =>
     (repeat ((repeat1' (first | simp -implicitDefEqProofs -dsimp only [go_sem] | simp -dsimp (disch := omega) only [wrap_i64])); repeat (with_reducible refine sideA ?_)))
     rw [show okA b (hearA a v) = none by rw [okA, hX]; rfl]
     rw [show stepW a 2 v = hearA a v by rw [stepW, if_neg (by decide), if_pos rfl]]
     simp only [stO, stH, Alarm.o, clearA, show rows Heard.cs ([] : List Heard) = [] from rfl]
     refine WeakR.pick [5] (by decide) (fun j hj => by omega) (.inl ?_) ?_
     · first | rfl | (simp [ren, pickF, posOf]; done)
     · simp only [pickH, List.map_cons, List.map_nil, pickB, List.getElem?_cons_zero, List.getElem?_cons_succ, map_ren_rows]
   | true =>
     have hX' := hX
     simp only [Bool.and_eq_true] at hX'
     (repeat ((repeat1' (first | simp -implicitDefEqProofs -dsimp only [go_sem] | simp -dsimp (disch := omega) only [wrap_i64])); repeat (with_reducible refine sideA ?_)))
     (first | refine callT.at (hgd) ⟨leA, trivial⟩ ?_ | refine callS.at (hgd) ⟨leA, trivial⟩ ?_)
     (repeat ((repeat1' (first | simp -implicitDefEqProofs -dsimp only [go_sem, hX'.2] | simp -dsimp (disch := omega) only [wrap_i64])); repeat (with_reducible refine sideA ?_)))
     rw [okA_yes hX'.1 hX'.2]
     simp only [stO, stH, Alarm.o]
     refine WeakR.pick [5] (by decide) (fun j hj => by omega) (.inl ?_) ?_
     · first | rfl | (simp [ren, pickF, posOf]; done)
     · simp only [pickH, List.map_cons, List.map_nil, pickB, List.getElem?_cons_zero, List.getElem?_cons_succ, map_ren_rows]
 by_cases k3 : k = 3
 · subst k3
   have hv0 : v = 0 := by simp [stepB, inB'] at hs; omega
   subst hv0
   have hw : IntKind.i64.wrap (a.Cancelled + 1) = a.Cancelled + 1 := wrap_i64 (by omega) (by omega)
   have hst : stepA a 3 0 = okA (canB a) (clearA a 0 (a.Cancelled + 1)) := by rw [stepA, if_neg (by decide), if_neg (by decide), if_pos rfl]
   rw [hst]
   have hgd := l21Good_ok (clearA a 0 (a.Cancelled + 1)) (by simp [clearA])
   simp only [Alarm.v, clearA, List.length_nil] at hgd
   have hcl := l21Clear_ok a 0 (by omega)
   simp only [Alarm.v, clearA, Alarm.o, List.length_nil] at hcl
   refine Ctr.intro Tryd.mixed Tryd.func243 rfl Tryd.okF243 ?_
   simp -implicitDefEqProofs -dsimp only [go_sem, Tryd.ntmps243, Tryd.results243]
   simp -implicitDefEqProofs -dsimp only [go_sem, Alarm.v]
   (first | refine callT.at (l21Own_ok a (by omega)) ⟨leA, trivial⟩ ?_ | refine callS.at (l21Own_ok a (by omega)) ⟨leA, trivial⟩ ?_)
   (repeat ((repeat1' (first | simp -implicitDefEqProofs -dsimp only [go_sem, Alarm.o] | simp -dsimp (disch := omega) only [wrap_i64])); repeat (with_reducible refine sideA ?_)))
   (first | refine callT.at (hcl) ⟨leA, leA, trivial⟩ ?_ | refine callS.at (hcl) ⟨leA, leA, trivial⟩ ?_)
   (repeat ((repeat1' (first | simp -implicitDefEqProofs -dsimp only [go_sem, hw] | simp -dsimp (disch := omega) only [wrap_i64])); repeat (with_reducible refine sideA ?_)))
   (first | refine callT.at (l21Can_ok a ha) ⟨leA, trivial⟩ ?_ | refine callS.at (l21Can_ok a ha) ⟨leA, trivial⟩ ?_)
   (repeat ((repeat1' (first | simp -implicitDefEqProofs -dsimp only [go_sem] | simp -dsimp (disch := omega) only [wrap_i64])); repeat (with_reducible refine sideA ?_)))
   cases hC : canB a with
   | false =>
     (repeat ((repeat1' (first | simp -implicitDefEqProofs -dsimp only [go_sem] | simp -dsimp (disch := omega) only [wrap_i64])); repeat (with_reducible refine sideA ?_)))
     rw [okA_no rfl]
     rw [show stepW a 3 0 = clearA a 0 (a.Cancelled + 1) by rw [stepW, if_neg (by decide), if_neg (by decide), if_pos rfl]]
     simp only [stO, stH, Alarm.o, clearA, show rows Heard.cs ([] : List Heard) = [] from rfl]
     refine WeakR.pick [5] (by decide) (fun j hj => by omega) (.inl ?_) ?_
     · first | rfl | (simp [ren, pickF, posOf]; done)
     · simp only [pickH, List.map_cons, List.map_nil, pickB, List.getElem?_cons_zero, List.getElem?_cons_succ, map_ren_rows]
   | true =>
     (repeat ((repeat1' (first | simp -implicitDefEqProofs -dsimp only [go_sem] | simp -dsimp (disch := omega) only [wrap_i64])); repeat (with_reducible refine sideA ?_)))
     (first | refine callT.at (hgd) ⟨leA, trivial⟩ ?_ | refine callS.at (hgd) ⟨leA, trivial⟩ ?_)
     (repeat ((repeat1' (first | simp -implicitDefEqProofs -dsimp only [go_sem] | simp -dsimp (disch := omega) only [wrap_i64])); repeat (with_reducible refine sideA ?_)))
     cases hA : alarmB (clearA a 0 (a.Cancelled + 1)) with
     | true =>
       rw [okA_yes rfl hA]
       simp only [clearA] at hA
       rw [hA]
       simp only [stO, stH, Alarm.o, clearA, show rows Heard.cs ([] : List Heard) = [] from rfl]
       refine WeakR.pick [5] (by decide) (fun j hj => by omega) (.inl ?_) ?_
       · first | rfl | (simp [ren, pickF, posOf]; done)
       · simp only [pickH, List.map_cons, List.map_nil, pickB, List.getElem?_cons_zero, List.getElem?_cons_succ, map_ren_rows]
     | false =>
       rw [okA_bad hA]
       simp only [clearA] at hA
       rw [hA]
       rw [show stepW a 3 0 = clearA a 0 (a.Cancelled + 1) by rw [stepW, if_neg (by decide), if_neg (by decide), if_pos rfl]]
       simp only [stO, stH, Alarm.o, clearA, show rows Heard.cs ([] : List Heard) = [] from rfl]
       refine WeakR.pick [5] (by decide) (fun j hj => by omega) (.inl ?_) ?_
       · first | rfl | (simp [ren, pickF, posOf]; done)
       · simp only [pickH, List.map_cons, List.map_nil, pickB, List.getElem?_cons_zero, List.getElem?_cons_succ, map_ren_rows]
 by_cases k4 : k = 4
 · subst k4
   have hv0 : v = 0 := by simp [stepB, inB'] at hs; omega
   subst hv0
   have hst : stepA a 4 0 = okA (a.State == 2 && decide (500 < a.Now - tickAt a.Heard (a.Heard.length - 1))) (clearA a 3 a.Cancelled) := by rw [stepA, if_neg (by decide), if_neg (by decide), if_neg (by decide), if_pos rfl]
   rw [hst]
   have hgd := l21Good_ok (clearA a 3 a.Cancelled) (by simp [clearA])
   simp only [Alarm.v, clearA, List.length_nil] at hgd
   have hcl := l21Clear_ok a 3 (by omega)
   simp only [Alarm.v, clearA, Alarm.o, List.length_nil] at hcl
   refine Ctr.intro Tryd.mixed Tryd.func243 rfl Tryd.okF243 ?_
   simp -implicitDefEqProofs -dsimp only [go_sem, Tryd.ntmps243, Tryd.results243]
   simp -implicitDefEqProofs -dsimp only [go_sem, Alarm.v]
   (first | refine callT.at (l21Own_ok a (by omega)) ⟨leA, trivial⟩ ?_ | refine callS.at (l21Own_ok a (by omega)) ⟨leA, trivial⟩ ?_)
   (repeat ((repeat1' (first | simp -implicitDefEqProofs -dsimp only [go_sem, Alarm.o] | simp -dsimp (disch := omega) only [wrap_i64])); repeat (with_reducible refine sideA ?_)))
   (first | refine callT.at (hcl) ⟨leA, leA, trivial⟩ ?_ | refine callS.at (hcl) ⟨leA, leA, trivial⟩ ?_)
   (repeat ((repeat1' (first | simp -implicitDefEqProofs -dsimp only [go_sem] | simp -dsimp (disch := omega) only [wrap_i64])); repeat (with_reducible refine sideA ?_)))
   by_cases hs : a.State = 2
   · have h3 := state2 A hs
     have hr := rows_at Heard.csl (show a.Heard.length - 1 < a.Heard.length by omega)
     have hh := heardB_iff.1 (A.heard _ (List.getElem_mem (show a.Heard.length - 1 < a.Heard.length by omega)))
     have hb : (a.State == 2) = true := by simp [hs]
     have hw1 : IntKind.i64.wrap ((a.Heard.length : Int) - 1) = ((a.Heard.length - 1 : Nat) : Int) := by rw [wrap_i64 (by omega) (by omega)]; omega
     have hw2 : IntKind.i64.wrap (a.Now - (a.Heard[a.Heard.length - 1]'(by omega)).Tick) = a.Now - (a.Heard[a.Heard.length - 1]'(by omega)).Tick := wrap_i64 (by omega) (by omega)
     have ht := tickAt_get (L := a.Heard) (show a.Heard.length - 1 < a.Heard.length by omega)
     (repeat ((repeat1' (first | simp -implicitDefEqProofs -dsimp only [go_sem, hb, hw1, hr, hw2, Heard.cs] | simp -dsimp (disch := omega) only [wrap_i64])); repeat (with_reducible refine sideA ?_)))
     rw [ht]
     try rw [hb, Bool.true_and]
     cases hC : decide (500 < a.Now - (a.Heard[a.Heard.length - 1]'(by omega)).Tick) with
     | false =>
       (repeat ((repeat1' (first | simp -implicitDefEqProofs -dsimp only [go_sem] | simp -dsimp (disch := omega) only [wrap_i64])); repeat (with_reducible refine sideA ?_)))
       rw [okA_no rfl]
       rw [show stepW a 4 0 = clearA a 3 a.Cancelled by rw [stepW, if_neg (by decide), if_neg (by decide), if_neg (by decide), if_pos rfl]]
       simp only [stO, stH, Alarm.o, clearA, show rows Heard.cs ([] : List Heard) = [] from rfl]
       refine WeakR.pick [5] (by decide) (fun j hj => by omega) (.inl ?_) ?_
       · first | rfl | (simp [ren, pickF, posOf]; done)
       · simp only [pickH, List.map_cons, List.map_nil, pickB, List.getElem?_cons_zero, List.getElem?_cons_succ, map_ren_rows]
     | true =>
       (repeat ((repeat1' (first | simp -implicitDefEqProofs -dsimp only [go_sem] | simp -dsimp (disch := omega) only [wrap_i64])); repeat (with_reducible refine sideA ?_)))
       (first | refine callT.at (hgd) ⟨leA, trivial⟩ ?_ | refine callS.at (hgd) ⟨leA, trivial⟩ ?_)
       (repeat ((repeat1' (first | simp -implicitDefEqProofs -dsimp only [go_sem] | simp -dsimp (disch := omega) only [wrap_i64])); repeat (with_reducible refine sideA ?_)))
       cases hA : alarmB (clearA a 3 a.Cancelled) with
       | true =>
         rw [okA_yes rfl hA]
         simp only [clearA] at hA
         rw [hA]
         simp only [stO, stH, Alarm.o, clearA, show rows Heard.cs ([] : List Heard) = [] from rfl]
         refine WeakR.pick [5] (by decide) (fun j hj => by omega) (.inl ?_) ?_
         · first | rfl | (simp [ren, pickF, posOf]; done)
         · simp only [pickH, List.map_cons, List.map_nil, pickB, List.getElem?_cons_zero, List.getElem?_cons_succ, map_ren_rows]
       | false =>
         rw [okA_bad hA]
         simp only [clearA] at hA
         rw [hA]
         rw [show stepW a 4 0 = clearA a 3 a.Cancelled by rw [stepW, if_neg (by decide), if_neg (by decide), if_neg (by decide), if_pos rfl]]
         simp only [stO, stH, Alarm.o, clearA, show rows Heard.cs ([] : List Heard) = [] from rfl]
         refine WeakR.pick [5] (by decide) (fun j hj => by omega) (.inl ?_) ?_
         · first | rfl | (simp [ren, pickF, posOf]; done)
         · simp only [pickH, List.map_cons, List.map_nil, pickB, List.getElem?_cons_zero, List.getElem?_cons_succ, map_ren_rows]
   · have hb : (a.State == 2) = false := by simp [hs]
     (repeat ((repeat1' (first | simp -implicitDefEqProofs -dsimp only [go_sem, hb] | simp -dsimp (disch := omega) only [wrap_i64])); repeat (with_reducible refine sideA ?_)))
     rw [okA_no rfl]
     rw [show stepW a 4 0 = clearA a 3 a.Cancelled by rw [stepW, if_neg (by decide), if_neg (by decide), if_neg (by decide), if_pos rfl]]
     simp only [stO, stH, Alarm.o, clearA, show rows Heard.cs ([] : List Heard) = [] from rfl]
     refine WeakR.pick [5] (by decide) (fun j hj => by omega) (.inl ?_) ?_
     · first | rfl | (simp [ren, pickF, posOf]; done)
     · simp only [pickH, List.map_cons, List.map_nil, pickB, List.getElem?_cons_zero, List.getElem?_cons_succ, map_ren_rows]
 · have k5 : k = 5 := by simp [stepB, k1, k2, inB'] at hs; omega
   subst k5
   have hv0 : v = 0 := by simp [stepB, inB'] at hs; omega
   subst hv0
   have hst : stepA a 5 0 = okA (a.State == 3) ⟨a.Now, 0, a.Heard, a.Given, a.Cancelled⟩ := by rw [stepA, if_neg (by decide), if_neg (by decide), if_neg (by decide), if_neg (by decide)]
   rw [hst]
   have hgd := l21Good_ok ⟨a.Now, 0, a.Heard, a.Given, a.Cancelled⟩ (by show a.Heard.length ≤ _; omega)
   simp only [Alarm.v] at hgd
   refine Ctr.intro Tryd.mixed Tryd.func243 rfl Tryd.okF243 ?_
   simp -implicitDefEqProofs -dsimp only [go_sem, Tryd.ntmps243, Tryd.results243]
   simp -implicitDefEqProofs -dsimp only [go_sem, Alarm.v]
   (first | refine callT.at (l21Own_ok a (by omega)) ⟨leA, trivial⟩ ?_ | refine callS.at (l21Own_ok a (by omega)) ⟨leA, trivial⟩ ?_)
   (repeat ((repeat1' (first | simp -implicitDefEqProofs -dsimp only [go_sem, Alarm.o] | simp -dsimp (disch := omega) only [wrap_i64])); repeat (with_reducible refine sideA ?_)))
   cases hC : (a.State == 3) with
   | false =>
     (repeat ((repeat1' (first | simp -implicitDefEqProofs -dsimp only [go_sem] | simp -dsimp (disch := omega) only [wrap_i64])); repeat (with_reducible refine sideA ?_)))
     rw [okA_no rfl]
     rw [show stepW a 5 0 = ⟨a.Now, 0, a.Heard, a.Given, a.Cancelled⟩ by rw [stepW, if_neg (by decide), if_neg (by decide), if_neg (by decide), if_neg (by decide)]]
     simp only [stO, stH, Alarm.o, clearA, show rows Heard.cs ([] : List Heard) = [] from rfl]
     refine WeakR.pick [3] (by decide) (fun j hj => by omega) (.inl ?_) ?_
     · first | rfl | (simp [ren, pickF, posOf]; done)
     · simp only [pickH, List.map_cons, List.map_nil, pickB, List.getElem?_cons_zero, List.getElem?_cons_succ, map_ren_rows]
   | true =>
     (repeat ((repeat1' (first | simp -implicitDefEqProofs -dsimp only [go_sem] | simp -dsimp (disch := omega) only [wrap_i64])); repeat (with_reducible refine sideA ?_)))
     (first | refine callT.at (hgd) ⟨leA, trivial⟩ ?_ | refine callS.at (hgd) ⟨leA, trivial⟩ ?_)
     (repeat ((repeat1' (first | simp -implicitDefEqProofs -dsimp only [go_sem] | simp -dsimp (disch := omega) only [wrap_i64])); repeat (with_reducible refine sideA ?_)))
     cases hA : alarmB ⟨a.Now, 0, a.Heard, a.Given, a.Cancelled⟩ with
     | true =>
       rw [okA_yes rfl hA]
       simp only [stO, stH, Alarm.o]
       refine WeakR.pick [3] (by decide) (fun j hj => by omega) (.inl ?_) ?_
       · first | rfl | (simp [ren, pickF, posOf]; done)
       · simp only [pickH, List.map_cons, List.map_nil, pickB, List.getElem?_cons_zero, List.getElem?_cons_succ, map_ren_rows]
     | false =>
       rw [okA_bad hA]
       rw [show stepW a 5 0 = ⟨a.Now, 0, a.Heard, a.Given, a.Cancelled⟩ by rw [stepW, if_neg (by decide), if_neg (by decide), if_neg (by decide), if_neg (by decide)]]
       simp only [stO, stH, Alarm.o, clearA, show rows Heard.cs ([] : List Heard) = [] from rfl]
       refine WeakR.pick [3] (by decide) (fun j hj => by omega) (.inl ?_) ?_
       · first | rfl | (simp [ren, pickF, posOf]; done)
       · simp only [pickH, List.map_cons, List.map_nil, pickB, List.getElem?_cons_zero, List.getElem?_cons_succ, map_ren_rows]
end Go.Proofs
end
section
set_option maxRecDepth 100000
namespace Go.Proofs
open Go.Lv
structure AlarmStep where
 Kind : Int
 Value : Int
def AlarmStep.cs (r : AlarmStep) : List V := [.int .i64 r.Kind, .int .i64 r.Value]
def AlarmStep.v (r : AlarmStep) : V := .agg [.int .i64 r.Kind, .int .i64 r.Value]
theorem AlarmStep.csl (a : AlarmStep) : a.cs.length = 2 := rfl
theorem AlarmStep.csp (a : AlarmStep) : a.cs.all (noOwn 2) = true := rfl
instance : FlatP AlarmStep.cs 2 := ⟨fun _ => rfl, fun _ d => by cases d <;> rfl, fun _ => rfl, fun _ => rfl⟩
def AlarmStep.ok (r : AlarmStep) : Prop := i64R r.Kind ∧ i64R r.Value
abbrev AlarmStep.rows (L : List AlarmStep) : List V := Go.Lv.rows AlarmStep.cs L
abbrev AlarmStep.sl (L : List AlarmStep) : V := .sl L.length 2 (Go.Lv.rows AlarmStep.cs L)
abbrev AlarmStep.zs : List V := [.int .i64 0, .int .i64 0]
def AlarmStep.mk1 (k : Int) : AlarmStep := ⟨k, k + 1⟩
def AlarmStep.marks (k : Int) (n : Nat) : List AlarmStep := (List.range n).map fun i : Nat => AlarmStep.mk1 (k + 2 * (i : Int))
@[simp] theorem AlarmStep.marks_len (k : Int) (n : Nat) : (AlarmStep.marks k n).length = n := by simp [AlarmStep.marks]
end Go.Proofs
end
section
set_option maxRecDepth 100000
set_option maxHeartbeats 1000000
namespace Go.Proofs
open Go.Lv
def zeroA : V := .agg [.int .i64 0, .int .i64 0, .nilsl, .int .i64 0, .int .i64 0]
def stepO (a : Alarm) (k v : Int) : Option Alarm := if (alarmB a && stepB k v) = true then stepA a k v else none
def stR : Option Alarm → V
 | none => .tup [zeroA, .bool false]
 | some a => .tup [a.o 0, .bool true]
def stRh : Option Alarm → Hp
 | none => []
 | some a => [some (rows Heard.cs a.Heard)]
theorem l21Step_ok (k v : Int) : Ctr Tryd.prog 242 [.agg [.int .i64 k, .int .i64 v]] [] (.bool (stepB k v)) [] := by
 refine Ctr.intro Tryd.mixed Tryd.func242 rfl Tryd.okF242 ?_
 simp -implicitDefEqProofs -dsimp only [go_sem, Tryd.ntmps242, Tryd.results242]
 refine condT.split (fun h1 => ?_) (fun h1 => ?_) <;> simp -implicitDefEqProofs -dsimp only [go_sem, h1]
 · exact WeakR.drop' (by rw [stepB, if_pos (by simpa using h1)]) (by rfl)
 refine condT.split (fun h2 => ?_) (fun h2 => ?_) <;> simp -implicitDefEqProofs -dsimp only [go_sem, h2]
 · (first | refine callT.at (l1In_ok v 1 99) ⟨.inl rfl, .inl rfl, .inl rfl, trivial⟩ ?_ | refine callS.at (l1In_ok v 1 99) ⟨.inl rfl, .inl rfl, .inl rfl, trivial⟩ ?_)
   simp -implicitDefEqProofs -dsimp only [go_sem]
   exact WeakR.drop' (by rw [stepB, if_neg (by simpa using h1), if_pos (by simpa using h2)]) (by rfl)
 (first | refine callT.at (l1In_ok k 3 5) ⟨.inl rfl, .inl rfl, .inl rfl, trivial⟩ ?_ | refine callS.at (l1In_ok k 3 5) ⟨.inl rfl, .inl rfl, .inl rfl, trivial⟩ ?_)
 simp -implicitDefEqProofs -dsimp only [go_sem]
 have e : stepB k v = (inB' k 3 5 && v == 0) := by rw [stepB, if_neg (by simpa using h1), if_neg (by simpa using h2)]
 cases hq : inB' k 3 5 <;> (repeat ((repeat1' (first | simp -implicitDefEqProofs -dsimp only [go_sem] | simp -dsimp (disch := omega) only [wrap_i64])); repeat (with_reducible refine sideA ?_))) <;> exact WeakR.drop' (by rw [e, hq]; rfl) (by rfl)
theorem iIsAlarmStep_ok (k v : Int) : Ctr Tryd.prog 111 [.agg [.int .i64 k, .int .i64 v]] [] (.bool (stepB k v)) [] := by
 refine Ctr.intro Tryd.mixed Tryd.func111 rfl Tryd.okF111 ?_
 simp -implicitDefEqProofs -dsimp only [go_sem, Tryd.ntmps111, Tryd.results111]
 refine condT.split (fun h1 => ?_) (fun h1 => ?_) <;> simp -implicitDefEqProofs -dsimp only [go_sem, h1]
 · exact WeakR.drop' (by rw [stepB, if_pos (by simpa using h1)]) (by rfl)
 refine condT.split (fun h2 => ?_) (fun h2 => ?_) <;> simp -implicitDefEqProofs -dsimp only [go_sem, h2]
 · (first | refine callT.at (isStationId_ok v) ⟨.inl rfl, trivial⟩ ?_ | refine callS.at (isStationId_ok v) ⟨.inl rfl, trivial⟩ ?_)
   simp -implicitDefEqProofs -dsimp only [go_sem]
   exact WeakR.drop' (by rw [stepB, if_neg (by simpa using h1), if_pos (by simpa using h2)]) (by rfl)
 (first | refine callT.at (in_ok k 3 5) ⟨.inl rfl, .inl rfl, .inl rfl, trivial⟩ ?_ | refine callS.at (in_ok k 3 5) ⟨.inl rfl, .inl rfl, .inl rfl, trivial⟩ ?_)
 simp -implicitDefEqProofs -dsimp only [go_sem]
 have e : stepB k v = (inB' k 3 5 && v == 0) := by rw [stepB, if_neg (by simpa using h1), if_neg (by simpa using h2)]
 cases hq : inB' k 3 5 <;> (repeat ((repeat1' (first | simp -implicitDefEqProofs -dsimp only [go_sem] | simp -dsimp (disch := omega) only [wrap_i64])); repeat (with_reducible refine sideA ?_))) <;> exact WeakR.drop' (by rw [e, hq]; rfl) (by rfl)
theorem sStepAlarm_ok (a : Alarm) (k v : Int) (hl : a.Heard.length ≤ 16777216) : Ctr Tryd.prog 204 [a.v, .agg [.int .i64 k, .int .i64 v]] [] (stR (stepO a k v)) (stRh (stepO a k v)) := by
 refine Ctr.intro Tryd.mixed Tryd.func204 rfl Tryd.okF204 ?_
 simp -implicitDefEqProofs -dsimp only [go_sem, Tryd.ntmps204, Tryd.results204]
 simp -implicitDefEqProofs -dsimp only [go_sem, Alarm.v]
 (first | refine callT.at (l21Good_ok a (by omega)) ⟨leA, trivial⟩ ?_ | refine callS.at (l21Good_ok a (by omega)) ⟨leA, trivial⟩ ?_)
 cases h1 : alarmB a with
 | false =>
   (repeat ((repeat1' (first | simp -implicitDefEqProofs -dsimp only [go_sem] | simp -dsimp (disch := omega) only [wrap_i64])); repeat (with_reducible refine sideA ?_)))
   rw [show stepO a k v = none by rw [stepO, h1]; rfl]
   exact WeakR.drop' rfl (by rfl)
 | true =>
   (repeat ((repeat1' (first | simp -implicitDefEqProofs -dsimp only [go_sem] | simp -dsimp (disch := omega) only [wrap_i64])); repeat (with_reducible refine sideA ?_)))
   (first | refine callT.at (l21Step_ok k v) ⟨leA, trivial⟩ ?_ | refine callS.at (l21Step_ok k v) ⟨leA, trivial⟩ ?_)
   cases h2 : stepB k v with
   | false =>
     (repeat ((repeat1' (first | simp -implicitDefEqProofs -dsimp only [go_sem] | simp -dsimp (disch := omega) only [wrap_i64])); repeat (with_reducible refine sideA ?_)))
     rw [show stepO a k v = none by rw [stepO, h2, Bool.and_false]; rfl]
     exact WeakR.drop' rfl (by rfl)
   | true =>
     (repeat ((repeat1' (first | simp -implicitDefEqProofs -dsimp only [go_sem] | simp -dsimp (disch := omega) only [wrap_i64])); repeat (with_reducible refine sideA ?_)))
     have hm := l21Make_ok a k v h1 h2
     rw [show stepO a k v = stepA a k v by rw [stepO, h1, h2]; rfl]
     cases h3 : stepA a k v with
     | none =>
       rw [h3] at hm
       simp only [stO, stH, Alarm.v, Alarm.o] at hm
       (first | refine callT.at (hm) ⟨leA, leA, trivial⟩ ?_ | refine callS.at (hm) ⟨leA, leA, trivial⟩ ?_)
       (repeat ((repeat1' (first | simp -implicitDefEqProofs -dsimp only [go_sem] | simp -dsimp (disch := omega) only [wrap_i64])); repeat (with_reducible refine sideA ?_)))
       exact WeakR.drop' rfl (by rfl)
     | some b =>
       rw [h3] at hm
       simp only [stO, stH, Alarm.v, Alarm.o] at hm
       (first | refine callT.at (hm) ⟨leA, leA, trivial⟩ ?_ | refine callS.at (hm) ⟨leA, leA, trivial⟩ ?_)
       (repeat ((repeat1' (first | simp -implicitDefEqProofs -dsimp only [go_sem] | simp -dsimp (disch := omega) only [wrap_i64])); repeat (with_reducible refine sideA ?_)))
       simp only [stR, stRh, Alarm.o]
       refine WeakR.pick [3] (by decide) (fun j hj => by omega) (.inl ?_) ?_
       · first | rfl | (simp [ren, pickF, posOf]; done)
       · simp only [pickH, List.map_cons, List.map_nil, pickB, List.getElem?_cons_zero, List.getElem?_cons_succ, map_ren_rows]
end Go.Proofs
end
section
set_option maxRecDepth 100000
set_option maxHeartbeats 1000000
namespace Go.Proofs
open Go.Lv
def Alarm.oc (a : Alarm) (id : Nat) : List V := [.int .i64 a.Now, .int .i64 a.State, .osl id 0 a.Heard.length 2, .int .i64 a.Given, .int .i64 a.Cancelled]
theorem waitF_ok (a : Alarm) (h : Heard) : Ctr Tryd.prog 217 [h.v, .pt [.pt a.cs]] [] (.bool (!(decide (500 < IntKind.i64.wrap (a.Now - h.Tick))))) [] := by
 refine Ctr.intro Tryd.mixed Tryd.func217 rfl Tryd.okF217 ?_
 simp -implicitDefEqProofs -dsimp only [go_sem, Tryd.ntmps217, Tryd.results217]
 simp -implicitDefEqProofs -dsimp only [go_sem, Heard.v, Alarm.cs]
 refine clT.text (by kernel_rfl) ?_
 (repeat ((repeat1' (first | simp -implicitDefEqProofs -dsimp only [go_sem] | simp -dsimp (disch := omega) only [wrap_i64])); repeat (with_reducible refine sideA ?_)))
 (first | refine callT.at (isOld_ok a h) ⟨leA, leA, trivial⟩ ?_ | refine callS.at (isOld_ok a h) ⟨leA, leA, trivial⟩ ?_)
 simp -implicitDefEqProofs -dsimp only [go_sem]
 exact WeakR.drop' rfl (by rfl)
theorem filter_old {now : Int} {L : List Heard} (hn : 0 ≤ now ∧ now ≤ 1000000) (hL : ∀ x ∈ L, 0 ≤ x.Tick ∧ x.Tick ≤ 1000000) : (L.filter fun h => !(decide (500 < IntKind.i64.wrap (now - h.Tick)))) = waitH now L := by
 unfold waitH
 refine List.filter_congr fun x hx => ?_
 have := hL x hx
 rw [wrap_i64 (by omega) (by omega), Bool.eq_iff_iff]
 simp
theorem wait_no (a : Alarm) (v : Int) (ha : alarmB a = true) (hv : 1 ≤ v) (h1 : ¬ v ≤ 1000000 - a.Now) : Ctr Tryd.prog 167 [.ptr 0 0, .int .i64 v] [some (a.oc 1), some (rows Heard.cs a.Heard)] (.bool false) [some (a.oc 1), some (rows Heard.cs a.Heard)] := by
 have A := alarmB_ok ha
 have hlen := A.len
 have hn := A.now
 have hw : IntKind.i64.wrap (1000000 - a.Now) = 1000000 - a.Now := wrap_i64 (by omega) (by omega)
 have hb : decide (1000000 - a.Now < v) = true := by simp; omega
 refine Ctr.intro Tryd.mixed Tryd.func167 rfl Tryd.okF167 ?_
 simp -implicitDefEqProofs -dsimp only [go_sem, Tryd.ntmps167, Tryd.results167]
 (repeat ((repeat1' (first | simp -implicitDefEqProofs -dsimp only [go_sem, Alarm.oc, hw, hb] | simp -dsimp (disch := omega) only [wrap_i64])); repeat (with_reducible refine sideA ?_)))
 refine WeakR.pick [0, 1] (by decide) (fun j hj => by have hj' : j = 0 ∨ j = 1 := (by omega); rcases hj' with rfl | rfl <;> rfl) (.inl rfl) ?_
 simp [pickH, pickB, ren, pickF, posOf, map_ren_rows, Alarm.oc]
theorem wait_still (a : Alarm) (v : Int) (ha : alarmB a = true) (hv : 1 ≤ v) (h1 : v ≤ 1000000 - a.Now) (hs : a.State ≠ 1) : Ctr Tryd.prog 167 [.ptr 0 0, .int .i64 v] [some (a.oc 1), some (rows Heard.cs a.Heard)] (.bool true) [some ((waitA a v).oc 1), some (rows Heard.cs a.Heard)] := by
 have A := alarmB_ok ha
 have hlen := A.len
 have hn := A.now
 have hw : IntKind.i64.wrap (1000000 - a.Now) = 1000000 - a.Now := wrap_i64 (by omega) (by omega)
 have hw2 : IntKind.i64.wrap (a.Now + v) = a.Now + v := wrap_i64 (by omega) (by omega)
 have hb : decide (1000000 - a.Now < v) = false := by simp; omega
 have hs' : (a.State == 1) = false := by simp [hs]
 rw [waitA, if_neg hs]
 refine Ctr.intro Tryd.mixed Tryd.func167 rfl Tryd.okF167 ?_
 simp -implicitDefEqProofs -dsimp only [go_sem, Tryd.ntmps167, Tryd.results167]
 (repeat ((repeat1' (first | simp -implicitDefEqProofs -dsimp only [go_sem, Alarm.oc, hw, hw2, hb, hs'] | simp -dsimp (disch := omega) only [wrap_i64])); repeat (with_reducible refine sideA ?_)))
 refine WeakR.pick [0, 1] (by decide) (fun j hj => by have hj' : j = 0 ∨ j = 1 := (by omega); rcases hj' with rfl | rfl <;> rfl) (.inl rfl) ?_
 simp [pickH, pickB, ren, pickF, posOf, map_ren_rows, Alarm.oc]
theorem wait_yes (a : Alarm) (v : Int) (ha : alarmB a = true) (hv : 1 ≤ v) (h1 : v ≤ 1000000 - a.Now) (hs : a.State = 1) : Ctr Tryd.prog 167 [.ptr 0 0, .int .i64 v] [some (a.oc 1), some (rows Heard.cs a.Heard)] (.bool true) [some ((waitA a v).oc 2), some (rows Heard.cs a.Heard), some (rows Heard.cs (waitA a v).Heard)] := by
 have A := alarmB_ok ha
 have hlen := A.len
 have hn := A.now
 have hw : IntKind.i64.wrap (1000000 - a.Now) = 1000000 - a.Now := wrap_i64 (by omega) (by omega)
 have hw2 : IntKind.i64.wrap (a.Now + v) = a.Now + v := wrap_i64 (by omega) (by omega)
 have hb : decide (1000000 - a.Now < v) = false := by simp; omega
 have hs' : (a.State == 1) = true := by simp [hs]
 obtain ⟨b, hb2⟩ : ∃ b : Alarm, b = ⟨a.Now + v, a.State, a.Heard, a.Given, a.Cancelled⟩ := ⟨_, rfl⟩
 have hf := filterHeard_ok a.Heard (fun h => !(decide (500 < IntKind.i64.wrap (b.Now - h.Tick)))) 217 [.pt [.pt b.cs]] (fun d => by cases d <;> rfl) (fun x => waitF_ok b x) (by omega)
 rw [hb2] at hf
 simp only [Alarm.cs] at hf
 rw [filter_old (by omega) (fun x hx => by have := heardB_iff.1 (A.heard x hx); omega)] at hf
 rw [waitA, if_pos hs]
 refine Ctr.intro Tryd.mixed Tryd.func167 rfl Tryd.okF167 ?_
 simp -implicitDefEqProofs -dsimp only [go_sem, Tryd.ntmps167, Tryd.results167]
 (repeat ((repeat1' (first | simp -implicitDefEqProofs -dsimp only [go_sem, Alarm.oc, hw, hw2, hb, hs'] | simp -dsimp (disch := omega) only [wrap_i64])); repeat (with_reducible refine sideA ?_)))
 refine callT.intro hf ⟨le_snap rfl, .inl (by simp [ren, snapR, map_ren_rows, take_rows, Alarm.cs]), trivial⟩ (.inr ⟨noRo_ok 3 rfl, noRoH_rows _⟩) ⟨rfl, by simp [refOk, refV, refB, rows_refV]⟩ ?_
 (repeat ((repeat1' (first | simp -implicitDefEqProofs -dsimp only [go_sem] | simp -dsimp (disch := omega) only [wrap_i64])); repeat (with_reducible refine sideA ?_)))
 refine condT.split (fun g1 => ?_) (fun g1 => ?_) <;> (repeat ((repeat1' (first | simp -implicitDefEqProofs -dsimp only [go_sem, g1] | simp -dsimp (disch := omega) only [wrap_i64])); repeat (with_reducible refine sideA ?_)))
 · have g1' : (waitH (a.Now + v) a.Heard).length = 0 := by simpa using g1
   simp only [g1', if_true]
   refine WeakR.pick [0, 1, 3] (by decide) (fun j hj => by have hj' : j = 0 ∨ j = 1 := (by omega); rcases hj' with rfl | rfl <;> rfl) (.inl rfl) ?_
   simp [pickH, pickB, ren, pickF, posOf, map_ren_rows, Alarm.oc]
 · have g1' : ¬ (waitH (a.Now + v) a.Heard).length = 0 := by simpa using g1
   simp only [g1', if_false]
   refine WeakR.pick [0, 1, 3] (by decide) (fun j hj => by have hj' : j = 0 ∨ j = 1 := (by omega); rcases hj' with rfl | rfl <;> rfl) (.inl rfl) ?_
   simp [pickH, pickB, ren, pickF, posOf, map_ren_rows, Alarm.oc]
   exact hs
theorem hearF_ok (h : Heard) (v : Int) : Ctr Tryd.prog 218 [h.v, .pt [.int .i64 v]] [] (.bool (h.Station == v)) [] := by
 refine Ctr.intro Tryd.mixed Tryd.func218 rfl Tryd.okF218 ?_
 simp -implicitDefEqProofs -dsimp only [go_sem, Tryd.ntmps218, Tryd.results218]
 simp -implicitDefEqProofs -dsimp only [go_sem, Heard.v]
 exact WeakR.drop' rfl (by rfl)
theorem hear_no (a : Alarm) (v : Int) (ha : alarmB a = true) (h1 : (a.State != 3 && !(a.Heard.any fun h => h.Station == v)) = false) : Ctr Tryd.prog 168 [.ptr 0 0, .int .i64 v] [some (a.oc 1), some (rows Heard.cs a.Heard)] (.bool false) [some (a.oc 1), some (rows Heard.cs a.Heard)] := by
 have A := alarmB_ok ha
 have hlen := A.len
 have hf := containsFuncHeard_ok a.Heard (fun h => h.Station == v) 218 [.pt [.int .i64 v]] (fun d => by cases d <;> rfl) (fun x => hearF_ok x v) (by omega)
 refine Ctr.intro Tryd.mixed Tryd.func168 rfl Tryd.okF168 ?_
 simp -implicitDefEqProofs -dsimp only [go_sem, Tryd.ntmps168, Tryd.results168]
 (repeat ((repeat1' (first | simp -implicitDefEqProofs -dsimp only [go_sem, Alarm.oc] | simp -dsimp (disch := omega) only [wrap_i64])); repeat (with_reducible refine sideA ?_)))
 (first | refine callT.at (hf) ⟨leA, leA, trivial⟩ ?_ | refine callS.at (hf) ⟨leA, leA, trivial⟩ ?_)
 (repeat ((repeat1' (first | simp -implicitDefEqProofs -dsimp only [go_sem] | simp -dsimp (disch := omega) only [wrap_i64])); repeat (with_reducible refine sideA ?_)))
 by_cases hs : a.State = 3
 · have hb : (a.State == 3) = true := by simp [hs]
   (repeat ((repeat1' (first | simp -implicitDefEqProofs -dsimp only [go_sem, hb] | simp -dsimp (disch := omega) only [wrap_i64])); repeat (with_reducible refine sideA ?_)))
   refine WeakR.pick [0, 1] (by decide) (fun j hj => by have hj' : j = 0 ∨ j = 1 := (by omega); rcases hj' with rfl | rfl <;> rfl) (.inl rfl) ?_
   simp [pickH, pickB, ren, pickF, posOf, map_ren_rows, Alarm.oc]
 · have hb : (a.State == 3) = false := by simp [hs]
   have hk : (a.Heard.any fun h => h.Station == v) = true := by simpa [hs] using h1
   (repeat ((repeat1' (first | simp -implicitDefEqProofs -dsimp only [go_sem, hb, hk] | simp -dsimp (disch := omega) only [wrap_i64])); repeat (with_reducible refine sideA ?_)))
   refine WeakR.pick [0, 1] (by decide) (fun j hj => by have hj' : j = 0 ∨ j = 1 := (by omega); rcases hj' with rfl | rfl <;> rfl) (.inl rfl) ?_
   simp [pickH, pickB, ren, pickF, posOf, map_ren_rows, Alarm.oc]
theorem hear_yes (a : Alarm) (v : Int) (ha : alarmB a = true) (h1 : (a.State != 3 && !(a.Heard.any fun h => h.Station == v)) = true) : Ctr Tryd.prog 168 [.ptr 0 0, .int .i64 v] [some (a.oc 1), some (rows Heard.cs a.Heard)] (.bool true) [some ((hearA a v).oc 1), some (rows Heard.cs (hearA a v).Heard)] := by
 have A := alarmB_ok ha
 have hlen := A.len
 have hg := A.given
 have hc := A.canc
 have hw : IntKind.i64.wrap (a.Given + 1) = a.Given + 1 := wrap_i64 (by omega) (by omega)
 have hf := containsFuncHeard_ok a.Heard (fun h => h.Station == v) 218 [.pt [.int .i64 v]] (fun d => by cases d <;> rfl) (fun x => hearF_ok x v) (by omega)
 have h1' : ¬ a.State = 3 ∧ (a.Heard.any fun h => h.Station == v) = false := by simpa using h1
 have hb : (a.State == 3) = false := by simp [h1'.1]
 obtain ⟨H', hH'⟩ : ∃ H', H' = a.Heard ++ [(⟨v, a.Now⟩ : Heard)] := ⟨_, rfl⟩
 have hl' : a.Heard.length + 1 = H'.length := by rw [hH']; simp
 have hrow : rows Heard.cs a.Heard ++ [.int .i64 v, .int .i64 a.Now] = rows Heard.cs H' := by rw [hH', rowsOf_append, rows_one]; rfl
 refine Ctr.intro Tryd.mixed Tryd.func168 rfl Tryd.okF168 ?_
 simp -implicitDefEqProofs -dsimp only [go_sem, Tryd.ntmps168, Tryd.results168]
 (repeat ((repeat1' (first | simp -implicitDefEqProofs -dsimp only [go_sem, Alarm.oc] | simp -dsimp (disch := omega) only [wrap_i64])); repeat (with_reducible refine sideA ?_)))
 (first | refine callT.at (hf) ⟨leA, leA, trivial⟩ ?_ | refine callS.at (hf) ⟨leA, leA, trivial⟩ ?_)
 (repeat ((repeat1' (first | simp -implicitDefEqProofs -dsimp only [go_sem, hb, h1'.2, hrow, hl'] | simp -dsimp (disch := omega) only [wrap_i64])); repeat (with_reducible refine sideA ?_)))
 by_cases e0 : a.Heard.length = 0
 · have b1 : ((H'.length : Int) == 1) = true := by simp; omega
   have hA : hearA a v = ⟨a.Now, 1, H', a.Given, a.Cancelled⟩ := by rw [hearA, if_pos e0, if_neg (by omega), hH']
   (repeat ((repeat1' (first | simp -implicitDefEqProofs -dsimp only [go_sem, b1, hrow, hl'] | simp -dsimp (disch := omega) only [wrap_i64])); repeat (with_reducible refine sideA ?_)))
   rw [hA]
   refine WeakR.pick [0, 1] (by decide) (fun j hj => by have hj' : j = 0 ∨ j = 1 := (by omega); rcases hj' with rfl | rfl <;> rfl) (.inl rfl) ?_
   simp [pickH, pickB, ren, pickF, posOf, map_ren_rows, Alarm.oc]
 have b1 : ((H'.length : Int) == 1) = false := by simp; omega
 by_cases e2 : a.Heard.length = 2
 · have b3 : ((H'.length : Int) == 3) = true := by simp; omega
   have hA : hearA a v = ⟨a.Now, 2, H', a.Given + 1, a.Cancelled⟩ := by rw [hearA, if_neg e0, if_pos e2, if_pos e2, hH']
   (repeat ((repeat1' (first | simp -implicitDefEqProofs -dsimp only [go_sem, b1, b3, hw, hrow, hl'] | simp -dsimp (disch := omega) only [wrap_i64])); repeat (with_reducible refine sideA ?_)))
   rw [hA]
   refine WeakR.pick [0, 1] (by decide) (fun j hj => by have hj' : j = 0 ∨ j = 1 := (by omega); rcases hj' with rfl | rfl <;> rfl) (.inl rfl) ?_
   simp [pickH, pickB, ren, pickF, posOf, map_ren_rows, Alarm.oc]
 · have b3 : ((H'.length : Int) == 3) = false := by simp; omega
   have hA : hearA a v = ⟨a.Now, a.State, H', a.Given, a.Cancelled⟩ := by rw [hearA, if_neg e0, if_neg e2, if_neg e2, hH']
   (repeat ((repeat1' (first | simp -implicitDefEqProofs -dsimp only [go_sem, b1, b3, hrow, hl'] | simp -dsimp (disch := omega) only [wrap_i64])); repeat (with_reducible refine sideA ?_)))
   rw [hA]
   refine WeakR.pick [0, 1] (by decide) (fun j hj => by have hj' : j = 0 ∨ j = 1 := (by omega); rcases hj' with rfl | rfl <;> rfl) (.inl rfl) ?_
   simp [pickH, pickB, ren, pickF, posOf, map_ren_rows, Alarm.oc]
end Go.Proofs
end
section
set_option maxRecDepth 100000
set_option maxHeartbeats 1000000
namespace Go.Proofs
open Go.Lv
def Alarm.nv (a : Alarm) : V := .agg [.int .i64 a.Now, .int .i64 a.State, .nilsl, .int .i64 a.Given, .int .i64 a.Cancelled]
def hearB (a : Alarm) (v : Int) : Bool := a.State != 3 && !(a.Heard.any fun h => h.Station == v)
def stepI (a : Alarm) (k v : Int) : Alarm :=
 if k = 1 then (if v ≤ 1000000 - a.Now then waitA a v else a) else if k = 2 then (if hearB a v = true then hearA a v else a) else if k = 3 then clearA a 0 (a.Cancelled + 1) else if k = 4 then clearA a 3 a.Cancelled else ⟨a.Now, 0, a.Heard, a.Given, a.Cancelled⟩
def stX (w : Alarm) (nil : Bool) : Option Alarm → V
 | none => .tup [if nil = true then w.nv else w.v, .bool false]
 | some b => .tup [if nil = true then b.nv else b.o 0, .bool true]
def stXh (nil : Bool) : Option Alarm → Hp
 | none => []
 | some b => if nil = true then [] else [some (rows Heard.cs b.Heard)]
theorem step1_ok (a : Alarm) (v : Int) (ha : alarmB a = true) (hv : 1 ≤ v) : Ctr Tryd.prog 112 [a.v, .agg [.int .i64 1, .int .i64 v]] [] (stX (stepI a 1 v) false (stepA a 1 v)) (stXh false (stepA a 1 v)) := by
 have A := alarmB_ok ha
 have hlen := A.len
 have hn := A.now
 have hst : stepA a 1 v = okA (decide (v ≤ 1000000 - a.Now)) (waitA a v) := by rw [stepA, if_pos rfl]
 have hsi : stepI a 1 v = if v ≤ 1000000 - a.Now then waitA a v else a := by rw [stepI, if_pos rfl]
 rw [hst, hsi]
 have hwl : (waitA a v).Heard.length ≤ a.Heard.length := by
   unfold waitA; split
   · exact List.length_filter_le _ _
   · exact Nat.le_refl _
 have hgd := iIsAlarm_ok (waitA a v) (by omega)
 simp only [Alarm.v] at hgd
 refine Ctr.intro Tryd.mixed Tryd.func112 rfl Tryd.okF112 ?_
 simp -implicitDefEqProofs -dsimp only [go_sem, Tryd.ntmps112, Tryd.results112]
 simp -implicitDefEqProofs -dsimp only [go_sem, Alarm.v]
 (first | refine callT.at (copiedAlarm_ok a (by omega)) ⟨leA, trivial⟩ ?_ | refine callS.at (copiedAlarm_ok a (by omega)) ⟨leA, trivial⟩ ?_)
 simp -implicitDefEqProofs -dsimp only [go_sem, Alarm.o]
 by_cases h1 : v ≤ 1000000 - a.Now
 · rw [if_pos h1]
   by_cases hs : a.State = 1
   · have hw := wait_yes a v ha hv h1 hs
     refine callS.lend [4, 3] false hw (by decide) ⟨.inl rfl, .inl rfl, trivial⟩ (by simp [pickH, pickB, ren, pickF, posOf, map_ren_rows, Alarm.oc]) (by simp [pickH, pickB, grown, isMb, isMb_rows, Alarm.oc, map_ren_rows]) (.inl rfl) ?_
     (repeat ((repeat1' (first | simp -implicitDefEqProofs -dsimp only [go_sem, Alarm.oc, List.getElem?_nil] | simp -dsimp (disch := omega) only [wrap_i64])); repeat (with_reducible refine sideA ?_)))
     (first | refine callT.at (hgd) ⟨leA, trivial⟩ ?_ | refine callS.at (hgd) ⟨leA, trivial⟩ ?_)
     (repeat ((repeat1' (first | simp -implicitDefEqProofs -dsimp only [go_sem] | simp -dsimp (disch := omega) only [wrap_i64])); repeat (with_reducible refine sideA ?_)))
     cases hA : alarmB (waitA a v) with
     | true =>
       rw [okA_yes (by simpa using h1) hA]
       simp only [stX, stXh, Alarm.o, Bool.false_eq_true, if_false]
       refine WeakR.pick [5] (by decide) (fun j hj => by omega) (.inl ?_) ?_
       · first | rfl | (simp [ren, pickF, posOf]; done)
       · simp only [pickH, List.map_cons, List.map_nil, pickB, List.getElem?_cons_zero, List.getElem?_cons_succ, map_ren_rows]
     | false =>
       rw [okA_bad hA]
       simp only [stX, stXh, Alarm.v, Alarm.nv, clearA, if_true, Bool.false_eq_true, if_false]
       refine WeakR.pick [] (by decide) (fun j hj => by omega) (.inl ?_) rfl
       first | rfl | (simp [ren, pickF, posOf, frzR, map_ren_rows, take_rows]; done)
   · have hw := wait_still a v ha hv h1 hs
     have hwe : (waitA a v).Heard = a.Heard := by rw [waitA, if_neg hs]
     refine callS.lend [4, 3] false hw (by decide) ⟨.inl rfl, .inl rfl, trivial⟩ (by simp [pickH, pickB, ren, pickF, posOf, map_ren_rows, Alarm.oc]) (by simp [pickH, pickB, grown, isMb, isMb_rows, Alarm.oc, map_ren_rows]) (.inl rfl) ?_
     (repeat ((repeat1' (first | simp -implicitDefEqProofs -dsimp only [go_sem, Alarm.oc] | simp -dsimp (disch := omega) only [wrap_i64])); repeat (with_reducible refine sideA ?_)))
     simp only [hwe] at hgd ⊢
     (first | refine callT.at (hgd) ⟨leA, trivial⟩ ?_ | refine callS.at (hgd) ⟨leA, trivial⟩ ?_)
     (repeat ((repeat1' (first | simp -implicitDefEqProofs -dsimp only [go_sem] | simp -dsimp (disch := omega) only [wrap_i64])); repeat (with_reducible refine sideA ?_)))
     cases hA : alarmB (waitA a v) with
     | true =>
       rw [okA_yes (by simpa using h1) hA]
       simp only [stX, stXh, Alarm.o, Bool.false_eq_true, if_false, hwe]
       refine WeakR.pick [3] (by decide) (fun j hj => by omega) (.inl ?_) ?_
       · first | rfl | (simp [ren, pickF, posOf]; done)
       · simp only [pickH, List.map_cons, List.map_nil, pickB, List.getElem?_cons_zero, List.getElem?_cons_succ, map_ren_rows]
     | false =>
       rw [okA_bad hA]
       simp only [stX, stXh, Alarm.v, Alarm.nv, clearA, if_true, Bool.false_eq_true, if_false, hwe]
       refine WeakR.pick [] (by decide) (fun j hj => by omega) (.inl ?_) rfl
       simp [ren, pickF, posOf, frzR, map_ren_rows, take_rows]
 · rw [if_neg h1, okA_no (by simpa using h1)]
   have hw := wait_no a v ha hv h1
   refine callS.lend [4, 3] false hw (by decide) ⟨.inl rfl, .inl rfl, trivial⟩ (by simp [pickH, pickB, ren, pickF, posOf, map_ren_rows, Alarm.oc]) (by simp [pickH, pickB, grown, isMb, isMb_rows, Alarm.oc, map_ren_rows]) (.inl rfl) ?_
   simp -implicitDefEqProofs -dsimp only [go_sem, Alarm.oc]
   repeat (with_reducible refine sideA ?_)
   simp only [stX, stXh, Alarm.v, Alarm.nv, clearA, if_true, Bool.false_eq_true, if_false]
   refine WeakR.pick [] (by decide) (fun j hj => by omega) (.inl ?_) rfl
   first | rfl | (simp [ren, pickF, posOf, frzR, map_ren_rows, take_rows]; done)
theorem step2_ok (a : Alarm) (v : Int) (ha : alarmB a = true) : Ctr Tryd.prog 112 [a.v, .agg [.int .i64 2, .int .i64 v]] [] (stX (stepI a 2 v) false (stepA a 2 v)) (stXh false (stepA a 2 v)) := by
 have A := alarmB_ok ha
 have hlen := A.len
 have hn := A.now
 have hst : stepA a 2 v = okA (hearB a v) (hearA a v) := by rw [stepA, if_neg (by decide), if_pos rfl, hearB]
 have hsi : stepI a 2 v = if hearB a v = true then hearA a v else a := by rw [stepI, if_neg (by decide), if_pos rfl]
 rw [hst, hsi]
 have hgd := iIsAlarm_ok (hearA a v) (by show (a.Heard ++ [_]).length ≤ _; simp; omega)
 have hhl : (hearA a v).Heard.length = a.Heard.length + 1 := by simp [hearA]
 simp only [Alarm.v] at hgd
 refine Ctr.intro Tryd.mixed Tryd.func112 rfl Tryd.okF112 ?_
 simp -implicitDefEqProofs -dsimp only [go_sem, Tryd.ntmps112, Tryd.results112]
 simp -implicitDefEqProofs -dsimp only [go_sem, Alarm.v]
 (first | refine callT.at (copiedAlarm_ok a (by omega)) ⟨leA, trivial⟩ ?_ | refine callS.at (copiedAlarm_ok a (by omega)) ⟨leA, trivial⟩ ?_)
 simp -implicitDefEqProofs -dsimp only [go_sem, Alarm.o]
 cases h1 : hearB a v with
 | true =>
   rw [if_pos rfl]
   have hw := hear_yes a v ha h1
   refine callS.lendK [3] [4, 3] false hw (by decide) ⟨.inl rfl, .inl rfl, trivial⟩ (by simp [pickH, pickB, ren, pickF, posOf, map_ren_rows, Alarm.oc]) ⟨⟨.inl rfl, rfl⟩, ⟨.inr ⟨rfl, by rw [rows_length, rows_length, hhl]; omega⟩, by rw [isMb_rows, isMb_rows]⟩, trivial⟩ (.inl rfl) ?_
   (repeat ((repeat1' (first | simp -implicitDefEqProofs -dsimp only [go_sem, Alarm.oc] | simp -dsimp (disch := omega) only [wrap_i64])); repeat (with_reducible refine sideA ?_)))
   (first | refine callT.at (hgd) ⟨leA, trivial⟩ ?_ | refine callS.at (hgd) ⟨leA, trivial⟩ ?_)
   (repeat ((repeat1' (first | simp -implicitDefEqProofs -dsimp only [go_sem] | simp -dsimp (disch := omega) only [wrap_i64])); repeat (with_reducible refine sideA ?_)))
   cases hA : alarmB (hearA a v) with
   | true =>
     rw [okA_yes rfl hA]
     simp only [stX, stXh, Alarm.o, Bool.false_eq_true, if_false]
     refine WeakR.pick [3] (by decide) (fun j hj => by omega) (.inl ?_) ?_
     · first | rfl | (simp [ren, pickF, posOf]; done)
     · simp only [pickH, List.map_cons, List.map_nil, pickB, List.getElem?_cons_zero, List.getElem?_cons_succ, map_ren_rows]
   | false =>
     rw [okA_bad hA]
     simp only [stX, stXh, Alarm.v, Alarm.nv, clearA, if_true, Bool.false_eq_true, if_false]
     refine WeakR.pick [] (by decide) (fun j hj => by omega) (.inl ?_) rfl
     first | rfl | (simp [ren, pickF, posOf, frzR, map_ren_rows, take_rows]; done)
 | false =>
   rw [if_neg (by decide), okA_no rfl]
   have hw := hear_no a v ha h1
   refine callS.lend [4, 3] false hw (by decide) ⟨.inl rfl, .inl rfl, trivial⟩ (by simp [pickH, pickB, ren, pickF, posOf, map_ren_rows, Alarm.oc]) (by simp [pickH, pickB, grown, isMb, isMb_rows, Alarm.oc, map_ren_rows]) (.inl rfl) ?_
   (repeat ((repeat1' (first | simp -implicitDefEqProofs -dsimp only [go_sem, Alarm.oc] | simp -dsimp (disch := omega) only [wrap_i64])); repeat (with_reducible refine sideA ?_)))
   simp only [stX, stXh, Alarm.v, Alarm.nv, clearA, if_true, Bool.false_eq_true, if_false]
   refine WeakR.pick [] (by decide) (fun j hj => by omega) (.inl ?_) rfl
   first | rfl | (simp [ren, pickF, posOf, frzR, map_ren_rows, take_rows]; done)
theorem step3_ok (a : Alarm) (ha : alarmB a = true) : Ctr Tryd.prog 112 [a.v, .agg [.int .i64 3, .int .i64 0]] [] (stX (stepI a 3 0) true (stepA a 3 0)) (stXh true (stepA a 3 0)) := by
 have h := stepCancel_ok a ha
 have hst : stepA a 3 0 = okA (canB a) (clearA a 0 (a.Cancelled + 1)) := by rw [stepA, if_neg (by decide), if_neg (by decide), if_pos rfl]
 have hsi : stepI a 3 0 = clearA a 0 (a.Cancelled + 1) := by rw [stepI, if_neg (by decide), if_neg (by decide), if_pos rfl]
 rw [hst, hsi]
 cases hc : canB a with
 | false => rw [okA_no rfl]; rw [hc] at h; exact h
 | true =>
   have hal : alarmB (clearA a 0 (a.Cancelled + 1)) = true := by
     simp only [canB, Bool.and_eq_true, decide_eq_true_eq] at hc
     have A := alarmB_ok ha
     have hcc := A.canc
     have hg := A.given
     have hn := A.now
     show alarmB ⟨a.Now, 0, [], a.Given, a.Cancelled + 1⟩ = true
     simp [alarmB, acountB, stateB, listB, freshB, inB']
     omega
   rw [okA_yes rfl hal]; rw [hc] at h; exact h
theorem step4_ok (a : Alarm) (ha : alarmB a = true) : Ctr Tryd.prog 112 [a.v, .agg [.int .i64 4, .int .i64 0]] [] (stX (stepI a 4 0) true (stepA a 4 0)) (stXh true (stepA a 4 0)) := by
 have A := alarmB_ok ha
 have hlen := A.len
 have hc := A.canc
 have hg := A.given
 have hn := A.now
 have hst : stepA a 4 0 = okA (a.State == 2 && decide (500 < a.Now - tickAt a.Heard (a.Heard.length - 1))) (clearA a 3 a.Cancelled) := by rw [stepA, if_neg (by decide), if_neg (by decide), if_neg (by decide), if_pos rfl]
 have hsi : stepI a 4 0 = clearA a 3 a.Cancelled := by rw [stepI, if_neg (by decide), if_neg (by decide), if_neg (by decide), if_pos rfl]
 rw [hst, hsi]
 have hI := iIsAlarm_ok (clearA a 3 a.Cancelled) (by simp [clearA])
 simp only [Alarm.v, clearA, rows, List.length_nil, List.flatMap_nil] at hI
 refine Ctr.intro Tryd.mixed Tryd.func112 rfl Tryd.okF112 ?_
 simp -implicitDefEqProofs -dsimp only [go_sem, Tryd.ntmps112, Tryd.results112]
 simp -implicitDefEqProofs -dsimp only [go_sem, Alarm.v]
 (first | refine callT.at (copiedAlarm_ok a (by omega)) ⟨leA, trivial⟩ ?_ | refine callS.at (copiedAlarm_ok a (by omega)) ⟨leA, trivial⟩ ?_)
 simp -implicitDefEqProofs -dsimp only [go_sem, Alarm.o]
 repeat (with_reducible refine sideA ?_)
 by_cases hs : a.State = 2
 · have h3 := state2 A hs
   have hr := rows_at Heard.csl (show a.Heard.length - 1 < a.Heard.length by omega)
   have hh := heardB_iff.1 (A.heard _ (List.getElem_mem (show a.Heard.length - 1 < a.Heard.length by omega)))
   have hb : (a.State == 2) = true := by simp [hs]
   have hw1 : IntKind.i64.wrap ((a.Heard.length : Int) - 1) = ((a.Heard.length - 1 : Nat) : Int) := by rw [wrap_i64 (by omega) (by omega)]; omega
   have hw2 : IntKind.i64.wrap (a.Now - (a.Heard[a.Heard.length - 1]'(by omega)).Tick) = a.Now - (a.Heard[a.Heard.length - 1]'(by omega)).Tick := wrap_i64 (by omega) (by omega)
   have ht := tickAt_get (L := a.Heard) (show a.Heard.length - 1 < a.Heard.length by omega)
   (repeat ((repeat1' (first | simp -implicitDefEqProofs -dsimp only [go_sem, hb, hw1, hr, hw2, Heard.cs] | simp -dsimp (disch := omega) only [wrap_i64])); repeat (with_reducible refine sideA ?_)))
   rw [ht]
   try rw [hb, Bool.true_and]
   cases hC : decide (500 < a.Now - (a.Heard[a.Heard.length - 1]'(by omega)).Tick) with
   | false =>
     (repeat ((repeat1' (first | simp -implicitDefEqProofs -dsimp only [go_sem] | simp -dsimp (disch := omega) only [wrap_i64])); repeat (with_reducible refine sideA ?_)))
     rw [okA_no rfl]
     simp only [stX, stXh, Alarm.v, Alarm.nv, clearA, if_true, Bool.false_eq_true, if_false]
     refine WeakR.pick [] (by decide) (fun j hj => by omega) (.inl ?_) rfl
     first | rfl | (simp [ren, pickF, posOf, frzR, map_ren_rows, take_rows]; done)
   | true =>
     (repeat ((repeat1' (first | simp -implicitDefEqProofs -dsimp only [go_sem] | simp -dsimp (disch := omega) only [wrap_i64])); repeat (with_reducible refine sideA ?_)))
     (first | refine callT.at (hI) ⟨leA, trivial⟩ ?_ | refine callS.at (hI) ⟨leA, trivial⟩ ?_)
     (repeat ((repeat1' (first | simp -implicitDefEqProofs -dsimp only [go_sem] | simp -dsimp (disch := omega) only [wrap_i64])); repeat (with_reducible refine sideA ?_)))
     cases hA : alarmB (clearA a 3 a.Cancelled) with
     | true =>
       rw [okA_yes rfl hA]
       simp only [clearA] at hA
       rw [hA]
       simp only [stX, stXh, Alarm.v, Alarm.nv, clearA, if_true, Bool.false_eq_true, if_false]
       refine WeakR.pick [] (by decide) (fun j hj => by omega) (.inl ?_) rfl
       first | rfl | (simp [ren, pickF, posOf, frzR, map_ren_rows, take_rows]; done)
     | false =>
       rw [okA_bad hA]
       simp only [clearA] at hA
       rw [hA]
       simp only [stX, stXh, Alarm.v, Alarm.nv, clearA, if_true, Bool.false_eq_true, if_false]
       refine WeakR.pick [] (by decide) (fun j hj => by omega) (.inl ?_) rfl
       first | rfl | (simp [ren, pickF, posOf, frzR, map_ren_rows, take_rows]; done)
 · have hb : (a.State == 2) = false := by simp [hs]
   (repeat ((repeat1' (first | simp -implicitDefEqProofs -dsimp only [go_sem, hb] | simp -dsimp (disch := omega) only [wrap_i64])); repeat (with_reducible refine sideA ?_)))
   rw [okA_no rfl]
   simp only [stX, stXh, Alarm.v, Alarm.nv, clearA, if_true, Bool.false_eq_true, if_false]
   refine WeakR.pick [] (by decide) (fun j hj => by omega) (.inl ?_) rfl
   first | rfl | (simp [ren, pickF, posOf, frzR, map_ren_rows, take_rows]; done)
theorem step5_ok (a : Alarm) (ha : alarmB a = true) : Ctr Tryd.prog 112 [a.v, .agg [.int .i64 5, .int .i64 0]] [] (stX (stepI a 5 0) false (stepA a 5 0)) (stXh false (stepA a 5 0)) := by
 have A := alarmB_ok ha
 have hlen := A.len
 have hst : stepA a 5 0 = okA (a.State == 3) ⟨a.Now, 0, a.Heard, a.Given, a.Cancelled⟩ := by rw [stepA, if_neg (by decide), if_neg (by decide), if_neg (by decide), if_neg (by decide)]
 have hsi : stepI a 5 0 = ⟨a.Now, 0, a.Heard, a.Given, a.Cancelled⟩ := by rw [stepI, if_neg (by decide), if_neg (by decide), if_neg (by decide), if_neg (by decide)]
 rw [hst, hsi]
 have hgd := iIsAlarm_ok ⟨a.Now, 0, a.Heard, a.Given, a.Cancelled⟩ (by show a.Heard.length ≤ _; omega)
 simp only [Alarm.v] at hgd
 refine Ctr.intro Tryd.mixed Tryd.func112 rfl Tryd.okF112 ?_
 simp -implicitDefEqProofs -dsimp only [go_sem, Tryd.ntmps112, Tryd.results112]
 simp -implicitDefEqProofs -dsimp only [go_sem, Alarm.v]
 (first | refine callT.at (copiedAlarm_ok a (by omega)) ⟨leA, trivial⟩ ?_ | refine callS.at (copiedAlarm_ok a (by omega)) ⟨leA, trivial⟩ ?_)
 (repeat ((repeat1' (first | simp -implicitDefEqProofs -dsimp only [go_sem, Alarm.o] | simp -dsimp (disch := omega) only [wrap_i64])); repeat (with_reducible refine sideA ?_)))
 cases hC : (a.State == 3) with
 | false =>
   (repeat ((repeat1' (first | simp -implicitDefEqProofs -dsimp only [go_sem] | simp -dsimp (disch := omega) only [wrap_i64])); repeat (with_reducible refine sideA ?_)))
   rw [okA_no rfl]
   simp only [stX, stXh, Alarm.v, Alarm.nv, clearA, if_true, Bool.false_eq_true, if_false]
   refine WeakR.pick [] (by decide) (fun j hj => by omega) (.inl ?_) rfl
   first | rfl | (simp [ren, pickF, posOf, frzR, map_ren_rows, take_rows]; done)
 | true =>
   (repeat ((repeat1' (first | simp -implicitDefEqProofs -dsimp only [go_sem] | simp -dsimp (disch := omega) only [wrap_i64])); repeat (with_reducible refine sideA ?_)))
   (first | refine callT.at (hgd) ⟨leA, trivial⟩ ?_ | refine callS.at (hgd) ⟨leA, trivial⟩ ?_)
   (repeat ((repeat1' (first | simp -implicitDefEqProofs -dsimp only [go_sem] | simp -dsimp (disch := omega) only [wrap_i64])); repeat (with_reducible refine sideA ?_)))
   cases hA : alarmB ⟨a.Now, 0, a.Heard, a.Given, a.Cancelled⟩ with
   | true =>
     rw [okA_yes rfl hA]
     simp only [stX, stXh, Alarm.o, Bool.false_eq_true, if_false]
     refine WeakR.pick [3] (by decide) (fun j hj => by omega) (.inl ?_) ?_
     · first | rfl | (simp [ren, pickF, posOf]; done)
     · simp only [pickH, List.map_cons, List.map_nil, pickB, List.getElem?_cons_zero, List.getElem?_cons_succ, map_ren_rows]
   | false =>
     rw [okA_bad hA]
     simp only [stX, stXh, Alarm.v, Alarm.nv, clearA, if_true, Bool.false_eq_true, if_false]
     refine WeakR.pick [] (by decide) (fun j hj => by omega) (.inl ?_) rfl
     first | rfl | (simp [ren, pickF, posOf, frzR, map_ren_rows, take_rows]; done)
def stRi (nil : Bool) : Option Alarm → V
 | none => .tup [zeroA, .bool false]
 | some b => .tup [if nil = true then b.nv else b.o 0, .bool true]
def nilK (k : Int) : Bool := k == 3 || k == 4
theorem stepAny_ok (a : Alarm) (k v : Int) (ha : alarmB a = true) (hs : stepB k v = true) : Ctr Tryd.prog 112 [a.v, .agg [.int .i64 k, .int .i64 v]] [] (stX (stepI a k v) (nilK k) (stepA a k v)) (stXh (nilK k) (stepA a k v)) := by
 by_cases k1 : k = 1
 · subst k1
   exact step1_ok a v ha (by simpa [stepB] using hs)
 by_cases k2 : k = 2
 · subst k2
   exact step2_ok a v ha
 have hv0 : v = 0 ∧ (k = 3 ∨ k = 4 ∨ k = 5) := by simp [stepB, k1, k2, inB'] at hs; omega
 obtain ⟨rfl, rfl | rfl | rfl⟩ := hv0
 · exact step3_ok a ha
 · exact step4_ok a ha
 · exact step5_ok a ha
theorem iStepAlarm_ok (a : Alarm) (k v : Int) (hl : a.Heard.length ≤ 16777216) : Ctr Tryd.prog 48 [a.v, .agg [.int .i64 k, .int .i64 v]] [] (stRi (nilK k) (stepO a k v)) (stXh (nilK k) (stepO a k v)) := by
 refine Ctr.intro Tryd.mixed Tryd.func48 rfl Tryd.okF48 ?_
 simp -implicitDefEqProofs -dsimp only [go_sem, Tryd.ntmps48, Tryd.results48]
 simp -implicitDefEqProofs -dsimp only [go_sem, Alarm.v]
 (first | refine callT.at (iIsAlarm_ok a (by omega)) ⟨leA, trivial⟩ ?_ | refine callS.at (iIsAlarm_ok a (by omega)) ⟨leA, trivial⟩ ?_)
 cases h1 : alarmB a with
 | false =>
   (repeat ((repeat1' (first | simp -implicitDefEqProofs -dsimp only [go_sem] | simp -dsimp (disch := omega) only [wrap_i64])); repeat (with_reducible refine sideA ?_)))
   rw [show stepO a k v = none by rw [stepO, h1]; rfl]
   exact WeakR.drop' rfl (by rfl)
 | true =>
   (repeat ((repeat1' (first | simp -implicitDefEqProofs -dsimp only [go_sem] | simp -dsimp (disch := omega) only [wrap_i64])); repeat (with_reducible refine sideA ?_)))
   (first | refine callT.at (iIsAlarmStep_ok k v) ⟨leA, trivial⟩ ?_ | refine callS.at (iIsAlarmStep_ok k v) ⟨leA, trivial⟩ ?_)
   cases h2 : stepB k v with
   | false =>
     (repeat ((repeat1' (first | simp -implicitDefEqProofs -dsimp only [go_sem] | simp -dsimp (disch := omega) only [wrap_i64])); repeat (with_reducible refine sideA ?_)))
     rw [show stepO a k v = none by rw [stepO, h2, Bool.and_false]; rfl]
     exact WeakR.drop' rfl (by rfl)
   | true =>
     (repeat ((repeat1' (first | simp -implicitDefEqProofs -dsimp only [go_sem] | simp -dsimp (disch := omega) only [wrap_i64])); repeat (with_reducible refine sideA ?_)))
     have hm := stepAny_ok a k v h1 h2
     rw [show stepO a k v = stepA a k v by rw [stepO, h1, h2]; rfl]
     cases h3 : stepA a k v with
     | none =>
       rw [h3] at hm
       cases hk : nilK k with
       | true =>
         simp only [hk, stX, stXh, Alarm.v, Alarm.nv, if_true] at hm
         (first | refine callT.at (hm) ⟨leA, leA, trivial⟩ ?_ | refine callS.at (hm) ⟨leA, leA, trivial⟩ ?_)
         (repeat ((repeat1' (first | simp -implicitDefEqProofs -dsimp only [go_sem] | simp -dsimp (disch := omega) only [wrap_i64])); repeat (with_reducible refine sideA ?_)))
         exact WeakR.drop' rfl (by rfl)
       | false =>
         simp only [hk, stX, stXh, Alarm.v, Alarm.nv, if_false, Bool.false_eq_true] at hm
         (first | refine callT.at (hm) ⟨leA, leA, trivial⟩ ?_ | refine callS.at (hm) ⟨leA, leA, trivial⟩ ?_)
         (repeat ((repeat1' (first | simp -implicitDefEqProofs -dsimp only [go_sem] | simp -dsimp (disch := omega) only [wrap_i64])); repeat (with_reducible refine sideA ?_)))
         exact WeakR.drop' rfl (by rfl)
     | some b =>
       rw [h3] at hm
       cases hk : nilK k with
       | true =>
         simp only [hk, stX, stXh, Alarm.v, Alarm.nv, if_true] at hm
         (first | refine callT.at (hm) ⟨leA, leA, trivial⟩ ?_ | refine callS.at (hm) ⟨leA, leA, trivial⟩ ?_)
         (repeat ((repeat1' (first | simp -implicitDefEqProofs -dsimp only [go_sem] | simp -dsimp (disch := omega) only [wrap_i64])); repeat (with_reducible refine sideA ?_)))
         simp only [stRi, stXh, Alarm.nv, if_true]
         refine WeakR.pick [] (by decide) (fun j hj => by omega) (.inl ?_) ?_
         · first | rfl | (simp [ren, pickF, posOf]; done)
         · simp only [pickH, List.map_cons, List.map_nil, pickB, List.getElem?_cons_zero, List.getElem?_cons_succ, map_ren_rows]
       | false =>
         simp only [hk, stX, stXh, Alarm.v, Alarm.o, if_false, Bool.false_eq_true] at hm
         (first | refine callT.at (hm) ⟨leA, leA, trivial⟩ ?_ | refine callS.at (hm) ⟨leA, leA, trivial⟩ ?_)
         (repeat ((repeat1' (first | simp -implicitDefEqProofs -dsimp only [go_sem] | simp -dsimp (disch := omega) only [wrap_i64])); repeat (with_reducible refine sideA ?_)))
         simp only [stRi, stXh, Alarm.o, if_false, Bool.false_eq_true]
         refine WeakR.pick [3] (by decide) (fun j hj => by omega) (.inl ?_) ?_
         · first | rfl | (simp [ren, pickF, posOf]; done)
         · simp only [pickH, List.map_cons, List.map_nil, pickB, List.getElem?_cons_zero, List.getElem?_cons_succ, map_ren_rows]
end Go.Proofs
end
section
set_option maxRecDepth 100000
set_option maxHeartbeats 1000000
namespace Go.Proofs
open Go.Lv
theorem okA_some {q : Bool} {c b : Alarm} (h : okA q c = some b) : alarmB b = true ∧ b = c := by
 unfold okA at h
 split at h
 · rename_i h2
   simp only [Option.some.injEq] at h; subst h
   simp only [Bool.and_eq_true] at h2
   exact ⟨h2.2, rfl⟩
 · cases h
theorem stepO_ok {a b : Alarm} {k v : Int} (h : stepO a k v = some b) : alarmB b = true ∧ (nilK k = true → b.Heard = []) ∧ stepB k v = true ∧ stepA a k v = some b := by
 unfold stepO at h
 split at h
 · rename_i h2
   simp only [Bool.and_eq_true] at h2
   have h3 := h
   unfold stepA at h
   refine ⟨?_, fun hk => ?_, h2.2, h3⟩
   · repeat' (split at h)
     all_goals exact (okA_some h).1
   · simp only [nilK, Bool.or_eq_true, beq_iff_eq] at hk
     rcases hk with rfl | rfl
     · rw [if_neg (by decide), if_neg (by decide), if_pos rfl] at h
       rw [(okA_some h).2]; rfl
     · rw [if_neg (by decide), if_neg (by decide), if_neg (by decide), if_pos rfl] at h
       rw [(okA_some h).2]; rfl
 · cases h
end Go.Proofs
end
section
namespace Go.Lv
theorem Ctr.weak {P : Program} {f : FuncId} {args : List V} {r r' : V} {hout hout' : Hp} (h : Ctr P f args [] r hout) (hw : WeakR 0 r hout r' hout') : Ctr P f args [] r' hout' :=
 ⟨h.1, fun w vs m av h1 h2 h3 h4 h5 => (h.2 w vs m av h1 h2 h3 h4 h5).mono fun e w' ⟨v, m', g1, g2, g3, g4, g5⟩ => by
   obtain ⟨m2, k1, k2, k3⟩ := hw w m [] av w' m' v rfl (Nat.zero_le _) h2 g2.size g3 g4 g5
   exact ⟨v, m2, g1, g2, k1, k2, k3⟩⟩
section
variable {α : Type} {cs : α → List V} {w : Nat} [FlatP cs w]
end
end Go.Lv
end
section
set_option maxRecDepth 100000
set_option maxHeartbeats 1000000
namespace Go.Proofs
open Go.Lv
def zA : Alarm := ⟨0, 0, [], 0, 0⟩
theorem frzTA {a a' : V} {l : List V} (h : LeV a a') : WeakR 0 (.tup (a :: l)) [] (.tup (a' :: l)) [] := by
 intro w0 m0 h0 av0 W m val e1 e2 hlt hle H hx hi
 refine ⟨m, H, ?_, hi⟩
 change RV W m [] _ true val (.tup (a :: l)) at hx
 cases hx with
 | tup a vs ha hra =>
   refine .tup _ _ ha (fun i hi => ?_)
   match i, hi with
   | 0, hi => exact (hra 0 (by simp)).le h
   | i + 1, hi => exact hra (i + 1) (by simpa using hi)
theorem zeroALe : LeV zeroA zA.v := LeV.agg ⟨.inl rfl, .inl rfl, LeE.nil, .inl rfl, .inl rfl, trivial⟩
theorem nvLe {b : Alarm} (h : b.Heard = []) : LeV b.nv b.v := by
 have e : b.v = .agg [.int .i64 b.Now, .int .i64 b.State, .sl 0 2 [], .int .i64 b.Given, .int .i64 b.Cancelled] := by simp [Alarm.v, h, rows_nil]
 rw [e]
 exact LeV.agg ⟨.inl rfl, .inl rfl, LeE.nil, .inl rfl, .inl rfl, trivial⟩
def alV (R : Option Alarm) : V := .tup [(R.getD zA).v, .bool R.isSome]
theorem frzAi {a : Alarm} {k v : Int} : WeakR 0 (stRi (nilK k) (stepO a k v)) (stXh (nilK k) (stepO a k v)) (alV (stepO a k v)) [] := by
 cases h : stepO a k v with
 | none => exact frzTA zeroALe
 | some b =>
   cases hn : nilK k with
   | true => exact frzTA (nvLe ((stepO_ok h).2.1 hn))
   | false =>
     refine WeakR.pick [] (by decide) (fun j hj => by omega) (.inl ?_) rfl
     simp [alV, stRi, stXh, Alarm.o, Alarm.v, ren, pickF, posOf, frzR, take_rows, map_ren_rows]
theorem stepA_cases {a b : Alarm} {k v : Int} (h : stepO a k v = some b) : alarmB a = true ∧ alarmB b = true ∧ ((k = 1 ∧ 1 ≤ v ∧ b = waitA a v) ∨ (k = 2 ∧ a.State ≠ 3 ∧ b = hearA a v) ∨ b = clearA a 0 (a.Cancelled + 1) ∨ b = clearA a 3 a.Cancelled ∨ b = ⟨a.Now, 0, a.Heard, a.Given, a.Cancelled⟩) := by
 obtain ⟨h1, _, h3, h4⟩ := stepO_ok h
 have ha : alarmB a = true := by
   unfold stepO at h
   split at h
   · rename_i h2
     simp only [Bool.and_eq_true] at h2
     exact h2.1
   · cases h
 refine ⟨ha, h1, ?_⟩
 unfold stepA at h4
 split at h4
 · rename_i hk
   subst hk
   simp [stepB] at h3
   exact .inl ⟨rfl, h3, (okA_some h4).2⟩
 · split at h4
   · rename_i hk
     have hb := (okA_some h4).2
     refine .inr (.inl ⟨hk, ?_, hb⟩)
     intro h5
     simp [okA, h5] at h4
   · split at h4
     · exact .inr (.inr (.inl (okA_some h4).2))
     · split at h4
       · exact .inr (.inr (.inr (.inl (okA_some h4).2)))
       · exact .inr (.inr (.inr (.inr (okA_some h4).2)))
end Go.Proofs
end
section
namespace Go.Lv
theorem splice_row {α : Type} {cs : α → List V} {w : Nat} (hw : ∀ a, (cs a).length = w) {L : List α} {i : Nat} (hi : i < L.length) (x : α) : splice (rows cs L) (i * w) (cs x) = rows cs (L.set i x) := by
 have e : L = L.take i ++ L[i] :: L.drop (i + 1) := by rw [← List.drop_eq_getElem_cons hi, List.take_append_drop]
 have e2 : L.set i x = L.take i ++ x :: L.drop (i + 1) := by rw [List.set_eq_take_append_cons_drop, if_pos hi]
 have hA : (rows cs (L.take i)).length = i * w := by rw [rows_len hw, List.length_take, Nat.min_eq_left (by omega)]
 rw [e2, rowsOf_append, rows_cons]
 conv => lhs; rw [e, rowsOf_append, rows_cons]
 rw [splice_mid0 hA, splice_zero]
 congr 2
 rw [List.drop_append_of_le_length (by rw [hw, hw]; exact Nat.le_refl _), List.drop_of_length_le (by rw [hw, hw]; exact Nat.le_refl _)]
 rfl
end Go.Lv
end
section
set_option maxRecDepth 100000
namespace Go.Proofs
open Go.Lv
def u8R (x : Int) : Prop := 0 ≤ x ∧ x ≤ 255
def ByteS.cs (x : Int) : List V := [.int .u8 x]
instance instFlatPByteS : FlatP ByteS.cs 1 := ⟨fun _ => rfl, fun _ d => by cases d <;> rfl, fun _ => rfl, fun _ => rfl⟩
theorem ByteS.csl (a : Int) : (ByteS.cs a).length = 1 := rfl
abbrev ByteS.ok (x : Int) : Prop := u8R x
abbrev ByteS.sl (L : List Int) : V := .sl L.length 1 (Go.Lv.rows ByteS.cs L)

end Go.Proofs
end
section
set_option maxRecDepth 100000
namespace Go.Proofs
open Go.Lv
def IntS.cs (x : Int) : List V := [.int .i64 x]
instance : FlatP IntS.cs 1 := ⟨fun _ => rfl, fun _ d => by cases d <;> rfl, fun _ => rfl, fun _ => rfl⟩
theorem IntS.csl (a : Int) : (IntS.cs a).length = 1 := rfl
theorem IntS.csp (a : Int) : (IntS.cs a).all (noOwn 2) = true := rfl
abbrev IntS.ok (x : Int) : Prop := i64R x
abbrev IntS.sl (L : List Int) : V := .sl L.length 1 (Go.Lv.rows IntS.cs L)
abbrev IntS.zs : List V := [.int .i64 0]
def IntS.marks (k : Int) (n : Nat) : List Int := (List.range n).map fun i : Nat => k + (i : Int)
@[simp] theorem IntS.marks_len (k : Int) (n : Nat) : (IntS.marks k n).length = n := by simp [IntS.marks]
abbrev IntS.v (x : Int) : V := .int .i64 x
end Go.Proofs
end
section
namespace Go.Lv
variable {α : Type}
def posK (lt : α → α → Bool) (S : List α) (x : α) : Nat → Nat
 | 0 => 0
 | k + 1 => match S[k]? with
   | some y => if lt x y then posK lt S x k else k + 1
   | none => k + 1
theorem posK_down {lt : α → α → Bool} {S : List α} {x : α} {k : Nat} (hk : k < S.length) (h : lt x S[k] = true) : posK lt S x (k + 1) = posK lt S x k := by
 simp [posK, hk, h]
theorem posK_stay {lt : α → α → Bool} {S : List α} {x : α} {k : Nat} (hk : k < S.length) (h : lt x S[k] = false) : posK lt S x (k + 1) = k + 1 := by
 simp [posK, hk, h]
def putAt (S : List α) (x : α) (j : Nat) : List α := S.take j ++ x :: S.drop j
theorem putAt_len (S : List α) (x : α) (j : Nat) : (putAt S x j).length = S.length + 1 := by
 simp [putAt]; omega
theorem putAt_end (S : List α) (x : α) : putAt S x S.length = S ++ [x] := by simp [putAt]
def ins (lt : α → α → Bool) (S : List α) (x : α) : List α := putAt S x (posK lt S x S.length)
def insSort (lt : α → α → Bool) (L : List α) : List α := L.foldl (ins lt) []
theorem ins_len (lt : α → α → Bool) (S : List α) (x : α) : (ins lt S x).length = S.length + 1 := putAt_len _ _ _
theorem insSort_snoc (lt : α → α → Bool) (L : List α) (x : α) : insSort lt (L ++ [x]) = ins lt (insSort lt L) x := by simp [insSort]
theorem insSort_take {lt : α → α → Bool} {L : List α} {i : Nat} (hi : i < L.length) : insSort lt (L.take (i + 1)) = ins lt (insSort lt (L.take i)) L[i] := by
 rw [List.take_succ_eq_append_getElem hi, insSort_snoc]
theorem insSort_len (lt : α → α → Bool) (L : List α) : (insSort lt L).length = L.length := by
 have key : ∀ (L S : List α), (L.foldl (ins lt) S).length = S.length + L.length := by
   intro L
   induction L with
   | nil => intro S; simp
   | cons a L ih => intro S; rw [List.foldl_cons, ih, ins_len]; simp; omega
 have := key L []
 simpa [insSort] using this
theorem insSort_one (lt : α → α → Bool) (L : List α) (h : L.length ≤ 1) : insSort lt L = L := by
 match L, h with
 | [], _ => rfl
 | [a], _ => rfl
def midS (S R : List α) (x : α) (j : Nat) : List α := putAt S x j ++ R
theorem midS_len (S R : List α) (x : α) (j : Nat) : (midS S R x j).length = S.length + 1 + R.length := by simp [midS, putAt_len]
theorem midS_get {S R : List α} {x : α} {j : Nat} (hj : j ≤ S.length) (h : j < (midS S R x j).length) : (midS S R x j)[j] = x := by
 have : (midS S R x j)[j]? = some x := by
   rw [midS, putAt, List.append_assoc, List.getElem?_append_right (by simp; omega)]
   simp [Nat.min_eq_left hj]
 rw [List.getElem?_eq_getElem h] at this
 exact Option.some.inj this
theorem midS_get_below {S R : List α} {x : α} {j : Nat} (hj : j < S.length) (h : j < (midS S R x (j + 1)).length) : (midS S R x (j + 1))[j] = S[j] := by
 have : (midS S R x (j + 1))[j]? = some S[j] := by
   rw [midS, putAt, List.append_assoc, List.getElem?_append_left (by simp; omega), List.getElem?_take_of_lt (by omega), List.getElem?_eq_getElem hj]
 rw [List.getElem?_eq_getElem h] at this
 exact Option.some.inj this
theorem midS_swap {S R : List α} {x : α} {j : Nat} (hj : j < S.length) : ((midS S R x (j + 1)).set (j + 1) S[j]).set j x = midS S R x j := by
 have hd : S.drop j = S[j] :: S.drop (j + 1) := List.drop_eq_getElem_cons hj
 have ht : S.take (j + 1) = S.take j ++ [S[j]] := List.take_succ_eq_append_getElem hj
 have hl : (S.take j).length = j := by simp; omega
 simp only [midS, putAt, ht, hd, List.append_assoc, List.cons_append, List.nil_append, List.singleton_append]
 rw [List.set_append_right _ _ (by omega), hl, List.set_append_right _ _ (by omega), hl]
 simp
def srtS (lt : α → α → Bool) (L : List α) (i : Nat) : List α := insSort lt (L.take i) ++ L.drop i
theorem srtS_one (lt : α → α → Bool) (L : List α) : srtS lt L 1 = L := by
 rw [srtS, insSort_one lt _ (by simp; omega), List.take_append_drop]
theorem srtS_end (lt : α → α → Bool) (L : List α) {i : Nat} (h : L.length ≤ i) : srtS lt L i = insSort lt L := by
 simp [srtS, List.take_of_length_le h, List.drop_eq_nil_of_le h]
theorem srtS_mid {lt : α → α → Bool} {L : List α} {i : Nat} (hi : i < L.length) : srtS lt L i = midS (insSort lt (L.take i)) (L.drop (i + 1)) L[i] i := by
 have hl : (insSort lt (L.take i)).length = i := by rw [insSort_len]; simp; omega
 rw [srtS, List.drop_eq_getElem_cons hi, midS]
 have := putAt_end (insSort lt (L.take i)) L[i]
 rw [hl] at this
 rw [this]; simp
theorem srtS_next {lt : α → α → Bool} {L : List α} {i j : Nat} (hi : i < L.length) (h : posK lt (insSort lt (L.take i)) L[i] i = j) : midS (insSort lt (L.take i)) (L.drop (i + 1)) L[i] j = srtS lt L (i + 1) := by
 have hl : (insSort lt (L.take i)).length = i := by rw [insSort_len]; simp; omega
 rw [srtS, insSort_take hi, ins, hl, h, midS]
end Go.Lv
end
section
set_option maxRecDepth 100000
set_option maxHeartbeats 1000000
namespace Go.Proofs
open Go.Lv
def ltI (x y : Int) : Bool := decide (x < y)
theorem isNaNI_ok (a : Int) : Ctr Tryd.prog 126 [.int .i64 a] [] (.bool false) [] := by
 refine Ctr.intro Tryd.mixed Tryd.func126 rfl Tryd.okF126 ?_
 simp -implicitDefEqProofs -dsimp only [go_sem, Tryd.ntmps126, Tryd.results126]
 exact WeakR.drop' (by simp) (by rfl)
theorem lessInt_ok (a b : Int) : Ctr Tryd.prog 212 [.int .i64 a, .int .i64 b] [] (.bool (decide (a < b))) [] := by
 refine Ctr.intro Tryd.mixed Tryd.func212 rfl Tryd.okF212 ?_
 simp -implicitDefEqProofs -dsimp only [go_sem, Tryd.ntmps212, Tryd.results212]
 repeat (with_reducible refine sideA ?_)
 (first | refine callT.at (isNaNI_ok a) ⟨leA, trivial⟩ ?_ | refine callS.at (isNaNI_ok a) ⟨leA, trivial⟩ ?_)
 (repeat ((repeat1' (first | simp -implicitDefEqProofs -dsimp only [go_sem] | simp -dsimp (disch := omega) only [wrap_i64])); repeat (with_reducible refine sideA ?_)))
 exact WeakR.drop' rfl (by rfl)
theorem insertionInt_ok (L : List Int) (hl : L.length ≤ 19) :
   Ctr Tryd.prog 206 [.osl 0 0 L.length 1, .int .i64 0, .int .i64 L.length] [some (rows IntS.cs L)] (.tup []) [some (rows IntS.cs (insSort ltI L))] := by
 rw [show ltI = fun x y : Int => decide (x < y) from rfl]
 generalize hlt : (fun x y : Int => decide (x < y)) = lt
 have ltv : ∀ x y, lt x y = decide (x < y) := fun x y => by rw [← hlt]
 refine Ctr.intro Tryd.mixed Tryd.func206 rfl Tryd.okF206 ?_
 simp -implicitDefEqProofs -dsimp only [go_sem, Tryd.ntmps206, Tryd.results206]
 refine LoopT.intro (fun i : Nat => 1 ≤ i ∧ (i ≤ 1 ∨ i ≤ L.length)) (fun i => ⟨[.osl 0 0 L.length 1, .int .i64 0, .int .i64 L.length, .undef, .undef, .undef, .int .i64 i, .undef, .undef, .undef, .undef, .undef, .undef, .undef, .undef, .undef, .undef, .undef, .undef, .undef, .undef, .undef, .undef, .undef, .undef, .undef, .undef, .undef, .undef, .undef, .undef, .undef, .undef, .undef, .undef, .undef, .undef, .undef, .undef, .undef, .undef, .undef, .undef, .undef, .undef, .undef, .undef, .undef, .undef], [some (rows IntS.cs (srtS lt L i))], 1⟩) (fun i => L.length - i) 1 ⟨Nat.le_refl _, .inl (Nat.le_refl _)⟩ ?_ (fun i hi => ?_)
 · refine Weak.cut (1) (by simp) (by simp) ?_ ?_
   · (simp [LeC, LeV, ren, cutF]; rfl)
   · rw [srtS_one]; simp [cutH, cutB, map_ren_rows]
 simp -implicitDefEqProofs -dsimp only [go_sem]
 refine condT.split (fun h1 => ?_) (fun h1 => ?_)
 · simp -implicitDefEqProofs -dsimp only [go_sem, h1]
   have hi' : i < L.length := by simpa using h1
   have hS : (insSort lt (L.take i)).length = i := by rw [insSort_len]; simp; omega
   rw [srtS_mid hi']
   refine LoopT.intro (fun j : Nat => j ≤ i ∧ posK lt (insSort lt (L.take i)) L[i] i = posK lt (insSort lt (L.take i)) L[i] j) (fun j => ⟨[.osl 0 0 L.length 1, .int .i64 0, .int .i64 L.length, .undef, .undef, .undef, .int .i64 i, .int .i64 j, .undef, .undef, .undef, .undef, .undef, .undef, .undef, .undef, .undef, .undef, .undef, .undef, .undef, .undef, .undef, .undef, .undef, .undef, .undef, .undef, .undef, .undef, .undef, .undef, .undef, .undef, .undef, .undef, .undef, .undef, .undef, .undef, .undef, .undef, .undef, .undef, .undef, .undef, .undef, .undef, .undef], [some (rows IntS.cs (midS (insSort lt (L.take i)) (L.drop (i + 1)) L[i] j))], 1⟩) (fun j => j) i ⟨Nat.le_refl _, rfl⟩ ?_ (fun j hj => ?_)
   · refine Weak.cut (1) (by simp) (by simp) ?_ ?_
     · simp [LeC, LeV, ren, cutF]
     · simp [cutH, cutB, map_ren_rows]
   have hml : ∀ j, (midS (insSort lt (L.take i)) (L.drop (i + 1)) L[i] j).length = L.length := fun j => by rw [midS_len, hS, List.length_drop]; omega
   simp -implicitDefEqProofs -dsimp only [go_sem]
   refine ⟨by kernel_rfl, ?_⟩
   cases j with
   | zero =>
     have hz : ((0 : Nat) : Int) = 0 := rfl
     (repeat ((repeat1' (first | simp -implicitDefEqProofs -dsimp only [go_sem, hz] | simp -dsimp (disch := omega) only [wrap_i64])); repeat (with_reducible refine sideA ?_)))
     refine ⟨i + 1, ⟨by omega, .inr hi'⟩, ?_, by omega⟩
     refine Weak.cut (1) (by simp) (by simp) ?_ ?_
     · simp [LeC, LeV, ren, cutF]
     · rw [srtS_next (j := 0) hi' hj.2]
       simp [cutH, cutB, map_ren_rows]
   | succ j =>
     have hjS : j < (insSort lt (L.take i)).length := by rw [hS]; omega
     have hg : decide ((0 : Int) < ((j + 1 : Nat) : Int)) = true := decide_eq_true (by omega)
     have hw1 : IntKind.i64.wrap (((j + 1 : Nat) : Int) - 1) = (j : Int) := by rw [wrap_i64 (by omega) (by omega)]; omega
     have hk1 : j + 1 < (midS (insSort lt (L.take i)) (L.drop (i + 1)) L[i] (j + 1)).length := by rw [hml]; omega
     have hk0 : j < (midS (insSort lt (L.take i)) (L.drop (i + 1)) L[i] (j + 1)).length := by rw [hml]; omega
     have g1 := midS_get (S := insSort lt (L.take i)) (R := L.drop (i + 1)) (x := L[i]) (j := j + 1) (by omega) hk1
     have g0 := midS_get_below (R := L.drop (i + 1)) (x := L[i]) hjS hk0
     have hr1 := rows_at IntS.csl hk1
     have hr0 := rows_at IntS.csl hk0
     have hlr := rows_len (w := 1) IntS.csl (midS (insSort lt (L.take i)) (L.drop (i + 1)) L[i] (j + 1))
     rw [g1] at hr1
     rw [g0] at hr0
     rw [hml] at hlr
     (repeat ((repeat1' (first | simp -implicitDefEqProofs -dsimp only [go_sem, hg, hw1, hr1, hr0, hlr, IntS.cs] | simp -dsimp (disch := omega) only [wrap_i64])); repeat (with_reducible refine sideA ?_)))
     (first | refine callT.at (lessInt_ok L[i] (insSort lt (L.take i))[j]) ⟨leA, leA, trivial⟩ ?_ | refine callS.at (lessInt_ok L[i] (insSort lt (L.take i))[j]) ⟨leA, leA, trivial⟩ ?_)
     simp -implicitDefEqProofs -dsimp only [go_sem]
     have hlx := ltv L[i] (insSort lt (L.take i))[j]
     rw [← hlx]
     refine condT.split (fun h2 => ?_) (fun h2 => ?_)
     · have s1 := splice_row IntS.csl hk1 (insSort lt (L.take i))[j]
       have s2 := splice_row (L := (midS (insSort lt (L.take i)) (L.drop (i + 1)) L[i] (j + 1)).set (j + 1) (insSort lt (L.take i))[j]) IntS.csl (by rw [List.length_set]; exact hk0) L[i]
       rw [midS_swap hjS] at s2
       simp only [IntS.cs] at s1 s2
       (repeat ((repeat1' (first | simp -implicitDefEqProofs -dsimp only [go_sem, h2, hw1, hr1, hr0, hlr, IntS.cs] | simp -dsimp (disch := omega) only [wrap_i64])); repeat (with_reducible refine sideA ?_)))
       have hl2 : (rows IntS.cs ((midS (insSort lt (L.take i)) (L.drop (i + 1)) L[i] (j + 1)).set (j + 1) (insSort lt (L.take i))[j])).length = L.length * 1 := by rw [rows_len (w := 1) IntS.csl, List.length_set, hml]
       rw [s1, s2]
       refine ⟨by rw [hl2]; omega, j, ⟨by omega, hj.2.trans (posK_down hjS h2)⟩, ?_, by omega⟩
       refine Weak.cut (1) (by simp) (by simp) ?_ ?_
       · simp [LeC, LeV, ren, cutF]
       · simp [cutH, cutB, map_ren_rows]
     · simp -implicitDefEqProofs -dsimp only [go_sem, h2]
       have hp := posK_stay hjS h2
       refine ⟨i + 1, ⟨by omega, .inr hi'⟩, ?_, by omega⟩
       refine Weak.cut (1) (by simp) (by simp) ?_ ?_
       · rw [wrap_i64 (by omega) (by omega)]; simp [LeC, LeV, ren, cutF]
       · rw [srtS_next hi' (hj.2.trans hp)]
         simp [cutH, cutB, map_ren_rows]
 · simp -implicitDefEqProofs -dsimp only [go_sem, h1]
   have h1' : L.length ≤ i := by simp at h1; omega
   rw [srtS_end lt L h1']
   exact WeakR.refl _ _ _
theorem len64_ok (n : Nat) (hn : n ≤ 12) : Ctr Tryd.prog 180 [.int .u64 n] [] (.int .i64 (if n = 0 then 0 else if n = 1 then 1 else if n ≤ 3 then 2 else if n ≤ 7 then 3 else 4)) [] := by
 have c1 : decide ((4294967296 : Int) ≤ (n : Int)) = false := by simp; omega
 have c2 : decide ((65536 : Int) ≤ (n : Int)) = false := by simp; omega
 have c3 : decide ((256 : Int) ≤ (n : Int)) = false := by simp; omega
 refine Ctr.intro Tryd.mixed Tryd.func180 rfl Tryd.okF180 ?_
 simp -implicitDefEqProofs -dsimp only [go_sem, Tryd.ntmps180, Tryd.results180]
 (repeat ((repeat1' (first | simp -implicitDefEqProofs -dsimp only [go_sem, c1, c2, c3] | simp -dsimp (disch := omega) only [wrap_i64])); repeat (with_reducible refine sideA ?_)))
 have hc : n = 0 ∨ n = 1 ∨ n = 2 ∨ n = 3 ∨ n = 4 ∨ n = 5 ∨ n = 6 ∨ n = 7 ∨ n = 8 ∨ n = 9 ∨ n = 10 ∨ n = 11 ∨ n = 12 := by omega
 rcases hc with rfl | rfl | rfl | rfl | rfl | rfl | rfl | rfl | rfl | rfl | rfl | rfl | rfl <;> exact ⟨by decide, WeakR.drop' (by first | rfl | kernel_rfl) (by rfl)⟩
theorem len_ok (n : Nat) (hn : n ≤ 12) : Ctr Tryd.prog 125 [.int .u64 n] [] (.int .i64 (if n = 0 then 0 else if n = 1 then 1 else if n ≤ 3 then 2 else if n ≤ 7 then 3 else 4)) [] := by
 refine Ctr.intro Tryd.mixed Tryd.func125 rfl Tryd.okF125 ?_
 simp -implicitDefEqProofs -dsimp only [go_sem, Tryd.ntmps125, Tryd.results125]
 (repeat ((repeat1' (first | simp -implicitDefEqProofs -dsimp only [go_sem] | simp -dsimp (disch := omega) only [wrap_i64])); repeat (with_reducible refine sideA ?_)))
 (first | refine callT.at (len64_ok n hn) ⟨leA, trivial⟩ ?_ | refine callS.at (len64_ok n hn) ⟨leA, trivial⟩ ?_)
 (repeat ((repeat1' (first | simp -implicitDefEqProofs -dsimp only [go_sem] | simp -dsimp (disch := omega) only [wrap_i64])); repeat (with_reducible refine sideA ?_)))
 exact WeakR.drop' rfl (by rfl)
theorem pdqInt_ok (L : List Int) (z : Int) (hl : L.length ≤ 12) : Ctr Tryd.prog 165 [.osl 0 0 L.length 1, .int .i64 0, .int .i64 L.length, .int .i64 z] [some (rows IntS.cs L)] (.tup []) [some (rows IntS.cs (insSort ltI L))] := by
 have c1 : decide ((L.length : Int) ≤ 12) = true := by simp; omega
 refine Ctr.intro Tryd.mixed Tryd.func165 rfl Tryd.okF165 ?_
 simp -implicitDefEqProofs -dsimp only [go_sem, Tryd.ntmps165, Tryd.results165]
 (repeat ((repeat1' (first | simp -implicitDefEqProofs -dsimp only [go_sem] | simp -dsimp (disch := omega) only [wrap_i64])); repeat (with_reducible refine sideA ?_)))
 refine LoopT.intro (fun _ : Unit => True) (fun _ => ⟨[.osl 0 0 L.length 1, .int .i64 0, .int .i64 L.length, .int .i64 z, .undef, .undef, .undef, .undef, .bool true, .bool true, .undef, .undef, .undef, .undef, .undef, .undef, .undef, .undef, .undef, .undef, .undef, .undef, .undef, .undef, .undef, .undef, .undef, .undef, .undef, .undef, .undef, .undef, .undef, .undef, .undef, .undef, .undef, .undef, .undef, .undef, .undef, .undef, .undef, .undef, .undef, .undef, .undef, .undef, .undef, .undef, .undef, .undef, .undef, .undef, .undef, .undef, .undef, .undef, .undef, .undef, .undef, .undef, .undef, .undef, .undef, .undef, .undef, .undef, .undef, .undef, .undef, .undef, .undef, .undef, .undef, .undef, .undef, .undef, .undef, .undef, .undef, .undef, .undef, .undef, .undef, .undef, .undef, .undef, .undef, .undef, .undef, .undef, .undef, .undef, .undef, .undef, .undef, .undef, .undef, .undef, .undef, .undef, .undef, .undef, .undef, .undef, .undef, .undef, .undef, .undef, .undef, .undef, .undef, .undef, .undef, .undef, .undef, .undef, .undef, .undef, .undef, .undef, .undef, .undef, .undef, .undef, .undef, .undef, .undef, .undef, .undef, .undef, .undef, .undef], [some (rows IntS.cs L)], 1⟩) (fun _ => 0) () trivial ?_ (fun _ _ => ?_)
 · refine Weak.cut (1) (by simp) (by simp) ?_ ?_
   · simp [LeC, LeV, ren, cutF]
   · simp [cutH, cutB, map_ren_rows]
 (repeat ((repeat1' (first | simp -implicitDefEqProofs -dsimp only [go_sem, c1, Int.sub_zero] | simp -dsimp (disch := omega) only [wrap_i64])); repeat (with_reducible refine sideA ?_)))
 refine callS.lend [0] false ( insertionInt_ok L (by omega)) (by decide) ⟨leO, leO, leO, trivial⟩ lendA ( grown_one (by simp [rows_length, insSort_len])) (.inl rfl) ?_
 (repeat ((repeat1' (first | simp -implicitDefEqProofs -dsimp only [go_sem] | simp -dsimp (disch := omega) only [wrap_i64])); repeat (with_reducible refine sideA ?_)))
 exact WeakR.refl _ _ _
theorem sortInt_ok (L : List Int) (hl : L.length ≤ 12) : Ctr Tryd.prog 110 [.osl 0 0 L.length 1] [some (rows IntS.cs L)] (.tup []) [some (rows IntS.cs (insSort ltI L))] := by
 have hw : IntKind.u64.wrap (L.length : Int) = (L.length : Int) := by simp [IntKind.wrap, IntKind.bits, IntKind.signed]; omega
 refine Ctr.intro Tryd.mixed Tryd.func110 rfl Tryd.okF110 ?_
 simp -implicitDefEqProofs -dsimp only [go_sem, Tryd.ntmps110, Tryd.results110]
 (repeat ((repeat1' (first | simp -implicitDefEqProofs -dsimp only [go_sem, hw] | simp -dsimp (disch := omega) only [wrap_i64])); repeat (with_reducible refine sideA ?_)))
 (first | refine callT.at (len_ok L.length hl) ⟨leA, trivial⟩ ?_ | refine callS.at (len_ok L.length hl) ⟨leA, trivial⟩ ?_)
 (repeat ((repeat1' (first | simp -implicitDefEqProofs -dsimp only [go_sem] | simp -dsimp (disch := omega) only [wrap_i64])); repeat (with_reducible refine sideA ?_)))
 refine callS.lend [0] false ( pdqInt_ok L _ hl) (by decide) ⟨leO, leO, leO, leO, trivial⟩ lendA ( grown_one (by simp [rows_length, insSort_len])) (.inl rfl) ?_
 (repeat ((repeat1' (first | simp -implicitDefEqProofs -dsimp only [go_sem] | simp -dsimp (disch := omega) only [wrap_i64])); repeat (with_reducible refine sideA ?_)))
 exact WeakR.refl _ _ _
end Go.Proofs
end
