/-
  A part of the proof: texts put together by a program of the prover. Conditions: none.
-/
import Derived.Test.YtgnnoacaghelhaaDoorZShocksLaw3
import Derived.Test.YtgnnoacaghelhaaDoorProg
import Derived.KernelRfl
set_option linter.unusedSimpArgs false
set_option linter.unusedVariables false
section
namespace Go.Proofs
open Go.Lv

theorem Tryd.mixed : Tryd.prog.follows .mixedOrders = true := by kernel_rfl
@[go_sem] theorem Tryd.tsz1 : tszOf Tryd.prog 1 = some (1, false) := by kernel_rfl
@[go_sem] theorem Tryd.udef1 : (Tryd.prog.underlying 1).isSome = true := by kernel_rfl
@[go_sem] theorem Tryd.zero1 : zeroOf Tryd.prog 1 = some [.lit ((Go.Value.nilFunc))] := by kernel_rfl
@[go_sem] theorem Tryd.tsz2 : tszOf Tryd.prog 2 = some (1, false) := by kernel_rfl
@[go_sem] theorem Tryd.udef2 : (Tryd.prog.underlying 2).isSome = true := by kernel_rfl
@[go_sem] theorem Tryd.zero2 : zeroOf Tryd.prog 2 = some [.int .i64 0] := by kernel_rfl
@[go_sem] theorem Tryd.isInt2 : isIntT Tryd.prog 2 = some .i64 := by kernel_rfl
@[go_sem] theorem Tryd.tsz3 : tszOf Tryd.prog 3 = some (1, false) := by kernel_rfl
@[go_sem] theorem Tryd.udef3 : (Tryd.prog.underlying 3).isSome = true := by kernel_rfl
@[go_sem] theorem Tryd.zero3 : zeroOf Tryd.prog 3 = some [.int .i64 0] := by kernel_rfl
@[go_sem] theorem Tryd.isInt3 : isIntT Tryd.prog 3 = some .i64 := by kernel_rfl
@[go_sem] theorem Tryd.tsz4 : tszOf Tryd.prog 4 = some (1, false) := by kernel_rfl
@[go_sem] theorem Tryd.udef4 : (Tryd.prog.underlying 4).isSome = true := by kernel_rfl
@[go_sem] theorem Tryd.zero4 : zeroOf Tryd.prog 4 = some [.bool false] := by kernel_rfl
@[go_sem] theorem Tryd.isBool4 : isBoolT Tryd.prog 4 = true := by kernel_rfl
@[go_sem] theorem Tryd.tsz5 : tszOf Tryd.prog 5 = some (1, false) := by kernel_rfl
theorem Tryd.cz5 : Tryd.prog.cellsOf 5 = 1 := by kernel_rfl
@[go_sem] theorem Tryd.udef5 : (Tryd.prog.underlying 5).isSome = true := by kernel_rfl
@[go_sem] theorem Tryd.zero5 : zeroOf Tryd.prog 5 = some [.int .u8 0] := by kernel_rfl
@[go_sem] theorem Tryd.isInt5 : isIntT Tryd.prog 5 = some .u8 := by kernel_rfl
@[go_sem] theorem Tryd.tsz6 : tszOf Tryd.prog 6 = some (1, false) := by kernel_rfl
@[go_sem] theorem Tryd.udef6 : (Tryd.prog.underlying 6).isSome = true := by kernel_rfl
@[go_sem] theorem Tryd.zero6 : zeroOf Tryd.prog 6 = some [.int .u8 0] := by kernel_rfl
@[go_sem] theorem Tryd.isInt6 : isIntT Tryd.prog 6 = some .u8 := by kernel_rfl
@[go_sem] theorem Tryd.tsz7 : tszOf Tryd.prog 7 = some (4, true) := by kernel_rfl
@[go_sem] theorem Tryd.udef7 : (Tryd.prog.underlying 7).isSome = true := by kernel_rfl
@[go_sem] theorem Tryd.zero7 : zeroOf Tryd.prog 7 = some [.int .i64 0, .int .i64 0, .bool false, .int .u8 0] := by kernel_rfl
@[go_sem] theorem Tryd.pl7 : plOf Tryd.prog 7 = some [(0, 1), (1, 1), (2, 1), (3, 1)] := by kernel_rfl
@[go_sem] theorem Tryd.tsz8 : tszOf Tryd.prog 8 = some (4, true) := by kernel_rfl
@[go_sem] theorem Tryd.udef8 : (Tryd.prog.underlying 8).isSome = true := by kernel_rfl
@[go_sem] theorem Tryd.zero8 : zeroOf Tryd.prog 8 = some [.int .i64 0, .int .i64 0, .bool false, .int .u8 0] := by kernel_rfl
@[go_sem] theorem Tryd.pl8 : plOf Tryd.prog 8 = some [(0, 1), (1, 1), (2, 1), (3, 1)] := by kernel_rfl
@[go_sem] theorem Tryd.tsz9 : tszOf Tryd.prog 9 = some (1, false) := by kernel_rfl
@[go_sem] theorem Tryd.udef9 : (Tryd.prog.underlying 9).isSome = true := by kernel_rfl
@[go_sem] theorem Tryd.zero9 : zeroOf Tryd.prog 9 = some [.str ByteArray.empty] := by kernel_rfl
@[go_sem] theorem Tryd.isU8S9 : isU8S Tryd.prog 9 = false := by kernel_rfl
@[go_sem] theorem Tryd.isIntN9 : isIntT Tryd.prog 9 = none := by kernel_rfl
@[go_sem] theorem Tryd.isStr9 : isStr Tryd.prog 9 = true := by kernel_rfl
@[go_sem] theorem Tryd.tsz10 : tszOf Tryd.prog 10 = some (1, false) := by kernel_rfl
@[go_sem] theorem Tryd.udef10 : (Tryd.prog.underlying 10).isSome = true := by kernel_rfl
@[go_sem] theorem Tryd.zero10 : zeroOf Tryd.prog 10 = some [.str ByteArray.empty] := by kernel_rfl
@[go_sem] theorem Tryd.isU8S10 : isU8S Tryd.prog 10 = false := by kernel_rfl
@[go_sem] theorem Tryd.isIntN10 : isIntT Tryd.prog 10 = none := by kernel_rfl
@[go_sem] theorem Tryd.isStr10 : isStr Tryd.prog 10 = true := by kernel_rfl
@[go_sem] theorem Tryd.tsz11 : tszOf Tryd.prog 11 = some (1, false) := by kernel_rfl
@[go_sem] theorem Tryd.udef11 : (Tryd.prog.underlying 11).isSome = true := by kernel_rfl
@[go_sem] theorem Tryd.zero11 : zeroOf Tryd.prog 11 = some [.str ByteArray.empty] := by kernel_rfl
@[go_sem] theorem Tryd.isU8S11 : isU8S Tryd.prog 11 = false := by kernel_rfl
@[go_sem] theorem Tryd.isIntN11 : isIntT Tryd.prog 11 = none := by kernel_rfl
@[go_sem] theorem Tryd.isStr11 : isStr Tryd.prog 11 = true := by kernel_rfl
@[go_sem] theorem Tryd.tsz12 : tszOf Tryd.prog 12 = some (1, false) := by kernel_rfl
@[go_sem] theorem Tryd.udef12 : (Tryd.prog.underlying 12).isSome = true := by kernel_rfl
@[go_sem] theorem Tryd.zero12 : zeroOf Tryd.prog 12 = some [.int .u64 0] := by kernel_rfl
@[go_sem] theorem Tryd.isInt12 : isIntT Tryd.prog 12 = some .u64 := by kernel_rfl
@[go_sem] theorem Tryd.tsz13 : tszOf Tryd.prog 13 = some (2, true) := by kernel_rfl
@[go_sem] theorem Tryd.udef13 : (Tryd.prog.underlying 13).isSome = true := by kernel_rfl
@[go_sem] theorem Tryd.zero13 : zeroOf Tryd.prog 13 = some [.str ByteArray.empty, .int .u64 0] := by kernel_rfl
@[go_sem] theorem Tryd.pl13 : plOf Tryd.prog 13 = some [(0, 1), (1, 1)] := by kernel_rfl
@[go_sem] theorem Tryd.tsz14 : tszOf Tryd.prog 14 = some (2, true) := by kernel_rfl
@[go_sem] theorem Tryd.udef14 : (Tryd.prog.underlying 14).isSome = true := by kernel_rfl
@[go_sem] theorem Tryd.zero14 : zeroOf Tryd.prog 14 = some [.str ByteArray.empty, .int .u64 0] := by kernel_rfl
@[go_sem] theorem Tryd.pl14 : plOf Tryd.prog 14 = some [(0, 1), (1, 1)] := by kernel_rfl
@[go_sem] theorem Tryd.tsz15 : tszOf Tryd.prog 15 = some (1, false) := by kernel_rfl
@[go_sem] theorem Tryd.udef15 : (Tryd.prog.underlying 15).isSome = true := by kernel_rfl
@[go_sem] theorem Tryd.zero15 : zeroOf Tryd.prog 15 = some [.lit ((Go.Value.pointer none))] := by kernel_rfl
@[go_sem] theorem Tryd.tsz16 : tszOf Tryd.prog 16 = some (1, false) := by kernel_rfl
@[go_sem] theorem Tryd.udef16 : (Tryd.prog.underlying 16).isSome = true := by kernel_rfl
@[go_sem] theorem Tryd.zero16 : zeroOf Tryd.prog 16 = some [.lit ((Go.Value.pointer none))] := by kernel_rfl
@[go_sem] theorem Tryd.tsz17 : tszOf Tryd.prog 17 = some (1, false) := by kernel_rfl
@[go_sem] theorem Tryd.udef17 : (Tryd.prog.underlying 17).isSome = true := by kernel_rfl
@[go_sem] theorem Tryd.zero17 : zeroOf Tryd.prog 17 = some [.lit ((Go.Value.pointer none))] := by kernel_rfl
@[go_sem] theorem Tryd.tsz18 : tszOf Tryd.prog 18 = some (1, true) := by kernel_rfl
@[go_sem] theorem Tryd.udef18 : (Tryd.prog.underlying 18).isSome = true := by kernel_rfl
@[go_sem] theorem Tryd.zero18 : zeroOf Tryd.prog 18 = some [.lit ((Go.Value.pointer none))] := by kernel_rfl
@[go_sem] theorem Tryd.pl18 : plOf Tryd.prog 18 = some [(0, 1)] := by kernel_rfl
@[go_sem] theorem Tryd.tsz19 : tszOf Tryd.prog 19 = some (1, true) := by kernel_rfl
@[go_sem] theorem Tryd.udef19 : (Tryd.prog.underlying 19).isSome = true := by kernel_rfl
@[go_sem] theorem Tryd.zero19 : zeroOf Tryd.prog 19 = some [.lit ((Go.Value.pointer none))] := by kernel_rfl
@[go_sem] theorem Tryd.pl19 : plOf Tryd.prog 19 = some [(0, 1)] := by kernel_rfl
@[go_sem] theorem Tryd.tsz20 : tszOf Tryd.prog 20 = some (1, false) := by kernel_rfl
@[go_sem] theorem Tryd.udef20 : (Tryd.prog.underlying 20).isSome = true := by kernel_rfl
@[go_sem] theorem Tryd.zero20 : zeroOf Tryd.prog 20 = some [.lit ((Go.Value.nilIface))] := by kernel_rfl
@[go_sem] theorem Tryd.tsz21 : tszOf Tryd.prog 21 = some (1, false) := by kernel_rfl
@[go_sem] theorem Tryd.udef21 : (Tryd.prog.underlying 21).isSome = true := by kernel_rfl
@[go_sem] theorem Tryd.zero21 : zeroOf Tryd.prog 21 = some [.int .i32 0] := by kernel_rfl
@[go_sem] theorem Tryd.isInt21 : isIntT Tryd.prog 21 = some .i32 := by kernel_rfl
@[go_sem] theorem Tryd.tsz22 : tszOf Tryd.prog 22 = some (1, false) := by kernel_rfl
@[go_sem] theorem Tryd.udef22 : (Tryd.prog.underlying 22).isSome = true := by kernel_rfl
@[go_sem] theorem Tryd.zero22 : zeroOf Tryd.prog 22 = some [.nilsl] := by kernel_rfl
@[go_sem] theorem Tryd.el22 : elOf Tryd.prog 22 = some (5, 1, 1) := by kernel_rfl
@[go_sem] theorem Tryd.isSl22 : isSl Tryd.prog 22 = true := by kernel_rfl
@[go_sem] theorem Tryd.isU8S22 : isU8S Tryd.prog 22 = true := by kernel_rfl
@[go_sem] theorem Tryd.tsz23 : tszOf Tryd.prog 23 = some (1, false) := by kernel_rfl
@[go_sem] theorem Tryd.udef23 : (Tryd.prog.underlying 23).isSome = true := by kernel_rfl
@[go_sem] theorem Tryd.zero23 : zeroOf Tryd.prog 23 = some [.lit ((Go.Value.nilFunc))] := by kernel_rfl
@[go_sem] theorem Tryd.tsz24 : tszOf Tryd.prog 24 = some (1, false) := by kernel_rfl
@[go_sem] theorem Tryd.udef24 : (Tryd.prog.underlying 24).isSome = true := by kernel_rfl
@[go_sem] theorem Tryd.zero24 : zeroOf Tryd.prog 24 = some [.nilsl] := by kernel_rfl
@[go_sem] theorem Tryd.el24 : elOf Tryd.prog 24 = some (39, 5, 40) := by kernel_rfl
@[go_sem] theorem Tryd.isSl24 : isSl Tryd.prog 24 = true := by kernel_rfl
@[go_sem] theorem Tryd.tsz25 : tszOf Tryd.prog 25 = some (1, false) := by kernel_rfl
@[go_sem] theorem Tryd.udef25 : (Tryd.prog.underlying 25).isSome = true := by kernel_rfl
@[go_sem] theorem Tryd.zero25 : zeroOf Tryd.prog 25 = some [.lit ((Go.Value.nilFunc))] := by kernel_rfl
@[go_sem] theorem Tryd.tsz26 : tszOf Tryd.prog 26 = some (1, false) := by kernel_rfl
@[go_sem] theorem Tryd.udef26 : (Tryd.prog.underlying 26).isSome = true := by kernel_rfl
@[go_sem] theorem Tryd.zero26 : zeroOf Tryd.prog 26 = some [.nilsl] := by kernel_rfl
@[go_sem] theorem Tryd.el26 : elOf Tryd.prog 26 = some (3, 1, 8) := by kernel_rfl
@[go_sem] theorem Tryd.isSl26 : isSl Tryd.prog 26 = true := by kernel_rfl
@[go_sem] theorem Tryd.tsz28 : tszOf Tryd.prog 28 = some (1, false) := by kernel_rfl
@[go_sem] theorem Tryd.udef28 : (Tryd.prog.underlying 28).isSome = true := by kernel_rfl
@[go_sem] theorem Tryd.zero28 : zeroOf Tryd.prog 28 = some [.lit ((Go.Value.nilFunc))] := by kernel_rfl
@[go_sem] theorem Tryd.tsz29 : tszOf Tryd.prog 29 = some (1, false) := by kernel_rfl
@[go_sem] theorem Tryd.udef29 : (Tryd.prog.underlying 29).isSome = true := by kernel_rfl
@[go_sem] theorem Tryd.zero29 : zeroOf Tryd.prog 29 = some [.lit ((Go.Value.nilFunc))] := by kernel_rfl
@[go_sem] theorem Tryd.tsz30 : tszOf Tryd.prog 30 = some (1, false) := by kernel_rfl
@[go_sem] theorem Tryd.udef30 : (Tryd.prog.underlying 30).isSome = true := by kernel_rfl
@[go_sem] theorem Tryd.zero30 : zeroOf Tryd.prog 30 = some [.lit ((Go.Value.nilFunc))] := by kernel_rfl
@[go_sem] theorem Tryd.tsz32 : tszOf Tryd.prog 32 = some (1, false) := by kernel_rfl
@[go_sem] theorem Tryd.udef32 : (Tryd.prog.underlying 32).isSome = true := by kernel_rfl
@[go_sem] theorem Tryd.zero32 : zeroOf Tryd.prog 32 = some [.lit ((Go.Value.nilFunc))] := by kernel_rfl
@[go_sem] theorem Tryd.tsz34 : tszOf Tryd.prog 34 = some (1, false) := by kernel_rfl
@[go_sem] theorem Tryd.udef34 : (Tryd.prog.underlying 34).isSome = true := by kernel_rfl
@[go_sem] theorem Tryd.zero34 : zeroOf Tryd.prog 34 = some [.lit ((Go.Value.nilFunc))] := by kernel_rfl
@[go_sem] theorem Tryd.tsz36 : tszOf Tryd.prog 36 = some (1, false) := by kernel_rfl
@[go_sem] theorem Tryd.udef36 : (Tryd.prog.underlying 36).isSome = true := by kernel_rfl
@[go_sem] theorem Tryd.zero36 : zeroOf Tryd.prog 36 = some [.lit ((Go.Value.nilFunc))] := by kernel_rfl
@[go_sem] theorem Tryd.tsz37 : tszOf Tryd.prog 37 = some (1, false) := by kernel_rfl
@[go_sem] theorem Tryd.udef37 : (Tryd.prog.underlying 37).isSome = true := by kernel_rfl
@[go_sem] theorem Tryd.zero37 : zeroOf Tryd.prog 37 = some [.lit ((Go.Value.nilFunc))] := by kernel_rfl
@[go_sem] theorem Tryd.tsz38 : tszOf Tryd.prog 38 = some (5, true) := by kernel_rfl
@[go_sem] theorem Tryd.udef38 : (Tryd.prog.underlying 38).isSome = true := by kernel_rfl
@[go_sem] theorem Tryd.zero38 : zeroOf Tryd.prog 38 = some [.int .i64 0, .int .i64 0, .int .i64 0, .int .i64 0, .int .i64 0] := by kernel_rfl
@[go_sem] theorem Tryd.pl38 : plOf Tryd.prog 38 = some [(0, 1), (1, 1), (2, 1), (3, 1), (4, 1)] := by kernel_rfl
@[go_sem] theorem Tryd.tsz39 : tszOf Tryd.prog 39 = some (5, true) := by kernel_rfl
@[go_sem] theorem Tryd.udef39 : (Tryd.prog.underlying 39).isSome = true := by kernel_rfl
@[go_sem] theorem Tryd.zero39 : zeroOf Tryd.prog 39 = some [.int .i64 0, .int .i64 0, .int .i64 0, .int .i64 0, .int .i64 0] := by kernel_rfl
@[go_sem] theorem Tryd.flatEq39 : flatEq Tryd.prog 39 = some [.int .i64, .int .i64, .int .i64, .int .i64, .int .i64] := by kernel_rfl
@[go_sem] theorem Tryd.pl39 : plOf Tryd.prog 39 = some [(0, 1), (1, 1), (2, 1), (3, 1), (4, 1)] := by kernel_rfl
@[go_sem] theorem Tryd.fd39_0 : fdOf Tryd.prog 39 0 = some (0, 1, false) := by kernel_rfl
@[go_sem] theorem Tryd.fd39_1 : fdOf Tryd.prog 39 1 = some (1, 1, false) := by kernel_rfl
@[go_sem] theorem Tryd.fd39_2 : fdOf Tryd.prog 39 2 = some (2, 1, false) := by kernel_rfl
@[go_sem] theorem Tryd.fd39_3 : fdOf Tryd.prog 39 3 = some (3, 1, false) := by kernel_rfl
@[go_sem] theorem Tryd.fd39_4 : fdOf Tryd.prog 39 4 = some (4, 1, false) := by kernel_rfl
@[go_sem] theorem Tryd.tsz40 : tszOf Tryd.prog 40 = some (1, false) := by kernel_rfl
@[go_sem] theorem Tryd.udef40 : (Tryd.prog.underlying 40).isSome = true := by kernel_rfl
@[go_sem] theorem Tryd.zero40 : zeroOf Tryd.prog 40 = some [.lit ((Go.Value.nilFunc))] := by kernel_rfl
@[go_sem] theorem Tryd.tsz41 : tszOf Tryd.prog 41 = some (1, false) := by kernel_rfl
@[go_sem] theorem Tryd.udef41 : (Tryd.prog.underlying 41).isSome = true := by kernel_rfl
@[go_sem] theorem Tryd.zero41 : zeroOf Tryd.prog 41 = some [.lit ((Go.Value.nilFunc))] := by kernel_rfl
@[go_sem] theorem Tryd.tsz42 : tszOf Tryd.prog 42 = some (1, false) := by kernel_rfl
@[go_sem] theorem Tryd.udef42 : (Tryd.prog.underlying 42).isSome = true := by kernel_rfl
@[go_sem] theorem Tryd.zero42 : zeroOf Tryd.prog 42 = some [.lit ((Go.Value.nilFunc))] := by kernel_rfl
@[go_sem] theorem Tryd.tsz43 : tszOf Tryd.prog 43 = some (1, false) := by kernel_rfl
@[go_sem] theorem Tryd.udef43 : (Tryd.prog.underlying 43).isSome = true := by kernel_rfl
@[go_sem] theorem Tryd.zero43 : zeroOf Tryd.prog 43 = some [.nilsl] := by kernel_rfl
@[go_sem] theorem Tryd.el43 : elOf Tryd.prog 43 = some (109, 3, 24) := by kernel_rfl
@[go_sem] theorem Tryd.isSl43 : isSl Tryd.prog 43 = true := by kernel_rfl
@[go_sem] theorem Tryd.tsz44 : tszOf Tryd.prog 44 = some (1, false) := by kernel_rfl
@[go_sem] theorem Tryd.udef44 : (Tryd.prog.underlying 44).isSome = true := by kernel_rfl
@[go_sem] theorem Tryd.zero44 : zeroOf Tryd.prog 44 = some [.nilsl] := by kernel_rfl
@[go_sem] theorem Tryd.el44 : elOf Tryd.prog 44 = some (101, 5, 40) := by kernel_rfl
@[go_sem] theorem Tryd.isSl44 : isSl Tryd.prog 44 = true := by kernel_rfl
@[go_sem] theorem Tryd.tsz45 : tszOf Tryd.prog 45 = some (5, true) := by kernel_rfl
@[go_sem] theorem Tryd.udef45 : (Tryd.prog.underlying 45).isSome = true := by kernel_rfl
@[go_sem] theorem Tryd.zero45 : zeroOf Tryd.prog 45 = some [.int .i64 0, .nilsl, .nilsl, .int .i64 0, .int .i64 0] := by kernel_rfl
@[go_sem] theorem Tryd.pl45 : plOf Tryd.prog 45 = some [(0, 1), (1, 1), (2, 1), (3, 1), (4, 1)] := by kernel_rfl
@[go_sem] theorem Tryd.tsz46 : tszOf Tryd.prog 46 = some (5, true) := by kernel_rfl
@[go_sem] theorem Tryd.udef46 : (Tryd.prog.underlying 46).isSome = true := by kernel_rfl
@[go_sem] theorem Tryd.zero46 : zeroOf Tryd.prog 46 = some [.int .i64 0, .nilsl, .nilsl, .int .i64 0, .int .i64 0] := by kernel_rfl
@[go_sem] theorem Tryd.pl46 : plOf Tryd.prog 46 = some [(0, 1), (1, 1), (2, 1), (3, 1), (4, 1)] := by kernel_rfl
@[go_sem] theorem Tryd.fd46_0 : fdOf Tryd.prog 46 0 = some (0, 1, false) := by kernel_rfl
@[go_sem] theorem Tryd.fd46_1 : fdOf Tryd.prog 46 1 = some (1, 1, false) := by kernel_rfl
@[go_sem] theorem Tryd.fd46_2 : fdOf Tryd.prog 46 2 = some (2, 1, false) := by kernel_rfl
@[go_sem] theorem Tryd.fd46_3 : fdOf Tryd.prog 46 3 = some (3, 1, false) := by kernel_rfl
@[go_sem] theorem Tryd.fd46_4 : fdOf Tryd.prog 46 4 = some (4, 1, false) := by kernel_rfl
@[go_sem] theorem Tryd.tsz47 : tszOf Tryd.prog 47 = some (1, false) := by kernel_rfl
@[go_sem] theorem Tryd.udef47 : (Tryd.prog.underlying 47).isSome = true := by kernel_rfl
@[go_sem] theorem Tryd.zero47 : zeroOf Tryd.prog 47 = some [.lit ((Go.Value.nilFunc))] := by kernel_rfl
@[go_sem] theorem Tryd.tsz48 : tszOf Tryd.prog 48 = some (1, false) := by kernel_rfl
@[go_sem] theorem Tryd.udef48 : (Tryd.prog.underlying 48).isSome = true := by kernel_rfl
@[go_sem] theorem Tryd.zero48 : zeroOf Tryd.prog 48 = some [.lit ((Go.Value.nilFunc))] := by kernel_rfl
@[go_sem] theorem Tryd.tsz49 : tszOf Tryd.prog 49 = some (1, false) := by kernel_rfl
@[go_sem] theorem Tryd.udef49 : (Tryd.prog.underlying 49).isSome = true := by kernel_rfl
@[go_sem] theorem Tryd.zero49 : zeroOf Tryd.prog 49 = some [.lit ((Go.Value.nilFunc))] := by kernel_rfl
@[go_sem] theorem Tryd.tsz51 : tszOf Tryd.prog 51 = some (1, false) := by kernel_rfl
@[go_sem] theorem Tryd.udef51 : (Tryd.prog.underlying 51).isSome = true := by kernel_rfl
@[go_sem] theorem Tryd.zero51 : zeroOf Tryd.prog 51 = some [.lit ((Go.Value.nilFunc))] := by kernel_rfl
@[go_sem] theorem Tryd.tsz52 : tszOf Tryd.prog 52 = some (3, true) := by kernel_rfl
@[go_sem] theorem Tryd.udef52 : (Tryd.prog.underlying 52).isSome = true := by kernel_rfl
@[go_sem] theorem Tryd.zero52 : zeroOf Tryd.prog 52 = some [.int .i64 0, .int .i64 0, .int .i64 0] := by kernel_rfl
@[go_sem] theorem Tryd.pl52 : plOf Tryd.prog 52 = some [(0, 1), (1, 1), (2, 1)] := by kernel_rfl
@[go_sem] theorem Tryd.tsz53 : tszOf Tryd.prog 53 = some (3, true) := by kernel_rfl
@[go_sem] theorem Tryd.udef53 : (Tryd.prog.underlying 53).isSome = true := by kernel_rfl
@[go_sem] theorem Tryd.zero53 : zeroOf Tryd.prog 53 = some [.int .i64 0, .int .i64 0, .int .i64 0] := by kernel_rfl
@[go_sem] theorem Tryd.flatEq53 : flatEq Tryd.prog 53 = some [.int .i64, .int .i64, .int .i64] := by kernel_rfl
@[go_sem] theorem Tryd.pl53 : plOf Tryd.prog 53 = some [(0, 1), (1, 1), (2, 1)] := by kernel_rfl
@[go_sem] theorem Tryd.fd53_0 : fdOf Tryd.prog 53 0 = some (0, 1, false) := by kernel_rfl
@[go_sem] theorem Tryd.fd53_1 : fdOf Tryd.prog 53 1 = some (1, 1, false) := by kernel_rfl
@[go_sem] theorem Tryd.fd53_2 : fdOf Tryd.prog 53 2 = some (2, 1, false) := by kernel_rfl
@[go_sem] theorem Tryd.tsz55 : tszOf Tryd.prog 55 = some (1, false) := by kernel_rfl
@[go_sem] theorem Tryd.udef55 : (Tryd.prog.underlying 55).isSome = true := by kernel_rfl
@[go_sem] theorem Tryd.zero55 : zeroOf Tryd.prog 55 = some [.lit ((Go.Value.nilFunc))] := by kernel_rfl
@[go_sem] theorem Tryd.tsz56 : tszOf Tryd.prog 56 = some (1, false) := by kernel_rfl
@[go_sem] theorem Tryd.udef56 : (Tryd.prog.underlying 56).isSome = true := by kernel_rfl
@[go_sem] theorem Tryd.zero56 : zeroOf Tryd.prog 56 = some [.lit ((Go.Value.nilFunc))] := by kernel_rfl
@[go_sem] theorem Tryd.tsz58 : tszOf Tryd.prog 58 = some (1, false) := by kernel_rfl
@[go_sem] theorem Tryd.udef58 : (Tryd.prog.underlying 58).isSome = true := by kernel_rfl
@[go_sem] theorem Tryd.zero58 : zeroOf Tryd.prog 58 = some [.lit ((Go.Value.nilFunc))] := by kernel_rfl
@[go_sem] theorem Tryd.tsz59 : tszOf Tryd.prog 59 = some (1, false) := by kernel_rfl
@[go_sem] theorem Tryd.udef59 : (Tryd.prog.underlying 59).isSome = true := by kernel_rfl
@[go_sem] theorem Tryd.zero59 : zeroOf Tryd.prog 59 = some [.lit ((Go.Value.nilFunc))] := by kernel_rfl
@[go_sem] theorem Tryd.tsz60 : tszOf Tryd.prog 60 = some (7, true) := by kernel_rfl
@[go_sem] theorem Tryd.udef60 : (Tryd.prog.underlying 60).isSome = true := by kernel_rfl
@[go_sem] theorem Tryd.zero60 : zeroOf Tryd.prog 60 = some [.int .i64 0, .int .i64 0, .int .i64 0, .int .i64 0, .int .i64 0, .int .i64 0, .int .i64 0] := by kernel_rfl
@[go_sem] theorem Tryd.pl60 : plOf Tryd.prog 60 = some [(0, 1), (1, 1), (2, 1), (3, 1), (4, 1), (5, 1), (6, 1)] := by kernel_rfl
@[go_sem] theorem Tryd.tsz61 : tszOf Tryd.prog 61 = some (7, true) := by kernel_rfl
@[go_sem] theorem Tryd.udef61 : (Tryd.prog.underlying 61).isSome = true := by kernel_rfl
@[go_sem] theorem Tryd.zero61 : zeroOf Tryd.prog 61 = some [.int .i64 0, .int .i64 0, .int .i64 0, .int .i64 0, .int .i64 0, .int .i64 0, .int .i64 0] := by kernel_rfl
@[go_sem] theorem Tryd.flatEq61 : flatEq Tryd.prog 61 = some [.int .i64, .int .i64, .int .i64, .int .i64, .int .i64, .int .i64, .int .i64] := by kernel_rfl
@[go_sem] theorem Tryd.pl61 : plOf Tryd.prog 61 = some [(0, 1), (1, 1), (2, 1), (3, 1), (4, 1), (5, 1), (6, 1)] := by kernel_rfl
@[go_sem] theorem Tryd.fd61_0 : fdOf Tryd.prog 61 0 = some (0, 1, false) := by kernel_rfl
@[go_sem] theorem Tryd.fd61_1 : fdOf Tryd.prog 61 1 = some (1, 1, false) := by kernel_rfl
@[go_sem] theorem Tryd.fd61_2 : fdOf Tryd.prog 61 2 = some (2, 1, false) := by kernel_rfl
@[go_sem] theorem Tryd.fd61_3 : fdOf Tryd.prog 61 3 = some (3, 1, false) := by kernel_rfl
@[go_sem] theorem Tryd.fd61_4 : fdOf Tryd.prog 61 4 = some (4, 1, false) := by kernel_rfl
@[go_sem] theorem Tryd.fd61_5 : fdOf Tryd.prog 61 5 = some (5, 1, false) := by kernel_rfl
@[go_sem] theorem Tryd.fd61_6 : fdOf Tryd.prog 61 6 = some (6, 1, false) := by kernel_rfl
@[go_sem] theorem Tryd.tsz63 : tszOf Tryd.prog 63 = some (1, false) := by kernel_rfl
@[go_sem] theorem Tryd.udef63 : (Tryd.prog.underlying 63).isSome = true := by kernel_rfl
@[go_sem] theorem Tryd.zero63 : zeroOf Tryd.prog 63 = some [.lit ((Go.Value.nilFunc))] := by kernel_rfl
@[go_sem] theorem Tryd.tsz64 : tszOf Tryd.prog 64 = some (1, false) := by kernel_rfl
@[go_sem] theorem Tryd.udef64 : (Tryd.prog.underlying 64).isSome = true := by kernel_rfl
@[go_sem] theorem Tryd.zero64 : zeroOf Tryd.prog 64 = some [.lit ((Go.Value.nilFunc))] := by kernel_rfl
@[go_sem] theorem Tryd.tsz65 : tszOf Tryd.prog 65 = some (1, false) := by kernel_rfl
@[go_sem] theorem Tryd.udef65 : (Tryd.prog.underlying 65).isSome = true := by kernel_rfl
@[go_sem] theorem Tryd.zero65 : zeroOf Tryd.prog 65 = some [.lit ((Go.Value.nilFunc))] := by kernel_rfl
@[go_sem] theorem Tryd.tsz66 : tszOf Tryd.prog 66 = some (1, false) := by kernel_rfl
@[go_sem] theorem Tryd.udef66 : (Tryd.prog.underlying 66).isSome = true := by kernel_rfl
@[go_sem] theorem Tryd.zero66 : zeroOf Tryd.prog 66 = some [.nilsl] := by kernel_rfl
@[go_sem] theorem Tryd.el66 : elOf Tryd.prog 66 = some (128, 2, 16) := by kernel_rfl
@[go_sem] theorem Tryd.isSl66 : isSl Tryd.prog 66 = true := by kernel_rfl
@[go_sem] theorem Tryd.tsz67 : tszOf Tryd.prog 67 = some (5, true) := by kernel_rfl
@[go_sem] theorem Tryd.udef67 : (Tryd.prog.underlying 67).isSome = true := by kernel_rfl
@[go_sem] theorem Tryd.zero67 : zeroOf Tryd.prog 67 = some [.int .i64 0, .int .i64 0, .nilsl, .int .i64 0, .int .i64 0] := by kernel_rfl
@[go_sem] theorem Tryd.pl67 : plOf Tryd.prog 67 = some [(0, 1), (1, 1), (2, 1), (3, 1), (4, 1)] := by kernel_rfl
@[go_sem] theorem Tryd.tsz68 : tszOf Tryd.prog 68 = some (5, true) := by kernel_rfl
@[go_sem] theorem Tryd.udef68 : (Tryd.prog.underlying 68).isSome = true := by kernel_rfl
@[go_sem] theorem Tryd.zero68 : zeroOf Tryd.prog 68 = some [.int .i64 0, .int .i64 0, .nilsl, .int .i64 0, .int .i64 0] := by kernel_rfl
@[go_sem] theorem Tryd.pl68 : plOf Tryd.prog 68 = some [(0, 1), (1, 1), (2, 1), (3, 1), (4, 1)] := by kernel_rfl
@[go_sem] theorem Tryd.fd68_0 : fdOf Tryd.prog 68 0 = some (0, 1, false) := by kernel_rfl
@[go_sem] theorem Tryd.fd68_1 : fdOf Tryd.prog 68 1 = some (1, 1, false) := by kernel_rfl
@[go_sem] theorem Tryd.fd68_2 : fdOf Tryd.prog 68 2 = some (2, 1, false) := by kernel_rfl
@[go_sem] theorem Tryd.fd68_3 : fdOf Tryd.prog 68 3 = some (3, 1, false) := by kernel_rfl
@[go_sem] theorem Tryd.fd68_4 : fdOf Tryd.prog 68 4 = some (4, 1, false) := by kernel_rfl
@[go_sem] theorem Tryd.tsz69 : tszOf Tryd.prog 69 = some (1, false) := by kernel_rfl
@[go_sem] theorem Tryd.udef69 : (Tryd.prog.underlying 69).isSome = true := by kernel_rfl
@[go_sem] theorem Tryd.zero69 : zeroOf Tryd.prog 69 = some [.lit ((Go.Value.nilFunc))] := by kernel_rfl
@[go_sem] theorem Tryd.tsz71 : tszOf Tryd.prog 71 = some (1, false) := by kernel_rfl
@[go_sem] theorem Tryd.udef71 : (Tryd.prog.underlying 71).isSome = true := by kernel_rfl
@[go_sem] theorem Tryd.zero71 : zeroOf Tryd.prog 71 = some [.lit ((Go.Value.nilFunc))] := by kernel_rfl
@[go_sem] theorem Tryd.tsz72 : tszOf Tryd.prog 72 = some (1, false) := by kernel_rfl
@[go_sem] theorem Tryd.udef72 : (Tryd.prog.underlying 72).isSome = true := by kernel_rfl
@[go_sem] theorem Tryd.zero72 : zeroOf Tryd.prog 72 = some [.lit ((Go.Value.nilFunc))] := by kernel_rfl
@[go_sem] theorem Tryd.tsz74 : tszOf Tryd.prog 74 = some (1, false) := by kernel_rfl
@[go_sem] theorem Tryd.udef74 : (Tryd.prog.underlying 74).isSome = true := by kernel_rfl
@[go_sem] theorem Tryd.zero74 : zeroOf Tryd.prog 74 = some [.lit ((Go.Value.nilFunc))] := by kernel_rfl
@[go_sem] theorem Tryd.tsz75 : tszOf Tryd.prog 75 = some (2, true) := by kernel_rfl
@[go_sem] theorem Tryd.udef75 : (Tryd.prog.underlying 75).isSome = true := by kernel_rfl
@[go_sem] theorem Tryd.zero75 : zeroOf Tryd.prog 75 = some [.int .i64 0, .int .i64 0] := by kernel_rfl
@[go_sem] theorem Tryd.pl75 : plOf Tryd.prog 75 = some [(0, 1), (1, 1)] := by kernel_rfl
@[go_sem] theorem Tryd.tsz76 : tszOf Tryd.prog 76 = some (2, true) := by kernel_rfl
@[go_sem] theorem Tryd.udef76 : (Tryd.prog.underlying 76).isSome = true := by kernel_rfl
@[go_sem] theorem Tryd.zero76 : zeroOf Tryd.prog 76 = some [.int .i64 0, .int .i64 0] := by kernel_rfl
@[go_sem] theorem Tryd.flatEq76 : flatEq Tryd.prog 76 = some [.int .i64, .int .i64] := by kernel_rfl
@[go_sem] theorem Tryd.pl76 : plOf Tryd.prog 76 = some [(0, 1), (1, 1)] := by kernel_rfl
@[go_sem] theorem Tryd.fd76_0 : fdOf Tryd.prog 76 0 = some (0, 1, false) := by kernel_rfl
@[go_sem] theorem Tryd.fd76_1 : fdOf Tryd.prog 76 1 = some (1, 1, false) := by kernel_rfl
@[go_sem] theorem Tryd.tsz78 : tszOf Tryd.prog 78 = some (1, false) := by kernel_rfl
@[go_sem] theorem Tryd.udef78 : (Tryd.prog.underlying 78).isSome = true := by kernel_rfl
@[go_sem] theorem Tryd.zero78 : zeroOf Tryd.prog 78 = some [.lit ((Go.Value.nilFunc))] := by kernel_rfl
@[go_sem] theorem Tryd.tsz79 : tszOf Tryd.prog 79 = some (1, false) := by kernel_rfl
@[go_sem] theorem Tryd.udef79 : (Tryd.prog.underlying 79).isSome = true := by kernel_rfl
@[go_sem] theorem Tryd.zero79 : zeroOf Tryd.prog 79 = some [.lit ((Go.Value.nilFunc))] := by kernel_rfl
@[go_sem] theorem Tryd.tsz80 : tszOf Tryd.prog 80 = some (1, false) := by kernel_rfl
@[go_sem] theorem Tryd.udef80 : (Tryd.prog.underlying 80).isSome = true := by kernel_rfl
@[go_sem] theorem Tryd.zero80 : zeroOf Tryd.prog 80 = some [.lit ((Go.Value.nilFunc))] := by kernel_rfl
@[go_sem] theorem Tryd.tsz81 : tszOf Tryd.prog 81 = some (1, false) := by kernel_rfl
@[go_sem] theorem Tryd.udef81 : (Tryd.prog.underlying 81).isSome = true := by kernel_rfl
@[go_sem] theorem Tryd.zero81 : zeroOf Tryd.prog 81 = some [.lit ((Go.Value.nilFunc))] := by kernel_rfl
@[go_sem] theorem Tryd.tsz82 : tszOf Tryd.prog 82 = some (1, false) := by kernel_rfl
@[go_sem] theorem Tryd.udef82 : (Tryd.prog.underlying 82).isSome = true := by kernel_rfl
@[go_sem] theorem Tryd.zero82 : zeroOf Tryd.prog 82 = some [.lit ((Go.Value.nilFunc))] := by kernel_rfl
@[go_sem] theorem Tryd.tsz83 : tszOf Tryd.prog 83 = some (1, false) := by kernel_rfl
@[go_sem] theorem Tryd.udef83 : (Tryd.prog.underlying 83).isSome = true := by kernel_rfl
@[go_sem] theorem Tryd.zero83 : zeroOf Tryd.prog 83 = some [.lit ((Go.Value.nilFunc))] := by kernel_rfl
@[go_sem] theorem Tryd.tsz84 : tszOf Tryd.prog 84 = some (1, false) := by kernel_rfl
@[go_sem] theorem Tryd.udef84 : (Tryd.prog.underlying 84).isSome = true := by kernel_rfl
@[go_sem] theorem Tryd.zero84 : zeroOf Tryd.prog 84 = some [.lit ((Go.Value.nilFunc))] := by kernel_rfl
@[go_sem] theorem Tryd.tsz85 : tszOf Tryd.prog 85 = some (1, false) := by kernel_rfl
@[go_sem] theorem Tryd.udef85 : (Tryd.prog.underlying 85).isSome = true := by kernel_rfl
@[go_sem] theorem Tryd.zero85 : zeroOf Tryd.prog 85 = some [.lit ((Go.Value.nilFunc))] := by kernel_rfl
@[go_sem] theorem Tryd.tsz86 : tszOf Tryd.prog 86 = some (1, false) := by kernel_rfl
@[go_sem] theorem Tryd.udef86 : (Tryd.prog.underlying 86).isSome = true := by kernel_rfl
@[go_sem] theorem Tryd.zero86 : zeroOf Tryd.prog 86 = some [.lit ((Go.Value.nilFunc))] := by kernel_rfl
@[go_sem] theorem Tryd.tsz87 : tszOf Tryd.prog 87 = some (1, false) := by kernel_rfl
@[go_sem] theorem Tryd.udef87 : (Tryd.prog.underlying 87).isSome = true := by kernel_rfl
@[go_sem] theorem Tryd.zero87 : zeroOf Tryd.prog 87 = some [.lit ((Go.Value.pointer none))] := by kernel_rfl
@[go_sem] theorem Tryd.tsz88 : tszOf Tryd.prog 88 = some (1, false) := by kernel_rfl
@[go_sem] theorem Tryd.udef88 : (Tryd.prog.underlying 88).isSome = true := by kernel_rfl
@[go_sem] theorem Tryd.zero88 : zeroOf Tryd.prog 88 = some [.int .u64 0] := by kernel_rfl
@[go_sem] theorem Tryd.isInt88 : isIntT Tryd.prog 88 = some .u64 := by kernel_rfl
@[go_sem] theorem Tryd.tsz89 : tszOf Tryd.prog 89 = some (3, true) := by kernel_rfl
@[go_sem] theorem Tryd.udef89 : (Tryd.prog.underlying 89).isSome = true := by kernel_rfl
@[go_sem] theorem Tryd.zero89 : zeroOf Tryd.prog 89 = some [.nilsl, .int .i64 0, .int .u64 0] := by kernel_rfl
@[go_sem] theorem Tryd.pl89 : plOf Tryd.prog 89 = some [(0, 1), (1, 1), (2, 1)] := by kernel_rfl
@[go_sem] theorem Tryd.tsz90 : tszOf Tryd.prog 90 = some (3, true) := by kernel_rfl
@[go_sem] theorem Tryd.udef90 : (Tryd.prog.underlying 90).isSome = true := by kernel_rfl
@[go_sem] theorem Tryd.zero90 : zeroOf Tryd.prog 90 = some [.nilsl, .int .i64 0, .int .u64 0] := by kernel_rfl
@[go_sem] theorem Tryd.pl90 : plOf Tryd.prog 90 = some [(0, 1), (1, 1), (2, 1)] := by kernel_rfl
@[go_sem] theorem Tryd.fd90_0 : fdOf Tryd.prog 90 0 = some (0, 1, false) := by kernel_rfl
@[go_sem] theorem Tryd.fd90_1 : fdOf Tryd.prog 90 1 = some (1, 1, false) := by kernel_rfl
@[go_sem] theorem Tryd.fd90_2 : fdOf Tryd.prog 90 2 = some (2, 1, false) := by kernel_rfl
@[go_sem] theorem Tryd.tsz91 : tszOf Tryd.prog 91 = some (1, false) := by kernel_rfl
@[go_sem] theorem Tryd.udef91 : (Tryd.prog.underlying 91).isSome = true := by kernel_rfl
@[go_sem] theorem Tryd.zero91 : zeroOf Tryd.prog 91 = some [.lit ((Go.Value.nilFunc))] := by kernel_rfl
@[go_sem] theorem Tryd.tsz92 : tszOf Tryd.prog 92 = some (1, false) := by kernel_rfl
@[go_sem] theorem Tryd.udef92 : (Tryd.prog.underlying 92).isSome = true := by kernel_rfl
@[go_sem] theorem Tryd.zero92 : zeroOf Tryd.prog 92 = some [.lit ((Go.Value.nilFunc))] := by kernel_rfl
@[go_sem] theorem Tryd.tsz93 : tszOf Tryd.prog 93 = some (1, false) := by kernel_rfl
@[go_sem] theorem Tryd.udef93 : (Tryd.prog.underlying 93).isSome = true := by kernel_rfl
@[go_sem] theorem Tryd.zero93 : zeroOf Tryd.prog 93 = some [.lit ((Go.Value.nilFunc))] := by kernel_rfl
@[go_sem] theorem Tryd.tsz94 : tszOf Tryd.prog 94 = some (1, false) := by kernel_rfl
@[go_sem] theorem Tryd.udef94 : (Tryd.prog.underlying 94).isSome = true := by kernel_rfl
@[go_sem] theorem Tryd.zero94 : zeroOf Tryd.prog 94 = some [.lit ((Go.Value.nilFunc))] := by kernel_rfl
@[go_sem] theorem Tryd.tsz95 : tszOf Tryd.prog 95 = some (1, false) := by kernel_rfl
@[go_sem] theorem Tryd.udef95 : (Tryd.prog.underlying 95).isSome = true := by kernel_rfl
@[go_sem] theorem Tryd.zero95 : zeroOf Tryd.prog 95 = some [.lit ((Go.Value.nilFunc))] := by kernel_rfl
@[go_sem] theorem Tryd.tsz96 : tszOf Tryd.prog 96 = some (1, false) := by kernel_rfl
@[go_sem] theorem Tryd.udef96 : (Tryd.prog.underlying 96).isSome = true := by kernel_rfl
@[go_sem] theorem Tryd.zero96 : zeroOf Tryd.prog 96 = some [.lit ((Go.Value.nilFunc))] := by kernel_rfl
@[go_sem] theorem Tryd.tsz97 : tszOf Tryd.prog 97 = some (1, false) := by kernel_rfl
@[go_sem] theorem Tryd.udef97 : (Tryd.prog.underlying 97).isSome = true := by kernel_rfl
@[go_sem] theorem Tryd.zero97 : zeroOf Tryd.prog 97 = some [.lit ((Go.Value.nilFunc))] := by kernel_rfl
@[go_sem] theorem Tryd.tsz98 : tszOf Tryd.prog 98 = some (1, false) := by kernel_rfl
@[go_sem] theorem Tryd.udef98 : (Tryd.prog.underlying 98).isSome = true := by kernel_rfl
@[go_sem] theorem Tryd.zero98 : zeroOf Tryd.prog 98 = some [.lit ((Go.Value.nilFunc))] := by kernel_rfl
@[go_sem] theorem Tryd.tsz99 : tszOf Tryd.prog 99 = some (1, false) := by kernel_rfl
@[go_sem] theorem Tryd.udef99 : (Tryd.prog.underlying 99).isSome = true := by kernel_rfl
@[go_sem] theorem Tryd.zero99 : zeroOf Tryd.prog 99 = some [.lit ((Go.Value.nilFunc))] := by kernel_rfl
@[go_sem] theorem Tryd.tsz100 : tszOf Tryd.prog 100 = some (5, true) := by kernel_rfl
@[go_sem] theorem Tryd.udef100 : (Tryd.prog.underlying 100).isSome = true := by kernel_rfl
@[go_sem] theorem Tryd.zero100 : zeroOf Tryd.prog 100 = some [.int .i64 0, .int .i64 0, .int .i64 0, .int .i64 0, .int .i64 0] := by kernel_rfl
@[go_sem] theorem Tryd.pl100 : plOf Tryd.prog 100 = some [(0, 1), (1, 1), (2, 1), (3, 1), (4, 1)] := by kernel_rfl
@[go_sem] theorem Tryd.tsz101 : tszOf Tryd.prog 101 = some (5, true) := by kernel_rfl
@[go_sem] theorem Tryd.udef101 : (Tryd.prog.underlying 101).isSome = true := by kernel_rfl
@[go_sem] theorem Tryd.zero101 : zeroOf Tryd.prog 101 = some [.int .i64 0, .int .i64 0, .int .i64 0, .int .i64 0, .int .i64 0] := by kernel_rfl
@[go_sem] theorem Tryd.flatEq101 : flatEq Tryd.prog 101 = some [.int .i64, .int .i64, .int .i64, .int .i64, .int .i64] := by kernel_rfl
@[go_sem] theorem Tryd.pl101 : plOf Tryd.prog 101 = some [(0, 1), (1, 1), (2, 1), (3, 1), (4, 1)] := by kernel_rfl
@[go_sem] theorem Tryd.fd101_0 : fdOf Tryd.prog 101 0 = some (0, 1, false) := by kernel_rfl
@[go_sem] theorem Tryd.fd101_1 : fdOf Tryd.prog 101 1 = some (1, 1, false) := by kernel_rfl
@[go_sem] theorem Tryd.fd101_2 : fdOf Tryd.prog 101 2 = some (2, 1, false) := by kernel_rfl
@[go_sem] theorem Tryd.fd101_3 : fdOf Tryd.prog 101 3 = some (3, 1, false) := by kernel_rfl
@[go_sem] theorem Tryd.fd101_4 : fdOf Tryd.prog 101 4 = some (4, 1, false) := by kernel_rfl
@[go_sem] theorem Tryd.tsz102 : tszOf Tryd.prog 102 = some (1, false) := by kernel_rfl
@[go_sem] theorem Tryd.udef102 : (Tryd.prog.underlying 102).isSome = true := by kernel_rfl
@[go_sem] theorem Tryd.zero102 : zeroOf Tryd.prog 102 = some [.lit ((Go.Value.nilFunc))] := by kernel_rfl
@[go_sem] theorem Tryd.tsz103 : tszOf Tryd.prog 103 = some (1, false) := by kernel_rfl
@[go_sem] theorem Tryd.udef103 : (Tryd.prog.underlying 103).isSome = true := by kernel_rfl
@[go_sem] theorem Tryd.zero103 : zeroOf Tryd.prog 103 = some [.lit ((Go.Value.nilFunc))] := by kernel_rfl
@[go_sem] theorem Tryd.tsz104 : tszOf Tryd.prog 104 = some (1, false) := by kernel_rfl
@[go_sem] theorem Tryd.udef104 : (Tryd.prog.underlying 104).isSome = true := by kernel_rfl
@[go_sem] theorem Tryd.zero104 : zeroOf Tryd.prog 104 = some [.lit ((Go.Value.nilFunc))] := by kernel_rfl
@[go_sem] theorem Tryd.tsz105 : tszOf Tryd.prog 105 = some (1, false) := by kernel_rfl
@[go_sem] theorem Tryd.udef105 : (Tryd.prog.underlying 105).isSome = true := by kernel_rfl
@[go_sem] theorem Tryd.zero105 : zeroOf Tryd.prog 105 = some [.lit ((Go.Value.nilFunc))] := by kernel_rfl
@[go_sem] theorem Tryd.tsz106 : tszOf Tryd.prog 106 = some (1, false) := by kernel_rfl
@[go_sem] theorem Tryd.udef106 : (Tryd.prog.underlying 106).isSome = true := by kernel_rfl
@[go_sem] theorem Tryd.zero106 : zeroOf Tryd.prog 106 = some [.lit ((Go.Value.nilFunc))] := by kernel_rfl
@[go_sem] theorem Tryd.tsz107 : tszOf Tryd.prog 107 = some (1, false) := by kernel_rfl
@[go_sem] theorem Tryd.udef107 : (Tryd.prog.underlying 107).isSome = true := by kernel_rfl
@[go_sem] theorem Tryd.zero107 : zeroOf Tryd.prog 107 = some [.lit ((Go.Value.nilFunc))] := by kernel_rfl
@[go_sem] theorem Tryd.tsz108 : tszOf Tryd.prog 108 = some (3, true) := by kernel_rfl
@[go_sem] theorem Tryd.udef108 : (Tryd.prog.underlying 108).isSome = true := by kernel_rfl
@[go_sem] theorem Tryd.zero108 : zeroOf Tryd.prog 108 = some [.int .i64 0, .bool false, .int .i64 0] := by kernel_rfl
@[go_sem] theorem Tryd.pl108 : plOf Tryd.prog 108 = some [(0, 1), (1, 1), (2, 1)] := by kernel_rfl
@[go_sem] theorem Tryd.tsz109 : tszOf Tryd.prog 109 = some (3, true) := by kernel_rfl
@[go_sem] theorem Tryd.udef109 : (Tryd.prog.underlying 109).isSome = true := by kernel_rfl
@[go_sem] theorem Tryd.zero109 : zeroOf Tryd.prog 109 = some [.int .i64 0, .bool false, .int .i64 0] := by kernel_rfl
@[go_sem] theorem Tryd.flatEq109 : flatEq Tryd.prog 109 = some [.int .i64, .bool, .int .i64] := by kernel_rfl
@[go_sem] theorem Tryd.pl109 : plOf Tryd.prog 109 = some [(0, 1), (1, 1), (2, 1)] := by kernel_rfl
@[go_sem] theorem Tryd.fd109_0 : fdOf Tryd.prog 109 0 = some (0, 1, false) := by kernel_rfl
@[go_sem] theorem Tryd.fd109_1 : fdOf Tryd.prog 109 1 = some (1, 1, false) := by kernel_rfl
@[go_sem] theorem Tryd.fd109_2 : fdOf Tryd.prog 109 2 = some (2, 1, false) := by kernel_rfl
@[go_sem] theorem Tryd.tsz110 : tszOf Tryd.prog 110 = some (1, false) := by kernel_rfl
@[go_sem] theorem Tryd.udef110 : (Tryd.prog.underlying 110).isSome = true := by kernel_rfl
@[go_sem] theorem Tryd.zero110 : zeroOf Tryd.prog 110 = some [.lit ((Go.Value.nilFunc))] := by kernel_rfl
@[go_sem] theorem Tryd.tsz111 : tszOf Tryd.prog 111 = some (1, false) := by kernel_rfl
@[go_sem] theorem Tryd.udef111 : (Tryd.prog.underlying 111).isSome = true := by kernel_rfl
@[go_sem] theorem Tryd.zero111 : zeroOf Tryd.prog 111 = some [.lit ((Go.Value.nilFunc))] := by kernel_rfl
@[go_sem] theorem Tryd.tsz112 : tszOf Tryd.prog 112 = some (1, false) := by kernel_rfl
@[go_sem] theorem Tryd.udef112 : (Tryd.prog.underlying 112).isSome = true := by kernel_rfl
@[go_sem] theorem Tryd.zero112 : zeroOf Tryd.prog 112 = some [.lit ((Go.Value.nilFunc))] := by kernel_rfl
@[go_sem] theorem Tryd.tsz113 : tszOf Tryd.prog 113 = some (1, false) := by kernel_rfl
@[go_sem] theorem Tryd.udef113 : (Tryd.prog.underlying 113).isSome = true := by kernel_rfl
@[go_sem] theorem Tryd.zero113 : zeroOf Tryd.prog 113 = some [.lit ((Go.Value.nilFunc))] := by kernel_rfl
@[go_sem] theorem Tryd.tsz114 : tszOf Tryd.prog 114 = some (1, false) := by kernel_rfl
@[go_sem] theorem Tryd.udef114 : (Tryd.prog.underlying 114).isSome = true := by kernel_rfl
@[go_sem] theorem Tryd.zero114 : zeroOf Tryd.prog 114 = some [.lit ((Go.Value.nilFunc))] := by kernel_rfl
@[go_sem] theorem Tryd.tsz115 : tszOf Tryd.prog 115 = some (1, false) := by kernel_rfl
@[go_sem] theorem Tryd.udef115 : (Tryd.prog.underlying 115).isSome = true := by kernel_rfl
@[go_sem] theorem Tryd.zero115 : zeroOf Tryd.prog 115 = some [.nilsl] := by kernel_rfl
@[go_sem] theorem Tryd.el115 : elOf Tryd.prog 115 = some (9, 1, 16) := by kernel_rfl
@[go_sem] theorem Tryd.isSl115 : isSl Tryd.prog 115 = true := by kernel_rfl
@[go_sem] theorem Tryd.tsz116 : tszOf Tryd.prog 116 = some (1, false) := by kernel_rfl
@[go_sem] theorem Tryd.udef116 : (Tryd.prog.underlying 116).isSome = true := by kernel_rfl
@[go_sem] theorem Tryd.zero116 : zeroOf Tryd.prog 116 = some [.lit ((Go.Value.nilFunc))] := by kernel_rfl
@[go_sem] theorem Tryd.tsz117 : tszOf Tryd.prog 117 = some (1, false) := by kernel_rfl
@[go_sem] theorem Tryd.udef117 : (Tryd.prog.underlying 117).isSome = true := by kernel_rfl
@[go_sem] theorem Tryd.zero117 : zeroOf Tryd.prog 117 = some [.lit ((Go.Value.nilFunc))] := by kernel_rfl
@[go_sem] theorem Tryd.tsz118 : tszOf Tryd.prog 118 = some (1, false) := by kernel_rfl
@[go_sem] theorem Tryd.udef118 : (Tryd.prog.underlying 118).isSome = true := by kernel_rfl
@[go_sem] theorem Tryd.zero118 : zeroOf Tryd.prog 118 = some [.lit ((Go.Value.nilFunc))] := by kernel_rfl
@[go_sem] theorem Tryd.tsz119 : tszOf Tryd.prog 119 = some (1, false) := by kernel_rfl
@[go_sem] theorem Tryd.udef119 : (Tryd.prog.underlying 119).isSome = true := by kernel_rfl
@[go_sem] theorem Tryd.zero119 : zeroOf Tryd.prog 119 = some [.lit ((Go.Value.nilFunc))] := by kernel_rfl
@[go_sem] theorem Tryd.tsz120 : tszOf Tryd.prog 120 = some (1, false) := by kernel_rfl
@[go_sem] theorem Tryd.udef120 : (Tryd.prog.underlying 120).isSome = true := by kernel_rfl
@[go_sem] theorem Tryd.zero120 : zeroOf Tryd.prog 120 = some [.lit ((Go.Value.nilFunc))] := by kernel_rfl
@[go_sem] theorem Tryd.tsz122 : tszOf Tryd.prog 122 = some (1, false) := by kernel_rfl
@[go_sem] theorem Tryd.udef122 : (Tryd.prog.underlying 122).isSome = true := by kernel_rfl
@[go_sem] theorem Tryd.zero122 : zeroOf Tryd.prog 122 = some [.lit ((Go.Value.nilFunc))] := by kernel_rfl
@[go_sem] theorem Tryd.tsz123 : tszOf Tryd.prog 123 = some (1, false) := by kernel_rfl
@[go_sem] theorem Tryd.udef123 : (Tryd.prog.underlying 123).isSome = true := by kernel_rfl
@[go_sem] theorem Tryd.zero123 : zeroOf Tryd.prog 123 = some [.lit ((Go.Value.nilFunc))] := by kernel_rfl
@[go_sem] theorem Tryd.tsz124 : tszOf Tryd.prog 124 = some (1, false) := by kernel_rfl
@[go_sem] theorem Tryd.udef124 : (Tryd.prog.underlying 124).isSome = true := by kernel_rfl
@[go_sem] theorem Tryd.zero124 : zeroOf Tryd.prog 124 = some [.lit ((Go.Value.nilFunc))] := by kernel_rfl
@[go_sem] theorem Tryd.tsz125 : tszOf Tryd.prog 125 = some (1, false) := by kernel_rfl
@[go_sem] theorem Tryd.udef125 : (Tryd.prog.underlying 125).isSome = true := by kernel_rfl
@[go_sem] theorem Tryd.zero125 : zeroOf Tryd.prog 125 = some [.lit ((Go.Value.nilFunc))] := by kernel_rfl
@[go_sem] theorem Tryd.tsz126 : tszOf Tryd.prog 126 = some (1, false) := by kernel_rfl
@[go_sem] theorem Tryd.udef126 : (Tryd.prog.underlying 126).isSome = true := by kernel_rfl
@[go_sem] theorem Tryd.zero126 : zeroOf Tryd.prog 126 = some [.lit ((Go.Value.nilFunc))] := by kernel_rfl
@[go_sem] theorem Tryd.tsz127 : tszOf Tryd.prog 127 = some (2, true) := by kernel_rfl
@[go_sem] theorem Tryd.udef127 : (Tryd.prog.underlying 127).isSome = true := by kernel_rfl
@[go_sem] theorem Tryd.zero127 : zeroOf Tryd.prog 127 = some [.int .i64 0, .int .i64 0] := by kernel_rfl
@[go_sem] theorem Tryd.pl127 : plOf Tryd.prog 127 = some [(0, 1), (1, 1)] := by kernel_rfl
@[go_sem] theorem Tryd.tsz128 : tszOf Tryd.prog 128 = some (2, true) := by kernel_rfl
@[go_sem] theorem Tryd.udef128 : (Tryd.prog.underlying 128).isSome = true := by kernel_rfl
@[go_sem] theorem Tryd.zero128 : zeroOf Tryd.prog 128 = some [.int .i64 0, .int .i64 0] := by kernel_rfl
@[go_sem] theorem Tryd.flatEq128 : flatEq Tryd.prog 128 = some [.int .i64, .int .i64] := by kernel_rfl
@[go_sem] theorem Tryd.pl128 : plOf Tryd.prog 128 = some [(0, 1), (1, 1)] := by kernel_rfl
@[go_sem] theorem Tryd.fd128_0 : fdOf Tryd.prog 128 0 = some (0, 1, false) := by kernel_rfl
@[go_sem] theorem Tryd.fd128_1 : fdOf Tryd.prog 128 1 = some (1, 1, false) := by kernel_rfl
@[go_sem] theorem Tryd.tsz129 : tszOf Tryd.prog 129 = some (1, false) := by kernel_rfl
@[go_sem] theorem Tryd.udef129 : (Tryd.prog.underlying 129).isSome = true := by kernel_rfl
@[go_sem] theorem Tryd.zero129 : zeroOf Tryd.prog 129 = some [.lit ((Go.Value.nilFunc))] := by kernel_rfl
@[go_sem] theorem Tryd.tsz130 : tszOf Tryd.prog 130 = some (1, false) := by kernel_rfl
@[go_sem] theorem Tryd.udef130 : (Tryd.prog.underlying 130).isSome = true := by kernel_rfl
@[go_sem] theorem Tryd.zero130 : zeroOf Tryd.prog 130 = some [.lit ((Go.Value.nilFunc))] := by kernel_rfl
@[go_sem] theorem Tryd.tsz131 : tszOf Tryd.prog 131 = some (1, false) := by kernel_rfl
@[go_sem] theorem Tryd.udef131 : (Tryd.prog.underlying 131).isSome = true := by kernel_rfl
@[go_sem] theorem Tryd.zero131 : zeroOf Tryd.prog 131 = some [.lit ((Go.Value.nilFunc))] := by kernel_rfl
@[go_sem] theorem Tryd.tsz132 : tszOf Tryd.prog 132 = some (1, false) := by kernel_rfl
@[go_sem] theorem Tryd.udef132 : (Tryd.prog.underlying 132).isSome = true := by kernel_rfl
@[go_sem] theorem Tryd.zero132 : zeroOf Tryd.prog 132 = some [.lit ((Go.Value.nilFunc))] := by kernel_rfl
@[go_sem] theorem Tryd.tsz133 : tszOf Tryd.prog 133 = some (1, false) := by kernel_rfl
@[go_sem] theorem Tryd.udef133 : (Tryd.prog.underlying 133).isSome = true := by kernel_rfl
@[go_sem] theorem Tryd.zero133 : zeroOf Tryd.prog 133 = some [.lit ((Go.Value.nilFunc))] := by kernel_rfl
@[go_sem] theorem Tryd.tsz134 : tszOf Tryd.prog 134 = some (1, false) := by kernel_rfl
@[go_sem] theorem Tryd.udef134 : (Tryd.prog.underlying 134).isSome = true := by kernel_rfl
@[go_sem] theorem Tryd.zero134 : zeroOf Tryd.prog 134 = some [.lit ((Go.Value.nilFunc))] := by kernel_rfl
@[go_sem] theorem Tryd.tsz135 : tszOf Tryd.prog 135 = some (1, false) := by kernel_rfl
@[go_sem] theorem Tryd.udef135 : (Tryd.prog.underlying 135).isSome = true := by kernel_rfl
@[go_sem] theorem Tryd.zero135 : zeroOf Tryd.prog 135 = some [.lit ((Go.Value.nilFunc))] := by kernel_rfl
@[go_sem] theorem Tryd.tsz136 : tszOf Tryd.prog 136 = some (1, false) := by kernel_rfl
@[go_sem] theorem Tryd.udef136 : (Tryd.prog.underlying 136).isSome = true := by kernel_rfl
@[go_sem] theorem Tryd.zero136 : zeroOf Tryd.prog 136 = some [.lit ((Go.Value.nilFunc))] := by kernel_rfl
@[go_sem] theorem Tryd.tsz137 : tszOf Tryd.prog 137 = some (1, false) := by kernel_rfl
@[go_sem] theorem Tryd.udef137 : (Tryd.prog.underlying 137).isSome = true := by kernel_rfl
@[go_sem] theorem Tryd.zero137 : zeroOf Tryd.prog 137 = some [.lit ((Go.Value.nilFunc))] := by kernel_rfl
@[go_sem] theorem Tryd.tsz138 : tszOf Tryd.prog 138 = some (1, false) := by kernel_rfl
@[go_sem] theorem Tryd.udef138 : (Tryd.prog.underlying 138).isSome = true := by kernel_rfl
@[go_sem] theorem Tryd.zero138 : zeroOf Tryd.prog 138 = some [.lit ((Go.Value.nilFunc))] := by kernel_rfl
@[go_sem] theorem Tryd.tsz139 : tszOf Tryd.prog 139 = some (1, false) := by kernel_rfl
@[go_sem] theorem Tryd.udef139 : (Tryd.prog.underlying 139).isSome = true := by kernel_rfl
@[go_sem] theorem Tryd.zero139 : zeroOf Tryd.prog 139 = some [.lit ((Go.Value.nilFunc))] := by kernel_rfl
@[go_sem] theorem Tryd.tsz140 : tszOf Tryd.prog 140 = some (1, false) := by kernel_rfl
@[go_sem] theorem Tryd.udef140 : (Tryd.prog.underlying 140).isSome = true := by kernel_rfl
@[go_sem] theorem Tryd.zero140 : zeroOf Tryd.prog 140 = some [.int .u64 0] := by kernel_rfl
@[go_sem] theorem Tryd.isInt140 : isIntT Tryd.prog 140 = some .u64 := by kernel_rfl
@[go_sem] theorem Tryd.tsz141 : tszOf Tryd.prog 141 = some (1, false) := by kernel_rfl
@[go_sem] theorem Tryd.udef141 : (Tryd.prog.underlying 141).isSome = true := by kernel_rfl
@[go_sem] theorem Tryd.zero141 : zeroOf Tryd.prog 141 = some [.lit ((Go.Value.nilFunc))] := by kernel_rfl
@[go_sem] theorem Tryd.tsz142 : tszOf Tryd.prog 142 = some (1, false) := by kernel_rfl
@[go_sem] theorem Tryd.udef142 : (Tryd.prog.underlying 142).isSome = true := by kernel_rfl
@[go_sem] theorem Tryd.zero142 : zeroOf Tryd.prog 142 = some [.lit ((Go.Value.nilFunc))] := by kernel_rfl
@[go_sem] theorem Tryd.tsz143 : tszOf Tryd.prog 143 = some (1, false) := by kernel_rfl
@[go_sem] theorem Tryd.udef143 : (Tryd.prog.underlying 143).isSome = true := by kernel_rfl
@[go_sem] theorem Tryd.zero143 : zeroOf Tryd.prog 143 = some [.lit ((Go.Value.nilFunc))] := by kernel_rfl
@[go_sem] theorem Tryd.tsz144 : tszOf Tryd.prog 144 = some (1, false) := by kernel_rfl
@[go_sem] theorem Tryd.udef144 : (Tryd.prog.underlying 144).isSome = true := by kernel_rfl
@[go_sem] theorem Tryd.zero144 : zeroOf Tryd.prog 144 = some [.lit ((Go.Value.nilFunc))] := by kernel_rfl
@[go_sem] theorem Tryd.tsz145 : tszOf Tryd.prog 145 = some (1, false) := by kernel_rfl
@[go_sem] theorem Tryd.udef145 : (Tryd.prog.underlying 145).isSome = true := by kernel_rfl
@[go_sem] theorem Tryd.zero145 : zeroOf Tryd.prog 145 = some [.lit ((Go.Value.nilFunc))] := by kernel_rfl
@[go_sem] theorem Tryd.tsz146 : tszOf Tryd.prog 146 = some (1, false) := by kernel_rfl
@[go_sem] theorem Tryd.udef146 : (Tryd.prog.underlying 146).isSome = true := by kernel_rfl
@[go_sem] theorem Tryd.zero146 : zeroOf Tryd.prog 146 = some [.lit ((Go.Value.nilFunc))] := by kernel_rfl
@[go_sem] theorem Tryd.tsz147 : tszOf Tryd.prog 147 = some (1, false) := by kernel_rfl
@[go_sem] theorem Tryd.udef147 : (Tryd.prog.underlying 147).isSome = true := by kernel_rfl
@[go_sem] theorem Tryd.zero147 : zeroOf Tryd.prog 147 = some [.lit ((Go.Value.nilFunc))] := by kernel_rfl
@[go_sem] theorem Tryd.tsz148 : tszOf Tryd.prog 148 = some (1, false) := by kernel_rfl
@[go_sem] theorem Tryd.udef148 : (Tryd.prog.underlying 148).isSome = true := by kernel_rfl
@[go_sem] theorem Tryd.zero148 : zeroOf Tryd.prog 148 = some [.lit ((Go.Value.nilFunc))] := by kernel_rfl
@[go_sem] theorem Tryd.tsz149 : tszOf Tryd.prog 149 = some (1, false) := by kernel_rfl
@[go_sem] theorem Tryd.udef149 : (Tryd.prog.underlying 149).isSome = true := by kernel_rfl
@[go_sem] theorem Tryd.zero149 : zeroOf Tryd.prog 149 = some [.lit ((Go.Value.nilFunc))] := by kernel_rfl
@[go_sem] theorem Tryd.tsz150 : tszOf Tryd.prog 150 = some (1, false) := by kernel_rfl
@[go_sem] theorem Tryd.udef150 : (Tryd.prog.underlying 150).isSome = true := by kernel_rfl
@[go_sem] theorem Tryd.zero150 : zeroOf Tryd.prog 150 = some [.lit ((Go.Value.nilFunc))] := by kernel_rfl
@[go_sem] theorem Tryd.tsz151 : tszOf Tryd.prog 151 = some (1, false) := by kernel_rfl
@[go_sem] theorem Tryd.udef151 : (Tryd.prog.underlying 151).isSome = true := by kernel_rfl
@[go_sem] theorem Tryd.zero151 : zeroOf Tryd.prog 151 = some [.lit ((Go.Value.nilFunc))] := by kernel_rfl
@[go_sem] theorem Tryd.tsz152 : tszOf Tryd.prog 152 = some (1, false) := by kernel_rfl
@[go_sem] theorem Tryd.udef152 : (Tryd.prog.underlying 152).isSome = true := by kernel_rfl
@[go_sem] theorem Tryd.zero152 : zeroOf Tryd.prog 152 = some [.lit ((Go.Value.nilFunc))] := by kernel_rfl
@[go_sem] theorem Tryd.tsz153 : tszOf Tryd.prog 153 = some (1, false) := by kernel_rfl
@[go_sem] theorem Tryd.udef153 : (Tryd.prog.underlying 153).isSome = true := by kernel_rfl
@[go_sem] theorem Tryd.zero153 : zeroOf Tryd.prog 153 = some [.lit ((Go.Value.nilFunc))] := by kernel_rfl
@[go_sem] theorem Tryd.tsz154 : tszOf Tryd.prog 154 = some (1, false) := by kernel_rfl
@[go_sem] theorem Tryd.udef154 : (Tryd.prog.underlying 154).isSome = true := by kernel_rfl
@[go_sem] theorem Tryd.zero154 : zeroOf Tryd.prog 154 = some [.lit ((Go.Value.nilFunc))] := by kernel_rfl
@[go_sem] theorem Tryd.tsz155 : tszOf Tryd.prog 155 = some (1, false) := by kernel_rfl
@[go_sem] theorem Tryd.udef155 : (Tryd.prog.underlying 155).isSome = true := by kernel_rfl
@[go_sem] theorem Tryd.zero155 : zeroOf Tryd.prog 155 = some [.lit ((Go.Value.nilFunc))] := by kernel_rfl
@[go_sem] theorem Tryd.tsz156 : tszOf Tryd.prog 156 = some (1, false) := by kernel_rfl
@[go_sem] theorem Tryd.udef156 : (Tryd.prog.underlying 156).isSome = true := by kernel_rfl
@[go_sem] theorem Tryd.zero156 : zeroOf Tryd.prog 156 = some [.lit ((Go.Value.pointer none))] := by kernel_rfl
@[go_sem] theorem Tryd.tsz157 : tszOf Tryd.prog 157 = some (2, true) := by kernel_rfl
@[go_sem] theorem Tryd.udef157 : (Tryd.prog.underlying 157).isSome = true := by kernel_rfl
@[go_sem] theorem Tryd.zero157 : zeroOf Tryd.prog 157 = some [.lit ((Go.Value.pointer none)), .nilsl] := by kernel_rfl
@[go_sem] theorem Tryd.pl157 : plOf Tryd.prog 157 = some [(0, 1), (1, 1)] := by kernel_rfl
@[go_sem] theorem Tryd.tsz158 : tszOf Tryd.prog 158 = some (2, true) := by kernel_rfl
@[go_sem] theorem Tryd.udef158 : (Tryd.prog.underlying 158).isSome = true := by kernel_rfl
@[go_sem] theorem Tryd.zero158 : zeroOf Tryd.prog 158 = some [.lit ((Go.Value.pointer none)), .nilsl] := by kernel_rfl
@[go_sem] theorem Tryd.pl158 : plOf Tryd.prog 158 = some [(0, 1), (1, 1)] := by kernel_rfl
@[go_sem] theorem Tryd.fd158_0 : fdOf Tryd.prog 158 0 = some (0, 1, false) := by kernel_rfl
@[go_sem] theorem Tryd.fd158_1 : fdOf Tryd.prog 158 1 = some (1, 1, false) := by kernel_rfl
@[go_sem] theorem Tryd.tsz159 : tszOf Tryd.prog 159 = some (1, false) := by kernel_rfl
@[go_sem] theorem Tryd.udef159 : (Tryd.prog.underlying 159).isSome = true := by kernel_rfl
@[go_sem] theorem Tryd.zero159 : zeroOf Tryd.prog 159 = some [.lit ((Go.Value.nilFunc))] := by kernel_rfl
@[go_sem] theorem Tryd.tsz160 : tszOf Tryd.prog 160 = some (1, false) := by kernel_rfl
@[go_sem] theorem Tryd.udef160 : (Tryd.prog.underlying 160).isSome = true := by kernel_rfl
@[go_sem] theorem Tryd.zero160 : zeroOf Tryd.prog 160 = some [.lit ((Go.Value.nilIface))] := by kernel_rfl
@[go_sem] theorem Tryd.tsz161 : tszOf Tryd.prog 161 = some (1, false) := by kernel_rfl
@[go_sem] theorem Tryd.udef161 : (Tryd.prog.underlying 161).isSome = true := by kernel_rfl
@[go_sem] theorem Tryd.zero161 : zeroOf Tryd.prog 161 = some [.lit ((Go.Value.nilIface))] := by kernel_rfl
@[go_sem] theorem Tryd.tsz163 : tszOf Tryd.prog 163 = some (1, false) := by kernel_rfl
@[go_sem] theorem Tryd.udef163 : (Tryd.prog.underlying 163).isSome = true := by kernel_rfl
@[go_sem] theorem Tryd.zero163 : zeroOf Tryd.prog 163 = some [.lit ((Go.Value.nilFunc))] := by kernel_rfl
@[go_sem] theorem Tryd.tsz165 : tszOf Tryd.prog 165 = some (1, false) := by kernel_rfl
@[go_sem] theorem Tryd.udef165 : (Tryd.prog.underlying 165).isSome = true := by kernel_rfl
@[go_sem] theorem Tryd.zero165 : zeroOf Tryd.prog 165 = some [.lit ((Go.Value.nilFunc))] := by kernel_rfl
@[go_sem] theorem Tryd.tsz166 : tszOf Tryd.prog 166 = some (1, false) := by kernel_rfl
@[go_sem] theorem Tryd.udef166 : (Tryd.prog.underlying 166).isSome = true := by kernel_rfl
@[go_sem] theorem Tryd.zero166 : zeroOf Tryd.prog 166 = some [.lit ((Go.Value.nilFunc))] := by kernel_rfl
@[go_sem] theorem Tryd.tsz167 : tszOf Tryd.prog 167 = some (1, false) := by kernel_rfl
@[go_sem] theorem Tryd.udef167 : (Tryd.prog.underlying 167).isSome = true := by kernel_rfl
@[go_sem] theorem Tryd.zero167 : zeroOf Tryd.prog 167 = some [.lit ((Go.Value.nilFunc))] := by kernel_rfl
@[go_sem] theorem Tryd.tsz168 : tszOf Tryd.prog 168 = some (1, false) := by kernel_rfl
@[go_sem] theorem Tryd.udef168 : (Tryd.prog.underlying 168).isSome = true := by kernel_rfl
@[go_sem] theorem Tryd.zero168 : zeroOf Tryd.prog 168 = some [.lit ((Go.Value.nilFunc))] := by kernel_rfl
@[go_sem] theorem Tryd.tsz169 : tszOf Tryd.prog 169 = some (1, false) := by kernel_rfl
@[go_sem] theorem Tryd.udef169 : (Tryd.prog.underlying 169).isSome = true := by kernel_rfl
@[go_sem] theorem Tryd.zero169 : zeroOf Tryd.prog 169 = some [.lit ((Go.Value.map none))] := by kernel_rfl
@[go_sem] theorem Tryd.mapOf169 : mapOf Tryd.prog 169 = some (.int .i64, .bool false) := by kernel_rfl
@[go_sem] theorem Tryd.tsz170 : tszOf Tryd.prog 170 = some (1, false) := by kernel_rfl
@[go_sem] theorem Tryd.udef170 : (Tryd.prog.underlying 170).isSome = true := by kernel_rfl
@[go_sem] theorem Tryd.zero170 : zeroOf Tryd.prog 170 = some [.lit ((Go.Value.nilFunc))] := by kernel_rfl
@[go_sem] theorem Tryd.tsz171 : tszOf Tryd.prog 171 = some (1, false) := by kernel_rfl
@[go_sem] theorem Tryd.udef171 : (Tryd.prog.underlying 171).isSome = true := by kernel_rfl
@[go_sem] theorem Tryd.zero171 : zeroOf Tryd.prog 171 = some [.lit ((Go.Value.nilFunc))] := by kernel_rfl
@[go_sem] theorem Tryd.tsz172 : tszOf Tryd.prog 172 = some (1, false) := by kernel_rfl
@[go_sem] theorem Tryd.udef172 : (Tryd.prog.underlying 172).isSome = true := by kernel_rfl
@[go_sem] theorem Tryd.zero172 : zeroOf Tryd.prog 172 = some [.int .i64 0] := by kernel_rfl
@[go_sem] theorem Tryd.isInt172 : isIntT Tryd.prog 172 = some .i64 := by kernel_rfl
@[go_sem] theorem Tryd.tsz174 : tszOf Tryd.prog 174 = some (1, false) := by kernel_rfl
@[go_sem] theorem Tryd.udef174 : (Tryd.prog.underlying 174).isSome = true := by kernel_rfl
@[go_sem] theorem Tryd.zero174 : zeroOf Tryd.prog 174 = some [.lit ((Go.Value.nilFunc))] := by kernel_rfl
@[go_sem] theorem Tryd.tsz175 : tszOf Tryd.prog 175 = some (1, false) := by kernel_rfl
@[go_sem] theorem Tryd.udef175 : (Tryd.prog.underlying 175).isSome = true := by kernel_rfl
@[go_sem] theorem Tryd.zero175 : zeroOf Tryd.prog 175 = some [.lit ((Go.Value.nilFunc))] := by kernel_rfl
@[go_sem] theorem Tryd.tsz176 : tszOf Tryd.prog 176 = some (1, false) := by kernel_rfl
@[go_sem] theorem Tryd.udef176 : (Tryd.prog.underlying 176).isSome = true := by kernel_rfl
@[go_sem] theorem Tryd.zero176 : zeroOf Tryd.prog 176 = some [.lit ((Go.Value.nilFunc))] := by kernel_rfl
@[go_sem] theorem Tryd.tsz177 : tszOf Tryd.prog 177 = some (1, false) := by kernel_rfl
@[go_sem] theorem Tryd.udef177 : (Tryd.prog.underlying 177).isSome = true := by kernel_rfl
@[go_sem] theorem Tryd.zero177 : zeroOf Tryd.prog 177 = some [.lit ((Go.Value.nilFunc))] := by kernel_rfl
@[go_sem] theorem Tryd.tsz178 : tszOf Tryd.prog 178 = some (1, false) := by kernel_rfl
@[go_sem] theorem Tryd.udef178 : (Tryd.prog.underlying 178).isSome = true := by kernel_rfl
@[go_sem] theorem Tryd.zero178 : zeroOf Tryd.prog 178 = some [.lit ((Go.Value.nilFunc))] := by kernel_rfl
@[go_sem] theorem Tryd.tsz179 : tszOf Tryd.prog 179 = some (1, false) := by kernel_rfl
@[go_sem] theorem Tryd.udef179 : (Tryd.prog.underlying 179).isSome = true := by kernel_rfl
@[go_sem] theorem Tryd.zero179 : zeroOf Tryd.prog 179 = some [.int .u32 0] := by kernel_rfl
@[go_sem] theorem Tryd.isInt179 : isIntT Tryd.prog 179 = some .u32 := by kernel_rfl
@[go_sem] theorem Tryd.tsz180 : tszOf Tryd.prog 180 = some (1, false) := by kernel_rfl
@[go_sem] theorem Tryd.udef180 : (Tryd.prog.underlying 180).isSome = true := by kernel_rfl
@[go_sem] theorem Tryd.zero180 : zeroOf Tryd.prog 180 = some [.lit ((Go.Value.nilFunc))] := by kernel_rfl
@[go_sem] theorem Tryd.tsz181 : tszOf Tryd.prog 181 = some (1, false) := by kernel_rfl
@[go_sem] theorem Tryd.udef181 : (Tryd.prog.underlying 181).isSome = true := by kernel_rfl
@[go_sem] theorem Tryd.zero181 : zeroOf Tryd.prog 181 = some [.lit ((Go.Value.nilFunc))] := by kernel_rfl
@[go_sem] theorem Tryd.tsz182 : tszOf Tryd.prog 182 = some (1, false) := by kernel_rfl
@[go_sem] theorem Tryd.udef182 : (Tryd.prog.underlying 182).isSome = true := by kernel_rfl
@[go_sem] theorem Tryd.zero182 : zeroOf Tryd.prog 182 = some [.lit ((Go.Value.nilFunc))] := by kernel_rfl
@[go_sem] theorem Tryd.tsz183 : tszOf Tryd.prog 183 = some (1, false) := by kernel_rfl
@[go_sem] theorem Tryd.udef183 : (Tryd.prog.underlying 183).isSome = true := by kernel_rfl
@[go_sem] theorem Tryd.zero183 : zeroOf Tryd.prog 183 = some [.lit ((Go.Value.nilFunc))] := by kernel_rfl
@[go_sem] theorem Tryd.tsz184 : tszOf Tryd.prog 184 = some (1, false) := by kernel_rfl
@[go_sem] theorem Tryd.udef184 : (Tryd.prog.underlying 184).isSome = true := by kernel_rfl
@[go_sem] theorem Tryd.zero184 : zeroOf Tryd.prog 184 = some [.lit ((Go.Value.nilFunc))] := by kernel_rfl
@[go_sem] theorem Tryd.tsz185 : tszOf Tryd.prog 185 = some (1, false) := by kernel_rfl
@[go_sem] theorem Tryd.udef185 : (Tryd.prog.underlying 185).isSome = true := by kernel_rfl
@[go_sem] theorem Tryd.zero185 : zeroOf Tryd.prog 185 = some [.lit ((Go.Value.nilFunc))] := by kernel_rfl
@[go_sem] theorem Tryd.tsz186 : tszOf Tryd.prog 186 = some (1, false) := by kernel_rfl
@[go_sem] theorem Tryd.udef186 : (Tryd.prog.underlying 186).isSome = true := by kernel_rfl
@[go_sem] theorem Tryd.zero186 : zeroOf Tryd.prog 186 = some [.lit ((Go.Value.pointer none))] := by kernel_rfl
@[go_sem] theorem Tryd.tsz187 : tszOf Tryd.prog 187 = some (1, false) := by kernel_rfl
@[go_sem] theorem Tryd.udef187 : (Tryd.prog.underlying 187).isSome = true := by kernel_rfl
@[go_sem] theorem Tryd.zero187 : zeroOf Tryd.prog 187 = some [.lit ((Go.Value.pointer none))] := by kernel_rfl
@[go_sem] theorem Tryd.tsz188 : tszOf Tryd.prog 188 = some (1, false) := by kernel_rfl
@[go_sem] theorem Tryd.udef188 : (Tryd.prog.underlying 188).isSome = true := by kernel_rfl
@[go_sem] theorem Tryd.zero188 : zeroOf Tryd.prog 188 = some [.lit ((Go.Value.nilFunc))] := by kernel_rfl
@[go_sem] theorem Tryd.tsz189 : tszOf Tryd.prog 189 = some (1, false) := by kernel_rfl
@[go_sem] theorem Tryd.udef189 : (Tryd.prog.underlying 189).isSome = true := by kernel_rfl
@[go_sem] theorem Tryd.zero189 : zeroOf Tryd.prog 189 = some [.lit ((Go.Value.nilFunc))] := by kernel_rfl
@[go_sem] theorem Tryd.tsz190 : tszOf Tryd.prog 190 = some (1, false) := by kernel_rfl
@[go_sem] theorem Tryd.udef190 : (Tryd.prog.underlying 190).isSome = true := by kernel_rfl
@[go_sem] theorem Tryd.zero190 : zeroOf Tryd.prog 190 = some [.lit ((Go.Value.nilFunc))] := by kernel_rfl
@[go_sem] theorem Tryd.tsz191 : tszOf Tryd.prog 191 = some (1, false) := by kernel_rfl
@[go_sem] theorem Tryd.udef191 : (Tryd.prog.underlying 191).isSome = true := by kernel_rfl
@[go_sem] theorem Tryd.zero191 : zeroOf Tryd.prog 191 = some [.lit ((Go.Value.nilFunc))] := by kernel_rfl
@[go_sem] theorem Tryd.tsz192 : tszOf Tryd.prog 192 = some (1, false) := by kernel_rfl
@[go_sem] theorem Tryd.udef192 : (Tryd.prog.underlying 192).isSome = true := by kernel_rfl
@[go_sem] theorem Tryd.zero192 : zeroOf Tryd.prog 192 = some [.lit ((Go.Value.pointer none))] := by kernel_rfl
@[go_sem] theorem Tryd.tsz193 : tszOf Tryd.prog 193 = some (1, false) := by kernel_rfl
@[go_sem] theorem Tryd.udef193 : (Tryd.prog.underlying 193).isSome = true := by kernel_rfl
@[go_sem] theorem Tryd.zero193 : zeroOf Tryd.prog 193 = some [.lit ((Go.Value.nilFunc))] := by kernel_rfl
@[go_sem] theorem Tryd.tsz194 : tszOf Tryd.prog 194 = some (1, false) := by kernel_rfl
@[go_sem] theorem Tryd.udef194 : (Tryd.prog.underlying 194).isSome = true := by kernel_rfl
@[go_sem] theorem Tryd.zero194 : zeroOf Tryd.prog 194 = some [.lit ((Go.Value.nilFunc))] := by kernel_rfl
@[go_sem] theorem Tryd.tsz195 : tszOf Tryd.prog 195 = some (1, false) := by kernel_rfl
@[go_sem] theorem Tryd.udef195 : (Tryd.prog.underlying 195).isSome = true := by kernel_rfl
@[go_sem] theorem Tryd.zero195 : zeroOf Tryd.prog 195 = some [.lit ((Go.Value.nilFunc))] := by kernel_rfl
@[go_sem] theorem Tryd.tsz196 : tszOf Tryd.prog 196 = some (1, false) := by kernel_rfl
@[go_sem] theorem Tryd.udef196 : (Tryd.prog.underlying 196).isSome = true := by kernel_rfl
@[go_sem] theorem Tryd.zero196 : zeroOf Tryd.prog 196 = some [.lit ((Go.Value.nilFunc))] := by kernel_rfl
@[go_sem] theorem Tryd.tsz197 : tszOf Tryd.prog 197 = some (1, false) := by kernel_rfl
@[go_sem] theorem Tryd.udef197 : (Tryd.prog.underlying 197).isSome = true := by kernel_rfl
@[go_sem] theorem Tryd.zero197 : zeroOf Tryd.prog 197 = some [.lit ((Go.Value.nilFunc))] := by kernel_rfl
@[go_sem] theorem Tryd.tsz198 : tszOf Tryd.prog 198 = some (1, false) := by kernel_rfl
@[go_sem] theorem Tryd.udef198 : (Tryd.prog.underlying 198).isSome = true := by kernel_rfl
@[go_sem] theorem Tryd.zero198 : zeroOf Tryd.prog 198 = some [.lit ((Go.Value.nilFunc))] := by kernel_rfl
@[go_sem] theorem Tryd.tsz199 : tszOf Tryd.prog 199 = some (1, false) := by kernel_rfl
@[go_sem] theorem Tryd.udef199 : (Tryd.prog.underlying 199).isSome = true := by kernel_rfl
@[go_sem] theorem Tryd.zero199 : zeroOf Tryd.prog 199 = some [.lit ((Go.Value.nilFunc))] := by kernel_rfl
@[go_sem] theorem Tryd.tsz200 : tszOf Tryd.prog 200 = some (1, false) := by kernel_rfl
@[go_sem] theorem Tryd.udef200 : (Tryd.prog.underlying 200).isSome = true := by kernel_rfl
@[go_sem] theorem Tryd.zero200 : zeroOf Tryd.prog 200 = some [.lit ((Go.Value.nilFunc))] := by kernel_rfl
@[go_sem] theorem Tryd.tsz201 : tszOf Tryd.prog 201 = some (1, false) := by kernel_rfl
@[go_sem] theorem Tryd.udef201 : (Tryd.prog.underlying 201).isSome = true := by kernel_rfl
@[go_sem] theorem Tryd.zero201 : zeroOf Tryd.prog 201 = some [.lit ((Go.Value.nilFunc))] := by kernel_rfl
@[go_sem] theorem Tryd.tsz202 : tszOf Tryd.prog 202 = some (1, false) := by kernel_rfl
@[go_sem] theorem Tryd.udef202 : (Tryd.prog.underlying 202).isSome = true := by kernel_rfl
@[go_sem] theorem Tryd.zero202 : zeroOf Tryd.prog 202 = some [.lit ((Go.Value.nilFunc))] := by kernel_rfl
@[go_sem] theorem Tryd.tsz203 : tszOf Tryd.prog 203 = some (1, false) := by kernel_rfl
@[go_sem] theorem Tryd.udef203 : (Tryd.prog.underlying 203).isSome = true := by kernel_rfl
@[go_sem] theorem Tryd.zero203 : zeroOf Tryd.prog 203 = some [.lit ((Go.Value.pointer none))] := by kernel_rfl
@[go_sem] theorem Tryd.tsz204 : tszOf Tryd.prog 204 = some (1, false) := by kernel_rfl
@[go_sem] theorem Tryd.udef204 : (Tryd.prog.underlying 204).isSome = true := by kernel_rfl
@[go_sem] theorem Tryd.zero204 : zeroOf Tryd.prog 204 = some [.lit ((Go.Value.nilFunc))] := by kernel_rfl
@[go_sem] theorem Tryd.tsz205 : tszOf Tryd.prog 205 = some (1, false) := by kernel_rfl
@[go_sem] theorem Tryd.udef205 : (Tryd.prog.underlying 205).isSome = true := by kernel_rfl
@[go_sem] theorem Tryd.zero205 : zeroOf Tryd.prog 205 = some [.lit ((Go.Value.nilFunc))] := by kernel_rfl
@[go_sem] theorem Tryd.tsz206 : tszOf Tryd.prog 206 = some (1, false) := by kernel_rfl
@[go_sem] theorem Tryd.udef206 : (Tryd.prog.underlying 206).isSome = true := by kernel_rfl
@[go_sem] theorem Tryd.zero206 : zeroOf Tryd.prog 206 = some [.int .u64 0] := by kernel_rfl
@[go_sem] theorem Tryd.isInt206 : isIntT Tryd.prog 206 = some .u64 := by kernel_rfl
@[go_sem] theorem Tryd.tsz207 : tszOf Tryd.prog 207 = some (1, false) := by kernel_rfl
@[go_sem] theorem Tryd.udef207 : (Tryd.prog.underlying 207).isSome = true := by kernel_rfl
@[go_sem] theorem Tryd.zero207 : zeroOf Tryd.prog 207 = some [.lit ((Go.Value.nilFunc))] := by kernel_rfl
@[go_sem] theorem Tryd.tsz208 : tszOf Tryd.prog 208 = some (1, false) := by kernel_rfl
@[go_sem] theorem Tryd.udef208 : (Tryd.prog.underlying 208).isSome = true := by kernel_rfl
@[go_sem] theorem Tryd.zero208 : zeroOf Tryd.prog 208 = some [.lit ((Go.Value.nilFunc))] := by kernel_rfl
@[go_sem] theorem Tryd.tsz209 : tszOf Tryd.prog 209 = some (1, false) := by kernel_rfl
@[go_sem] theorem Tryd.udef209 : (Tryd.prog.underlying 209).isSome = true := by kernel_rfl
@[go_sem] theorem Tryd.zero209 : zeroOf Tryd.prog 209 = some [.lit ((Go.Value.nilFunc))] := by kernel_rfl
@[go_sem] theorem Tryd.tsz210 : tszOf Tryd.prog 210 = some (1, false) := by kernel_rfl
@[go_sem] theorem Tryd.udef210 : (Tryd.prog.underlying 210).isSome = true := by kernel_rfl
@[go_sem] theorem Tryd.zero210 : zeroOf Tryd.prog 210 = some [.lit ((Go.Value.pointer none))] := by kernel_rfl
@[go_sem] theorem Tryd.tsz217 : tszOf Tryd.prog 217 = some (1, false) := by kernel_rfl
@[go_sem] theorem Tryd.udef217 : (Tryd.prog.underlying 217).isSome = true := by kernel_rfl
@[go_sem] theorem Tryd.zero217 : zeroOf Tryd.prog 217 = some [.lit ((Go.Value.pointer none))] := by kernel_rfl
@[go_sem] theorem Tryd.tsz219 : tszOf Tryd.prog 219 = some (1, false) := by kernel_rfl
@[go_sem] theorem Tryd.udef219 : (Tryd.prog.underlying 219).isSome = true := by kernel_rfl
@[go_sem] theorem Tryd.zero219 : zeroOf Tryd.prog 219 = some [.lit ((Go.Value.nilFunc))] := by kernel_rfl
@[go_sem] theorem Tryd.tsz220 : tszOf Tryd.prog 220 = some (256, true) := by kernel_rfl
@[go_sem] theorem Tryd.udef220 : (Tryd.prog.underlying 220).isSome = true := by kernel_rfl
@[go_sem] theorem Tryd.ar220 : arOf Tryd.prog 220 = some (256, 1, false) := by kernel_rfl
@[go_sem] theorem Tryd.pl220 : plOf Tryd.prog 220 = some [(0, 1), (1, 1), (2, 1), (3, 1), (4, 1), (5, 1), (6, 1), (7, 1), (8, 1), (9, 1), (10, 1), (11, 1), (12, 1), (13, 1), (14, 1), (15, 1), (16, 1), (17, 1), (18, 1), (19, 1), (20, 1), (21, 1), (22, 1), (23, 1), (24, 1), (25, 1), (26, 1), (27, 1), (28, 1), (29, 1), (30, 1), (31, 1), (32, 1), (33, 1), (34, 1), (35, 1), (36, 1), (37, 1), (38, 1), (39, 1), (40, 1), (41, 1), (42, 1), (43, 1), (44, 1), (45, 1), (46, 1), (47, 1), (48, 1), (49, 1), (50, 1), (51, 1), (52, 1), (53, 1), (54, 1), (55, 1), (56, 1), (57, 1), (58, 1), (59, 1), (60, 1), (61, 1), (62, 1), (63, 1), (64, 1), (65, 1), (66, 1), (67, 1), (68, 1), (69, 1), (70, 1), (71, 1), (72, 1), (73, 1), (74, 1), (75, 1), (76, 1), (77, 1), (78, 1), (79, 1), (80, 1), (81, 1), (82, 1), (83, 1), (84, 1), (85, 1), (86, 1), (87, 1), (88, 1), (89, 1), (90, 1), (91, 1), (92, 1), (93, 1), (94, 1), (95, 1), (96, 1), (97, 1), (98, 1), (99, 1), (100, 1), (101, 1), (102, 1), (103, 1), (104, 1), (105, 1), (106, 1), (107, 1), (108, 1), (109, 1), (110, 1), (111, 1), (112, 1), (113, 1), (114, 1), (115, 1), (116, 1), (117, 1), (118, 1), (119, 1), (120, 1), (121, 1), (122, 1), (123, 1), (124, 1), (125, 1), (126, 1), (127, 1), (128, 1), (129, 1), (130, 1), (131, 1), (132, 1), (133, 1), (134, 1), (135, 1), (136, 1), (137, 1), (138, 1), (139, 1), (140, 1), (141, 1), (142, 1), (143, 1), (144, 1), (145, 1), (146, 1), (147, 1), (148, 1), (149, 1), (150, 1), (151, 1), (152, 1), (153, 1), (154, 1), (155, 1), (156, 1), (157, 1), (158, 1), (159, 1), (160, 1), (161, 1), (162, 1), (163, 1), (164, 1), (165, 1), (166, 1), (167, 1), (168, 1), (169, 1), (170, 1), (171, 1), (172, 1), (173, 1), (174, 1), (175, 1), (176, 1), (177, 1), (178, 1), (179, 1), (180, 1), (181, 1), (182, 1), (183, 1), (184, 1), (185, 1), (186, 1), (187, 1), (188, 1), (189, 1), (190, 1), (191, 1), (192, 1), (193, 1), (194, 1), (195, 1), (196, 1), (197, 1), (198, 1), (199, 1), (200, 1), (201, 1), (202, 1), (203, 1), (204, 1), (205, 1), (206, 1), (207, 1), (208, 1), (209, 1), (210, 1), (211, 1), (212, 1), (213, 1), (214, 1), (215, 1), (216, 1), (217, 1), (218, 1), (219, 1), (220, 1), (221, 1), (222, 1), (223, 1), (224, 1), (225, 1), (226, 1), (227, 1), (228, 1), (229, 1), (230, 1), (231, 1), (232, 1), (233, 1), (234, 1), (235, 1), (236, 1), (237, 1), (238, 1), (239, 1), (240, 1), (241, 1), (242, 1), (243, 1), (244, 1), (245, 1), (246, 1), (247, 1), (248, 1), (249, 1), (250, 1), (251, 1), (252, 1), (253, 1), (254, 1), (255, 1)] := by kernel_rfl
@[go_sem] theorem Tryd.tsz221 : tszOf Tryd.prog 221 = some (2, true) := by kernel_rfl
@[go_sem] theorem Tryd.udef221 : (Tryd.prog.underlying 221).isSome = true := by kernel_rfl
@[go_sem] theorem Tryd.zero221 : zeroOf Tryd.prog 221 = some [.int .u8 0, .int .u8 0] := by kernel_rfl
@[go_sem] theorem Tryd.pl221 : plOf Tryd.prog 221 = some [(0, 1), (1, 1)] := by kernel_rfl
@[go_sem] theorem Tryd.tsz222 : tszOf Tryd.prog 222 = some (2, true) := by kernel_rfl
@[go_sem] theorem Tryd.udef222 : (Tryd.prog.underlying 222).isSome = true := by kernel_rfl
@[go_sem] theorem Tryd.zero222 : zeroOf Tryd.prog 222 = some [.int .u8 0, .int .u8 0] := by kernel_rfl
@[go_sem] theorem Tryd.pl222 : plOf Tryd.prog 222 = some [(0, 1), (1, 1)] := by kernel_rfl
@[go_sem] theorem Tryd.fd222_0 : fdOf Tryd.prog 222 0 = some (0, 1, false) := by kernel_rfl
@[go_sem] theorem Tryd.fd222_1 : fdOf Tryd.prog 222 1 = some (1, 1, false) := by kernel_rfl
@[go_sem] theorem Tryd.tsz223 : tszOf Tryd.prog 223 = some (32, true) := by kernel_rfl
@[go_sem] theorem Tryd.udef223 : (Tryd.prog.underlying 223).isSome = true := by kernel_rfl
@[go_sem] theorem Tryd.zero223 : zeroOf Tryd.prog 223 = some [.int .u8 0, .int .u8 0, .int .u8 0, .int .u8 0, .int .u8 0, .int .u8 0, .int .u8 0, .int .u8 0, .int .u8 0, .int .u8 0, .int .u8 0, .int .u8 0, .int .u8 0, .int .u8 0, .int .u8 0, .int .u8 0, .int .u8 0, .int .u8 0, .int .u8 0, .int .u8 0, .int .u8 0, .int .u8 0, .int .u8 0, .int .u8 0, .int .u8 0, .int .u8 0, .int .u8 0, .int .u8 0, .int .u8 0, .int .u8 0, .int .u8 0, .int .u8 0] := by kernel_rfl
@[go_sem] theorem Tryd.ar223 : arOf Tryd.prog 223 = some (16, 2, true) := by kernel_rfl
@[go_sem] theorem Tryd.pl223 : plOf Tryd.prog 223 = some [(0, 2), (2, 2), (4, 2), (6, 2), (8, 2), (10, 2), (12, 2), (14, 2), (16, 2), (18, 2), (20, 2), (22, 2), (24, 2), (26, 2), (28, 2), (30, 2)] := by kernel_rfl
@[go_sem] theorem Tryd.tsz226 : tszOf Tryd.prog 226 = some (1, false) := by kernel_rfl
@[go_sem] theorem Tryd.udef226 : (Tryd.prog.underlying 226).isSome = true := by kernel_rfl
@[go_sem] theorem Tryd.zero226 : zeroOf Tryd.prog 226 = some [.lit ((Go.Value.nilFunc))] := by kernel_rfl
@[go_sem] theorem Tryd.tsz227 : tszOf Tryd.prog 227 = some (1, false) := by kernel_rfl
@[go_sem] theorem Tryd.udef227 : (Tryd.prog.underlying 227).isSome = true := by kernel_rfl
@[go_sem] theorem Tryd.zero227 : zeroOf Tryd.prog 227 = some [.lit ((Go.Value.pointer none))] := by kernel_rfl
@[go_sem] theorem Tryd.tsz228 : tszOf Tryd.prog 228 = some (1, false) := by kernel_rfl
@[go_sem] theorem Tryd.udef228 : (Tryd.prog.underlying 228).isSome = true := by kernel_rfl
@[go_sem] theorem Tryd.zero228 : zeroOf Tryd.prog 228 = some [.lit ((Go.Value.nilFunc))] := by kernel_rfl
@[go_sem] theorem Tryd.tsz229 : tszOf Tryd.prog 229 = some (1, false) := by kernel_rfl
@[go_sem] theorem Tryd.udef229 : (Tryd.prog.underlying 229).isSome = true := by kernel_rfl
@[go_sem] theorem Tryd.zero229 : zeroOf Tryd.prog 229 = some [.lit ((Go.Value.nilFunc))] := by kernel_rfl
@[go_sem] theorem Tryd.tsz230 : tszOf Tryd.prog 230 = some (1, false) := by kernel_rfl
@[go_sem] theorem Tryd.udef230 : (Tryd.prog.underlying 230).isSome = true := by kernel_rfl
@[go_sem] theorem Tryd.zero230 : zeroOf Tryd.prog 230 = some [.lit ((Go.Value.nilFunc))] := by kernel_rfl
@[go_sem] theorem Tryd.tsz231 : tszOf Tryd.prog 231 = some (1, false) := by kernel_rfl
@[go_sem] theorem Tryd.udef231 : (Tryd.prog.underlying 231).isSome = true := by kernel_rfl
@[go_sem] theorem Tryd.zero231 : zeroOf Tryd.prog 231 = some [.lit ((Go.Value.nilFunc))] := by kernel_rfl
@[go_sem] theorem Tryd.tsz232 : tszOf Tryd.prog 232 = some (24, true) := by kernel_rfl
@[go_sem] theorem Tryd.udef232 : (Tryd.prog.underlying 232).isSome = true := by kernel_rfl
@[go_sem] theorem Tryd.zero232 : zeroOf Tryd.prog 232 = some [.int .u8 0, .int .u8 0, .int .u8 0, .int .u8 0, .int .u8 0, .int .u8 0, .int .u8 0, .int .u8 0, .int .u8 0, .int .u8 0, .int .u8 0, .int .u8 0, .int .u8 0, .int .u8 0, .int .u8 0, .int .u8 0, .int .u8 0, .int .u8 0, .int .u8 0, .int .u8 0, .int .u8 0, .int .u8 0, .int .u8 0, .int .u8 0] := by kernel_rfl
@[go_sem] theorem Tryd.ar232 : arOf Tryd.prog 232 = some (24, 1, false) := by kernel_rfl
@[go_sem] theorem Tryd.pl232 : plOf Tryd.prog 232 = some [(0, 1), (1, 1), (2, 1), (3, 1), (4, 1), (5, 1), (6, 1), (7, 1), (8, 1), (9, 1), (10, 1), (11, 1), (12, 1), (13, 1), (14, 1), (15, 1), (16, 1), (17, 1), (18, 1), (19, 1), (20, 1), (21, 1), (22, 1), (23, 1)] := by kernel_rfl
@[go_sem] theorem Tryd.tsz233 : tszOf Tryd.prog 233 = some (1, false) := by kernel_rfl
@[go_sem] theorem Tryd.udef233 : (Tryd.prog.underlying 233).isSome = true := by kernel_rfl
@[go_sem] theorem Tryd.zero233 : zeroOf Tryd.prog 233 = some [.lit ((Go.Value.nilFunc))] := by kernel_rfl
@[go_sem] theorem Tryd.tsz240 : tszOf Tryd.prog 240 = some (1, false) := by kernel_rfl
@[go_sem] theorem Tryd.udef240 : (Tryd.prog.underlying 240).isSome = true := by kernel_rfl
@[go_sem] theorem Tryd.zero240 : zeroOf Tryd.prog 240 = some [.lit ((Go.Value.nilFunc))] := by kernel_rfl
@[go_sem] theorem Tryd.tsz244 : tszOf Tryd.prog 244 = some (3, true) := by kernel_rfl
@[go_sem] theorem Tryd.udef244 : (Tryd.prog.underlying 244).isSome = true := by kernel_rfl
@[go_sem] theorem Tryd.zero244 : zeroOf Tryd.prog 244 = some [.str ByteArray.empty, .str ByteArray.empty, .lit ((Go.Value.nilIface))] := by kernel_rfl
@[go_sem] theorem Tryd.pl244 : plOf Tryd.prog 244 = some [(0, 1), (1, 1), (2, 1)] := by kernel_rfl
@[go_sem] theorem Tryd.tsz245 : tszOf Tryd.prog 245 = some (3, true) := by kernel_rfl
@[go_sem] theorem Tryd.udef245 : (Tryd.prog.underlying 245).isSome = true := by kernel_rfl
@[go_sem] theorem Tryd.zero245 : zeroOf Tryd.prog 245 = some [.str ByteArray.empty, .str ByteArray.empty, .lit ((Go.Value.nilIface))] := by kernel_rfl
@[go_sem] theorem Tryd.pl245 : plOf Tryd.prog 245 = some [(0, 1), (1, 1), (2, 1)] := by kernel_rfl
@[go_sem] theorem Tryd.tsz247 : tszOf Tryd.prog 247 = some (1, false) := by kernel_rfl
@[go_sem] theorem Tryd.udef247 : (Tryd.prog.underlying 247).isSome = true := by kernel_rfl
@[go_sem] theorem Tryd.zero247 : zeroOf Tryd.prog 247 = some [.lit ((Go.Value.nilFunc))] := by kernel_rfl
@[go_sem] theorem Tryd.tsz248 : tszOf Tryd.prog 248 = some (1, false) := by kernel_rfl
@[go_sem] theorem Tryd.udef248 : (Tryd.prog.underlying 248).isSome = true := by kernel_rfl
@[go_sem] theorem Tryd.zero248 : zeroOf Tryd.prog 248 = some [.lit ((Go.Value.nilFunc))] := by kernel_rfl
@[go_sem] theorem Tryd.tsz249 : tszOf Tryd.prog 249 = some (1, false) := by kernel_rfl
@[go_sem] theorem Tryd.udef249 : (Tryd.prog.underlying 249).isSome = true := by kernel_rfl
@[go_sem] theorem Tryd.zero249 : zeroOf Tryd.prog 249 = some [.lit ((Go.Value.nilFunc))] := by kernel_rfl
@[go_sem] theorem Tryd.tsz250 : tszOf Tryd.prog 250 = some (1, false) := by kernel_rfl
@[go_sem] theorem Tryd.udef250 : (Tryd.prog.underlying 250).isSome = true := by kernel_rfl
@[go_sem] theorem Tryd.zero250 : zeroOf Tryd.prog 250 = some [.lit ((Go.Value.nilFunc))] := by kernel_rfl
@[go_sem] theorem Tryd.tsz252 : tszOf Tryd.prog 252 = some (20, true) := by kernel_rfl
@[go_sem] theorem Tryd.udef252 : (Tryd.prog.underlying 252).isSome = true := by kernel_rfl
@[go_sem] theorem Tryd.zero252 : zeroOf Tryd.prog 252 = some [.int .u64 0, .int .u64 0, .int .u64 0, .int .u64 0, .int .u64 0, .int .u64 0, .int .u64 0, .int .u64 0, .int .u64 0, .int .u64 0, .int .u64 0, .int .u64 0, .int .u64 0, .int .u64 0, .int .u64 0, .int .u64 0, .int .u64 0, .int .u64 0, .int .u64 0, .int .u64 0] := by kernel_rfl
@[go_sem] theorem Tryd.ar252 : arOf Tryd.prog 252 = some (20, 1, false) := by kernel_rfl
@[go_sem] theorem Tryd.pl252 : plOf Tryd.prog 252 = some [(0, 1), (1, 1), (2, 1), (3, 1), (4, 1), (5, 1), (6, 1), (7, 1), (8, 1), (9, 1), (10, 1), (11, 1), (12, 1), (13, 1), (14, 1), (15, 1), (16, 1), (17, 1), (18, 1), (19, 1)] := by kernel_rfl
@[go_sem] theorem Tryd.tsz253 : tszOf Tryd.prog 253 = some (65, true) := by kernel_rfl
@[go_sem] theorem Tryd.udef253 : (Tryd.prog.underlying 253).isSome = true := by kernel_rfl
@[go_sem] theorem Tryd.ar253 : arOf Tryd.prog 253 = some (65, 1, false) := by kernel_rfl
@[go_sem] theorem Tryd.pl253 : plOf Tryd.prog 253 = some [(0, 1), (1, 1), (2, 1), (3, 1), (4, 1), (5, 1), (6, 1), (7, 1), (8, 1), (9, 1), (10, 1), (11, 1), (12, 1), (13, 1), (14, 1), (15, 1), (16, 1), (17, 1), (18, 1), (19, 1), (20, 1), (21, 1), (22, 1), (23, 1), (24, 1), (25, 1), (26, 1), (27, 1), (28, 1), (29, 1), (30, 1), (31, 1), (32, 1), (33, 1), (34, 1), (35, 1), (36, 1), (37, 1), (38, 1), (39, 1), (40, 1), (41, 1), (42, 1), (43, 1), (44, 1), (45, 1), (46, 1), (47, 1), (48, 1), (49, 1), (50, 1), (51, 1), (52, 1), (53, 1), (54, 1), (55, 1), (56, 1), (57, 1), (58, 1), (59, 1), (60, 1), (61, 1), (62, 1), (63, 1), (64, 1)] := by kernel_rfl
@[go_sem] theorem Tryd.tsz254 : tszOf Tryd.prog 254 = some (1, false) := by kernel_rfl
@[go_sem] theorem Tryd.udef254 : (Tryd.prog.underlying 254).isSome = true := by kernel_rfl
@[go_sem] theorem Tryd.zero254 : zeroOf Tryd.prog 254 = some [.lit ((Go.Value.nilFunc))] := by kernel_rfl
@[go_sem] theorem Tryd.tsz255 : tszOf Tryd.prog 255 = some (1, false) := by kernel_rfl
@[go_sem] theorem Tryd.udef255 : (Tryd.prog.underlying 255).isSome = true := by kernel_rfl
@[go_sem] theorem Tryd.zero255 : zeroOf Tryd.prog 255 = some [.lit ((Go.Value.pointer none))] := by kernel_rfl
@[go_sem] theorem Tryd.tsz256 : tszOf Tryd.prog 256 = some (1, true) := by kernel_rfl
@[go_sem] theorem Tryd.udef256 : (Tryd.prog.underlying 256).isSome = true := by kernel_rfl
@[go_sem] theorem Tryd.zero256 : zeroOf Tryd.prog 256 = some [.str ByteArray.empty] := by kernel_rfl
@[go_sem] theorem Tryd.pl256 : plOf Tryd.prog 256 = some [(0, 1)] := by kernel_rfl
@[go_sem] theorem Tryd.tsz257 : tszOf Tryd.prog 257 = some (1, true) := by kernel_rfl
@[go_sem] theorem Tryd.udef257 : (Tryd.prog.underlying 257).isSome = true := by kernel_rfl
@[go_sem] theorem Tryd.zero257 : zeroOf Tryd.prog 257 = some [.str ByteArray.empty] := by kernel_rfl
@[go_sem] theorem Tryd.pl257 : plOf Tryd.prog 257 = some [(0, 1)] := by kernel_rfl
@[go_sem] theorem Tryd.tsz258 : tszOf Tryd.prog 258 = some (32, true) := by kernel_rfl
@[go_sem] theorem Tryd.udef258 : (Tryd.prog.underlying 258).isSome = true := by kernel_rfl
@[go_sem] theorem Tryd.zero258 : zeroOf Tryd.prog 258 = some [.int .u8 0, .int .u8 0, .int .u8 0, .int .u8 0, .int .u8 0, .int .u8 0, .int .u8 0, .int .u8 0, .int .u8 0, .int .u8 0, .int .u8 0, .int .u8 0, .int .u8 0, .int .u8 0, .int .u8 0, .int .u8 0, .int .u8 0, .int .u8 0, .int .u8 0, .int .u8 0, .int .u8 0, .int .u8 0, .int .u8 0, .int .u8 0, .int .u8 0, .int .u8 0, .int .u8 0, .int .u8 0, .int .u8 0, .int .u8 0, .int .u8 0, .int .u8 0] := by kernel_rfl
@[go_sem] theorem Tryd.ar258 : arOf Tryd.prog 258 = some (32, 1, false) := by kernel_rfl
@[go_sem] theorem Tryd.pl258 : plOf Tryd.prog 258 = some [(0, 1), (1, 1), (2, 1), (3, 1), (4, 1), (5, 1), (6, 1), (7, 1), (8, 1), (9, 1), (10, 1), (11, 1), (12, 1), (13, 1), (14, 1), (15, 1), (16, 1), (17, 1), (18, 1), (19, 1), (20, 1), (21, 1), (22, 1), (23, 1), (24, 1), (25, 1), (26, 1), (27, 1), (28, 1), (29, 1), (30, 1), (31, 1)] := by kernel_rfl
@[go_sem] theorem Tryd.tsz259 : tszOf Tryd.prog 259 = some (64, true) := by kernel_rfl
@[go_sem] theorem Tryd.udef259 : (Tryd.prog.underlying 259).isSome = true := by kernel_rfl
@[go_sem] theorem Tryd.zero259 : zeroOf Tryd.prog 259 = some [.int .u8 0, .int .u8 0, .int .u8 0, .int .u8 0, .int .u8 0, .int .u8 0, .int .u8 0, .int .u8 0, .int .u8 0, .int .u8 0, .int .u8 0, .int .u8 0, .int .u8 0, .int .u8 0, .int .u8 0, .int .u8 0, .int .u8 0, .int .u8 0, .int .u8 0, .int .u8 0, .int .u8 0, .int .u8 0, .int .u8 0, .int .u8 0, .int .u8 0, .int .u8 0, .int .u8 0, .int .u8 0, .int .u8 0, .int .u8 0, .int .u8 0, .int .u8 0, .int .u8 0, .int .u8 0, .int .u8 0, .int .u8 0, .int .u8 0, .int .u8 0, .int .u8 0, .int .u8 0, .int .u8 0, .int .u8 0, .int .u8 0, .int .u8 0, .int .u8 0, .int .u8 0, .int .u8 0, .int .u8 0, .int .u8 0, .int .u8 0, .int .u8 0, .int .u8 0, .int .u8 0, .int .u8 0, .int .u8 0, .int .u8 0, .int .u8 0, .int .u8 0, .int .u8 0, .int .u8 0, .int .u8 0, .int .u8 0, .int .u8 0, .int .u8 0] := by kernel_rfl
@[go_sem] theorem Tryd.ar259 : arOf Tryd.prog 259 = some (64, 1, false) := by kernel_rfl
@[go_sem] theorem Tryd.pl259 : plOf Tryd.prog 259 = some [(0, 1), (1, 1), (2, 1), (3, 1), (4, 1), (5, 1), (6, 1), (7, 1), (8, 1), (9, 1), (10, 1), (11, 1), (12, 1), (13, 1), (14, 1), (15, 1), (16, 1), (17, 1), (18, 1), (19, 1), (20, 1), (21, 1), (22, 1), (23, 1), (24, 1), (25, 1), (26, 1), (27, 1), (28, 1), (29, 1), (30, 1), (31, 1), (32, 1), (33, 1), (34, 1), (35, 1), (36, 1), (37, 1), (38, 1), (39, 1), (40, 1), (41, 1), (42, 1), (43, 1), (44, 1), (45, 1), (46, 1), (47, 1), (48, 1), (49, 1), (50, 1), (51, 1), (52, 1), (53, 1), (54, 1), (55, 1), (56, 1), (57, 1), (58, 1), (59, 1), (60, 1), (61, 1), (62, 1), (63, 1)] := by kernel_rfl
@[go_sem] theorem Tryd.tsz260 : tszOf Tryd.prog 260 = some (4, true) := by kernel_rfl
@[go_sem] theorem Tryd.udef260 : (Tryd.prog.underlying 260).isSome = true := by kernel_rfl
@[go_sem] theorem Tryd.zero260 : zeroOf Tryd.prog 260 = some [.lit ((Go.Value.pointer none)), .lit ((Go.Value.pointer none)), .lit ((Go.Value.pointer none)), .str ByteArray.empty] := by kernel_rfl
@[go_sem] theorem Tryd.pl260 : plOf Tryd.prog 260 = some [(0, 1), (1, 1), (2, 1), (3, 1)] := by kernel_rfl
@[go_sem] theorem Tryd.tsz261 : tszOf Tryd.prog 261 = some (4, true) := by kernel_rfl
@[go_sem] theorem Tryd.udef261 : (Tryd.prog.underlying 261).isSome = true := by kernel_rfl
@[go_sem] theorem Tryd.zero261 : zeroOf Tryd.prog 261 = some [.lit ((Go.Value.pointer none)), .lit ((Go.Value.pointer none)), .lit ((Go.Value.pointer none)), .str ByteArray.empty] := by kernel_rfl
@[go_sem] theorem Tryd.pl261 : plOf Tryd.prog 261 = some [(0, 1), (1, 1), (2, 1), (3, 1)] := by kernel_rfl
@[go_sem] theorem Tryd.tsz262 : tszOf Tryd.prog 262 = some (0, true) := by kernel_rfl
@[go_sem] theorem Tryd.udef262 : (Tryd.prog.underlying 262).isSome = true := by kernel_rfl
@[go_sem] theorem Tryd.zero262 : zeroOf Tryd.prog 262 = some [] := by kernel_rfl
@[go_sem] theorem Tryd.ar262 : arOf Tryd.prog 262 = some (0, 1, false) := by kernel_rfl
@[go_sem] theorem Tryd.pl262 : plOf Tryd.prog 262 = some [] := by kernel_rfl
@[go_sem] theorem Tryd.tsz263 : tszOf Tryd.prog 263 = some (0, true) := by kernel_rfl
@[go_sem] theorem Tryd.udef263 : (Tryd.prog.underlying 263).isSome = true := by kernel_rfl
@[go_sem] theorem Tryd.zero263 : zeroOf Tryd.prog 263 = some [] := by kernel_rfl
@[go_sem] theorem Tryd.pl263 : plOf Tryd.prog 263 = some [(0, 0)] := by kernel_rfl
@[go_sem] theorem Tryd.tsz264 : tszOf Tryd.prog 264 = some (0, true) := by kernel_rfl
@[go_sem] theorem Tryd.udef264 : (Tryd.prog.underlying 264).isSome = true := by kernel_rfl
@[go_sem] theorem Tryd.zero264 : zeroOf Tryd.prog 264 = some [] := by kernel_rfl
@[go_sem] theorem Tryd.pl264 : plOf Tryd.prog 264 = some [(0, 0)] := by kernel_rfl
@[go_sem] theorem Tryd.tsz265 : tszOf Tryd.prog 265 = some (1, false) := by kernel_rfl
@[go_sem] theorem Tryd.udef265 : (Tryd.prog.underlying 265).isSome = true := by kernel_rfl
@[go_sem] theorem Tryd.zero265 : zeroOf Tryd.prog 265 = some [.int .u8 0] := by kernel_rfl
@[go_sem] theorem Tryd.isInt265 : isIntT Tryd.prog 265 = some .u8 := by kernel_rfl
@[go_sem] theorem Tryd.tsz266 : tszOf Tryd.prog 266 = some (1, false) := by kernel_rfl
@[go_sem] theorem Tryd.udef266 : (Tryd.prog.underlying 266).isSome = true := by kernel_rfl
@[go_sem] theorem Tryd.zero266 : zeroOf Tryd.prog 266 = some [.int .u8 0] := by kernel_rfl
@[go_sem] theorem Tryd.isInt266 : isIntT Tryd.prog 266 = some .u8 := by kernel_rfl
@[go_sem] theorem Tryd.tsz267 : tszOf Tryd.prog 267 = some (1, false) := by kernel_rfl
@[go_sem] theorem Tryd.udef267 : (Tryd.prog.underlying 267).isSome = true := by kernel_rfl
@[go_sem] theorem Tryd.zero267 : zeroOf Tryd.prog 267 = some [.lit ((Go.Value.nilFunc))] := by kernel_rfl
@[go_sem] theorem Tryd.tsz268 : tszOf Tryd.prog 268 = some (1, false) := by kernel_rfl
@[go_sem] theorem Tryd.udef268 : (Tryd.prog.underlying 268).isSome = true := by kernel_rfl
@[go_sem] theorem Tryd.zero268 : zeroOf Tryd.prog 268 = some [.int .i32 0] := by kernel_rfl
@[go_sem] theorem Tryd.isInt268 : isIntT Tryd.prog 268 = some .i32 := by kernel_rfl
@[go_sem] theorem Tryd.tsz269 : tszOf Tryd.prog 269 = some (1, false) := by kernel_rfl
@[go_sem] theorem Tryd.udef269 : (Tryd.prog.underlying 269).isSome = true := by kernel_rfl
@[go_sem] theorem Tryd.zero269 : zeroOf Tryd.prog 269 = some [.int .i32 0] := by kernel_rfl
@[go_sem] theorem Tryd.isInt269 : isIntT Tryd.prog 269 = some .i32 := by kernel_rfl
@[go_sem] theorem Tryd.tsz270 : tszOf Tryd.prog 270 = some (11, true) := by kernel_rfl
@[go_sem] theorem Tryd.udef270 : (Tryd.prog.underlying 270).isSome = true := by kernel_rfl
@[go_sem] theorem Tryd.zero270 : zeroOf Tryd.prog 270 = some [.int .u64 0, .int .u64 0, .int .u32 0, .int .u8 0, .int .u8 0, .int .u8 0, .int .u8 0, .lit ((Go.Value.nilFunc)), .lit ((Go.Value.pointer none)), .int .i32 0, .int .i32 0] := by kernel_rfl
@[go_sem] theorem Tryd.pl270 : plOf Tryd.prog 270 = some [(0, 1), (1, 1), (2, 1), (3, 1), (4, 1), (5, 1), (6, 1), (7, 1), (8, 1), (9, 1), (10, 1)] := by kernel_rfl
@[go_sem] theorem Tryd.tsz271 : tszOf Tryd.prog 271 = some (11, true) := by kernel_rfl
@[go_sem] theorem Tryd.udef271 : (Tryd.prog.underlying 271).isSome = true := by kernel_rfl
@[go_sem] theorem Tryd.zero271 : zeroOf Tryd.prog 271 = some [.int .u64 0, .int .u64 0, .int .u32 0, .int .u8 0, .int .u8 0, .int .u8 0, .int .u8 0, .lit ((Go.Value.nilFunc)), .lit ((Go.Value.pointer none)), .int .i32 0, .int .i32 0] := by kernel_rfl
@[go_sem] theorem Tryd.pl271 : plOf Tryd.prog 271 = some [(0, 1), (1, 1), (2, 1), (3, 1), (4, 1), (5, 1), (6, 1), (7, 1), (8, 1), (9, 1), (10, 1)] := by kernel_rfl
@[go_sem] theorem Tryd.isPt2 : isPt Tryd.prog 2 = false := by kernel_rfl
@[go_sem] theorem Tryd.isPt3 : isPt Tryd.prog 3 = false := by kernel_rfl
@[go_sem] theorem Tryd.isPt4 : isPt Tryd.prog 4 = false := by kernel_rfl
@[go_sem] theorem Tryd.isPt5 : isPt Tryd.prog 5 = false := by kernel_rfl
@[go_sem] theorem Tryd.isPt9 : isPt Tryd.prog 9 = false := by kernel_rfl
@[go_sem] theorem Tryd.isPt22 : isPt Tryd.prog 22 = false := by kernel_rfl
@[go_sem] theorem Tryd.isPt24 : isPt Tryd.prog 24 = false := by kernel_rfl
@[go_sem] theorem Tryd.isPt26 : isPt Tryd.prog 26 = false := by kernel_rfl
@[go_sem] theorem Tryd.isPt39 : isPt Tryd.prog 39 = false := by kernel_rfl
@[go_sem] theorem Tryd.isPt43 : isPt Tryd.prog 43 = false := by kernel_rfl
@[go_sem] theorem Tryd.isPt44 : isPt Tryd.prog 44 = false := by kernel_rfl
@[go_sem] theorem Tryd.isPt46 : isPt Tryd.prog 46 = false := by kernel_rfl
@[go_sem] theorem Tryd.isPt61 : isPt Tryd.prog 61 = false := by kernel_rfl
@[go_sem] theorem Tryd.isPt66 : isPt Tryd.prog 66 = false := by kernel_rfl
@[go_sem] theorem Tryd.isPt68 : isPt Tryd.prog 68 = false := by kernel_rfl
@[go_sem] theorem Tryd.isPt76 : isPt Tryd.prog 76 = false := by kernel_rfl
@[go_sem] theorem Tryd.isPt87 : isPt Tryd.prog 87 = true := by kernel_rfl
@[go_sem] theorem Tryd.isPt88 : isPt Tryd.prog 88 = false := by kernel_rfl
@[go_sem] theorem Tryd.isPt101 : isPt Tryd.prog 101 = false := by kernel_rfl
@[go_sem] theorem Tryd.isPt109 : isPt Tryd.prog 109 = false := by kernel_rfl
@[go_sem] theorem Tryd.isPt115 : isPt Tryd.prog 115 = false := by kernel_rfl
@[go_sem] theorem Tryd.isPt128 : isPt Tryd.prog 128 = false := by kernel_rfl
@[go_sem] theorem Tryd.isPt140 : isPt Tryd.prog 140 = false := by kernel_rfl
@[go_sem] theorem Tryd.isPt156 : isPt Tryd.prog 156 = true := by kernel_rfl
@[go_sem] theorem Tryd.isPt158 : isPt Tryd.prog 158 = false := by kernel_rfl
@[go_sem] theorem Tryd.isPt179 : isPt Tryd.prog 179 = false := by kernel_rfl
@[go_sem] theorem Tryd.isPt203 : isPt Tryd.prog 203 = true := by kernel_rfl
@[go_sem] theorem Tryd.isPt206 : isPt Tryd.prog 206 = false := by kernel_rfl
@[go_sem] theorem Tryd.isPt217 : isPt Tryd.prog 217 = false := by kernel_rfl
theorem Tryd.okF4 : okF Tryd.prog 4 = true := by kernel_rfl
theorem Tryd.okF23 : okF Tryd.prog 23 = true := by kernel_rfl
theorem Tryd.okF24 : okF Tryd.prog 24 = true := by kernel_rfl
theorem Tryd.okF25 : okF Tryd.prog 25 = true := by kernel_rfl
theorem Tryd.okF26 : okF Tryd.prog 26 = true := by kernel_rfl
theorem Tryd.okF27 : okF Tryd.prog 27 = true := by kernel_rfl
theorem Tryd.okF28 : okF Tryd.prog 28 = true := by kernel_rfl
theorem Tryd.okF29 : okF Tryd.prog 29 = true := by kernel_rfl
theorem Tryd.okF30 : okF Tryd.prog 30 = true := by kernel_rfl
theorem Tryd.okF31 : okF Tryd.prog 31 = true := by kernel_rfl
theorem Tryd.okF32 : okF Tryd.prog 32 = true := by kernel_rfl
theorem Tryd.okF33 : okF Tryd.prog 33 = true := by kernel_rfl
theorem Tryd.okF34 : okF Tryd.prog 34 = true := by kernel_rfl
theorem Tryd.okF35 : okF Tryd.prog 35 = true := by kernel_rfl
theorem Tryd.okF36 : okF Tryd.prog 36 = true := by kernel_rfl
theorem Tryd.okF37 : okF Tryd.prog 37 = true := by kernel_rfl
theorem Tryd.okF38 : okF Tryd.prog 38 = true := by kernel_rfl
theorem Tryd.okF39 : okF Tryd.prog 39 = true := by kernel_rfl
theorem Tryd.okF40 : okF Tryd.prog 40 = true := by kernel_rfl
theorem Tryd.okF67 : okF Tryd.prog 67 = true := by kernel_rfl
theorem Tryd.okF69 : okF Tryd.prog 69 = true := by kernel_rfl
theorem Tryd.okF76 : okF Tryd.prog 76 = true := by kernel_rfl
theorem Tryd.okF79 : okF Tryd.prog 79 = true := by kernel_rfl
theorem Tryd.okF80 : okF Tryd.prog 80 = true := by kernel_rfl
theorem Tryd.okF81 : okF Tryd.prog 81 = true := by kernel_rfl
theorem Tryd.okF82 : okF Tryd.prog 82 = true := by kernel_rfl
theorem Tryd.okF83 : okF Tryd.prog 83 = true := by kernel_rfl
theorem Tryd.okF84 : okF Tryd.prog 84 = true := by kernel_rfl
theorem Tryd.okF85 : okF Tryd.prog 85 = true := by kernel_rfl
theorem Tryd.okF86 : okF Tryd.prog 86 = true := by kernel_rfl
theorem Tryd.okF87 : okF Tryd.prog 87 = true := by kernel_rfl
theorem Tryd.okF88 : okF Tryd.prog 88 = true := by kernel_rfl
theorem Tryd.okF89 : okF Tryd.prog 89 = true := by kernel_rfl
theorem Tryd.okF90 : okF Tryd.prog 90 = true := by kernel_rfl
theorem Tryd.okF91 : okF Tryd.prog 91 = true := by kernel_rfl
theorem Tryd.okF92 : okF Tryd.prog 92 = true := by kernel_rfl
theorem Tryd.okF93 : okF Tryd.prog 93 = true := by kernel_rfl
theorem Tryd.okF94 : okF Tryd.prog 94 = true := by kernel_rfl
theorem Tryd.okF95 : okF Tryd.prog 95 = true := by kernel_rfl
theorem Tryd.okF96 : okF Tryd.prog 96 = true := by kernel_rfl
theorem Tryd.okF97 : okF Tryd.prog 97 = true := by kernel_rfl
theorem Tryd.okF116 : okF Tryd.prog 116 = true := by kernel_rfl
theorem Tryd.okF117 : okF Tryd.prog 117 = true := by kernel_rfl
theorem Tryd.okF122 : okF Tryd.prog 122 = true := by kernel_rfl
theorem Tryd.okF126 : okF Tryd.prog 126 = true := by kernel_rfl
theorem Tryd.okF127 : okF Tryd.prog 127 = true := by kernel_rfl
theorem Tryd.okF128 : okF Tryd.prog 128 = true := by kernel_rfl
theorem Tryd.okF129 : okF Tryd.prog 129 = true := by kernel_rfl
theorem Tryd.okF130 : okF Tryd.prog 130 = true := by kernel_rfl
theorem Tryd.okF131 : okF Tryd.prog 131 = true := by kernel_rfl
theorem Tryd.okF132 : okF Tryd.prog 132 = true := by kernel_rfl
theorem Tryd.okF133 : okF Tryd.prog 133 = true := by kernel_rfl
theorem Tryd.okF134 : okF Tryd.prog 134 = true := by kernel_rfl
theorem Tryd.okF135 : okF Tryd.prog 135 = true := by kernel_rfl
theorem Tryd.okF136 : okF Tryd.prog 136 = true := by kernel_rfl
theorem Tryd.okF137 : okF Tryd.prog 137 = true := by kernel_rfl
theorem Tryd.okF138 : okF Tryd.prog 138 = true := by kernel_rfl
theorem Tryd.okF139 : okF Tryd.prog 139 = true := by kernel_rfl
theorem Tryd.okF140 : okF Tryd.prog 140 = true := by kernel_rfl
theorem Tryd.okF141 : okF Tryd.prog 141 = true := by kernel_rfl
theorem Tryd.okF142 : okF Tryd.prog 142 = true := by kernel_rfl
theorem Tryd.okF143 : okF Tryd.prog 143 = true := by kernel_rfl
theorem Tryd.okF144 : okF Tryd.prog 144 = true := by kernel_rfl
theorem Tryd.okF145 : okF Tryd.prog 145 = true := by kernel_rfl
theorem Tryd.okF146 : okF Tryd.prog 146 = true := by kernel_rfl
theorem Tryd.okF147 : okF Tryd.prog 147 = true := by kernel_rfl
theorem Tryd.okF181 : okF Tryd.prog 181 = true := by kernel_rfl
theorem Tryd.okF183 : okF Tryd.prog 183 = true := by kernel_rfl
theorem Tryd.okF184 : okF Tryd.prog 184 = true := by kernel_rfl
theorem Tryd.okF185 : okF Tryd.prog 185 = true := by kernel_rfl
theorem Tryd.okF186 : okF Tryd.prog 186 = true := by kernel_rfl
theorem Tryd.okF188 : okF Tryd.prog 188 = true := by kernel_rfl
theorem Tryd.okF189 : okF Tryd.prog 189 = true := by kernel_rfl
theorem Tryd.okF226 : okF Tryd.prog 226 = true := by kernel_rfl
theorem Tryd.okF227 : okF Tryd.prog 227 = true := by kernel_rfl
theorem Tryd.okF228 : okF Tryd.prog 228 = true := by kernel_rfl
theorem Tryd.okF229 : okF Tryd.prog 229 = true := by kernel_rfl
theorem Tryd.okF230 : okF Tryd.prog 230 = true := by kernel_rfl
end Go.Proofs
end
section
namespace Go.Lv

def rows {α : Type} (cs : α → List V) (L : List α) : List V := L.flatMap cs

section
variable {α : Type} {cs : α → List V} {w : Nat}

theorem rows_len (h : ∀ a, (cs a).length = w) (L : List α) : (rows cs L).length = L.length * w := by
 induction L with
 | nil => simp [rows]
 | cons a L ih => simp [rows, h] at ih ⊢; rw [ih, Nat.succ_mul, Nat.add_comm]

theorem rowsOf_append (L K : List α) : rows cs (L ++ K) = rows cs L ++ rows cs K := by simp [rows]
theorem rows_nil : rows cs ([] : List α) = [] := rfl
theorem rows_cons (a : α) (L : List α) : rows cs (a :: L) = cs a ++ rows cs L := by simp [rows]
theorem rows_one (a : α) : rows cs [a] = cs a := by simp [rows]

theorem rows_drop (h : ∀ a, (cs a).length = w) (L : List α) (i : Nat) : (rows cs L).drop (i * w) = rows cs (L.drop i) := by
 induction i generalizing L with
 | zero => simp
 | succ i ih =>
   cases L with
   | nil => simp [rows]
   | cons a L =>
     rw [rows_cons, Nat.succ_mul, Nat.add_comm, ← List.drop_drop, List.drop_append, h a, Nat.sub_self, List.drop_zero]
     rw [show (cs a).drop w = [] by simp [h]]
     simpa using ih L

theorem rows_take (h : ∀ a, (cs a).length = w) (L : List α) (i : Nat) : (rows cs L).take (i * w) = rows cs (L.take i) := by
 induction i generalizing L with
 | zero => simp [rows]
 | succ i ih =>
   cases L with
   | nil => simp [rows]
   | cons a L =>
     rw [rows_cons, List.take_succ_cons, rows_cons, Nat.succ_mul, Nat.add_comm, List.take_append, h a, Nat.add_sub_cancel_left, ih]
     rw [List.take_of_length_le (by simp [h])]

theorem rows_at (h : ∀ a, (cs a).length = w) {L : List α} {i : Nat} (hi : i < L.length) : ((rows cs L).drop (i * w)).take w = cs L[i] := by
 rw [rows_drop h, List.drop_eq_getElem_cons hi, rows_cons, List.take_append, h, Nat.sub_self, List.take_zero, List.append_nil, List.take_of_length_le (by simp [h])]

theorem rows_all {p : V → Bool} (h : ∀ a, (cs a).all p = true) (L : List α) : (rows cs L).all p = true := by
 induction L with
 | nil => rfl
 | cons a L ih => rw [rows_cons, List.all_append, h a, ih]; rfl

theorem map_ren (f : Nat → R) {d : Nat} {l : List V} (h : l.all (noOwn d) = true) : l.map (ren f d) = l := by
 rw [List.map_congr_left (g := id) (fun x hx => ren_noOwn f d x (List.all_eq_true.1 h x hx)), List.map_id]

theorem wrap_i64 {n : Int} (h0 : -9223372036854775808 ≤ n) (h1 : n ≤ 9223372036854775807) : IntKind.i64.wrap n = n := by
 rw [IntKind.wrap_i64]; omega

def i64R (z : Int) : Prop := -9223372036854775808 ≤ z ∧ z ≤ 9223372036854775807
def lstR (ok : α → Prop) (L : List α) : Prop := L.length ≤ 9223372036854775807 ∧ ∀ x ∈ L, ok x

class FlatP (cs : α → List V) (w : outParam Nat) : Prop where
 len : ∀ a, (cs a).length = w
 plain : ∀ a d, (cs a).all (noOwn d) = true
 cell : ∀ a, (cs a).all isCell = true
 noro : ∀ a, (cs a).all (noRoB 0) = true

theorem rows_length [FlatP cs w] (L : List α) : (rows cs L).length = L.length * w := rows_len FlatP.len L
theorem map_ren_rows [FlatP cs w] (f : Nat → R) (d : Nat) (L : List α) : (rows cs L).map (ren f d) = rows cs L := map_ren f (rows_all (fun a => FlatP.plain a d) L)
theorem rows_cell [FlatP cs w] (L : List α) : (rows cs L).all isCell = true := rows_all FlatP.cell L
theorem rows_noRo [FlatP cs w] (L : List α) : (rows cs L).all (noRoB 0) = true := rows_all FlatP.noro L
theorem rows_noOwn [FlatP cs w] (L : List α) (d : Nat) : (rows cs L).all (noOwn d) = true := rows_all (fun a => FlatP.plain a d) L
theorem rows_refV [FlatP cs w] (p : Nat → Bool) (L : List α) (d : Nat) : (rows cs L).all (refV p d) = true := List.all_eq_true.2 fun x hx => refV_noOwn p d x (List.all_eq_true.1 (rows_noOwn (cs := cs) L d) x hx)
theorem noRoH_rows [FlatP cs w] (L : List α) : NoRoH [some (rows cs L)] := NoRoH.of (by simp only [hpNoRo, List.all_cons, List.all_nil, rows_noRo, Bool.and_self])
theorem take_rows [FlatP cs w] (L : List α) : (rows cs L).take (L.length * w) = rows cs L := List.take_of_length_le (by rw [rows_length]; exact Nat.le_refl _)

theorem le_snap [FlatP cs w] {h : Hp} {id : Nat} {L : List α} (hid : h[id]? = some (some (rows cs L))) : LeV (ren (snapR h 3) 3 (.osl id 0 L.length w)) (.sl L.length w (rows cs L)) := by
 refine .inl ?_
 simp only [ren, snapR, hid, map_ren_rows, List.drop_zero, take_rows]
theorem le_snap' [FlatP cs w] {h : Hp} {id n : Nat} {L : List α} (hid : h[id]? = some (some (rows cs L))) (hn : n = L.length) : LeV (ren (snapR h 3) 3 (.osl id 0 n w)) (.sl L.length w (rows cs L)) := by
 subst hn; exact le_snap hid
theorem le_nil {h : Hp} {w : Nat} : LeV (ren (snapR h 3) 3 .nilsl) (.sl 0 w []) := .inr (.inr (.inl ⟨rfl, w, rfl⟩))
theorem LeV.aggR {f : Nat → R} {d : Nat} {cs cs' : List V} (h : LeA (cs.map (ren f d)) cs') : LeV (ren f (d + 1) (.agg cs)) (.agg cs') := LeV.agg h
theorem leE_snap [FlatP cs w] {h : Hp} {id n n' : Nat} {L : List α} (hid : h[id]? = some (some (rows cs L))) (hn : n = L.length) (hn' : n' = L.length) : LeE (ren (snapR h 3) 2 (.osl id 0 n w)) (.sl n' w (rows cs L)) := by
 subst hn hn'
 refine .inl ?_
 simp only [ren, snapR, hid, map_ren_rows, List.drop_zero, take_rows]
theorem lend_one [FlatP cs w] {h : Hp} {id : Nat} {fz : Bool} {L : List α} (hid : h[id]? = some (some (rows cs L))) : pickH [id] h fz = [some (rows cs L)] := by
 simp only [pickH, List.map_cons, List.map_nil, pickB, hid, map_ren_rows]
theorem isMb_cells {l : List V} (h : l.all isCell = true) : isMb l = false := by
 match l, h with
 | [], _ => rfl
 | _ :: _ :: _, _ => rfl
 | [x], h => cases x <;> first | rfl | (simp [isCell] at h)
theorem isMb_rows [FlatP cs w] (L : List α) : isMb (rows cs L) = false := isMb_cells (rows_cell L)
theorem grown_one [FlatP cs w] {L L' : List α} (h : L.length = L'.length) : grown [some (rows cs L)] [some (rows cs L')] := by
 simp [grown, rows_length, h, isMb_rows]

def optO (w : Nat) (R : Option (List α)) : V := match R with
 | some M => .tup [.osl 0 0 M.length w, .bool true]
 | none => .tup [.osl 0 0 0 w, .bool false]
def optOh (cs : α → List V) (R : Option (List α)) : Hp := match R with
 | some M => [some (rows cs M)]
 | none => [some []]
def optN (w : Nat) (R : Option (List α)) : V := match R with
 | some M => .tup [.osl 0 0 M.length w, .bool true]
 | none => .tup [.nilsl, .bool false]
def optNh (cs : α → List V) (R : Option (List α)) : Hp := match R with
 | some M => [some (rows cs M)]
 | none => []
theorem rows_snoc (L : List α) (a : α) : rows cs L ++ cs a = rows cs (L ++ [a]) := by rw [rowsOf_append, rows_one]

theorem LeL_same {f : V → V} : ∀ {l : List V}, l.map f = l → LeL (l.map f) l
 | [], _ => trivial
 | a :: l, h => by
   simp only [List.map_cons, List.cons.injEq] at h
   exact ⟨.inl h.1.symm, LeL_same h.2⟩

theorem splice_mid {A M ns : List V} {n j : Nat} (h : A.length = n) : splice (A ++ M) (n + j) ns = A ++ splice M j ns := by
 subst h
 unfold splice
 rw [List.take_append, List.drop_append, List.take_of_length_le (by omega), List.drop_of_length_le (by omega)]
 simp only [Nat.add_sub_cancel_left, List.nil_append, List.append_assoc]
 congr 3
 congr 1
 omega
theorem splice_mid0 {A M ns : List V} {n : Nat} (h : A.length = n) : splice (A ++ M) n ns = A ++ splice M 0 ns := by
 have := splice_mid (M := M) (ns := ns) (j := 0) h
 rwa [Nat.add_zero] at this

theorem rows_drop_at0 (h : ∀ a, (cs a).length = w) {L : List α} {i : Nat} (hi : i < L.length) : (rows cs L).drop (i * w) = cs L[i] ++ rows cs (L.drop (i + 1)) := by
 rw [rows_drop h, List.drop_eq_getElem_cons hi, rows_cons]

theorem apart {L : List α} {i : Nat} (hi : i < L.length) : ∃ A B, L = A ++ L[i] :: B ∧ A.length = i ∧ A = L.take i ∧ B = L.drop (i + 1) := by
 refine ⟨L.take i, L.drop (i + 1), ?_, by simp; omega, rfl, rfl⟩
 rw [← List.drop_eq_getElem_cons hi, List.take_append_drop]

def listedQ (p : α → Bool) (k : α → Int) (L : List α) (i : Nat) : Bool :=
 match L[i]? with
 | none => true
 | some x => p x && match i with
   | 0 => true
   | j + 1 => match L[j]? with
     | none => true
     | some y => decide (k y < k x)

def listedB (p : α → Bool) (k : α → Int) (m : Nat) (L : List α) : Bool := (List.range L.length).all (listedQ p k L) && decide (L.length ≤ m)

theorem range_all_false {q : Nat → Bool} {n i : Nat} (hi : i < n) (h : q i = false) : (List.range n).all q = false := by
 rw [List.all_eq_false]
 exact ⟨i, by simpa using hi, by simp [h]⟩
theorem range_all_succ {q : Nat → Bool} {i : Nat} (h : (List.range i).all q = true) (h1 : q i = true) : (List.range (i + 1)).all q = true := by
 rw [List.range_succ, List.all_append, h]
 simp [h1]
theorem listedB_false {p : α → Bool} {k : α → Int} {m : Nat} {L : List α} {i : Nat} (hi : i < L.length) (h : listedQ p k L i = false) : listedB p k m L = false := by
 rw [listedB, range_all_false hi h]
 rfl
theorem listedQ_zero {p : α → Bool} {k : α → Int} {L : List α} (h0 : 0 < L.length) : listedQ p k L 0 = p L[0] := by simp [listedQ, h0]
theorem listedQ_succ {p : α → Bool} {k : α → Int} {L : List α} {j : Nat} (h : j + 1 < L.length) : listedQ p k L (j + 1) = (p L[j + 1] && decide (k (L[j]'(by omega)) < k L[j + 1])) := by
 have : j < L.length := by omega
 simp [listedQ, h, this]
end

theorem leA {x y : V} (h : LeV x y := by first | exact le_snap rfl | exact .inl rfl | exact le_nil | exact le_snap' rfl (by simp) | exact LeV.aggR (by first | ((repeat' (first | exact True.intro | exact leE_snap rfl (by simp) (by simp) | exact LeE.nil | exact LeE.refl _ | refine And.intro ?_ ?_)); done) | fail)) : LeV x y := h
theorem callT.at {P : Program} {h : Hp} {g : FuncId} {a c args : List V} {K : V → Hp → Prop} {x : Tag K} {as' : List V} {r : V} {hout : Hp} (hs : Ctr P g as' [] r hout) (hle : LeL ((a ++ args ++ c).map (ren (snapR h 3) 3)) as') (hk : K r hout)
   (hro : (a ++ args ++ c).all (noOwn 3) = true ∨ NoRo r ∧ NoRoH hout := by first | exact .inl rfl | exact .inr ⟨noRo_ok 3 rfl, by first | exact NoRoH.nil | exact noRoH_rows _ | exact NoRoH.of (by simp only [hpNoRo, List.all_cons, List.all_nil, rows_noRo, Bool.and_self])⟩)
   (hrf : refOk h 4 (.fn (.func g) a c) = true ∧ args.all (refOk h 3) = true := by first | exact ⟨rfl, rfl⟩ | exact ⟨rfl, by simp [refOk, refV, refB, noOwn, rows_noOwn, rows_refV]⟩ | simp [refOk, refV, refB, noOwn, rows_noOwn, rows_refV]) : callT P h (.fn (.func g) a c) args K x :=
 callT.intro hs hle hro hrf hk
theorem callS.at {P : Program} {t : List V} {h : Hp} {k : Nat} {dst : Option Tmp} {g : FuncId} {a c args : List V} {K : St → Prop} {x : Tag K} {as' : List V} {r : V} {hout : Hp} (hs : Ctr P g as' [] r hout)
   (hle : LeL ((a ++ args ++ c).map (ren (snapR h 3) 3)) as') (hk : K (afterCall ⟨t, h, k⟩ dst r hout))
   (hro : (a ++ args ++ c).all (noOwn 3) = true ∨ NoRo r ∧ NoRoH hout := by first | exact .inl rfl | exact .inr ⟨noRo_ok 3 rfl, by first | exact NoRoH.nil | exact noRoH_rows _ | exact NoRoH.of (by simp only [hpNoRo, List.all_cons, List.all_nil, rows_noRo, Bool.and_self])⟩) : callS P ⟨t, h, k⟩ dst (.fn (.func g) a c) args K x :=
 callS.intro hs hle hro hk
theorem lendA {sel : List Nat} {h hin : Hp} {fz : Bool} (hh : pickH sel h fz = hin := by first | exact lend_one rfl | rfl | (simp only [pickH, List.map_cons, List.map_nil, pickB, List.getElem?_cons_zero, List.getElem?_cons_succ, map_ren_rows]; done)) : pickH sel h fz = hin := hh
theorem leO {x y : V} (h : LeV x y := by first | exact .inl rfl | exact LeV.aggR (by first | ((repeat' (first | exact True.intro | exact LeE.nil | exact LeE.refl _ | refine And.intro ?_ ?_)); done) | fail)) : LeV x y := h
theorem sideA {a b : Prop} (hb : b) (ha : a := by first | omega | with_reducible rfl | (show drawOk _ = true; kernel_rfl) | (simp only [rows_length, rows_cell, List.length_append, List.length_cons, List.length_nil, List.all_append, List.all_cons, List.all_nil, isCell, Nat.mul_one, Nat.one_mul, Bool.and_self]; first | done | omega)) : a ∧ b := ⟨ha, hb⟩
attribute [go_sem] Nat.le_refl Int.toNat_natCast beq_self_eq_true bne_self_eq_false decide_true decide_false eq_self ne_eq Option.some.injEq not_false_eq_true Option.map_some map_ren_rows
theorem Weak.pk {t t2 : List V} {h h2 : Hp} {k : Nat} (sel : List Nat) (ht : LeG (ren (pickF sel h true) 3) t t2) (hh : pickH sel h true = h2) (hn : sel.Nodup := by decide) (hk : ∀ j, j < k → sel[j]? = some j := by (intro j hj; cases j <;> simp_all)) : Weak ⟨t, h, k⟩ ⟨t2, h2, k⟩ := Weak.pick sel hn hk ht hh
attribute [go_sem] Nat.reduceSub Nat.reduceAdd Nat.reduceMul Nat.reduceLT Nat.reduceLeDiff Nat.reduceEqDiff Nat.reduceDiv Nat.reduceMod Int.reduceToNat Int.reduceLE Int.reduceLT Int.reduceBEq Int.reduceBNe Int.reduceNeg Int.reduceAdd Int.reduceSub Int.reduceMul reduceCtorEq
end Go.Lv
end
section
set_option maxRecDepth 100000
namespace Go.Proofs
open Go.Lv
def inB' (n a b : Int) : Bool := decide (a ≤ n) && decide (n ≤ b)
theorem in_ok (n a b : Int) : Ctr Tryd.prog 79 [.int .i64 n, .int .i64 a, .int .i64 b] [] (.bool (inB' n a b)) [] := by
 refine Ctr.intro Tryd.mixed Tryd.func79 rfl Tryd.okF79 ?_
 simp -implicitDefEqProofs -dsimp only [go_sem, Tryd.ntmps79, Tryd.results79]
 refine guardT.splitT (fun h1 => ?_) (fun h1 => ?_) <;> simp -implicitDefEqProofs -dsimp only [go_sem, h1]
 · exact WeakR.of_eq (by simp [inB', h1])
 · exact WeakR.of_eq (by simp [inB', h1])
theorem l1In_ok (n a b : Int) : Ctr Tryd.prog 127 [.int .i64 n, .int .i64 a, .int .i64 b] [] (.bool (inB' n a b)) [] := by
 refine Ctr.intro Tryd.mixed Tryd.func127 rfl Tryd.okF127 ?_
 simp -implicitDefEqProofs -dsimp only [go_sem, Tryd.ntmps127, Tryd.results127]
 refine guardT.splitT (fun h1 => ?_) (fun h1 => ?_) <;> simp -implicitDefEqProofs -dsimp only [go_sem, h1]
 · exact WeakR.of_eq (by simp [inB', h1])
 · exact WeakR.of_eq (by simp [inB', h1])
theorem listedB_all {α : Type} {p : α → Bool} {k : α → Int} {m : Nat} {L : List α} (h : listedB p k m L = true) : (∀ x ∈ L, p x = true) ∧ L.length ≤ m := by
 simp only [listedB, Bool.and_eq_true, decide_eq_true_eq, List.all_eq_true, List.mem_range] at h
 refine ⟨fun x hx => ?_, h.2⟩
 obtain ⟨i, hi, rfl⟩ := List.getElem_of_mem hx
 have := h.1 i hi
 simp only [listedQ, List.getElem?_eq_getElem hi, Bool.and_eq_true] at this
 exact this.1
theorem listedB_lt {α : Type} {p : α → Bool} {k : α → Int} {m : Nat} {L : List α} (h : listedB p k m L = true) : (L.map k).Pairwise (· < ·) := by
 simp only [listedB, Bool.and_eq_true, List.all_eq_true, List.mem_range] at h
 have adj : ∀ j, (hj : j + 1 < L.length) → k (L[j]'(by omega)) < k L[j + 1] := by
   intro j hj
   have := h.1 (j + 1) hj
   rw [listedQ_succ hj] at this
   simp at this
   exact this.2
 rw [List.pairwise_iff_getElem]
 intro i j hi hj hij
 simp only [List.length_map] at hi hj
 simp only [List.getElem_map]
 induction j with
 | zero => omega
 | succ j ih =>
   have h1 := adj j hj
   rcases Nat.lt_succ_iff_lt_or_eq.1 hij with h2 | h2
   · have := ih (by simpa using (by omega : j < L.length)) h2 (by omega)
     omega
   · subst h2; exact h1
end Go.Proofs
end
section
set_option maxRecDepth 100000
namespace Go.Proofs
open Go.Lv
def placeB (x y : Int) : Bool := inB' x 0 999 && inB' y 0 999
theorem isTick_ok (n : Int) : Ctr Tryd.prog 116 [.int .i64 n] [] (.bool (inB' n 0 1000000)) [] := by
 refine Ctr.intro Tryd.mixed Tryd.func116 rfl Tryd.okF116 ?_
 simp -implicitDefEqProofs -dsimp only [go_sem, Tryd.ntmps116, Tryd.results116]
 repeat' (first | (refine WeakR.drop' ?_ (by rfl); first | rfl | (simp [placeB, *]; done)) | ((first | refine callT.at (in_ok _ _ _) ⟨leA, leA, leA, trivial⟩ ?_ | refine callS.at (in_ok _ _ _) ⟨leA, leA, leA, trivial⟩ ?_); simp -implicitDefEqProofs -dsimp only [go_sem, *]) | (refine guardT.splitT (fun _ => ?_) (fun _ => ?_) <;> simp -implicitDefEqProofs -dsimp only [go_sem, *]) | (refine guardT.splitF (fun _ => ?_) (fun _ => ?_) <;> simp -implicitDefEqProofs -dsimp only [go_sem, *]) | (refine condT.split (fun _ => ?_) (fun _ => ?_) <;> simp -implicitDefEqProofs -dsimp only [go_sem, *]))
theorem l2Tick_ok (n : Int) : Ctr Tryd.prog 136 [.int .i64 n] [] (.bool (inB' n 0 1000000)) [] := by
 refine Ctr.intro Tryd.mixed Tryd.func136 rfl Tryd.okF136 ?_
 simp -implicitDefEqProofs -dsimp only [go_sem, Tryd.ntmps136, Tryd.results136]
 repeat' (first | (refine WeakR.drop' ?_ (by rfl); first | rfl | (simp [placeB, *]; done)) | ((first | refine callT.at (l1In_ok _ _ _) ⟨leA, leA, leA, trivial⟩ ?_ | refine callS.at (l1In_ok _ _ _) ⟨leA, leA, leA, trivial⟩ ?_); simp -implicitDefEqProofs -dsimp only [go_sem, *]) | (refine guardT.splitT (fun _ => ?_) (fun _ => ?_) <;> simp -implicitDefEqProofs -dsimp only [go_sem, *]) | (refine guardT.splitF (fun _ => ?_) (fun _ => ?_) <;> simp -implicitDefEqProofs -dsimp only [go_sem, *]) | (refine condT.split (fun _ => ?_) (fun _ => ?_) <;> simp -implicitDefEqProofs -dsimp only [go_sem, *]))
theorem isStationId_ok (n : Int) : Ctr Tryd.prog 117 [.int .i64 n] [] (.bool (inB' n 1 99)) [] := by
 refine Ctr.intro Tryd.mixed Tryd.func117 rfl Tryd.okF117 ?_
 simp -implicitDefEqProofs -dsimp only [go_sem, Tryd.ntmps117, Tryd.results117]
 repeat' (first | (refine WeakR.drop' ?_ (by rfl); first | rfl | (simp [placeB, *]; done)) | ((first | refine callT.at (in_ok _ _ _) ⟨leA, leA, leA, trivial⟩ ?_ | refine callS.at (in_ok _ _ _) ⟨leA, leA, leA, trivial⟩ ?_); simp -implicitDefEqProofs -dsimp only [go_sem, *]) | (refine guardT.splitT (fun _ => ?_) (fun _ => ?_) <;> simp -implicitDefEqProofs -dsimp only [go_sem, *]) | (refine guardT.splitF (fun _ => ?_) (fun _ => ?_) <;> simp -implicitDefEqProofs -dsimp only [go_sem, *]) | (refine condT.split (fun _ => ?_) (fun _ => ?_) <;> simp -implicitDefEqProofs -dsimp only [go_sem, *]))
theorem isQuakeSize_ok (n : Int) : Ctr Tryd.prog 130 [.int .i64 n] [] (.bool (inB' n (-20) 95)) [] := by
 refine Ctr.intro Tryd.mixed Tryd.func130 rfl Tryd.okF130 ?_
 simp -implicitDefEqProofs -dsimp only [go_sem, Tryd.ntmps130, Tryd.results130]
 repeat' (first | (refine WeakR.drop' ?_ (by rfl); first | rfl | (simp [placeB, *]; done)) | ((first | refine callT.at (in_ok _ _ _) ⟨leA, leA, leA, trivial⟩ ?_ | refine callS.at (in_ok _ _ _) ⟨leA, leA, leA, trivial⟩ ?_); simp -implicitDefEqProofs -dsimp only [go_sem, *]) | (refine guardT.splitT (fun _ => ?_) (fun _ => ?_) <;> simp -implicitDefEqProofs -dsimp only [go_sem, *]) | (refine guardT.splitF (fun _ => ?_) (fun _ => ?_) <;> simp -implicitDefEqProofs -dsimp only [go_sem, *]) | (refine condT.split (fun _ => ?_) (fun _ => ?_) <;> simp -implicitDefEqProofs -dsimp only [go_sem, *]))
end Go.Proofs
end
section
set_option maxRecDepth 100000
namespace Go.Proofs
open Go.Lv
structure Post where
 Station : Int
 Up : Bool
 Since : Int
def Post.cs (r : Post) : List V := [.int .i64 r.Station, .bool r.Up, .int .i64 r.Since]
def Post.v (r : Post) : V := .agg [.int .i64 r.Station, .bool r.Up, .int .i64 r.Since]
theorem Post.csl (a : Post) : a.cs.length = 3 := rfl
instance : FlatP Post.cs 3 := ⟨fun _ => rfl, fun _ d => by cases d <;> rfl, fun _ => rfl, fun _ => rfl⟩
def Post.ok (r : Post) : Prop := i64R r.Station ∧ i64R r.Since
abbrev Post.rows (L : List Post) : List V := Go.Lv.rows Post.cs L
abbrev Post.sl (L : List Post) : V := .sl L.length 3 (Go.Lv.rows Post.cs L)
abbrev Post.zs : List V := [.int .i64 0, .bool false, .int .i64 0]
def Post.mk1 (k : Int) : Post := ⟨k, ((k + 1).tmod 3 == 0), k + 1 + 1⟩
def Post.marks (k : Int) (n : Nat) : List Post := (List.range n).map fun i : Nat => Post.mk1 (k + 3 * (i : Int))
@[simp] theorem Post.marks_len (k : Int) (n : Nat) : (Post.marks k n).length = n := by simp [Post.marks]
theorem areListedPost_ok (L : List Post) (p : Post → Bool) (key : Post → Int) (most : Int) (fv fk : Nat) (vc kc : List V) (hvc : ∀ d, vc.all (noOwn d) = true) (hkc : ∀ d, kc.all (noOwn d) = true) (hv : ∀ x, Ctr Tryd.prog fv (Post.v x :: vc) [] (.bool (p x)) []) (hkey : ∀ x, Ctr Tryd.prog fk (Post.v x :: kc) [] (.int .i64 (key x)) []) (m : Nat) (hm : most = m) (hl : L.length ≤ 281474976710656) :
   Ctr Tryd.prog 131 [Post.sl L, .int .i64 most, .fn (.func fv) [] vc, .fn (.func fk) [] kc] [] (.bool (listedB p key m L)) [] := by
 subst hm
 refine Ctr.intro Tryd.mixed Tryd.func131 rfl Tryd.okF131 ?_
 simp -implicitDefEqProofs -dsimp only [go_sem, Tryd.ntmps131, Tryd.results131]
 have hvc2 : ∀ f d, vc.map (ren f d) = vc := fun f d => map_ren f (hvc d)
 have hkc2 : ∀ f d, kc.map (ren f d) = kc := fun f d => map_ren f (hkc d)
 refine LoopT.intro (fun i : Nat => i ≤ L.length ∧ (List.range i).all (listedQ p key L) = true) (fun i => ⟨[Post.sl L, .int .i64 m, .fn (.func fv) [] vc, .fn (.func fk) [] kc, .undef, .undef, .undef, .undef, .undef, .undef, .undef, Post.sl L, .int .i64 L.length, .int .i64 i, .undef, .undef, .undef, .undef, .undef, .undef, .undef, .undef, .undef, .undef, .undef, .undef, .undef, .undef, .undef, .undef, .undef, .undef, .undef, .undef, .undef, .undef, .undef, .undef, .undef, .undef, .undef, .undef, .undef, .undef], [], 0⟩) (fun i => L.length - i) 0 ⟨Nat.zero_le _, rfl⟩ ?_ (fun i hi => ?_)
 · refine Weak.cut (0) (by simp) (by simp) ?_ ?_
   · simp [LeC, LeV, ren, cutF, hvc2, hkc2]
   · rfl
 simp -implicitDefEqProofs -dsimp only [go_sem]
 refine condT.split (fun h1 => ?_) (fun h1 => ?_)
 · simp -implicitDefEqProofs -dsimp only [go_sem, h1]
   have hi' : i < L.length := by simpa using h1
   have h5 := Post.csl L[i]
   have hr := rows_at Post.csl hi'
   (repeat1' (first | simp -implicitDefEqProofs -dsimp only [go_sem, hr, Post.cs] | simp -dsimp (disch := omega) only [wrap_i64]))
   repeat (with_reducible refine sideA ?_)
   refine callT.intro (hv L[i]) ⟨.inl rfl, LeL_same (hvc2 _ _)⟩ (.inl (by simp only [List.nil_append, List.cons_append, List.all_cons, hvc, Bool.and_true]; rfl)) ⟨refOk_fn (hvc 3), rfl⟩ ?_
   simp -implicitDefEqProofs -dsimp only [go_sem]
   refine guardT.splitF (fun h2 => ?_) (fun h2 => ?_) <;> simp -implicitDefEqProofs -dsimp only [go_sem, h2]
   · have hw : p L[i] = true := by simpa using h2
     refine guardT.splitT (fun h3 => ?_) (fun h3 => ?_) <;> simp -implicitDefEqProofs -dsimp only [go_sem, h3]
     · obtain ⟨j, rfl⟩ : ∃ j, i = j + 1 := ⟨i - 1, by simp at h3; omega⟩
       have hj : j < L.length := by omega
       refine callT.intro (hkey L[j + 1]) ⟨.inl rfl, LeL_same (hkc2 _ _)⟩ (.inl (by simp only [List.nil_append, List.cons_append, List.all_cons, hkc, Bool.and_true]; rfl)) ⟨refOk_fn (hkc 3), rfl⟩ ?_
       have hw1 : IntKind.i64.wrap (((j + 1 : Nat) : Int) - 1) = (j : Int) := by rw [wrap_i64 (by omega) (by omega)]; omega
       have hr2 := rows_at Post.csl hj
       (repeat1' (first | simp -implicitDefEqProofs -dsimp only [go_sem, hw1, hr2, Post.cs] | simp -dsimp (disch := omega) only [wrap_i64]))
       repeat (with_reducible refine sideA ?_)
       refine callT.intro (hkey L[j]) ⟨.inl rfl, LeL_same (hkc2 _ _)⟩ (.inl (by simp only [List.nil_append, List.cons_append, List.all_cons, hkc, Bool.and_true]; rfl)) ⟨refOk_fn (hkc 3), rfl⟩ ?_
       (repeat1' (first | simp -implicitDefEqProofs -dsimp only [go_sem] | simp -dsimp (disch := omega) only [wrap_i64]))
       refine condT.split (fun h4 => ?_) (fun h4 => ?_) <;> simp -implicitDefEqProofs -dsimp only [go_sem, h4]
       · refine WeakR.drop' ?_ rfl
         have hq : listedQ p key L (j + 1) = false := by
           rw [listedQ_succ hi', hw]
           simp at h4 ⊢
           omega
         rw [listedB_false hi' hq]
       · refine ⟨j + 1 + 1, ⟨hi', range_all_succ hi.2 (by rw [listedQ_succ hi', hw]; simp at h4 ⊢; omega)⟩, ?_, by omega⟩
         refine Weak.cut (0) (by simp) (by simp) ?_ ?_
         · rw [wrap_i64 (by omega) (by omega)]
           simp [LeC, LeV, ren, cutF, hvc2, hkc2]
         · rfl
     · have h0 : i = 0 := by simp at h3; omega
       refine ⟨i + 1, ⟨hi', range_all_succ hi.2 (by subst h0; rw [listedQ_zero hi', hw])⟩, ?_, by omega⟩
       refine Weak.cut (0) (by simp) (by simp) ?_ ?_
       · rw [wrap_i64 (by omega) (by omega)]
         simp [LeC, LeV, ren, cutF, hvc2, hkc2]
       · rfl
   · have hw : p L[i] = false := by simpa using h2
     refine WeakR.drop' ?_ rfl
     have hq : listedQ p key L i = false := by simp [listedQ, hi', hw]
     rw [listedB_false hi' hq]
 · simp -implicitDefEqProofs -dsimp only [go_sem, h1]
   refine WeakR.drop' ?_ rfl
   have : i = L.length := by simp at h1; omega
   subst this
   rw [listedB, hi.2]
   simp
   try omega
end Go.Proofs
end
section
set_option maxRecDepth 100000
namespace Go.Proofs
open Go.Lv
structure Shock where
 Number : Int
 State : Int
 Seen : Int
 Size : Int
 Tick : Int
def Shock.cs (r : Shock) : List V := [.int .i64 r.Number, .int .i64 r.State, .int .i64 r.Seen, .int .i64 r.Size, .int .i64 r.Tick]
def Shock.v (r : Shock) : V := .agg [.int .i64 r.Number, .int .i64 r.State, .int .i64 r.Seen, .int .i64 r.Size, .int .i64 r.Tick]
theorem Shock.csl (a : Shock) : a.cs.length = 5 := rfl
instance : FlatP Shock.cs 5 := ⟨fun _ => rfl, fun _ d => by cases d <;> rfl, fun _ => rfl, fun _ => rfl⟩
def Shock.ok (r : Shock) : Prop := i64R r.Number ∧ i64R r.State ∧ i64R r.Seen ∧ i64R r.Size ∧ i64R r.Tick
abbrev Shock.rows (L : List Shock) : List V := Go.Lv.rows Shock.cs L
abbrev Shock.sl (L : List Shock) : V := .sl L.length 5 (Go.Lv.rows Shock.cs L)
abbrev Shock.zs : List V := [.int .i64 0, .int .i64 0, .int .i64 0, .int .i64 0, .int .i64 0]
def Shock.mk1 (k : Int) : Shock := ⟨k, k + 1, k + 1 + 1, k + 1 + 1 + 1, k + 1 + 1 + 1 + 1⟩
def Shock.marks (k : Int) (n : Nat) : List Shock := (List.range n).map fun i : Nat => Shock.mk1 (k + 5 * (i : Int))
@[simp] theorem Shock.marks_len (k : Int) (n : Nat) : (Shock.marks k n).length = n := by simp [Shock.marks]
theorem areListedShock_ok (L : List Shock) (p : Shock → Bool) (key : Shock → Int) (most : Int) (fv fk : Nat) (vc kc : List V) (hvc : ∀ d, vc.all (noOwn d) = true) (hkc : ∀ d, kc.all (noOwn d) = true) (hv : ∀ x, Ctr Tryd.prog fv (Shock.v x :: vc) [] (.bool (p x)) []) (hkey : ∀ x, Ctr Tryd.prog fk (Shock.v x :: kc) [] (.int .i64 (key x)) []) (m : Nat) (hm : most = m) (hl : L.length ≤ 281474976710656) :
   Ctr Tryd.prog 133 [Shock.sl L, .int .i64 most, .fn (.func fv) [] vc, .fn (.func fk) [] kc] [] (.bool (listedB p key m L)) [] := by
 subst hm
 refine Ctr.intro Tryd.mixed Tryd.func133 rfl Tryd.okF133 ?_
 simp -implicitDefEqProofs -dsimp only [go_sem, Tryd.ntmps133, Tryd.results133]
 have hvc2 : ∀ f d, vc.map (ren f d) = vc := fun f d => map_ren f (hvc d)
 have hkc2 : ∀ f d, kc.map (ren f d) = kc := fun f d => map_ren f (hkc d)
 refine LoopT.intro (fun i : Nat => i ≤ L.length ∧ (List.range i).all (listedQ p key L) = true) (fun i => ⟨[Shock.sl L, .int .i64 m, .fn (.func fv) [] vc, .fn (.func fk) [] kc, .undef, .undef, .undef, .undef, .undef, .undef, .undef, Shock.sl L, .int .i64 L.length, .int .i64 i, .undef, .undef, .undef, .undef, .undef, .undef, .undef, .undef, .undef, .undef, .undef, .undef, .undef, .undef, .undef, .undef, .undef, .undef, .undef, .undef, .undef, .undef, .undef, .undef, .undef, .undef, .undef, .undef, .undef, .undef], [], 0⟩) (fun i => L.length - i) 0 ⟨Nat.zero_le _, rfl⟩ ?_ (fun i hi => ?_)
 · refine Weak.cut (0) (by simp) (by simp) ?_ ?_
   · simp [LeC, LeV, ren, cutF, hvc2, hkc2]
   · rfl
 simp -implicitDefEqProofs -dsimp only [go_sem]
 refine condT.split (fun h1 => ?_) (fun h1 => ?_)
 · simp -implicitDefEqProofs -dsimp only [go_sem, h1]
   have hi' : i < L.length := by simpa using h1
   have h5 := Shock.csl L[i]
   have hr := rows_at Shock.csl hi'
   (repeat1' (first | simp -implicitDefEqProofs -dsimp only [go_sem, hr, Shock.cs] | simp -dsimp (disch := omega) only [wrap_i64]))
   repeat (with_reducible refine sideA ?_)
   refine callT.intro (hv L[i]) ⟨.inl rfl, LeL_same (hvc2 _ _)⟩ (.inl (by simp only [List.nil_append, List.cons_append, List.all_cons, hvc, Bool.and_true]; rfl)) ⟨refOk_fn (hvc 3), rfl⟩ ?_
   simp -implicitDefEqProofs -dsimp only [go_sem]
   refine guardT.splitF (fun h2 => ?_) (fun h2 => ?_) <;> simp -implicitDefEqProofs -dsimp only [go_sem, h2]
   · have hw : p L[i] = true := by simpa using h2
     refine guardT.splitT (fun h3 => ?_) (fun h3 => ?_) <;> simp -implicitDefEqProofs -dsimp only [go_sem, h3]
     · obtain ⟨j, rfl⟩ : ∃ j, i = j + 1 := ⟨i - 1, by simp at h3; omega⟩
       have hj : j < L.length := by omega
       refine callT.intro (hkey L[j + 1]) ⟨.inl rfl, LeL_same (hkc2 _ _)⟩ (.inl (by simp only [List.nil_append, List.cons_append, List.all_cons, hkc, Bool.and_true]; rfl)) ⟨refOk_fn (hkc 3), rfl⟩ ?_
       have hw1 : IntKind.i64.wrap (((j + 1 : Nat) : Int) - 1) = (j : Int) := by rw [wrap_i64 (by omega) (by omega)]; omega
       have hr2 := rows_at Shock.csl hj
       (repeat1' (first | simp -implicitDefEqProofs -dsimp only [go_sem, hw1, hr2, Shock.cs] | simp -dsimp (disch := omega) only [wrap_i64]))
       repeat (with_reducible refine sideA ?_)
       refine callT.intro (hkey L[j]) ⟨.inl rfl, LeL_same (hkc2 _ _)⟩ (.inl (by simp only [List.nil_append, List.cons_append, List.all_cons, hkc, Bool.and_true]; rfl)) ⟨refOk_fn (hkc 3), rfl⟩ ?_
       (repeat1' (first | simp -implicitDefEqProofs -dsimp only [go_sem] | simp -dsimp (disch := omega) only [wrap_i64]))
       refine condT.split (fun h4 => ?_) (fun h4 => ?_) <;> simp -implicitDefEqProofs -dsimp only [go_sem, h4]
       · refine WeakR.drop' ?_ rfl
         have hq : listedQ p key L (j + 1) = false := by
           rw [listedQ_succ hi', hw]
           simp at h4 ⊢
           omega
         rw [listedB_false hi' hq]
       · refine ⟨j + 1 + 1, ⟨hi', range_all_succ hi.2 (by rw [listedQ_succ hi', hw]; simp at h4 ⊢; omega)⟩, ?_, by omega⟩
         refine Weak.cut (0) (by simp) (by simp) ?_ ?_
         · rw [wrap_i64 (by omega) (by omega)]
           simp [LeC, LeV, ren, cutF, hvc2, hkc2]
         · rfl
     · have h0 : i = 0 := by simp at h3; omega
       refine ⟨i + 1, ⟨hi', range_all_succ hi.2 (by subst h0; rw [listedQ_zero hi', hw])⟩, ?_, by omega⟩
       refine Weak.cut (0) (by simp) (by simp) ?_ ?_
       · rw [wrap_i64 (by omega) (by omega)]
         simp [LeC, LeV, ren, cutF, hvc2, hkc2]
       · rfl
   · have hw : p L[i] = false := by simpa using h2
     refine WeakR.drop' ?_ rfl
     have hq : listedQ p key L i = false := by simp [listedQ, hi', hw]
     rw [listedB_false hi' hq]
 · simp -implicitDefEqProofs -dsimp only [go_sem, h1]
   refine WeakR.drop' ?_ rfl
   have : i = L.length := by simp at h1; omega
   subst this
   rw [listedB, hi.2]
   simp
   try omega
theorem filterShock_ok (L : List Shock) (p : Shock → Bool) (fv : Nat) (vc : List V) (hvc : ∀ d, vc.all (noOwn d) = true) (hv : ∀ x, Ctr Tryd.prog fv (Shock.v x :: vc) [] (.bool (p x)) []) (hl : L.length ≤ 16777216) :
   Ctr Tryd.prog 82 [Shock.sl L, .fn (.func fv) [] vc] [] (.osl 0 0 (L.filter p).length 5) [some (rows Shock.cs (L.filter p))] := by
 refine Ctr.intro Tryd.mixed Tryd.func82 rfl Tryd.okF82 ?_
 simp -implicitDefEqProofs -dsimp only [go_sem, Tryd.ntmps82, Tryd.results82]
 have hvc2 : ∀ f d, vc.map (ren f d) = vc := fun f d => map_ren f (hvc d)
 have hstep : ∀ {i : Nat} (hi : i < L.length), (L.take (i + 1)).filter p = (L.take i).filter p ++ if p L[i] then [L[i]] else [] := fun {i} hi => by
   rw [List.take_succ_eq_append_getElem hi, List.filter_append]
   congr 1
   cases h : p L[i] <;> simp [h]
 refine LoopT.intro (fun i : Nat => i ≤ L.length) (fun i => ⟨[.undef, .fn (.func fv) [] vc, .undef, .undef, .undef, .osl 0 0 ((L.take i).filter p).length 5, .undef, .undef, .undef, Shock.sl L, .int .i64 L.length, .int .i64 i, .undef, .undef, .undef, .undef, .undef, .undef, .undef, .undef, .undef, .undef, .undef, .undef], [some (rows Shock.cs ((L.take i).filter p))], 0⟩) (fun i => L.length - i) 0 (Nat.zero_le _) ?_ (fun i hi => ?_)
 · refine Weak.cut (1) (by simp) (by simp) ?_ ?_
   · simp [LeC, LeV, ren, cutF, hvc2]
   · simp [cutH, cutB, rows]
 simp -implicitDefEqProofs -dsimp only [go_sem]
 refine condT.split (fun h1 => ?_) (fun h1 => ?_)
 · simp -implicitDefEqProofs -dsimp only [go_sem, h1]
   have hi' : i < L.length := by simpa using h1
   have hf : ((L.take i).filter p).length ≤ i := Nat.le_trans (List.length_filter_le _ _) (by simp; omega)
   have h5 := Shock.csl L[i]
   have hr := rows_at Shock.csl hi'
   (repeat1' (first | simp -implicitDefEqProofs -dsimp only [go_sem, hr, Shock.cs] | simp -dsimp (disch := omega) only [wrap_i64]))
   repeat (with_reducible refine sideA ?_)
   refine callS.intro (hv L[i]) ⟨.inl rfl, LeL_same (hvc2 _ _)⟩ (.inl (by simp only [List.nil_append, List.cons_append, List.all_cons, hvc, Bool.and_true]; rfl)) ?_
   simp -implicitDefEqProofs -dsimp only [go_sem]
   refine condT.split (fun h2 => ?_) (fun h2 => ?_) <;> simp -implicitDefEqProofs -dsimp only [go_sem, h2]
   · try (repeat1' (first | simp -implicitDefEqProofs -dsimp only [go_sem, rows_length, Nat.mul_one, rows_cell, List.length_append, List.length_cons, List.length_nil] | simp -dsimp (disch := omega) only [wrap_i64]))
     repeat (with_reducible refine sideA ?_)
     refine ⟨i + 1, hi', ?_, by omega⟩
     refine Weak.cut (1) (by simp) (by simp) ?_ ?_
     · rw [hstep hi', h2]
       simp [LeC, LeV, ren, cutF, hvc2]
     · rw [hstep hi', h2, if_pos rfl, ← rows_snoc]
       simp [cutH, cutB, map_ren_rows, killC, ren, Shock.cs]
   · refine ⟨i + 1, hi', ?_, by omega⟩
     refine Weak.cut (1) (by simp) (by simp) ?_ ?_
     · rw [hstep hi', h2, wrap_i64 (by omega) (by omega)]
       simp [LeC, LeV, ren, cutF, hvc2]
     · rw [hstep hi', h2]
       simp [cutH, cutB, map_ren_rows]
 · simp -implicitDefEqProofs -dsimp only [go_sem, h1]
   have hi' : i = L.length := by simp at h1; omega
   subst hi'
   rw [List.take_length]
   exact WeakR.refl _ _ _
end Go.Proofs
end
section
set_option maxRecDepth 100000
namespace Go.Proofs
open Go.Lv
structure Watch where
 Now : Int
 Posts : List Post
 Shocks : List Shock
 Next : Int
 Archived : Int
def Watch.cs (r : Watch) : List V := [.int .i64 r.Now, .sl r.Posts.length 3 (Go.Lv.rows Post.cs r.Posts), .sl r.Shocks.length 5 (Go.Lv.rows Shock.cs r.Shocks), .int .i64 r.Next, .int .i64 r.Archived]
def Watch.v (r : Watch) : V := .agg [.int .i64 r.Now, .sl r.Posts.length 3 (Go.Lv.rows Post.cs r.Posts), .sl r.Shocks.length 5 (Go.Lv.rows Shock.cs r.Shocks), .int .i64 r.Next, .int .i64 r.Archived]
def Watch.o (r : Watch) (i0 i1 : Nat) : V := .agg [.int .i64 r.Now, .osl i0 0 r.Posts.length 3, .osl i1 0 r.Shocks.length 5, .int .i64 r.Next, .int .i64 r.Archived]
theorem Watch.csl (a : Watch) : a.cs.length = 5 := rfl
def Watch.ok (r : Watch) : Prop := i64R r.Now ∧ lstR Post.ok r.Posts ∧ lstR Shock.ok r.Shocks ∧ i64R r.Next ∧ i64R r.Archived
theorem Watch.le {h : Hp} {r : Watch} {i0 i1 : Nat} (h0 : h[i0]? = some (some (rows Post.cs r.Posts))) (h1 : h[i1]? = some (some (rows Shock.cs r.Shocks))) : LeV (ren (snapR h 3) 3 (r.o i0 i1)) r.v := by
 refine .inl ?_
 simp only [Watch.o, Watch.v, ren, List.map_cons, List.map_nil, snapR, h0, h1, map_ren_rows, List.drop_zero, take_rows]
end Go.Proofs
end
section
set_option maxRecDepth 100000
namespace Go.Proofs
open Go.Lv
def postB (now : Int) (p : Post) : Bool := inB' p.Station 1 99 && inB' p.Since 0 now
def shockB (next now : Int) (x : Shock) : Bool := inB' x.Number 1 (next - 1) && inB' x.State 0 3 && inB' x.Seen 0 8 && inB' x.Size (-20) 95 && (x.State != 0 || x.Size == 0) && inB' x.Tick 0 now
def countsB (w : Watch) : Bool := inB' w.Now 0 1000000 && inB' w.Next 1 999 && inB' w.Archived 0 999
def wB (w : Watch) : Bool := countsB w && listedB (postB w.Now) Post.Station 8 w.Posts && listedB (shockB w.Next w.Now) Shock.Number 6 w.Shocks
theorem countsB_iff {w : Watch} : countsB w = true ↔ (0 ≤ w.Now ∧ w.Now ≤ 1000000) ∧ (1 ≤ w.Next ∧ w.Next ≤ 999) ∧ 0 ≤ w.Archived ∧ w.Archived ≤ 999 := by simp [countsB, inB', and_assoc]
theorem postB_iff {now : Int} {p : Post} : postB now p = true ↔ (1 ≤ p.Station ∧ p.Station ≤ 99) ∧ 0 ≤ p.Since ∧ p.Since ≤ now := by simp [postB, inB', and_assoc]
theorem shockB_iff {next now : Int} {x : Shock} : shockB next now x = true ↔ (1 ≤ x.Number ∧ x.Number ≤ next - 1) ∧ (0 ≤ x.State ∧ x.State ≤ 3) ∧ (0 ≤ x.Seen ∧ x.Seen ≤ 8) ∧ (-20 ≤ x.Size ∧ x.Size ≤ 95) ∧ (x.State ≠ 0 ∨ x.Size = 0) ∧ 0 ≤ x.Tick ∧ x.Tick ≤ now := by
 simp [shockB, inB', and_assoc]
structure WatchOk (w : Watch) : Prop where
 now : 0 ≤ w.Now ∧ w.Now ≤ 1000000
 next : 1 ≤ w.Next ∧ w.Next ≤ 999
 arch : 0 ≤ w.Archived ∧ w.Archived ≤ 999
 posts : ∀ p ∈ w.Posts, postB w.Now p = true
 plen : w.Posts.length ≤ 8
 shocks : ∀ x ∈ w.Shocks, shockB w.Next w.Now x = true
 slen : w.Shocks.length ≤ 6
 pasc : (w.Posts.map Post.Station).Pairwise (· < ·)
 sasc : (w.Shocks.map Shock.Number).Pairwise (· < ·)
theorem wB_ok {w : Watch} (h : wB w = true) : WatchOk w := by
 simp only [wB, Bool.and_eq_true] at h
 obtain ⟨⟨h1, h2⟩, h3⟩ := h
 obtain ⟨a, b, c⟩ := countsB_iff.1 h1
 obtain ⟨d, e⟩ := listedB_all h2
 obtain ⟨f, g⟩ := listedB_all h3
 exact ⟨a, b, c, d, e, f, g, listedB_lt h2, listedB_lt h3⟩
theorem isPost_ok (w : Watch) (p : Post) : Ctr Tryd.prog 128 [p.v, .pt w.cs] [] (.bool (postB w.Now p)) [] := by
 refine Ctr.intro Tryd.mixed Tryd.func128 rfl Tryd.okF128 ?_
 simp -implicitDefEqProofs -dsimp only [go_sem, Tryd.ntmps128, Tryd.results128]
 simp -implicitDefEqProofs -dsimp only [go_sem, Post.v, Watch.cs]
 repeat' (first | (refine WeakR.drop' ?_ (by rfl); first | rfl | (simp [postB, *]; done)) | ((first | refine callT.at (in_ok _ _ _) ⟨leA, leA, leA, trivial⟩ ?_ | refine callS.at (in_ok _ _ _) ⟨leA, leA, leA, trivial⟩ ?_); simp -implicitDefEqProofs -dsimp only [go_sem, *]) | ((first | refine callT.at (isStationId_ok _) ⟨leA, trivial⟩ ?_ | refine callS.at (isStationId_ok _) ⟨leA, trivial⟩ ?_); simp -implicitDefEqProofs -dsimp only [go_sem, *]) | (refine guardT.splitT (fun _ => ?_) (fun _ => ?_) <;> simp -implicitDefEqProofs -dsimp only [go_sem, *]) | (refine guardT.splitF (fun _ => ?_) (fun _ => ?_) <;> simp -implicitDefEqProofs -dsimp only [go_sem, *]) | (refine condT.split (fun _ => ?_) (fun _ => ?_) <;> simp -implicitDefEqProofs -dsimp only [go_sem, *]))
theorem isShock_ok (w : Watch) (hw : 1 ≤ w.Next ∧ w.Next ≤ 999) (x : Shock) : Ctr Tryd.prog 129 [x.v, .pt w.cs] [] (.bool (shockB w.Next w.Now x)) [] := by
 refine Ctr.intro Tryd.mixed Tryd.func129 rfl Tryd.okF129 ?_
 simp -implicitDefEqProofs -dsimp only [go_sem, Tryd.ntmps129, Tryd.results129]
 simp -implicitDefEqProofs -dsimp only [go_sem, Shock.v, Watch.cs]
 have hw1 : IntKind.i64.wrap (w.Next - 1) = w.Next - 1 := wrap_i64 (by omega) (by omega)
 repeat' (first | (refine WeakR.drop' ?_ (by rfl); first | rfl | (simp [shockB, *]; done)) | ((first | refine callT.at (in_ok _ _ _) ⟨leA, leA, leA, trivial⟩ ?_ | refine callS.at (in_ok _ _ _) ⟨leA, leA, leA, trivial⟩ ?_); simp -implicitDefEqProofs -dsimp only [go_sem, *]) | ((first | refine callT.at (isQuakeSize_ok _) ⟨leA, trivial⟩ ?_ | refine callS.at (isQuakeSize_ok _) ⟨leA, trivial⟩ ?_); simp -implicitDefEqProofs -dsimp only [go_sem, *]) | (refine guardT.splitT (fun _ => ?_) (fun _ => ?_) <;> simp -implicitDefEqProofs -dsimp only [go_sem, *]) | (refine guardT.splitF (fun _ => ?_) (fun _ => ?_) <;> simp -implicitDefEqProofs -dsimp only [go_sem, *]))
theorem stationOf_ok (p : Post) : Ctr Tryd.prog 132 [p.v] [] (.int .i64 p.Station) [] := by
 refine Ctr.intro Tryd.mixed Tryd.func132 rfl Tryd.okF132 ?_
 simp -implicitDefEqProofs -dsimp only [go_sem, Tryd.ntmps132, Tryd.results132]
 simp -implicitDefEqProofs -dsimp only [go_sem, Post.v]
 exact WeakR.drop' rfl (by rfl)
theorem numberOf_ok (x : Shock) : Ctr Tryd.prog 134 [x.v] [] (.int .i64 x.Number) [] := by
 refine Ctr.intro Tryd.mixed Tryd.func134 rfl Tryd.okF134 ?_
 simp -implicitDefEqProofs -dsimp only [go_sem, Tryd.ntmps134, Tryd.results134]
 simp -implicitDefEqProofs -dsimp only [go_sem, Shock.v]
 exact WeakR.drop' rfl (by rfl)
theorem iIsWatch_ok (w : Watch) (hp : w.Posts.length ≤ 281474976710656) (hs : w.Shocks.length ≤ 281474976710656) : Ctr Tryd.prog 81 [w.v] [] (.bool (wB w)) [] := by
 refine Ctr.intro Tryd.mixed Tryd.func81 rfl Tryd.okF81 ?_
 simp -implicitDefEqProofs -dsimp only [go_sem, Tryd.ntmps81, Tryd.results81]
 simp -implicitDefEqProofs -dsimp only [go_sem, Watch.v]
 have fin : ∀ b, b = wB w → WeakR 0 (.bool b) [some w.cs] (.bool (wB w)) [] := fun b h => WeakR.drop' (by rw [h]) (by rfl)
 (first | refine callT.at (isTick_ok _) ⟨leA, trivial⟩ ?_ | refine callS.at (isTick_ok _) ⟨leA, trivial⟩ ?_)
 simp -implicitDefEqProofs -dsimp only [go_sem]
 refine guardT.splitT (fun h1 => ?_) (fun h1 => ?_) <;> simp -implicitDefEqProofs -dsimp only [go_sem, h1]
 rotate_left
 · exact WeakR.drop' (by simp [wB, countsB, h1]) (by rfl)
 (first | refine callT.at (in_ok _ _ _) ⟨leA, leA, leA, trivial⟩ ?_ | refine callS.at (in_ok _ _ _) ⟨leA, leA, leA, trivial⟩ ?_)
 simp -implicitDefEqProofs -dsimp only [go_sem, h1]
 refine guardT.splitT (fun h2 => ?_) (fun h2 => ?_) <;> simp -implicitDefEqProofs -dsimp only [go_sem, h1, h2]
 rotate_left
 · exact WeakR.drop' (by simp [wB, countsB, h1, h2]) (by rfl)
 (first | refine callT.at (in_ok _ _ _) ⟨leA, leA, leA, trivial⟩ ?_ | refine callS.at (in_ok _ _ _) ⟨leA, leA, leA, trivial⟩ ?_)
 simp -implicitDefEqProofs -dsimp only [go_sem, h1, h2]
 refine guardT.splitT (fun h3 => ?_) (fun h3 => ?_) <;> simp -implicitDefEqProofs -dsimp only [go_sem, h1, h2, h3]
 rotate_left
 · exact WeakR.drop' (by simp [wB, countsB, h1, h2, h3]) (by rfl)
 have hc : countsB w = true := by simp [countsB, h1, h2, h3]
 have hw := (countsB_iff.1 hc).2.1
 (first | refine callT.at (areListedPost_ok w.Posts (postB w.Now) Post.Station 8 _ _ [.pt w.cs] [] (fun d => by cases d <;> rfl) (fun _ => rfl) (fun x => isPost_ok w x) stationOf_ok 8 rfl hp) ⟨leA, leA, leA, leA, trivial⟩ ?_ | refine callS.at (areListedPost_ok w.Posts (postB w.Now) Post.Station 8 _ _ [.pt w.cs] [] (fun d => by cases d <;> rfl) (fun _ => rfl) (fun x => isPost_ok w x) stationOf_ok 8 rfl hp) ⟨leA, leA, leA, leA, trivial⟩ ?_)
 simp -implicitDefEqProofs -dsimp only [go_sem, h1, h2, h3]
 refine guardT.splitT (fun h4 => ?_) (fun h4 => ?_) <;> simp -implicitDefEqProofs -dsimp only [go_sem, h1, h2, h3, h4]
 rotate_left
 · exact WeakR.drop' (by simp [wB, hc, h4]) (by rfl)
 (first | refine callT.at (areListedShock_ok w.Shocks (shockB w.Next w.Now) Shock.Number 6 _ _ [.pt w.cs] [] (fun d => by cases d <;> rfl) (fun _ => rfl) (fun x => isShock_ok w hw x) numberOf_ok 6 rfl hs) ⟨leA, leA, leA, leA, trivial⟩ ?_ | refine callS.at (areListedShock_ok w.Shocks (shockB w.Next w.Now) Shock.Number 6 _ _ [.pt w.cs] [] (fun d => by cases d <;> rfl) (fun _ => rfl) (fun x => isShock_ok w hw x) numberOf_ok 6 rfl hs) ⟨leA, leA, leA, leA, trivial⟩ ?_)
 simp -implicitDefEqProofs -dsimp only [go_sem, h1, h2, h3, h4]
 exact WeakR.drop' (by simp [wB, hc, h4]) (by rfl)
theorem listedB_of {α : Type} {p : α → Bool} {k : α → Int} {m : Nat} {L : List α} (h : (List.range L.length).all (listedQ p k L) = true) (hm : L.length ≤ m) : listedB p k m L = true := by
 simp [listedB, h, hm]
theorem l25Shock_ok (w : Watch) (hw : 1 ≤ w.Next ∧ w.Next ≤ 999) (x : Shock) : Ctr Tryd.prog 137 [w.v, x.v] [] (.bool (shockB w.Next w.Now x)) [] := by
 refine Ctr.intro Tryd.mixed Tryd.func137 rfl Tryd.okF137 ?_
 simp -implicitDefEqProofs -dsimp only [go_sem, Tryd.ntmps137, Tryd.results137]
 simp -implicitDefEqProofs -dsimp only [go_sem, Shock.v, Watch.v]
 have hw1 : IntKind.i64.wrap (w.Next - 1) = w.Next - 1 := wrap_i64 (by omega) (by omega)
 repeat' (first | (refine WeakR.drop' ?_ (by rfl); first | rfl | (simp [shockB, *]; done)) | ((first | refine callT.at (l1In_ok _ _ _) ⟨leA, leA, leA, trivial⟩ ?_ | refine callS.at (l1In_ok _ _ _) ⟨leA, leA, leA, trivial⟩ ?_); simp -implicitDefEqProofs -dsimp only [go_sem, *]) | (refine guardT.splitT (fun _ => ?_) (fun _ => ?_) <;> simp -implicitDefEqProofs -dsimp only [go_sem, *]) | (refine guardT.splitF (fun _ => ?_) (fun _ => ?_) <;> simp -implicitDefEqProofs -dsimp only [go_sem, *]))
theorem l25Good_ok (w : Watch) (hp : w.Posts.length ≤ 281474976710656) (hs : w.Shocks.length ≤ 281474976710656) : Ctr Tryd.prog 86 [w.v] [] (.bool (wB w)) [] := by
 refine Ctr.intro Tryd.mixed Tryd.func86 rfl Tryd.okF86 ?_
 simp -implicitDefEqProofs -dsimp only [go_sem, Tryd.ntmps86, Tryd.results86]
 simp -implicitDefEqProofs -dsimp only [go_sem, Watch.v]
 (first | refine callT.at (l2Tick_ok _) ⟨leA, trivial⟩ ?_ | refine callS.at (l2Tick_ok _) ⟨leA, trivial⟩ ?_)
 simp -implicitDefEqProofs -dsimp only [go_sem]
 refine guardT.splitF (fun h1 => ?_) (fun h1 => ?_) <;> simp -implicitDefEqProofs -dsimp only [go_sem, h1]
 rotate_left
 · exact WeakR.drop' (by simp at h1; simp [wB, countsB, h1]) (by rfl)
 refine guardT.splitF (fun h2 => ?_) (fun h2 => ?_) <;> simp -implicitDefEqProofs -dsimp only [go_sem, h2]
 rotate_left
 · have : ¬ w.Posts.length ≤ 8 := by simp at h2; omega
   exact WeakR.drop' (by simp [wB, listedB, this]) (by rfl)
 refine guardT.splitF (fun h3 => ?_) (fun h3 => ?_) <;> simp -implicitDefEqProofs -dsimp only [go_sem, h3]
 rotate_left
 · have : ¬ w.Shocks.length ≤ 6 := by simp at h3; omega
   exact WeakR.drop' (by simp [wB, listedB, this]) (by rfl)
 (first | refine callT.at (l1In_ok _ _ _) ⟨leA, leA, leA, trivial⟩ ?_ | refine callS.at (l1In_ok _ _ _) ⟨leA, leA, leA, trivial⟩ ?_)
 simp -implicitDefEqProofs -dsimp only [go_sem]
 refine guardT.splitF (fun h4 => ?_) (fun h4 => ?_) <;> simp -implicitDefEqProofs -dsimp only [go_sem, h4]
 rotate_left
 · exact WeakR.drop' (by simp at h4; simp [wB, countsB, h4]) (by rfl)
 (first | refine callT.at (l1In_ok _ _ _) ⟨leA, leA, leA, trivial⟩ ?_ | refine callS.at (l1In_ok _ _ _) ⟨leA, leA, leA, trivial⟩ ?_)
 simp -implicitDefEqProofs -dsimp only [go_sem]
 refine condT.split (fun h5 => ?_) (fun h5 => ?_) <;> simp -implicitDefEqProofs -dsimp only [go_sem, h5]
 · exact WeakR.drop' (by simp at h5; simp [wB, countsB, h5]) (by rfl)
 have hc : countsB w = true := by simp at h1 h4 h5; simp [countsB, h1, h4, h5]
 have hcn := countsB_iff.1 hc
 have hpl : w.Posts.length ≤ 8 := by simp at h2; omega
 have hsl : w.Shocks.length ≤ 6 := by simp at h3; omega
 clear h1 h2 h3 h4 h5
 refine LoopT.intro (fun i : Nat => i ≤ (w.Posts).length ∧ (List.range i).all (listedQ (postB w.Now) Post.Station (w.Posts)) = true) (fun i => ⟨[.undef, .ptr 0 0, .undef, .int .i64 i, .undef, .undef, .undef, .undef, .undef, .undef, .undef, .undef, .undef, .undef, .undef, .undef, .undef, .undef, .undef, .undef, .undef, .undef, .undef, .undef, .undef, .undef, .undef, .undef, .undef, .undef, .undef, .undef, .undef, .undef, .undef, .undef, .undef, .undef, .undef, .undef, .undef, .undef, .undef, .undef, .undef, .undef, .undef, .undef, .undef, .undef, .undef, .undef, .undef, .undef, .undef, .undef, .undef, .undef, .undef, .undef, .undef, .undef, .undef, .undef, .undef, .undef, .undef, .undef, .undef, .undef, .undef, .undef, .undef, .undef, .undef, .undef, .undef, .undef, .undef, .undef, .undef, .undef, .undef, .undef, .undef, .undef, .undef, .undef, .undef, .undef, .undef, .undef, .undef, .undef, .undef, .undef, .undef, .undef, .undef, .undef, .undef, .undef, .undef, .undef, .undef, .undef, .undef, .undef, .undef], [some w.cs], 0⟩) (fun i => (w.Posts).length - i) 0 ⟨Nat.zero_le _, rfl⟩ ?_ (fun i hi => ?_)
 · refine Weak.cut (1) (by simp) (by simp) ?_ ?_
   · simp [LeC, LeV, ren, cutF]
   · first | rfl | simp [cutH, cutB, ren, map_ren_rows, Watch.cs]
 simp -implicitDefEqProofs -dsimp only [go_sem, Watch.cs]
 refine condT.split (fun h1 => ?_) (fun h1 => ?_)
 rotate_left
 · simp -implicitDefEqProofs -dsimp only [go_sem, h1, Watch.cs]
   have hi' : i = (w.Posts).length := by simp at h1; omega
   subst hi'
   have hpq := listedB_of hi.2 hpl
   refine LoopT.intro (fun i : Nat => i ≤ (w.Shocks).length ∧ (List.range i).all (listedQ (shockB w.Next w.Now) Shock.Number (w.Shocks)) = true) (fun i => ⟨[.undef, .ptr 0 0, .undef, .undef, .undef, .int .i64 i, .undef, .undef, .undef, .undef, .undef, .undef, .undef, .undef, .undef, .undef, .undef, .undef, .undef, .undef, .undef, .undef, .undef, .undef, .undef, .undef, .undef, .undef, .undef, .undef, .undef, .undef, .undef, .undef, .undef, .undef, .undef, .undef, .undef, .undef, .undef, .undef, .undef, .undef, .undef, .undef, .undef, .undef, .undef, .undef, .undef, .undef, .undef, .undef, .undef, .undef, .undef, .undef, .undef, .undef, .undef, .undef, .undef, .undef, .undef, .undef, .undef, .undef, .undef, .undef, .undef, .undef, .undef, .undef, .undef, .undef, .undef, .undef, .undef, .undef, .undef, .undef, .undef, .undef, .undef, .undef, .undef, .undef, .undef, .undef, .undef, .undef, .undef, .undef, .undef, .undef, .undef, .undef, .undef, .undef, .undef, .undef, .undef, .undef, .undef, .undef, .undef, .undef, .undef], [some w.cs], 0⟩) (fun i => (w.Shocks).length - i) 0 ⟨Nat.zero_le _, rfl⟩ ?_ (fun i hi => ?_)
   · refine Weak.cut (1) (by simp) (by simp) ?_ ?_
     · simp [LeC, LeV, ren, cutF]
     · first | rfl | simp [cutH, cutB, ren, map_ren_rows, Watch.cs]
   simp -implicitDefEqProofs -dsimp only [go_sem, Watch.cs]
   refine condT.split (fun h1 => ?_) (fun h1 => ?_)
   rotate_left
   · simp -implicitDefEqProofs -dsimp only [go_sem, h1, Watch.cs]
     have hi' : i = (w.Shocks).length := by simp at h1; omega
     subst hi'
     exact WeakR.drop' (by rw [wB, hc, hpq, listedB_of hi.2 hsl]; rfl) (by rfl)
   · simp -implicitDefEqProofs -dsimp only [go_sem, h1, Watch.cs]
     have hi' : i < (w.Shocks).length := by simpa using h1
     have h5 := Shock.csl (w.Shocks)[i]
     have hr := rows_at Shock.csl hi'
     have hbad : listedQ (shockB w.Next w.Now) Shock.Number (w.Shocks) i = false → _ := fun hq => (show V.bool false = V.bool (wB w) by rw [wB, listedB_false hi' hq]; simp)
     cases i with
     | zero =>
       have hz : ((0 : Nat) : Int) = 0 := rfl
       have hr0 := hr
       rw [Nat.zero_mul, List.drop_zero] at hr0
       (repeat ((repeat1' (first | simp -implicitDefEqProofs -dsimp only [go_sem, hr, hr0, hz, Shock.cs, Watch.cs] | simp -dsimp (disch := omega) only [wrap_i64])); repeat (with_reducible refine sideA ?_)))
       repeat' (first | (refine WeakR.drop' (hbad ?_) (by rfl); (rw [listedQ_zero hi']; (try simp only [Bool.not_eq_false', Bool.not_eq_true', decide_eq_false_iff_not, decide_eq_true_eq] at *); simp [*]; try omega; done)) | ((first | refine callT.at (l25Shock_ok w hcn.2.1 (w.Shocks[0])) ⟨leA, leA, trivial⟩ ?_ | refine callS.at (l25Shock_ok w hcn.2.1 (w.Shocks[0])) ⟨leA, leA, trivial⟩ ?_); simp -implicitDefEqProofs -dsimp only [go_sem, *, Watch.cs]) | (refine guardT.splitT (fun _ => ?_) (fun _ => ?_) <;> simp -implicitDefEqProofs -dsimp only [go_sem, *, Watch.cs]) | (refine guardT.splitF (fun _ => ?_) (fun _ => ?_) <;> simp -implicitDefEqProofs -dsimp only [go_sem, *, Watch.cs]) | (refine condT.split (fun _ => ?_) (fun _ => ?_) <;> simp -implicitDefEqProofs -dsimp only [go_sem, *, Watch.cs]) | (with_reducible refine And.intro (by first | omega | (show drawOk _ = true; kernel_rfl)) ?_; (repeat ((repeat1' (first | simp -implicitDefEqProofs -dsimp only [go_sem, *, Shock.cs, Watch.cs] | simp -dsimp (disch := omega) only [wrap_i64])); repeat (with_reducible refine sideA ?_)))) | (refine ⟨0 + 1, ⟨hi', range_all_succ hi.2 (by rw [listedQ_zero hi']; (try simp only [Bool.not_eq_false', Bool.not_eq_true', decide_eq_false_iff_not, decide_eq_true_eq] at *); simp [*]; try omega)⟩, ?_, by omega⟩; refine Weak.cut (1) (by simp) (by simp) ?_ ?_; (· (try (repeat1' (first | simp -implicitDefEqProofs -dsimp only [go_sem] | simp -dsimp (disch := omega) only [wrap_i64])); simp [LeC, LeV, ren, cutF]; try omega)); (· (first | rfl | simp [cutH, cutB, ren, map_ren_rows, Watch.cs]))))
     | succ j =>
       have hj : j < (w.Shocks).length := by omega
       have hw1 : IntKind.i64.wrap (((j + 1 : Nat) : Int) - 1) = (j : Int) := by rw [wrap_i64 (by omega) (by omega)]; omega
       have hg : decide ((0 : Int) < ((j + 1 : Nat) : Int)) = true := decide_eq_true (by omega)
       have hr2 := rows_at Shock.csl hj
       (repeat ((repeat1' (first | simp -implicitDefEqProofs -dsimp only [go_sem, hr, hg, hw1, hr2, Shock.cs, Watch.cs] | simp -dsimp (disch := omega) only [wrap_i64])); repeat (with_reducible refine sideA ?_)))
       repeat' (first | (refine WeakR.drop' (hbad ?_) (by rfl); (rw [listedQ_succ hi']; (try simp only [Bool.not_eq_false', Bool.not_eq_true', decide_eq_false_iff_not, decide_eq_true_eq] at *); simp [*]; try omega; done)) | ((first | refine callT.at (l25Shock_ok w hcn.2.1 (w.Shocks[j + 1])) ⟨leA, leA, trivial⟩ ?_ | refine callS.at (l25Shock_ok w hcn.2.1 (w.Shocks[j + 1])) ⟨leA, leA, trivial⟩ ?_); simp -implicitDefEqProofs -dsimp only [go_sem, *, Watch.cs]) | (refine guardT.splitT (fun _ => ?_) (fun _ => ?_) <;> simp -implicitDefEqProofs -dsimp only [go_sem, *, Watch.cs]) | (refine guardT.splitF (fun _ => ?_) (fun _ => ?_) <;> simp -implicitDefEqProofs -dsimp only [go_sem, *, Watch.cs]) | (refine condT.split (fun _ => ?_) (fun _ => ?_) <;> simp -implicitDefEqProofs -dsimp only [go_sem, *, Watch.cs]) | (with_reducible refine And.intro (by first | omega | (show drawOk _ = true; kernel_rfl)) ?_; (repeat ((repeat1' (first | simp -implicitDefEqProofs -dsimp only [go_sem, *, Shock.cs, Watch.cs] | simp -dsimp (disch := omega) only [wrap_i64])); repeat (with_reducible refine sideA ?_)))) | (refine ⟨j + 1 + 1, ⟨hi', range_all_succ hi.2 (by rw [listedQ_succ hi']; (try simp only [Bool.not_eq_false', Bool.not_eq_true', decide_eq_false_iff_not, decide_eq_true_eq] at *); simp [*]; try omega)⟩, ?_, by omega⟩; refine Weak.cut (1) (by simp) (by simp) ?_ ?_; (· (try (repeat1' (first | simp -implicitDefEqProofs -dsimp only [go_sem] | simp -dsimp (disch := omega) only [wrap_i64])); simp [LeC, LeV, ren, cutF]; try omega)); (· (first | rfl | simp [cutH, cutB, ren, map_ren_rows, Watch.cs]))))
 · simp -implicitDefEqProofs -dsimp only [go_sem, h1, Watch.cs]
   have hi' : i < (w.Posts).length := by simpa using h1
   have h5 := Post.csl (w.Posts)[i]
   have hr := rows_at Post.csl hi'
   have hbad : listedQ (postB w.Now) Post.Station (w.Posts) i = false → _ := fun hq => (show V.bool false = V.bool (wB w) by rw [wB, listedB_false hi' hq]; simp)
   cases i with
   | zero =>
     have hz : ((0 : Nat) : Int) = 0 := rfl
     have hr0 := hr
     rw [Nat.zero_mul, List.drop_zero] at hr0
     (repeat ((repeat1' (first | simp -implicitDefEqProofs -dsimp only [go_sem, hr, hr0, hz, Post.cs, Watch.cs] | simp -dsimp (disch := omega) only [wrap_i64])); repeat (with_reducible refine sideA ?_)))
     repeat' (first | (refine WeakR.drop' (hbad ?_) (by rfl); (rw [listedQ_zero hi']; (try simp only [Bool.not_eq_false', Bool.not_eq_true', decide_eq_false_iff_not, decide_eq_true_eq] at *); simp [postB, *]; try omega; done)) | ((first | refine callT.at (l1In_ok _ _ _) ⟨leA, leA, leA, trivial⟩ ?_ | refine callS.at (l1In_ok _ _ _) ⟨leA, leA, leA, trivial⟩ ?_); simp -implicitDefEqProofs -dsimp only [go_sem, *, Watch.cs]) | (refine guardT.splitT (fun _ => ?_) (fun _ => ?_) <;> simp -implicitDefEqProofs -dsimp only [go_sem, *, Watch.cs]) | (refine guardT.splitF (fun _ => ?_) (fun _ => ?_) <;> simp -implicitDefEqProofs -dsimp only [go_sem, *, Watch.cs]) | (refine condT.split (fun _ => ?_) (fun _ => ?_) <;> simp -implicitDefEqProofs -dsimp only [go_sem, *, Watch.cs]) | (with_reducible refine And.intro (by first | omega | (show drawOk _ = true; kernel_rfl)) ?_; (repeat ((repeat1' (first | simp -implicitDefEqProofs -dsimp only [go_sem, *, Post.cs, Watch.cs] | simp -dsimp (disch := omega) only [wrap_i64])); repeat (with_reducible refine sideA ?_)))) | (refine ⟨0 + 1, ⟨hi', range_all_succ hi.2 (by rw [listedQ_zero hi']; (try simp only [Bool.not_eq_false', Bool.not_eq_true', decide_eq_false_iff_not, decide_eq_true_eq] at *); simp [postB, *]; try omega)⟩, ?_, by omega⟩; refine Weak.cut (1) (by simp) (by simp) ?_ ?_; (· (try (repeat1' (first | simp -implicitDefEqProofs -dsimp only [go_sem] | simp -dsimp (disch := omega) only [wrap_i64])); simp [LeC, LeV, ren, cutF]; try omega)); (· (first | rfl | simp [cutH, cutB, ren, map_ren_rows, Watch.cs]))))
   | succ j =>
     have hj : j < (w.Posts).length := by omega
     have hw1 : IntKind.i64.wrap (((j + 1 : Nat) : Int) - 1) = (j : Int) := by rw [wrap_i64 (by omega) (by omega)]; omega
     have hg : decide ((0 : Int) < ((j + 1 : Nat) : Int)) = true := decide_eq_true (by omega)
     have hr2 := rows_at Post.csl hj
     (repeat ((repeat1' (first | simp -implicitDefEqProofs -dsimp only [go_sem, hr, hg, hw1, hr2, Post.cs, Watch.cs] | simp -dsimp (disch := omega) only [wrap_i64])); repeat (with_reducible refine sideA ?_)))
     repeat' (first | (refine WeakR.drop' (hbad ?_) (by rfl); (rw [listedQ_succ hi']; (try simp only [Bool.not_eq_false', Bool.not_eq_true', decide_eq_false_iff_not, decide_eq_true_eq] at *); simp [postB, *]; try omega; done)) | ((first | refine callT.at (l1In_ok _ _ _) ⟨leA, leA, leA, trivial⟩ ?_ | refine callS.at (l1In_ok _ _ _) ⟨leA, leA, leA, trivial⟩ ?_); simp -implicitDefEqProofs -dsimp only [go_sem, *, Watch.cs]) | (refine guardT.splitT (fun _ => ?_) (fun _ => ?_) <;> simp -implicitDefEqProofs -dsimp only [go_sem, *, Watch.cs]) | (refine guardT.splitF (fun _ => ?_) (fun _ => ?_) <;> simp -implicitDefEqProofs -dsimp only [go_sem, *, Watch.cs]) | (refine condT.split (fun _ => ?_) (fun _ => ?_) <;> simp -implicitDefEqProofs -dsimp only [go_sem, *, Watch.cs]) | (with_reducible refine And.intro (by first | omega | (show drawOk _ = true; kernel_rfl)) ?_; (repeat ((repeat1' (first | simp -implicitDefEqProofs -dsimp only [go_sem, *, Post.cs, Watch.cs] | simp -dsimp (disch := omega) only [wrap_i64])); repeat (with_reducible refine sideA ?_)))) | (refine ⟨j + 1 + 1, ⟨hi', range_all_succ hi.2 (by rw [listedQ_succ hi']; (try simp only [Bool.not_eq_false', Bool.not_eq_true', decide_eq_false_iff_not, decide_eq_true_eq] at *); simp [postB, *]; try omega)⟩, ?_, by omega⟩; refine Weak.cut (1) (by simp) (by simp) ?_ ?_; (· (try (repeat1' (first | simp -implicitDefEqProofs -dsimp only [go_sem] | simp -dsimp (disch := omega) only [wrap_i64])); simp [LeC, LeV, ren, cutF]; try omega)); (· (first | rfl | simp [cutH, cutB, ren, map_ren_rows, Watch.cs]))))
end Go.Proofs
end
section
namespace Go.Lv
def idxI {α : Type} (p : α → Bool) (L : List α) : Int := match L.findIdx? p with
 | some i => i
 | none => -1
theorem idxI_found {α : Type} {p : α → Bool} {L : List α} {i : Nat} (h : i < L.length) (h0 : (L.take i).any p = false) (h1 : p L[i] = true) : idxI p L = i := by
 have : L.findIdx? p = some i := by
   rw [List.findIdx?_eq_some_iff_getElem]
   refine ⟨h, h1, fun j hj => ?_⟩
   have := List.any_eq_false.1 h0 L[j] (by rw [List.mem_take_iff_getElem]; exact ⟨j, by omega, rfl⟩)
   simpa using this
 simp [idxI, this]
theorem idxI_none {α : Type} {p : α → Bool} {L : List α} (h : L.any p = false) : idxI p L = -1 := by
 have : L.findIdx? p = none := by
   rw [List.findIdx?_eq_none_iff]
   intro x hx
   have := List.any_eq_false.1 h x hx
   simpa using this
 simp [idxI, this]
theorem idxI_any {α : Type} (p : α → Bool) (L : List α) : decide (0 ≤ idxI p L) = L.any p := by
 unfold idxI
 cases h : L.findIdx? p with
 | none =>
   rw [List.findIdx?_eq_none_iff] at h
   symm
   rw [show decide ((0 : Int) ≤ -1) = false from rfl, List.any_eq_false]
   intro x hx
   simp [h x hx]
 | some i =>
   rw [List.findIdx?_eq_some_iff_getElem] at h
   obtain ⟨hi, h1, _⟩ := h
   symm
   rw [show decide ((0 : Int) ≤ (i : Int)) = true from decide_eq_true (by omega), List.any_eq_true]
   exact ⟨_, List.getElem_mem hi, h1⟩
end Go.Lv
end
section
set_option maxRecDepth 100000
namespace Go.Proofs
open Go.Lv
theorem indexFuncPost_ok (L : List Post) (p : Post → Bool) (fv : Nat) (vc : List V) (hvc : ∀ d, vc.all (noOwn d) = true) (hv : ∀ x, Ctr Tryd.prog fv (Post.v x :: vc) [] (.bool (p x)) []) (hl : L.length ≤ 281474976710656) :
   Ctr Tryd.prog 183 [Post.sl L, .fn (.func fv) [] vc] [] (.int .i64 (idxI p L)) [] := by
 refine Ctr.intro Tryd.mixed Tryd.func183 rfl Tryd.okF183 ?_
 simp -implicitDefEqProofs -dsimp only [go_sem, Tryd.ntmps183, Tryd.results183]
 have hvc2 : ∀ f d, vc.map (ren f d) = vc := fun f d => map_ren f (hvc d)
 refine LoopT.intro (fun i : Nat => i ≤ L.length ∧ (L.take i).any p = false) (fun i => ⟨[Post.sl L, .fn (.func fv) [] vc, .undef, .undef, .undef, .undef, .undef, .int .i64 L.length, .int .i64 i, .undef, .undef, .undef, .undef, .undef, .undef, .undef, .undef, .undef, .undef], [], 0⟩) (fun i => L.length - i) 0 ⟨Nat.zero_le _, rfl⟩ ?_ (fun i hi => ?_)
 · refine Weak.cut (0) (by simp) (by simp) ?_ ?_
   · simp [LeC, LeV, ren, cutF, hvc2]
   · rfl
 simp -implicitDefEqProofs -dsimp only [go_sem]
 refine condT.split (fun h1 => ?_) (fun h1 => ?_)
 · simp -implicitDefEqProofs -dsimp only [go_sem, h1]
   have hi' : i < L.length := by simpa using h1
   have h5 := Post.csl L[i]
   have hr := rows_at Post.csl hi'
   (repeat1' (first | simp -implicitDefEqProofs -dsimp only [go_sem, hr, Post.cs] | simp -dsimp (disch := omega) only [wrap_i64]))
   repeat (with_reducible refine sideA ?_)
   refine callS.intro (hv L[i]) ⟨.inl rfl, LeL_same (hvc2 _ _)⟩ (.inl (by simp only [List.nil_append, List.cons_append, List.all_cons, hvc, Bool.and_true]; rfl)) ?_
   simp -implicitDefEqProofs -dsimp only [go_sem]
   refine condT.split (fun h2 => ?_) (fun h2 => ?_) <;> simp -implicitDefEqProofs -dsimp only [go_sem, h2]
   · exact WeakR.drop' (by rw [idxI_found hi' hi.2 h2]) (by rfl)
   · refine ⟨i + 1, ⟨hi', by rw [List.take_succ_eq_append_getElem hi']; simp only [List.any_append, hi.2, List.any_cons, h2, List.any_nil, Bool.or_self]⟩, ?_, by omega⟩
     refine Weak.cut (0) (by simp) (by simp) ?_ ?_
     · rw [wrap_i64 (by omega) (by omega)]
       simp [LeC, LeV, ren, cutF, hvc2]
     · rfl
 · simp -implicitDefEqProofs -dsimp only [go_sem, h1]
   have hi' : i = L.length := by simp at h1; omega
   subst hi'
   have h2 := hi.2
   rw [List.take_length] at h2
   exact WeakR.drop' (by rw [idxI_none h2]) (by rfl)
end Go.Proofs
end
section
set_option maxRecDepth 100000
namespace Go.Proofs
open Go.Lv
theorem indexFuncShock_ok (L : List Shock) (p : Shock → Bool) (fv : Nat) (vc : List V) (hvc : ∀ d, vc.all (noOwn d) = true) (hv : ∀ x, Ctr Tryd.prog fv (Shock.v x :: vc) [] (.bool (p x)) []) (hl : L.length ≤ 281474976710656) :
   Ctr Tryd.prog 146 [Shock.sl L, .fn (.func fv) [] vc] [] (.int .i64 (idxI p L)) [] := by
 refine Ctr.intro Tryd.mixed Tryd.func146 rfl Tryd.okF146 ?_
 simp -implicitDefEqProofs -dsimp only [go_sem, Tryd.ntmps146, Tryd.results146]
 have hvc2 : ∀ f d, vc.map (ren f d) = vc := fun f d => map_ren f (hvc d)
 refine LoopT.intro (fun i : Nat => i ≤ L.length ∧ (L.take i).any p = false) (fun i => ⟨[Shock.sl L, .fn (.func fv) [] vc, .undef, .undef, .undef, .undef, .undef, .int .i64 L.length, .int .i64 i, .undef, .undef, .undef, .undef, .undef, .undef, .undef, .undef, .undef, .undef], [], 0⟩) (fun i => L.length - i) 0 ⟨Nat.zero_le _, rfl⟩ ?_ (fun i hi => ?_)
 · refine Weak.cut (0) (by simp) (by simp) ?_ ?_
   · simp [LeC, LeV, ren, cutF, hvc2]
   · rfl
 simp -implicitDefEqProofs -dsimp only [go_sem]
 refine condT.split (fun h1 => ?_) (fun h1 => ?_)
 · simp -implicitDefEqProofs -dsimp only [go_sem, h1]
   have hi' : i < L.length := by simpa using h1
   have h5 := Shock.csl L[i]
   have hr := rows_at Shock.csl hi'
   (repeat1' (first | simp -implicitDefEqProofs -dsimp only [go_sem, hr, Shock.cs] | simp -dsimp (disch := omega) only [wrap_i64]))
   repeat (with_reducible refine sideA ?_)
   refine callS.intro (hv L[i]) ⟨.inl rfl, LeL_same (hvc2 _ _)⟩ (.inl (by simp only [List.nil_append, List.cons_append, List.all_cons, hvc, Bool.and_true]; rfl)) ?_
   simp -implicitDefEqProofs -dsimp only [go_sem]
   refine condT.split (fun h2 => ?_) (fun h2 => ?_) <;> simp -implicitDefEqProofs -dsimp only [go_sem, h2]
   · exact WeakR.drop' (by rw [idxI_found hi' hi.2 h2]) (by rfl)
   · refine ⟨i + 1, ⟨hi', by rw [List.take_succ_eq_append_getElem hi']; simp only [List.any_append, hi.2, List.any_cons, h2, List.any_nil, Bool.or_self]⟩, ?_, by omega⟩
     refine Weak.cut (0) (by simp) (by simp) ?_ ?_
     · rw [wrap_i64 (by omega) (by omega)]
       simp [LeC, LeV, ren, cutF, hvc2]
     · rfl
 · simp -implicitDefEqProofs -dsimp only [go_sem, h1]
   have hi' : i = L.length := by simp at h1; omega
   subst hi'
   have h2 := hi.2
   rw [List.take_length] at h2
   exact WeakR.drop' (by rw [idxI_none h2]) (by rfl)
end Go.Proofs
end
section
set_option maxRecDepth 100000
namespace Go.Proofs
open Go.Lv
def shockIs (n : Int) (x : Shock) : Bool := x.Number == n
def postIs (n : Int) (x : Post) : Bool := x.Station == n
theorem shockIs_ok (x : Shock) (n : Int) : Ctr Tryd.prog 147 [x.v, .pt [.int .i64 n]] [] (.bool (shockIs n x)) [] := by
 refine Ctr.intro Tryd.mixed Tryd.func147 rfl Tryd.okF147 ?_
 simp -implicitDefEqProofs -dsimp only [go_sem, Tryd.ntmps147, Tryd.results147]
 simp -implicitDefEqProofs -dsimp only [go_sem, Shock.v]
 exact WeakR.drop' rfl (by rfl)
theorem shockAt_ok (w : Watch) (n : Int) (hs : w.Shocks.length ≤ 281474976710656) : Ctr Tryd.prog 94 [w.v, .int .i64 n] [] (.int .i64 (idxI (shockIs n) w.Shocks)) [] := by
 refine Ctr.intro Tryd.mixed Tryd.func94 rfl Tryd.okF94 ?_
 simp -implicitDefEqProofs -dsimp only [go_sem, Tryd.ntmps94, Tryd.results94]
 simp -implicitDefEqProofs -dsimp only [go_sem, Watch.v]
 (first | refine callT.at (indexFuncShock_ok w.Shocks (shockIs n) _ [.pt [.int .i64 n]] (fun d => by cases d <;> rfl) (fun x => shockIs_ok x n) hs) ⟨leA, leA, trivial⟩ ?_ | refine callS.at (indexFuncShock_ok w.Shocks (shockIs n) _ [.pt [.int .i64 n]] (fun d => by cases d <;> rfl) (fun x => shockIs_ok x n) hs) ⟨leA, leA, trivial⟩ ?_)
 simp -implicitDefEqProofs -dsimp only [go_sem]
 exact WeakR.drop' rfl (by rfl)
theorem l25Find_ok (w : Watch) (n : Int) (hs : w.Shocks.length ≤ 281474976710656) : Ctr Tryd.prog 96 [w.v, .int .i64 n] [] (.int .i64 (idxI (shockIs n) w.Shocks)) [] := by
 refine Ctr.intro Tryd.mixed Tryd.func96 rfl Tryd.okF96 ?_
 simp -implicitDefEqProofs -dsimp only [go_sem, Tryd.ntmps96, Tryd.results96]
 simp -implicitDefEqProofs -dsimp only [go_sem, Watch.v]
 refine LoopT.intro (fun i : Nat => i ≤ w.Shocks.length ∧ (w.Shocks.take i).any (shockIs n) = false) (fun i => ⟨[.undef, .int .i64 n, .ptr 0 0, .undef, .undef, .int .i64 i, .undef, .undef, .undef, .undef, .undef, .undef, .undef, .undef, .undef, .undef, .undef, .undef, .undef, .undef, .undef, .undef], [some w.cs], 0⟩) (fun i => w.Shocks.length - i) 0 ⟨Nat.zero_le _, rfl⟩ ?_ (fun i hi => ?_)
 · refine Weak.cut (1) (by simp) (by simp) ?_ ?_
   · simp [LeC, LeV, ren, cutF]
   · simp [cutH, cutB, ren, map_ren_rows, Watch.cs]
 simp -implicitDefEqProofs -dsimp only [go_sem, Watch.cs]
 refine condT.split (fun h1 => ?_) (fun h1 => ?_)
 · simp -implicitDefEqProofs -dsimp only [go_sem, h1, Watch.cs]
   have hi' : i < w.Shocks.length := by simpa using h1
   have h5 := Shock.csl w.Shocks[i]
   have hr := rows_at Shock.csl hi'
   (repeat ((repeat1' (first | simp -implicitDefEqProofs -dsimp only [go_sem, hr, Shock.cs, Watch.cs] | simp -dsimp (disch := omega) only [wrap_i64])); repeat (with_reducible refine sideA ?_)))
   refine condT.split (fun h2 => ?_) (fun h2 => ?_) <;> (repeat ((repeat1' (first | simp -implicitDefEqProofs -dsimp only [go_sem, h2] | simp -dsimp (disch := omega) only [wrap_i64])); repeat (with_reducible refine sideA ?_)))
   · exact WeakR.drop' (by rw [idxI_found hi' hi.2 h2]) (by rfl)
   · refine ⟨i + 1, ⟨hi', by rw [List.take_succ_eq_append_getElem hi']; simp only [List.any_append, hi.2, List.any_cons, shockIs, h2, List.any_nil, Bool.or_self]⟩, ?_, by omega⟩
     refine Weak.cut (1) (by simp) (by simp) ?_ ?_
     · simp [LeC, LeV, ren, cutF]
     · simp [cutH, cutB, ren, map_ren_rows, Watch.cs]
 · simp -implicitDefEqProofs -dsimp only [go_sem, h1]
   have hi' : i = w.Shocks.length := by simp at h1; omega
   subst hi'
   have h2 := hi.2
   rw [List.take_length] at h2
   exact WeakR.drop' (by rw [idxI_none h2]) (by rfl)
theorem postIs_ok (x : Post) (n : Int) : Ctr Tryd.prog 184 [x.v, .pt [.int .i64 n]] [] (.bool (postIs n x)) [] := by
 refine Ctr.intro Tryd.mixed Tryd.func184 rfl Tryd.okF184 ?_
 simp -implicitDefEqProofs -dsimp only [go_sem, Tryd.ntmps184, Tryd.results184]
 simp -implicitDefEqProofs -dsimp only [go_sem, Post.v]
 exact WeakR.drop' rfl (by rfl)
theorem postAt_ok (w : Watch) (n : Int) (hs : w.Posts.length ≤ 281474976710656) : Ctr Tryd.prog 138 [w.v, .int .i64 n] [] (.int .i64 (idxI (postIs n) w.Posts)) [] := by
 refine Ctr.intro Tryd.mixed Tryd.func138 rfl Tryd.okF138 ?_
 simp -implicitDefEqProofs -dsimp only [go_sem, Tryd.ntmps138, Tryd.results138]
 simp -implicitDefEqProofs -dsimp only [go_sem, Watch.v]
 (first | refine callT.at (indexFuncPost_ok w.Posts (postIs n) _ [.pt [.int .i64 n]] (fun d => by cases d <;> rfl) (fun x => postIs_ok x n) hs) ⟨leA, leA, trivial⟩ ?_ | refine callS.at (indexFuncPost_ok w.Posts (postIs n) _ [.pt [.int .i64 n]] (fun d => by cases d <;> rfl) (fun x => postIs_ok x n) hs) ⟨leA, leA, trivial⟩ ?_)
 simp -implicitDefEqProofs -dsimp only [go_sem]
 exact WeakR.drop' rfl (by rfl)
theorem l25Post_ok (w : Watch) (n : Int) (hs : w.Posts.length ≤ 281474976710656) : Ctr Tryd.prog 226 [w.v, .int .i64 n] [] (.int .i64 (idxI (postIs n) w.Posts)) [] := by
 refine Ctr.intro Tryd.mixed Tryd.func226 rfl Tryd.okF226 ?_
 simp -implicitDefEqProofs -dsimp only [go_sem, Tryd.ntmps226, Tryd.results226]
 simp -implicitDefEqProofs -dsimp only [go_sem, Watch.v]
 refine LoopT.intro (fun i : Nat => i ≤ w.Posts.length ∧ (w.Posts.take i).any (postIs n) = false) (fun i => ⟨[.undef, .int .i64 n, .ptr 0 0, .undef, .undef, .int .i64 i, .undef, .undef, .undef, .undef, .undef, .undef, .undef, .undef, .undef, .undef, .undef, .undef, .undef, .undef, .undef, .undef], [some w.cs], 0⟩) (fun i => w.Posts.length - i) 0 ⟨Nat.zero_le _, rfl⟩ ?_ (fun i hi => ?_)
 · refine Weak.cut (1) (by simp) (by simp) ?_ ?_
   · simp [LeC, LeV, ren, cutF]
   · simp [cutH, cutB, ren, map_ren_rows, Watch.cs]
 simp -implicitDefEqProofs -dsimp only [go_sem, Watch.cs]
 refine condT.split (fun h1 => ?_) (fun h1 => ?_)
 · simp -implicitDefEqProofs -dsimp only [go_sem, h1, Watch.cs]
   have hi' : i < w.Posts.length := by simpa using h1
   have h5 := Post.csl w.Posts[i]
   have hr := rows_at Post.csl hi'
   (repeat ((repeat1' (first | simp -implicitDefEqProofs -dsimp only [go_sem, hr, Post.cs, Watch.cs] | simp -dsimp (disch := omega) only [wrap_i64])); repeat (with_reducible refine sideA ?_)))
   refine condT.split (fun h2 => ?_) (fun h2 => ?_) <;> (repeat ((repeat1' (first | simp -implicitDefEqProofs -dsimp only [go_sem, h2] | simp -dsimp (disch := omega) only [wrap_i64])); repeat (with_reducible refine sideA ?_)))
   · exact WeakR.drop' (by rw [idxI_found hi' hi.2 h2]) (by rfl)
   · refine ⟨i + 1, ⟨hi', by rw [List.take_succ_eq_append_getElem hi']; simp only [List.any_append, hi.2, List.any_cons, postIs, h2, List.any_nil, Bool.or_self]⟩, ?_, by omega⟩
     refine Weak.cut (1) (by simp) (by simp) ?_ ?_
     · simp [LeC, LeV, ren, cutF]
     · simp [cutH, cutB, ren, map_ren_rows, Watch.cs]
 · simp -implicitDefEqProofs -dsimp only [go_sem, h1]
   have hi' : i = w.Posts.length := by simp at h1; omega
   subst hi'
   have h2 := hi.2
   rw [List.take_length] at h2
   exact WeakR.drop' (by rw [idxI_none h2]) (by rfl)
end Go.Proofs
end
section
set_option maxRecDepth 100000
namespace Go.Proofs
open Go.Lv
structure WatchStep where
 Kind : Int
 Number : Int
 Value : Int
def WatchStep.cs (r : WatchStep) : List V := [.int .i64 r.Kind, .int .i64 r.Number, .int .i64 r.Value]
def WatchStep.v (r : WatchStep) : V := .agg [.int .i64 r.Kind, .int .i64 r.Number, .int .i64 r.Value]
theorem WatchStep.csl (a : WatchStep) : a.cs.length = 3 := rfl
instance : FlatP WatchStep.cs 3 := ⟨fun _ => rfl, fun _ d => by cases d <;> rfl, fun _ => rfl, fun _ => rfl⟩
def WatchStep.ok (r : WatchStep) : Prop := i64R r.Kind ∧ i64R r.Number ∧ i64R r.Value
abbrev WatchStep.rows (L : List WatchStep) : List V := Go.Lv.rows WatchStep.cs L
abbrev WatchStep.sl (L : List WatchStep) : V := .sl L.length 3 (Go.Lv.rows WatchStep.cs L)
abbrev WatchStep.zs : List V := [.int .i64 0, .int .i64 0, .int .i64 0]
def WatchStep.mk1 (k : Int) : WatchStep := ⟨k, k + 1, k + 1 + 1⟩
def WatchStep.marks (k : Int) (n : Nat) : List WatchStep := (List.range n).map fun i : Nat => WatchStep.mk1 (k + 3 * (i : Int))
@[simp] theorem WatchStep.marks_len (k : Int) (n : Nat) : (WatchStep.marks k n).length = n := by simp [WatchStep.marks]
end Go.Proofs
end
section
namespace Go.Lv
theorem splice_row {α : Type} {cs : α → List V} {w : Nat} (hw : ∀ a, (cs a).length = w) {L : List α} {i : Nat} (hi : i < L.length) (x : α) : splice (rows cs L) (i * w) (cs x) = rows cs (L.set i x) := by
 have e : L = L.take i ++ L[i] :: L.drop (i + 1) := by rw [← List.drop_eq_getElem_cons hi, List.take_append_drop]
 have e2 : L.set i x = L.take i ++ x :: L.drop (i + 1) := by rw [List.set_eq_take_append_cons_drop, if_pos hi]
 have hA : (rows cs (L.take i)).length = i * w := by rw [rows_len hw, List.length_take, Nat.min_eq_left (by omega)]
 rw [e2, rowsOf_append, rows_cons]
 conv => lhs; rw [e, rowsOf_append, rows_cons]
 rw [splice_mid0 hA, splice_zero]
 congr 2
 rw [List.drop_append_of_le_length (by rw [hw, hw]; exact Nat.le_refl _), List.drop_of_length_le (by rw [hw, hw]; exact Nat.le_refl _)]
 rfl
end Go.Lv
end
section
namespace Go.Lv
theorem splice_left {A B ns : List V} {f : Nat} (h : f + ns.length ≤ A.length) : splice (A ++ B) f ns = splice A f ns ++ B := by
 unfold splice
 rw [List.take_append_of_le_length (by omega), List.drop_append_of_le_length (by omega)]
 simp [List.append_assoc]
theorem splice_cell {α : Type} {cs : α → List V} {w : Nat} (hw : ∀ a, (cs a).length = w) {L : List α} {j f : Nat} {v : V} {x : α} (hj : j < L.length) (hf : f < w) (hx : cs x = splice (cs L[j]) f [v]) : splice (rows cs L) (j * w + f) [v] = rows cs (L.set j x) := by
 have e : L = L.take j ++ L[j] :: L.drop (j + 1) := by rw [← List.drop_eq_getElem_cons hj, List.take_append_drop]
 have e2 : L.set j x = L.take j ++ x :: L.drop (j + 1) := by rw [List.set_eq_take_append_cons_drop, if_pos hj]
 have hA : (rows cs (L.take j)).length = j * w := by rw [rows_len hw, List.length_take, Nat.min_eq_left (by omega)]
 rw [e2, rowsOf_append, rows_cons]
 conv => lhs; rw [e, rowsOf_append, rows_cons]
 rw [splice_mid hA, splice_left (by rw [hw]; simp; omega), hx]

def fits (id n : Nat) : Nat → V → Bool
 | _, .osl i off m w => i != id || decide (off + m * w ≤ n)
 | d + 1, .agg cs => cs.all (fits id n d)
 | d + 1, .tup cs => cs.all (fits id n d)
 | d + 1, .fn _ a c => a.all (fits id n d) && c.all (fits id n d)
 | 0, .agg _ => false
 | 0, .tup _ => false
 | 0, .fn _ _ _ => false
 | _, _ => true

theorem RV.trim {w : World} {m : Nat → Nat} {h : Hp} {av av' : Nat → Prop} {id n : Nat} {cs : List V} (hid : h[id]? = some (some cs)) (hmb : isMb cs = false) (hmb' : isMb (cs.take n) = false) (hn : n ≤ cs.length) (hav : ∀ b, av' b → av b) {o : Bool} {v : Value} {x : V}
   (hx : RV w m h av o v x) : ∀ d, fits id n d x = true → RV w m (h.set id (some (cs.take n))) av' o v x := by
 have hro : ∀ {v : Value} {x : V}, RV w m h av false v x → RV w m (h.set id (some (cs.take n))) av' false v x := fun hx =>
   hx.ro_step (fun b off v hb hc => ⟨fun h => hb (hav b h), hc⟩) rfl
 have hset : ∀ {i : Nat} {c : List V}, h[i]? = some (some c) → i ≠ id → (h.set id (some (cs.take n)))[i]? = some (some c) := fun h e => by
   rw [List.getElem?_set_ne (Ne.symm e)]; exact h
 have hself : (h.set id (some (cs.take n)))[id]? = some (some (cs.take n)) := List.getElem?_set_self (id_lt hid)
 induction hx with
 | undef v => exact fun _ _ => .undef v
 | skip => exact fun _ _ => .skip
 | bool b => exact fun _ _ => .bool b
 | int k n => exact fun _ _ => .int k n
 | str s => exact fun _ _ => .str s
 | nilsl => exact fun _ _ => .nilsl
 | slz a c wd => exact fun _ _ => .slz a c wd
 | sl b off n' cap wd cs' vals hl ha hc hv hr _ => exact fun _ _ => .sl b off n' cap wd cs' vals hl (fun hne h => ha hne (hav b h)) hc hv (fun i hi => hro (hr i hi))
 | pt b off cs' vals ha hv hr _ => exact fun _ _ => .pt b off cs' vals (fun hne h => ha hne (hav b h)) hv (fun i hi => hro (hr i hi))
 | osl id' off n' cap wd cs' hid' hl hc hs =>
   intro d hf
   by_cases e : id' = id
   · subst e
     have he : cs = cs' := by have := hid'.1; rw [hid] at this; simpa using this
     subst he
     have hf' : off + n' * wd ≤ n := by cases d <;> simpa [fits] using hf
     exact .osl id' off n' cap wd (cs.take n) ⟨hself, hmb'⟩ (by simp; omega) hc hs
   · exact .osl id' off n' cap wd cs' ⟨hset hid'.1 e, hid'.2⟩ hl hc hs
 | ptr id' off cs' hid' =>
   intro d _
   by_cases e : id' = id
   · subst e
     exact .ptr id' off (cs.take n) ⟨hself, hmb'⟩
   · exact .ptr id' off cs' ⟨hset hid'.1 e, hid'.2⟩
 | fn g a c a' c' ha hc hra hrc iha ihc =>
   intro d hf
   cases d with
   | zero => simp [fits] at hf
   | succ d =>
     simp only [fits, Bool.and_eq_true, List.all_eq_true] at hf
     exact .fn g a c a' c' ha hc (fun i hi => iha i hi d (hf.1 _ (List.getElem_mem hi))) (fun i hi => ihc i hi d (hf.2 _ (List.getElem_mem hi)))
 | agg a a' ha hra iha =>
   intro d hf
   cases d with
   | zero => simp [fits] at hf
   | succ d =>
     simp only [fits, List.all_eq_true] at hf
     exact .agg a a' ha (fun i hi => iha i hi d (hf _ (List.getElem_mem hi)))
 | tup a a' ha hra iha =>
   intro d hf
   cases d with
   | zero => simp [fits] at hf
   | succ d =>
     simp only [fits, List.all_eq_true] at hf
     exact .tup a a' ha (fun i hi => iha i hi d (hf _ (List.getElem_mem hi)))
 | lit v => exact fun _ _ => .lit v
 | mp id' cs' hid' hm =>
   intro d _
   by_cases e : id' = id
   · subst e
     rw [hid] at hid'
     have he : cs = cs' := by simpa using hid'
     subst he
     rw [hmb] at hm; cases hm
   · exact .mp id' cs' (hset hid' e) hm

theorem WeakR.trim {k : Nat} {v r : V} {h hout : Hp} (id n : Nat) {cs : List V} (hid : h[id]? = some (some cs)) (hk : k ≤ id) (hn : n ≤ cs.length) (hmb : isMb cs = false) (hmb' : isMb (cs.take n) = false) (hv : fits id n 3 v = true)
   (hh : (h.all fun b => match b with | some cs => cs.all (fits id n 2) | none => true) = true) (hr : WeakR k v (h.set id (some (cs.take n))) r hout) : WeakR k v h r hout := by
 intro w0 m0 h0 av0 w m val e1 e2 hlt hle H hx hI
 have hfit : ∀ (j : Nat) (c : List V), h[j]? = some (some c) → ∀ x ∈ c, fits id n 2 x = true := by
   intro j c hj x hxc
   have := List.all_eq_true.1 hh _ (List.mem_of_getElem? hj)
   exact List.all_eq_true.1 this x hxc
 have hown : ∀ b, own m (h.set id (some (cs.take n))) b → own m h b := by
   rintro b ⟨j, c, h1, rfl⟩
   rcases hp_set hid h1 with ⟨rfl, _⟩ | ⟨_, h2⟩
   · exact ⟨j, cs, hid, rfl⟩
   · exact ⟨j, c, h2, rfl⟩
 have hav : ∀ b, avm av0 m (h.set id (some (cs.take n))) b → avm av0 m h b := fun b hb => hb.imp (fun x => x) (hown b)
 have hcase : ∀ (j : Nat) (c : List V), (h.set id (some (cs.take n)))[j]? = some (some c) → ∃ c0, h[j]? = some (some c0) ∧ (∃ q, c = c0.take q) := by
   intro j c h1
   rcases hp_set hid h1 with ⟨rfl, rfl⟩ | ⟨_, h2⟩
   · exact ⟨cs, hid, n, rfl⟩
   · exact ⟨c, h2, c.length, by simp⟩
 refine hr w0 m0 h0 av0 w m val e1 (by simpa using e2) hlt hle ⟨fun i j ci cj h1 h2 he => ?_, fun j c h1 => .inr ⟨j, c, h1, rfl⟩, fun j c h1 => ?_⟩ (hx.trim hid hmb hmb' hn hav 3 hv) (fun j c h1 => ?_)
 · obtain ⟨c1, g1, _⟩ := hcase i ci h1
   obtain ⟨c2, g2, _⟩ := hcase j cj h2
   exact H.inj i j c1 c2 g1 g2 he
 · rcases hp_set hid h1 with ⟨rfl, rfl⟩ | ⟨_, h2⟩
   · obtain ⟨C, T, fr, g1, hfr, g2, g3⟩ := (H.blk j cs hid).cells hmb
     refine .inl ⟨C, T, fr, g1, hfr, by simp; omega, fun i hi => ?_⟩
     have hi' : i < cs.length := by simp at hi; omega
     rw [List.getElem_take]
     exact (g3 i hi').trim hid hmb hmb' hn hav 2 (hfit j cs hid _ (List.getElem_mem _))
   · rcases H.blk j c h2 with ⟨C, T, fr, g1, hfr, g2, g3⟩ | h3
     · exact .inl ⟨C, T, fr, g1, hfr, g2, fun i hi => (g3 i hi).trim hid hmb hmb' hn hav 2 (hfit j c h2 _ (List.getElem_mem _))⟩
     · exact .inr h3
 · rcases hp_set hid h1 with ⟨rfl, rfl⟩ | ⟨_, h2⟩
   · rcases hI j cs hid with ⟨q1, _⟩ | q1
     · omega
     · exact .inr q1
   · exact hI j c h2

theorem noOwn_fits (id n : Nat) : ∀ (d : Nat) (x : V), noOwn d x = true → fits id n d x = true
 | 0, x, hx => by cases x <;> simp_all [noOwn, fits]
 | d + 1, x, hx => by
   have hall : ∀ l : List V, l.all (noOwn d) = true → l.all (fits id n d) = true := fun l h =>
     List.all_eq_true.2 fun y hy => noOwn_fits id n d y (List.all_eq_true.1 h y hy)
   cases x <;> first | (simp only [noOwn, fits, Bool.and_eq_true] at hx ⊢; exact ⟨hall _ hx.1, hall _ hx.2⟩) | (simp only [noOwn, fits] at hx ⊢; exact hall _ hx) | rfl | cases hx
theorem rows_fits {α : Type} {cs : α → List V} {w : Nat} [FlatP cs w] (id n d : Nat) (L : List α) : (rows cs L).all (fits id n d) = true :=
 List.all_eq_true.2 fun x hx => noOwn_fits id n d x (List.all_eq_true.1 (rows_noOwn (cs := cs) L d) x hx)
end Go.Lv
end
section
set_option maxRecDepth 100000
set_option maxHeartbeats 1000000
namespace Go.Proofs
open Go.Lv
theorem idxI_cases {α : Type} (p : α → Bool) (L : List α) : (∃ i, ∃ h : i < L.length, idxI p L = (i : Int) ∧ p L[i] = true) ∨ idxI p L = -1 := by
 unfold idxI
 cases h : L.findIdx? p with
 | none => exact .inr rfl
 | some i =>
   obtain ⟨h1, h2, _⟩ := List.findIdx?_eq_some_iff_getElem.1 h
   exact .inl ⟨i, h1, rfl, h2⟩
theorem idxI_get {α : Type} {p : α → Bool} {L : List α} (h : decide (0 ≤ idxI p L) = true) : ∃ i, ∃ h : i < L.length, idxI p L = (i : Int) ∧ p L[i] = true := by
 rcases idxI_cases p L with h1 | h1
 · exact h1
 · rw [h1] at h; simp at h
def pAt (w : Watch) (n : Int) : Nat := (idxI (postIs n) w.Posts).toNat
def sAt (w : Watch) (n : Int) : Nat := (idxI (shockIs n) w.Shocks).toNat
def stepWB (w : Watch) (k n v : Int) : Bool :=
 if k = 1 then n == 0 && decide (1 ≤ v)
 else if k = 2 ∨ k = 3 then decide (0 ≤ idxI (postIs n) w.Posts) && v == 0
 else if k = 4 then n == 0 && v == 0
 else if k = 5 then decide (0 ≤ idxI (shockIs n) w.Shocks) && inB' v (-20) 95
 else if k = 6 then decide (0 ≤ idxI (shockIs n) w.Shocks) && inB' v (-10) 10
 else (k == 7 || k == 8) && decide (0 ≤ idxI (shockIs n) w.Shocks) && v == 0
def chgX (x : Shock) (k v : Int) : Shock := if k = 5 then ⟨x.Number, 1, x.Seen, v, x.Tick⟩ else if k = 6 then ⟨x.Number, 2, x.Seen, x.Size + v, x.Tick⟩ else ⟨x.Number, 3, x.Seen, x.Size, x.Tick⟩
def chgB (x : Shock) (k : Int) : Bool := if k = 5 then x.State == 0 && decide (3 ≤ x.Seen) else if k = 6 then x.State == 1 else x.State == 2 || (x.State == 1 && decide (50 ≤ x.Size))
def archB (w : Watch) (x : Shock) : Bool := x.State == 3 || (x.State == 0 && decide (6000 < w.Now - x.Tick))
def upN (w : Watch) (i : Nat) : Nat := ((w.Posts.take i).filter Post.Up).length
def shAt (w : Watch) (i : Nat) : Shock := (w.Shocks[i]?).getD ⟨0, 0, 0, 0, 0⟩
def poAt (w : Watch) (i : Nat) : Post := (w.Posts[i]?).getD ⟨0, false, 0⟩
theorem shAt_get {w : Watch} {i : Nat} (h : i < w.Shocks.length) : shAt w i = w.Shocks[i] := by simp [shAt, h]
theorem poAt_get {w : Watch} {i : Nat} (h : i < w.Posts.length) : poAt w i = w.Posts[i] := by simp [poAt, h]
def makeW (w : Watch) (k n v : Int) : Watch :=
 if k = 1 then ⟨w.Now + v, w.Posts, w.Shocks, w.Next, w.Archived⟩
 else if k = 2 ∨ k = 3 then ⟨w.Now, w.Posts.set (pAt w n) ⟨n, decide (k = 3), w.Now⟩, w.Shocks, w.Next, w.Archived⟩
 else if k = 4 then ⟨w.Now, w.Posts, w.Shocks ++ [⟨w.Next, 0, (upN w w.Posts.length : Int), 0, w.Now⟩], w.Next + 1, w.Archived⟩
 else if k = 8 then ⟨w.Now, w.Posts, w.Shocks.take (sAt w n) ++ w.Shocks.drop (sAt w n + 1), w.Next, w.Archived + 1⟩
 else ⟨w.Now, w.Posts, w.Shocks.set (sAt w n) (chgX (shAt w (sAt w n)) k v), w.Next, w.Archived⟩
def makeB (w : Watch) (k n v : Int) : Bool :=
 if k = 1 then decide (v ≤ 1000000 - w.Now)
 else if k = 2 ∨ k = 3 then (poAt w (pAt w n)).Up != decide (k = 3)
 else if k = 4 then true
 else if k = 8 then archB w (shAt w (sAt w n))
 else chgB (shAt w (sAt w n)) k
def makeS (w : Watch) (k n v : Int) : Watch := if k = 1 ∧ ¬ v ≤ 1000000 - w.Now then w else makeW w k n v
theorem l25Step_ok (w : Watch) (k n v : Int) (hp : w.Posts.length ≤ 16777216) (hs : w.Shocks.length ≤ 16777216) : Ctr Tryd.prog 188 [w.v, .agg [.int .i64 k, .int .i64 n, .int .i64 v]] [] (.bool (stepWB w k n v)) [] := by
 by_cases k1 : k = 1
 · subst k1
   refine Ctr.intro Tryd.mixed Tryd.func188 rfl Tryd.okF188 ?_
   simp -implicitDefEqProofs -dsimp only [go_sem, Tryd.ntmps188, Tryd.results188]
   simp -implicitDefEqProofs -dsimp only [go_sem, Watch.v]
   repeat' (first | (refine WeakR.drop' ?_ (by rfl); first | rfl | (simp [stepWB, *]; done)) | ((first | refine callT.at (l25Post_ok w n (by omega)) ⟨leA, leA, trivial⟩ ?_ | refine callS.at (l25Post_ok w n (by omega)) ⟨leA, leA, trivial⟩ ?_); simp -implicitDefEqProofs -dsimp only [go_sem, *]) | (refine guardT.splitT (fun _ => ?_) (fun _ => ?_) <;> simp -implicitDefEqProofs -dsimp only [go_sem, *]) | (refine guardT.splitF (fun _ => ?_) (fun _ => ?_) <;> simp -implicitDefEqProofs -dsimp only [go_sem, *]) | (refine condT.split (fun _ => ?_) (fun _ => ?_) <;> simp -implicitDefEqProofs -dsimp only [go_sem, *]))
 by_cases k2 : k = 2 ∨ k = 3
 · rcases k2 with k2 | k2
   · subst k2
     refine Ctr.intro Tryd.mixed Tryd.func188 rfl Tryd.okF188 ?_
     simp -implicitDefEqProofs -dsimp only [go_sem, Tryd.ntmps188, Tryd.results188]
     simp -implicitDefEqProofs -dsimp only [go_sem, Watch.v]
     repeat' (first | (refine WeakR.drop' ?_ (by rfl); first | rfl | (simp [stepWB, *]; done)) | ((first | refine callT.at (l25Post_ok w n (by omega)) ⟨leA, leA, trivial⟩ ?_ | refine callS.at (l25Post_ok w n (by omega)) ⟨leA, leA, trivial⟩ ?_); simp -implicitDefEqProofs -dsimp only [go_sem, *]) | (refine guardT.splitT (fun _ => ?_) (fun _ => ?_) <;> simp -implicitDefEqProofs -dsimp only [go_sem, *]) | (refine guardT.splitF (fun _ => ?_) (fun _ => ?_) <;> simp -implicitDefEqProofs -dsimp only [go_sem, *]) | (refine condT.split (fun _ => ?_) (fun _ => ?_) <;> simp -implicitDefEqProofs -dsimp only [go_sem, *]))
   · subst k2
     refine Ctr.intro Tryd.mixed Tryd.func188 rfl Tryd.okF188 ?_
     simp -implicitDefEqProofs -dsimp only [go_sem, Tryd.ntmps188, Tryd.results188]
     simp -implicitDefEqProofs -dsimp only [go_sem, Watch.v]
     repeat' (first | (refine WeakR.drop' ?_ (by rfl); first | rfl | (simp [stepWB, *]; done)) | ((first | refine callT.at (l25Post_ok w n (by omega)) ⟨leA, leA, trivial⟩ ?_ | refine callS.at (l25Post_ok w n (by omega)) ⟨leA, leA, trivial⟩ ?_); simp -implicitDefEqProofs -dsimp only [go_sem, *]) | (refine guardT.splitT (fun _ => ?_) (fun _ => ?_) <;> simp -implicitDefEqProofs -dsimp only [go_sem, *]) | (refine guardT.splitF (fun _ => ?_) (fun _ => ?_) <;> simp -implicitDefEqProofs -dsimp only [go_sem, *]) | (refine condT.split (fun _ => ?_) (fun _ => ?_) <;> simp -implicitDefEqProofs -dsimp only [go_sem, *]))
 by_cases k4 : k = 4
 · subst k4
   refine Ctr.intro Tryd.mixed Tryd.func188 rfl Tryd.okF188 ?_
   simp -implicitDefEqProofs -dsimp only [go_sem, Tryd.ntmps188, Tryd.results188]
   simp -implicitDefEqProofs -dsimp only [go_sem, Watch.v]
   repeat' (first | (refine WeakR.drop' ?_ (by rfl); first | rfl | (simp [stepWB, *]; done)) | ((first | refine callT.at (l25Post_ok w n (by omega)) ⟨leA, leA, trivial⟩ ?_ | refine callS.at (l25Post_ok w n (by omega)) ⟨leA, leA, trivial⟩ ?_); simp -implicitDefEqProofs -dsimp only [go_sem, *]) | (refine guardT.splitT (fun _ => ?_) (fun _ => ?_) <;> simp -implicitDefEqProofs -dsimp only [go_sem, *]) | (refine guardT.splitF (fun _ => ?_) (fun _ => ?_) <;> simp -implicitDefEqProofs -dsimp only [go_sem, *]) | (refine condT.split (fun _ => ?_) (fun _ => ?_) <;> simp -implicitDefEqProofs -dsimp only [go_sem, *]))
 by_cases k5 : k = 5
 · subst k5
   refine Ctr.intro Tryd.mixed Tryd.func188 rfl Tryd.okF188 ?_
   simp -implicitDefEqProofs -dsimp only [go_sem, Tryd.ntmps188, Tryd.results188]
   simp -implicitDefEqProofs -dsimp only [go_sem, Watch.v]
   repeat' (first | (refine WeakR.drop' ?_ (by rfl); first | rfl | (simp [stepWB, *]; done)) | ((first | refine callT.at (l25Find_ok w n (by omega)) ⟨leA, leA, trivial⟩ ?_ | refine callS.at (l25Find_ok w n (by omega)) ⟨leA, leA, trivial⟩ ?_); simp -implicitDefEqProofs -dsimp only [go_sem, *]) | ((first | refine callT.at (l1In_ok _ _ _) ⟨leA, leA, leA, trivial⟩ ?_ | refine callS.at (l1In_ok _ _ _) ⟨leA, leA, leA, trivial⟩ ?_); simp -implicitDefEqProofs -dsimp only [go_sem, *]) | (refine guardT.splitT (fun _ => ?_) (fun _ => ?_) <;> simp -implicitDefEqProofs -dsimp only [go_sem, *]) | (refine guardT.splitF (fun _ => ?_) (fun _ => ?_) <;> simp -implicitDefEqProofs -dsimp only [go_sem, *]) | (refine condT.split (fun _ => ?_) (fun _ => ?_) <;> simp -implicitDefEqProofs -dsimp only [go_sem, *]))
 by_cases k6 : k = 6
 · subst k6
   refine Ctr.intro Tryd.mixed Tryd.func188 rfl Tryd.okF188 ?_
   simp -implicitDefEqProofs -dsimp only [go_sem, Tryd.ntmps188, Tryd.results188]
   simp -implicitDefEqProofs -dsimp only [go_sem, Watch.v]
   repeat' (first | (refine WeakR.drop' ?_ (by rfl); first | rfl | (simp [stepWB, *]; done)) | ((first | refine callT.at (l25Find_ok w n (by omega)) ⟨leA, leA, trivial⟩ ?_ | refine callS.at (l25Find_ok w n (by omega)) ⟨leA, leA, trivial⟩ ?_); simp -implicitDefEqProofs -dsimp only [go_sem, *]) | ((first | refine callT.at (l1In_ok _ _ _) ⟨leA, leA, leA, trivial⟩ ?_ | refine callS.at (l1In_ok _ _ _) ⟨leA, leA, leA, trivial⟩ ?_); simp -implicitDefEqProofs -dsimp only [go_sem, *]) | (refine guardT.splitT (fun _ => ?_) (fun _ => ?_) <;> simp -implicitDefEqProofs -dsimp only [go_sem, *]) | (refine guardT.splitF (fun _ => ?_) (fun _ => ?_) <;> simp -implicitDefEqProofs -dsimp only [go_sem, *]) | (refine condT.split (fun _ => ?_) (fun _ => ?_) <;> simp -implicitDefEqProofs -dsimp only [go_sem, *]))
 have b1 : (k == 1) = false := by simp [k1]
 have b2 : (k == 2) = false := by simp at k2; simp [k2]
 have b3 : (k == 3) = false := by simp at k2; simp [k2]
 have b4 : (k == 4) = false := by simp [k4]
 have b5 : (k == 5) = false := by simp [k5]
 have b6 : (k == 6) = false := by simp [k6]
 have e : stepWB w k n v = ((k == 7 || k == 8) && decide (0 ≤ idxI (shockIs n) w.Shocks) && v == 0) := by
   rw [stepWB, if_neg k1, if_neg k2, if_neg k4, if_neg k5, if_neg k6]
 rw [e]
 clear e k1 k2 k4 k5 k6
 refine Ctr.intro Tryd.mixed Tryd.func188 rfl Tryd.okF188 ?_
 simp -implicitDefEqProofs -dsimp only [go_sem, Tryd.ntmps188, Tryd.results188]
 simp -implicitDefEqProofs -dsimp only [go_sem, b1, b2, b3, b4, b5, b6, Watch.v]
 repeat' (first | (refine WeakR.drop' ?_ (by rfl); first | rfl | (simp [*]; done)) | ((first | refine callT.at (l25Find_ok w n (by omega)) ⟨leA, leA, trivial⟩ ?_ | refine callS.at (l25Find_ok w n (by omega)) ⟨leA, leA, trivial⟩ ?_); simp -implicitDefEqProofs -dsimp only [go_sem, *]) | (refine guardT.splitT (fun _ => ?_) (fun _ => ?_) <;> simp -implicitDefEqProofs -dsimp only [go_sem, *]) | (refine guardT.splitF (fun _ => ?_) (fun _ => ?_) <;> simp -implicitDefEqProofs -dsimp only [go_sem, *]) | (refine condT.split (fun _ => ?_) (fun _ => ?_) <;> simp -implicitDefEqProofs -dsimp only [go_sem, *]))
theorem isStep_ok (w : Watch) (k n v : Int) (hp : w.Posts.length ≤ 16777216) (hs : w.Shocks.length ≤ 16777216) : Ctr Tryd.prog 87 [w.v, .agg [.int .i64 k, .int .i64 n, .int .i64 v]] [] (.bool (stepWB w k n v)) [] := by
 by_cases k1 : k = 1
 · subst k1
   refine Ctr.intro Tryd.mixed Tryd.func87 rfl Tryd.okF87 ?_
   simp -implicitDefEqProofs -dsimp only [go_sem, Tryd.ntmps87, Tryd.results87]
   simp -implicitDefEqProofs -dsimp only [go_sem, Watch.v]
   repeat' (first | (refine WeakR.drop' ?_ (by rfl); first | rfl | (simp [stepWB, *]; done)) | ((first | refine callT.at (postAt_ok w n (by omega)) ⟨leA, leA, trivial⟩ ?_ | refine callS.at (postAt_ok w n (by omega)) ⟨leA, leA, trivial⟩ ?_); simp -implicitDefEqProofs -dsimp only [go_sem, *]) | (refine guardT.splitT (fun _ => ?_) (fun _ => ?_) <;> simp -implicitDefEqProofs -dsimp only [go_sem, *]) | (refine guardT.splitF (fun _ => ?_) (fun _ => ?_) <;> simp -implicitDefEqProofs -dsimp only [go_sem, *]) | (refine condT.split (fun _ => ?_) (fun _ => ?_) <;> simp -implicitDefEqProofs -dsimp only [go_sem, *]))
 by_cases k2 : k = 2 ∨ k = 3
 · rcases k2 with k2 | k2
   · subst k2
     refine Ctr.intro Tryd.mixed Tryd.func87 rfl Tryd.okF87 ?_
     simp -implicitDefEqProofs -dsimp only [go_sem, Tryd.ntmps87, Tryd.results87]
     simp -implicitDefEqProofs -dsimp only [go_sem, Watch.v]
     repeat' (first | (refine WeakR.drop' ?_ (by rfl); first | rfl | (simp [stepWB, *]; done)) | ((first | refine callT.at (postAt_ok w n (by omega)) ⟨leA, leA, trivial⟩ ?_ | refine callS.at (postAt_ok w n (by omega)) ⟨leA, leA, trivial⟩ ?_); simp -implicitDefEqProofs -dsimp only [go_sem, *]) | (refine guardT.splitT (fun _ => ?_) (fun _ => ?_) <;> simp -implicitDefEqProofs -dsimp only [go_sem, *]) | (refine guardT.splitF (fun _ => ?_) (fun _ => ?_) <;> simp -implicitDefEqProofs -dsimp only [go_sem, *]) | (refine condT.split (fun _ => ?_) (fun _ => ?_) <;> simp -implicitDefEqProofs -dsimp only [go_sem, *]))
   · subst k2
     refine Ctr.intro Tryd.mixed Tryd.func87 rfl Tryd.okF87 ?_
     simp -implicitDefEqProofs -dsimp only [go_sem, Tryd.ntmps87, Tryd.results87]
     simp -implicitDefEqProofs -dsimp only [go_sem, Watch.v]
     repeat' (first | (refine WeakR.drop' ?_ (by rfl); first | rfl | (simp [stepWB, *]; done)) | ((first | refine callT.at (postAt_ok w n (by omega)) ⟨leA, leA, trivial⟩ ?_ | refine callS.at (postAt_ok w n (by omega)) ⟨leA, leA, trivial⟩ ?_); simp -implicitDefEqProofs -dsimp only [go_sem, *]) | (refine guardT.splitT (fun _ => ?_) (fun _ => ?_) <;> simp -implicitDefEqProofs -dsimp only [go_sem, *]) | (refine guardT.splitF (fun _ => ?_) (fun _ => ?_) <;> simp -implicitDefEqProofs -dsimp only [go_sem, *]) | (refine condT.split (fun _ => ?_) (fun _ => ?_) <;> simp -implicitDefEqProofs -dsimp only [go_sem, *]))
 by_cases k4 : k = 4
 · subst k4
   refine Ctr.intro Tryd.mixed Tryd.func87 rfl Tryd.okF87 ?_
   simp -implicitDefEqProofs -dsimp only [go_sem, Tryd.ntmps87, Tryd.results87]
   simp -implicitDefEqProofs -dsimp only [go_sem, Watch.v]
   repeat' (first | (refine WeakR.drop' ?_ (by rfl); first | rfl | (simp [stepWB, *]; done)) | ((first | refine callT.at (postAt_ok w n (by omega)) ⟨leA, leA, trivial⟩ ?_ | refine callS.at (postAt_ok w n (by omega)) ⟨leA, leA, trivial⟩ ?_); simp -implicitDefEqProofs -dsimp only [go_sem, *]) | (refine guardT.splitT (fun _ => ?_) (fun _ => ?_) <;> simp -implicitDefEqProofs -dsimp only [go_sem, *]) | (refine guardT.splitF (fun _ => ?_) (fun _ => ?_) <;> simp -implicitDefEqProofs -dsimp only [go_sem, *]) | (refine condT.split (fun _ => ?_) (fun _ => ?_) <;> simp -implicitDefEqProofs -dsimp only [go_sem, *]))
 by_cases k5 : k = 5
 · subst k5
   refine Ctr.intro Tryd.mixed Tryd.func87 rfl Tryd.okF87 ?_
   simp -implicitDefEqProofs -dsimp only [go_sem, Tryd.ntmps87, Tryd.results87]
   simp -implicitDefEqProofs -dsimp only [go_sem, Watch.v]
   repeat' (first | (refine WeakR.drop' ?_ (by rfl); first | rfl | (simp [stepWB, *]; done)) | ((first | refine callT.at (shockAt_ok w n (by omega)) ⟨leA, leA, trivial⟩ ?_ | refine callS.at (shockAt_ok w n (by omega)) ⟨leA, leA, trivial⟩ ?_); simp -implicitDefEqProofs -dsimp only [go_sem, *]) | ((first | refine callT.at (isQuakeSize_ok _) ⟨leA, trivial⟩ ?_ | refine callS.at (isQuakeSize_ok _) ⟨leA, trivial⟩ ?_); simp -implicitDefEqProofs -dsimp only [go_sem, *]) | (refine guardT.splitT (fun _ => ?_) (fun _ => ?_) <;> simp -implicitDefEqProofs -dsimp only [go_sem, *]) | (refine guardT.splitF (fun _ => ?_) (fun _ => ?_) <;> simp -implicitDefEqProofs -dsimp only [go_sem, *]) | (refine condT.split (fun _ => ?_) (fun _ => ?_) <;> simp -implicitDefEqProofs -dsimp only [go_sem, *]))
 by_cases k6 : k = 6
 · subst k6
   refine Ctr.intro Tryd.mixed Tryd.func87 rfl Tryd.okF87 ?_
   simp -implicitDefEqProofs -dsimp only [go_sem, Tryd.ntmps87, Tryd.results87]
   simp -implicitDefEqProofs -dsimp only [go_sem, Watch.v]
   repeat' (first | (refine WeakR.drop' ?_ (by rfl); first | rfl | (simp [stepWB, *]; done)) | ((first | refine callT.at (shockAt_ok w n (by omega)) ⟨leA, leA, trivial⟩ ?_ | refine callS.at (shockAt_ok w n (by omega)) ⟨leA, leA, trivial⟩ ?_); simp -implicitDefEqProofs -dsimp only [go_sem, *]) | ((first | refine callT.at (in_ok _ _ _) ⟨leA, leA, leA, trivial⟩ ?_ | refine callS.at (in_ok _ _ _) ⟨leA, leA, leA, trivial⟩ ?_); simp -implicitDefEqProofs -dsimp only [go_sem, *]) | (refine guardT.splitT (fun _ => ?_) (fun _ => ?_) <;> simp -implicitDefEqProofs -dsimp only [go_sem, *]) | (refine guardT.splitF (fun _ => ?_) (fun _ => ?_) <;> simp -implicitDefEqProofs -dsimp only [go_sem, *]) | (refine condT.split (fun _ => ?_) (fun _ => ?_) <;> simp -implicitDefEqProofs -dsimp only [go_sem, *]))
 have b1 : (k == 1) = false := by simp [k1]
 have b2 : (k == 2) = false := by simp at k2; simp [k2]
 have b3 : (k == 3) = false := by simp at k2; simp [k2]
 have b4 : (k == 4) = false := by simp [k4]
 have b5 : (k == 5) = false := by simp [k5]
 have b6 : (k == 6) = false := by simp [k6]
 have e : stepWB w k n v = (inB' k 7 8 && decide (0 ≤ idxI (shockIs n) w.Shocks) && v == 0) := by
   rw [stepWB, if_neg k1, if_neg k2, if_neg k4, if_neg k5, if_neg k6]
   congr 2
   rw [Bool.eq_iff_iff]; simp [inB']; omega
 rw [e]
 clear e k1 k2 k4 k5 k6
 refine Ctr.intro Tryd.mixed Tryd.func87 rfl Tryd.okF87 ?_
 simp -implicitDefEqProofs -dsimp only [go_sem, Tryd.ntmps87, Tryd.results87]
 simp -implicitDefEqProofs -dsimp only [go_sem, b1, b2, b3, b4, b5, b6, Watch.v]
 repeat' (first | (refine WeakR.drop' ?_ (by rfl); first | rfl | (simp [*]; done)) | ((first | refine callT.at (in_ok _ _ _) ⟨leA, leA, leA, trivial⟩ ?_ | refine callS.at (in_ok _ _ _) ⟨leA, leA, leA, trivial⟩ ?_); simp -implicitDefEqProofs -dsimp only [go_sem, *]) | ((first | refine callT.at (shockAt_ok w n (by omega)) ⟨leA, leA, trivial⟩ ?_ | refine callS.at (shockAt_ok w n (by omega)) ⟨leA, leA, trivial⟩ ?_); simp -implicitDefEqProofs -dsimp only [go_sem, *]) | (refine guardT.splitT (fun _ => ?_) (fun _ => ?_) <;> simp -implicitDefEqProofs -dsimp only [go_sem, *]) | (refine guardT.splitF (fun _ => ?_) (fun _ => ?_) <;> simp -implicitDefEqProofs -dsimp only [go_sem, *]) | (refine condT.split (fun _ => ?_) (fun _ => ?_) <;> simp -implicitDefEqProofs -dsimp only [go_sem, *]))
theorem l25Own_ok (w : Watch) (hp : w.Posts.length ≤ 16777216) (hs : w.Shocks.length ≤ 16777216) : Ctr Tryd.prog 227 [w.v] [] (w.o 0 1) [some (rows Post.cs w.Posts), some (rows Shock.cs w.Shocks)] := by
 refine Ctr.intro Tryd.mixed Tryd.func227 rfl Tryd.okF227 ?_
 simp -implicitDefEqProofs -dsimp only [go_sem, Tryd.ntmps227, Tryd.results227]
 simp -implicitDefEqProofs -dsimp only [go_sem, Watch.v]
 refine chT.intro [true, true, false, true, true, false, false, true, true, false, true, true, true, true, false, false] [true, true, true, true, true, true, true, true, true, true, true, true, true, true, false, false] [none, none, some ⟨none, 5, 43, []⟩, none, none, some ⟨some 2, 8, 43, [7]⟩, some ⟨none, 9, 44, []⟩, none, none, some ⟨some 6, 12, 44, [11]⟩, none, none, none, none, none, none] [⟨5, 8, 43, [7]⟩, ⟨9, 12, 44, [11]⟩] (by kernel_rfl) (by rfl) ?_
 simp -implicitDefEqProofs -dsimp only [go_sem]
 repeat (with_reducible refine sideA ?_)
 refine ⟨⟨by omega, by omega, rows_noOwn _ _⟩, rows_cell _, ⟨by omega, by omega, rows_noOwn _ _⟩, ?_⟩
 refine WeakR.pick [2, 3] (by decide) (fun j hj => by omega) (.inl ?_) ?_
 · first | rfl | (simp [ren, pickF, posOf, Watch.o]; done)
 · simp only [pickH, List.map_cons, List.map_nil, pickB, List.getElem?_cons_zero, List.getElem?_cons_succ, map_ren_rows]
theorem l25Change_ok (n t : Int) (x : Shock) (k m v : Int) (hx : shockB n t x = true) (hk : k = 5 ∨ k = 6 ∨ k = 7) (hv : -100 ≤ v ∧ v ≤ 100) : Ctr Tryd.prog 230 [x.v, .agg [.int .i64 k, .int .i64 m, .int .i64 v]] [] (.tup [(chgX x k v).v, .bool (chgB x k)]) [] := by
 have hb := shockB_iff.1 hx
 have hw : IntKind.i64.wrap (x.Size + v) = x.Size + v := wrap_i64 (by omega) (by omega)
 rcases hk with hk | hk | hk
 · subst hk
   refine Ctr.intro Tryd.mixed Tryd.func230 rfl Tryd.okF230 ?_
   simp -implicitDefEqProofs -dsimp only [go_sem, Tryd.ntmps230, Tryd.results230]
   (repeat ((repeat1' (first | simp -implicitDefEqProofs -dsimp only [go_sem, Shock.v, hw] | simp -dsimp (disch := omega) only [wrap_i64])); repeat (with_reducible refine sideA ?_)))
   refine lateT.path [true, true, true, true, true, true, true, true, true, false, false] [false, false, false, false, false, true, true, true, true, false, false] 1 [2] (by kernel_rfl) ?_
   (repeat ((repeat1' (first | simp -implicitDefEqProofs -dsimp only [go_sem, Shock.v, hw] | simp -dsimp (disch := omega) only [wrap_i64])); repeat (with_reducible refine sideA ?_)))
   repeat' (first | (refine WeakR.drop' ?_ (by rfl); first | rfl | (simp [chgX, chgB, Shock.v, *]; done)) | (refine guardT.splitT (fun _ => ?_) (fun _ => ?_) <;> (repeat ((repeat1' (first | simp -implicitDefEqProofs -dsimp only [go_sem, *] | simp -dsimp (disch := omega) only [wrap_i64])); repeat (with_reducible refine sideA ?_)))) | (refine guardT.splitF (fun _ => ?_) (fun _ => ?_) <;> (repeat ((repeat1' (first | simp -implicitDefEqProofs -dsimp only [go_sem, *] | simp -dsimp (disch := omega) only [wrap_i64])); repeat (with_reducible refine sideA ?_)))))
 · subst hk
   refine Ctr.intro Tryd.mixed Tryd.func230 rfl Tryd.okF230 ?_
   simp -implicitDefEqProofs -dsimp only [go_sem, Tryd.ntmps230, Tryd.results230]
   (repeat ((repeat1' (first | simp -implicitDefEqProofs -dsimp only [go_sem, Shock.v, hw] | simp -dsimp (disch := omega) only [wrap_i64])); repeat (with_reducible refine sideA ?_)))
   refine lateT.path [true, true, true, true, false, false] [false, true, true, true, false, false] 1 [2] (by kernel_rfl) ?_
   (repeat ((repeat1' (first | simp -implicitDefEqProofs -dsimp only [go_sem, Shock.v, hw] | simp -dsimp (disch := omega) only [wrap_i64])); repeat (with_reducible refine sideA ?_)))
   repeat' (first | (refine WeakR.drop' ?_ (by rfl); first | rfl | (simp [chgX, chgB, Shock.v, *]; done)) | (refine guardT.splitT (fun _ => ?_) (fun _ => ?_) <;> (repeat ((repeat1' (first | simp -implicitDefEqProofs -dsimp only [go_sem, *] | simp -dsimp (disch := omega) only [wrap_i64])); repeat (with_reducible refine sideA ?_)))) | (refine guardT.splitF (fun _ => ?_) (fun _ => ?_) <;> (repeat ((repeat1' (first | simp -implicitDefEqProofs -dsimp only [go_sem, *] | simp -dsimp (disch := omega) only [wrap_i64])); repeat (with_reducible refine sideA ?_)))))
 · subst hk
   refine Ctr.intro Tryd.mixed Tryd.func230 rfl Tryd.okF230 ?_
   simp -implicitDefEqProofs -dsimp only [go_sem, Tryd.ntmps230, Tryd.results230]
   (repeat ((repeat1' (first | simp -implicitDefEqProofs -dsimp only [go_sem, Shock.v, hw] | simp -dsimp (disch := omega) only [wrap_i64])); repeat (with_reducible refine sideA ?_)))
   refine lateT.path [true, true, true, true, true, true, true, true, true, true, true, true, true, true, false, false] [false, false, false, false, false, false, false, false, false, true, true, true, true, true, false, false] 1 [2] (by kernel_rfl) ?_
   (repeat ((repeat1' (first | simp -implicitDefEqProofs -dsimp only [go_sem, Shock.v, hw] | simp -dsimp (disch := omega) only [wrap_i64])); repeat (with_reducible refine sideA ?_)))
   repeat' (first | (refine WeakR.drop' ?_ (by rfl); first | rfl | (simp [chgX, chgB, Shock.v, *]; done)) | (refine guardT.splitT (fun _ => ?_) (fun _ => ?_) <;> (repeat ((repeat1' (first | simp -implicitDefEqProofs -dsimp only [go_sem, *] | simp -dsimp (disch := omega) only [wrap_i64])); repeat (with_reducible refine sideA ?_)))) | (refine guardT.splitF (fun _ => ?_) (fun _ => ?_) <;> (repeat ((repeat1' (first | simp -implicitDefEqProofs -dsimp only [go_sem, *] | simp -dsimp (disch := omega) only [wrap_i64])); repeat (with_reducible refine sideA ?_)))))
theorem l25Up_ok (w : Watch) (hp : w.Posts.length ≤ 16777216) : Ctr Tryd.prog 228 [w.v] [] (.int .i64 (upN w w.Posts.length : Int)) [] := by
 have hlen : ∀ i, upN w i ≤ i := fun i => Nat.le_trans (List.length_filter_le _ _) (by simp; omega)
 refine Ctr.intro Tryd.mixed Tryd.func228 rfl Tryd.okF228 ?_
 simp -implicitDefEqProofs -dsimp only [go_sem, Tryd.ntmps228, Tryd.results228]
 simp -implicitDefEqProofs -dsimp only [go_sem, Watch.v]
 refine LoopT.intro (fun i : Nat => i ≤ w.Posts.length) (fun i => ⟨[.undef, .ptr 0 0, .undef, .int .i64 (upN w i : Int), .int .i64 i, .undef, .undef, .undef, .undef, .undef, .undef, .undef, .undef, .undef, .undef, .undef, .undef, .undef, .undef, .undef, .undef], [some w.cs], 0⟩) (fun i => w.Posts.length - i) 0 (Nat.zero_le _) ?_ (fun i hi => ?_)
 · refine Weak.cut (1) (by simp) (by simp) ?_ ?_
   · simp [LeC, LeV, ren, cutF, upN]
   · simp [cutH, cutB, ren, map_ren_rows, Watch.cs]
 simp -implicitDefEqProofs -dsimp only [go_sem, Watch.cs]
 refine condT.split (fun h1 => ?_) (fun h1 => ?_)
 · simp -implicitDefEqProofs -dsimp only [go_sem, h1, Watch.cs]
   have hi' : i < w.Posts.length := by simpa using h1
   have hr := rows_at Post.csl hi'
   have hll := hlen i
   have hs : upN w (i + 1) = upN w i + (if w.Posts[i].Up then 1 else 0) := by
     rw [upN, upN, List.take_succ_eq_append_getElem hi', List.filter_append, List.length_append]
     congr 1
     cases h : w.Posts[i].Up <;> simp [h]
   (repeat ((repeat1' (first | simp -implicitDefEqProofs -dsimp only [go_sem, hr, Post.cs, Watch.cs] | simp -dsimp (disch := omega) only [wrap_i64])); repeat (with_reducible refine sideA ?_)))
   refine condT.split (fun h2 => ?_) (fun h2 => ?_) <;> (repeat ((repeat1' (first | simp -implicitDefEqProofs -dsimp only [go_sem, h2] | simp -dsimp (disch := omega) only [wrap_i64])); repeat (with_reducible refine sideA ?_)))
   · refine ⟨i + 1, hi', ?_, by omega⟩
     rw [hs, h2]
     refine Weak.cut (1) (by simp) (by simp) ?_ ?_
     · simp [LeC, LeV, ren, cutF]
     · simp [cutH, cutB, ren, map_ren_rows, Watch.cs]
   · refine ⟨i + 1, hi', ?_, by omega⟩
     rw [hs, h2]
     refine Weak.cut (1) (by simp) (by simp) ?_ ?_
     · simp [LeC, LeV, ren, cutF]
     · simp [cutH, cutB, ren, map_ren_rows, Watch.cs]
 · simp -implicitDefEqProofs -dsimp only [go_sem, h1]
   have hi' : i = w.Posts.length := by simp at h1; omega
   subst hi'
   exact WeakR.drop' rfl (by rfl)
end Go.Proofs
end
section
set_option maxRecDepth 100000
set_option maxHeartbeats 1000000
namespace Go.Proofs
open Go.Lv
def archW (w : Watch) (i : Nat) : Watch := ⟨w.Now, w.Posts, w.Shocks.take i ++ w.Shocks.drop (i + 1), w.Next, w.Archived + 1⟩
theorem l25Archive_ok (w : Watch) (i : Nat) (hw : wB w = true) (hi : i < w.Shocks.length) : Ctr Tryd.prog 229 [w.v, .int .i64 i] [] (.tup [(archW w i).o 0 1, .bool (archB w (shAt w i))]) [some (rows Post.cs w.Posts), some (rows Shock.cs (w.Shocks.take i ++ w.Shocks.drop (i + 1)))] := by
 have W := wB_ok hw
 have hr := rows_at Shock.csl hi
 have pl := W.plen
 have sl := W.slen
 refine Ctr.intro Tryd.mixed Tryd.func229 rfl Tryd.okF229 ?_
 simp -implicitDefEqProofs -dsimp only [go_sem, Tryd.ntmps229, Tryd.results229]
 simp -implicitDefEqProofs -dsimp only [go_sem, Watch.v]
 refine lateT.path [true, true, true, true, true, true, true, true, true, false, false] [false, false, true, true, true, true, true, false, false, false, false] 1 [4] (by kernel_rfl) ?_
 simp -implicitDefEqProofs -dsimp only [go_sem]
 (first | refine callT.at (l25Own_ok w (by omega) (by omega)) ⟨leA, trivial⟩ ?_ | refine callS.at (l25Own_ok w (by omega) (by omega)) ⟨leA, trivial⟩ ?_)
 (repeat ((repeat1' (first | simp -implicitDefEqProofs -dsimp only [go_sem, Watch.o, hr, Shock.cs] | simp -dsimp (disch := omega) only [wrap_i64])); repeat (with_reducible refine sideA ?_)))
 refine chT.intro [false, true, true, true, true, false, true, true, true, true, true, false, true, false] [true, true, true, true, true, true, true, true, true, true, true, true, true, false] [some ⟨none, 15, 44, []⟩, none, none, none, none, some ⟨some 0, 20, 44, [19]⟩, none, none, none, none, none, some ⟨some 5, 26, 44, [19, 25]⟩, none, none] [⟨11, 26, 44, [19, 25]⟩] (by kernel_rfl) (by rfl) ?_
 have hwi : IntKind.i64.wrap ((i : Int) + 1) = ((i + 1 : Nat) : Int) := by rw [wrap_i64 (by omega) (by omega)]; omega
 have ht := rows_take Shock.csl w.Shocks i
 have hd := rows_drop Shock.csl w.Shocks (i + 1)
 have hap : rows Shock.cs (w.Shocks.take i) ++ rows Shock.cs (w.Shocks.drop (i + 1)) = rows Shock.cs (w.Shocks.take i ++ w.Shocks.drop (i + 1)) := (rowsOf_append _ _).symm
 have hln : i + (w.Shocks.length - (i + 1)) = (w.Shocks.take i ++ w.Shocks.drop (i + 1)).length := by simp; omega
 (repeat ((repeat1' (first | simp -implicitDefEqProofs -dsimp only [go_sem, hwi, Nat.sub_zero, ht, hd, hap, hln] | simp -dsimp (disch := omega) only [wrap_i64])); repeat (with_reducible refine sideA ?_)))
 refine ⟨⟨by omega, by omega, rows_noOwn _ _⟩, ?_⟩
 have hwa : IntKind.i64.wrap (w.Archived + 1) = w.Archived + 1 := by have := W.arch; exact wrap_i64 (by omega) (by omega)
 refine lateT.path [true, true, true, true, true, true, true, true, true, true, true, true, true, true, true, true, true, false, false] [false, false, false, false, false, false, false, false, false, true, true, true, true, true, true, true, true, false, false] 1 [1] (by kernel_rfl) ?_
 (repeat ((repeat1' (first | simp -implicitDefEqProofs -dsimp only [go_sem, hwa] | simp -dsimp (disch := omega) only [wrap_i64])); repeat (with_reducible refine sideA ?_)))
 have hx := W.shocks _ (List.getElem_mem hi)
 have hxb := shockB_iff.1 hx
 have hwn : IntKind.i64.wrap (w.Now - w.Shocks[i].Tick) = w.Now - w.Shocks[i].Tick := by have := W.now; exact wrap_i64 (by omega) (by omega)
 repeat' (first | (refine guardT.splitT (fun _ => ?_) (fun _ => ?_) <;> (repeat ((repeat1' (first | simp -implicitDefEqProofs -dsimp only [go_sem, *] | simp -dsimp (disch := omega) only [wrap_i64])); repeat (with_reducible refine sideA ?_)))) | (refine guardT.splitF (fun _ => ?_) (fun _ => ?_) <;> (repeat ((repeat1' (first | simp -implicitDefEqProofs -dsimp only [go_sem, *] | simp -dsimp (disch := omega) only [wrap_i64])); repeat (with_reducible refine sideA ?_)))))
 all_goals
   refine WeakR.pick [2, 6] (by decide) (fun j hj => by omega) (.inl ?_) ?_
   · simp [ren, pickF, posOf, archW, archB, shAt_get hi, *]
   · simp only [pickH, List.map_cons, List.map_nil, pickB, List.getElem?_cons_zero, List.getElem?_cons_succ, map_ren_rows]
end Go.Proofs
end
section
set_option maxRecDepth 100000
set_option maxHeartbeats 1000000
namespace Go.Proofs
open Go.Lv
def doneW (w : Watch) (k n v : Int) : Bool := makeB w k n v && wB (makeW w k n v)
theorem l25Make1_ok (w : Watch) (n v : Int) (hw : wB w = true) (hv : 1 ≤ v) (hv2 : v ≤ 9223372036854775807) : Ctr Tryd.prog 189 [w.v, .agg [.int .i64 1, .int .i64 n, .int .i64 v]] [] (.tup [(makeS w 1 n v).o 0 1, .bool (doneW w 1 n v)]) [some (rows Post.cs w.Posts), some (rows Shock.cs w.Shocks)] := by
 have W := wB_ok hw
 have pl := W.plen
 have sl := W.slen
 have wn := W.now
 have hw1 : IntKind.i64.wrap (1000000 - w.Now) = 1000000 - w.Now := wrap_i64 (by omega) (by omega)
 refine Ctr.intro Tryd.mixed Tryd.func189 rfl Tryd.okF189 ?_
 simp -implicitDefEqProofs -dsimp only [go_sem, Tryd.ntmps189, Tryd.results189]
 simp -implicitDefEqProofs -dsimp only [go_sem, Watch.v]
 (first | refine callT.at (l25Own_ok w (by omega) (by omega)) ⟨(by first | exact leA | exact Watch.le rfl rfl), trivial⟩ ?_ | refine callS.at (l25Own_ok w (by omega) (by omega)) ⟨(by first | exact leA | exact Watch.le rfl rfl), trivial⟩ ?_)
 (repeat ((repeat1' (first | simp -implicitDefEqProofs -dsimp only [go_sem, Watch.o, hw1] | simp -dsimp (disch := omega) only [wrap_i64])); repeat (with_reducible refine sideA ?_)))
 refine condT.split (fun h1 => ?_) (fun h1 => ?_)
 · (repeat ((repeat1' (first | simp -implicitDefEqProofs -dsimp only [go_sem, h1] | simp -dsimp (disch := omega) only [wrap_i64])); repeat (with_reducible refine sideA ?_)))
   have hm : ¬ v ≤ 1000000 - w.Now := by simp at h1; omega
   have e1 : makeS w 1 n v = w := by simp [makeS, hm]
   have e2 : doneW w 1 n v = false := by simp [doneW, makeB, hm]
   rw [e1, e2]
   refine WeakR.pick [3, 4] (by decide) (fun j hj => by omega) (.inl ?_) ?_
   · first | rfl | (simp [ren, pickF, posOf, Watch.o]; done)
   · simp only [pickH, List.map_cons, List.map_nil, pickB, List.getElem?_cons_zero, List.getElem?_cons_succ, map_ren_rows]
 · have hm : v ≤ 1000000 - w.Now := by simp at h1; omega
   have hw2 : IntKind.i64.wrap (w.Now + v) = w.Now + v := wrap_i64 (by omega) (by omega)
   have e1 : makeS w 1 n v = makeW w 1 n v := by simp [makeS, hm]
   have e3 : makeW w 1 n v = ⟨w.Now + v, w.Posts, w.Shocks, w.Next, w.Archived⟩ := by simp [makeW]
   have e2 : doneW w 1 n v = wB ⟨w.Now + v, w.Posts, w.Shocks, w.Next, w.Archived⟩ := by simp [doneW, makeB, hm, e3]
   rw [e1, e2, e3]
   (repeat ((repeat1' (first | simp -implicitDefEqProofs -dsimp only [go_sem, h1, hw2] | simp -dsimp (disch := omega) only [wrap_i64])); repeat (with_reducible refine sideA ?_)))
   (first | refine callT.at (l25Good_ok ⟨w.Now + v, w.Posts, w.Shocks, w.Next, w.Archived⟩ (by simp; omega) (by simp; omega)) ⟨(by first | exact leA | exact Watch.le rfl rfl), trivial⟩ ?_ | refine callS.at (l25Good_ok ⟨w.Now + v, w.Posts, w.Shocks, w.Next, w.Archived⟩ (by simp; omega) (by simp; omega)) ⟨(by first | exact leA | exact Watch.le rfl rfl), trivial⟩ ?_)
   (repeat ((repeat1' (first | simp -implicitDefEqProofs -dsimp only [go_sem] | simp -dsimp (disch := omega) only [wrap_i64])); repeat (with_reducible refine sideA ?_)))
   refine WeakR.pick [3, 4] (by decide) (fun j hj => by omega) (.inl ?_) ?_
   · first | rfl | (simp [ren, pickF, posOf, Watch.o]; done)
   · simp only [pickH, List.map_cons, List.map_nil, pickB, List.getElem?_cons_zero, List.getElem?_cons_succ, map_ren_rows]
theorem l25Make2_ok (w : Watch) (k n v : Int) (hk : k = 2 ∨ k = 3) (hw : wB w = true) (hs : stepWB w k n v = true) : Ctr Tryd.prog 189 [w.v, .agg [.int .i64 k, .int .i64 n, .int .i64 v]] [] (.tup [(makeS w k n v).o 0 1, .bool (doneW w k n v)]) [some (rows Post.cs (makeS w k n v).Posts), some (rows Shock.cs w.Shocks)] := by
 have W := wB_ok hw
 have pl := W.plen
 have sl := W.slen
 obtain ⟨i, hi, hix, hin⟩ : ∃ i, ∃ h : i < w.Posts.length, idxI (postIs n) w.Posts = (i : Int) ∧ postIs n w.Posts[i] = true := by
   have : decide (0 ≤ idxI (postIs n) w.Posts) = true := by
     rcases hk with rfl | rfl <;> simp [stepWB] at hs <;> simp [hs.1]
   exact idxI_get this
 have hp : pAt w n = i := by simp [pAt, hix]
 have e1 : makeS w k n v = ⟨w.Now, w.Posts.set i ⟨n, decide (k = 3), w.Now⟩, w.Shocks, w.Next, w.Archived⟩ := by
   rcases hk with rfl | rfl <;> simp [makeS, makeW, hp]
 have e2 : doneW w k n v = (w.Posts[i].Up != decide (k = 3) && wB ⟨w.Now, w.Posts.set i ⟨n, decide (k = 3), w.Now⟩, w.Shocks, w.Next, w.Archived⟩) := by
   rcases hk with rfl | rfl <;> simp [doneW, makeB, makeW, hp, poAt_get hi]
 have hr := rows_at Post.csl hi
 have hsp : ∀ b, splice (rows Post.cs w.Posts) (i * 3) [.int .i64 n, .bool b, .int .i64 w.Now] = rows Post.cs (w.Posts.set i ⟨n, b, w.Now⟩) := fun b => splice_row (cs := Post.cs) Post.csl hi ⟨n, b, w.Now⟩
 have hgood := l25Good_ok ⟨w.Now, w.Posts.set i ⟨n, decide (k = 3), w.Now⟩, w.Shocks, w.Next, w.Archived⟩ (by simp; omega) (by simp; omega)
 rw [e1, e2]
 have hlen : ∀ p, (w.Posts.set i p).length = w.Posts.length := fun p => by simp
 rcases hk with rfl | rfl
 · have hd : decide ((2 : Int) = 3) = false := rfl
   rw [hd] at hgood ⊢
   simp only [Watch.v, hlen] at hgood
   simp only [Watch.o, hlen]
   refine Ctr.intro Tryd.mixed Tryd.func189 rfl Tryd.okF189 ?_
   simp -implicitDefEqProofs -dsimp only [go_sem, Tryd.ntmps189, Tryd.results189]
   simp -implicitDefEqProofs -dsimp only [go_sem, Watch.v]
   (first | refine callT.at (l25Own_ok w (by omega) (by omega)) ⟨(by first | exact leA | exact Watch.le rfl rfl), trivial⟩ ?_ | refine callS.at (l25Own_ok w (by omega) (by omega)) ⟨(by first | exact leA | exact Watch.le rfl rfl), trivial⟩ ?_)
   (repeat ((repeat1' (first | simp -implicitDefEqProofs -dsimp only [go_sem, Watch.o] | simp -dsimp (disch := omega) only [wrap_i64])); repeat (with_reducible refine sideA ?_)))
   (first | refine callT.at (l25Post_ok w n (by omega)) ⟨(by first | exact leA | exact Watch.le rfl rfl), (by first | exact leA | exact Watch.le rfl rfl), trivial⟩ ?_ | refine callS.at (l25Post_ok w n (by omega)) ⟨(by first | exact leA | exact Watch.le rfl rfl), (by first | exact leA | exact Watch.le rfl rfl), trivial⟩ ?_)
   rw [hix]
   (repeat ((repeat1' (first | simp -implicitDefEqProofs -dsimp only [go_sem, hr, Post.cs] | simp -dsimp (disch := omega) only [wrap_i64])); repeat (with_reducible refine sideA ?_)))
   refine guardT.splitT (fun g => ?_) (fun g => ?_) <;> (repeat ((repeat1' (first | simp -implicitDefEqProofs -dsimp only [go_sem, g, hsp, Int.toNat_natCast] | simp -dsimp (disch := omega) only [wrap_i64])); repeat (with_reducible refine sideA ?_)))
   · skip
     (first | refine callT.at (hgood) ⟨(by first | exact leA | exact Watch.le rfl rfl), trivial⟩ ?_ | refine callS.at (hgood) ⟨(by first | exact leA | exact Watch.le rfl rfl), trivial⟩ ?_)
     (repeat ((repeat1' (first | simp -implicitDefEqProofs -dsimp only [go_sem, g] | simp -dsimp (disch := omega) only [wrap_i64])); repeat (with_reducible refine sideA ?_)))
     simp at g
     refine WeakR.pick [3, 4] (by decide) (fun j hj => by omega) (.inl ?_) ?_
     · first | rfl | (simp [ren, pickF, posOf, Watch.o, g]; done)
     · simp only [pickH, List.map_cons, List.map_nil, pickB, List.getElem?_cons_zero, List.getElem?_cons_succ, map_ren_rows]
   · skip
     simp at g
     refine WeakR.pick [3, 4] (by decide) (fun j hj => by omega) (.inl ?_) ?_
     · first | rfl | (simp [ren, pickF, posOf, Watch.o, g]; done)
     · simp only [pickH, List.map_cons, List.map_nil, pickB, List.getElem?_cons_zero, List.getElem?_cons_succ, map_ren_rows]
 · have hd : decide ((3 : Int) = 3) = true := rfl
   rw [hd] at hgood ⊢
   simp only [Watch.v, hlen] at hgood
   simp only [Watch.o, hlen]
   refine Ctr.intro Tryd.mixed Tryd.func189 rfl Tryd.okF189 ?_
   simp -implicitDefEqProofs -dsimp only [go_sem, Tryd.ntmps189, Tryd.results189]
   simp -implicitDefEqProofs -dsimp only [go_sem, Watch.v]
   (first | refine callT.at (l25Own_ok w (by omega) (by omega)) ⟨(by first | exact leA | exact Watch.le rfl rfl), trivial⟩ ?_ | refine callS.at (l25Own_ok w (by omega) (by omega)) ⟨(by first | exact leA | exact Watch.le rfl rfl), trivial⟩ ?_)
   (repeat ((repeat1' (first | simp -implicitDefEqProofs -dsimp only [go_sem, Watch.o] | simp -dsimp (disch := omega) only [wrap_i64])); repeat (with_reducible refine sideA ?_)))
   (first | refine callT.at (l25Post_ok w n (by omega)) ⟨(by first | exact leA | exact Watch.le rfl rfl), (by first | exact leA | exact Watch.le rfl rfl), trivial⟩ ?_ | refine callS.at (l25Post_ok w n (by omega)) ⟨(by first | exact leA | exact Watch.le rfl rfl), (by first | exact leA | exact Watch.le rfl rfl), trivial⟩ ?_)
   rw [hix]
   (repeat ((repeat1' (first | simp -implicitDefEqProofs -dsimp only [go_sem, hr, Post.cs] | simp -dsimp (disch := omega) only [wrap_i64])); repeat (with_reducible refine sideA ?_)))
   refine guardT.splitT (fun g => ?_) (fun g => ?_) <;> (repeat ((repeat1' (first | simp -implicitDefEqProofs -dsimp only [go_sem, g, hsp, Int.toNat_natCast] | simp -dsimp (disch := omega) only [wrap_i64])); repeat (with_reducible refine sideA ?_)))
   · skip
     (first | refine callT.at (hgood) ⟨(by first | exact leA | exact Watch.le rfl rfl), trivial⟩ ?_ | refine callS.at (hgood) ⟨(by first | exact leA | exact Watch.le rfl rfl), trivial⟩ ?_)
     (repeat ((repeat1' (first | simp -implicitDefEqProofs -dsimp only [go_sem, g] | simp -dsimp (disch := omega) only [wrap_i64])); repeat (with_reducible refine sideA ?_)))
     simp at g
     refine WeakR.pick [3, 4] (by decide) (fun j hj => by omega) (.inl ?_) ?_
     · first | rfl | (simp [ren, pickF, posOf, Watch.o, g]; done)
     · simp only [pickH, List.map_cons, List.map_nil, pickB, List.getElem?_cons_zero, List.getElem?_cons_succ, map_ren_rows]
   · skip
     simp at g
     refine WeakR.pick [3, 4] (by decide) (fun j hj => by omega) (.inl ?_) ?_
     · first | rfl | (simp [ren, pickF, posOf, Watch.o, g]; done)
     · simp only [pickH, List.map_cons, List.map_nil, pickB, List.getElem?_cons_zero, List.getElem?_cons_succ, map_ren_rows]
theorem l25Make4_ok (w : Watch) (n v : Int) (hw : wB w = true) : Ctr Tryd.prog 189 [w.v, .agg [.int .i64 4, .int .i64 n, .int .i64 v]] [] (.tup [(makeS w 4 n v).o 0 1, .bool (doneW w 4 n v)]) [some (rows Post.cs w.Posts), some (rows Shock.cs (makeS w 4 n v).Shocks)] := by
 have W := wB_ok hw
 have pl := W.plen
 have sl := W.slen
 have wn := W.next
 have hwn : IntKind.i64.wrap (w.Next + 1) = w.Next + 1 := wrap_i64 (by omega) (by omega)
 obtain ⟨x, hx⟩ : ∃ x : Shock, x = ⟨w.Next, 0, (upN w w.Posts.length : Int), 0, w.Now⟩ := ⟨_, rfl⟩
 have e1 : makeS w 4 n v = ⟨w.Now, w.Posts, w.Shocks ++ [x], w.Next + 1, w.Archived⟩ := by simp [makeS, makeW, hx]
 have e2 : doneW w 4 n v = wB ⟨w.Now, w.Posts, w.Shocks ++ [x], w.Next + 1, w.Archived⟩ := by simp [doneW, makeB, makeW, hx]
 have hsn : rows Shock.cs w.Shocks ++ [.int .i64 w.Next, .int .i64 0, .int .i64 (upN w w.Posts.length : Int), .int .i64 0, .int .i64 w.Now] = rows Shock.cs (w.Shocks ++ [x]) := by
   rw [hx]
   exact rows_snoc (cs := Shock.cs) w.Shocks ⟨w.Next, 0, (upN w w.Posts.length : Int), 0, w.Now⟩
 have hln : w.Shocks.length + 1 = (w.Shocks ++ [x]).length := by simp
 have hgood := l25Good_ok ⟨w.Now, w.Posts, w.Shocks ++ [x], w.Next + 1, w.Archived⟩ (by simp; omega) (by simp; omega)
 rw [e1, e2]
 refine Ctr.intro Tryd.mixed Tryd.func189 rfl Tryd.okF189 ?_
 simp -implicitDefEqProofs -dsimp only [go_sem, Tryd.ntmps189, Tryd.results189]
 simp -implicitDefEqProofs -dsimp only [go_sem, Watch.v]
 (first | refine callT.at (l25Own_ok w (by omega) (by omega)) ⟨(by first | exact leA | exact Watch.le rfl rfl), trivial⟩ ?_ | refine callS.at (l25Own_ok w (by omega) (by omega)) ⟨(by first | exact leA | exact Watch.le rfl rfl), trivial⟩ ?_)
 (repeat ((repeat1' (first | simp -implicitDefEqProofs -dsimp only [go_sem, Watch.o] | simp -dsimp (disch := omega) only [wrap_i64])); repeat (with_reducible refine sideA ?_)))
 (first | refine callT.at (l25Up_ok w (by omega)) ⟨(by first | exact leA | exact Watch.le rfl rfl), trivial⟩ ?_ | refine callS.at (l25Up_ok w (by omega)) ⟨(by first | exact leA | exact Watch.le rfl rfl), trivial⟩ ?_)
 (repeat ((repeat1' (first | simp -implicitDefEqProofs -dsimp only [go_sem, hwn, hsn, hln] | simp -dsimp (disch := omega) only [wrap_i64])); repeat (with_reducible refine sideA ?_)))
 (first | refine callT.at (hgood) ⟨(by first | exact leA | exact Watch.le rfl rfl), trivial⟩ ?_ | refine callS.at (hgood) ⟨(by first | exact leA | exact Watch.le rfl rfl), trivial⟩ ?_)
 (repeat ((repeat1' (first | simp -implicitDefEqProofs -dsimp only [go_sem, hsn] | simp -dsimp (disch := omega) only [wrap_i64])); repeat (with_reducible refine sideA ?_)))
 refine WeakR.pick [3, 4] (by decide) (fun j hj => by omega) (.inl ?_) ?_
 · first | rfl | (simp [ren, pickF, posOf, Watch.o]; done)
 · simp only [pickH, List.map_cons, List.map_nil, pickB, List.getElem?_cons_zero, List.getElem?_cons_succ, map_ren_rows]
theorem l25Make8_ok (w : Watch) (n v : Int) (hw : wB w = true) (hs : stepWB w 8 n v = true) : Ctr Tryd.prog 189 [w.v, .agg [.int .i64 8, .int .i64 n, .int .i64 v]] [] (.tup [(makeS w 8 n v).o 0 1, .bool (doneW w 8 n v)]) [some (rows Post.cs w.Posts), some (rows Shock.cs (makeS w 8 n v).Shocks)] := by
 have W := wB_ok hw
 have pl := W.plen
 have sl := W.slen
 obtain ⟨i, hi, hix, hin⟩ : ∃ i, ∃ h : i < w.Shocks.length, idxI (shockIs n) w.Shocks = (i : Int) ∧ shockIs n w.Shocks[i] = true := by
   have : decide (0 ≤ idxI (shockIs n) w.Shocks) = true := by
     simp [stepWB] at hs
     simp [hs.1]
   exact idxI_get this
 have hp : sAt w n = i := by simp [sAt, hix]
 have e1 : makeS w 8 n v = archW w i := by simp [makeS, makeW, archW, hp]
 have e2 : doneW w 8 n v = (archB w (shAt w i) && wB (archW w i)) := by simp [doneW, makeB, makeW, archW, hp]
 have hgood := l25Good_ok (archW w i) (by simp [archW]; omega) (by simp [archW]; omega)
 have harch := l25Archive_ok w i hw hi
 have e3 : (archW w i).Shocks = w.Shocks.take i ++ w.Shocks.drop (i + 1) := rfl
 rw [e1, e2, e3]
 refine Ctr.intro Tryd.mixed Tryd.func189 rfl Tryd.okF189 ?_
 simp -implicitDefEqProofs -dsimp only [go_sem, Tryd.ntmps189, Tryd.results189]
 simp -implicitDefEqProofs -dsimp only [go_sem, Watch.v]
 (first | refine callT.at (l25Own_ok w (by omega) (by omega)) ⟨(by first | exact leA | exact Watch.le rfl rfl), trivial⟩ ?_ | refine callS.at (l25Own_ok w (by omega) (by omega)) ⟨(by first | exact leA | exact Watch.le rfl rfl), trivial⟩ ?_)
 (repeat ((repeat1' (first | simp -implicitDefEqProofs -dsimp only [go_sem, Watch.o] | simp -dsimp (disch := omega) only [wrap_i64])); repeat (with_reducible refine sideA ?_)))
 (first | refine callT.at (l25Find_ok w n (by omega)) ⟨(by first | exact leA | exact Watch.le rfl rfl), (by first | exact leA | exact Watch.le rfl rfl), trivial⟩ ?_ | refine callS.at (l25Find_ok w n (by omega)) ⟨(by first | exact leA | exact Watch.le rfl rfl), (by first | exact leA | exact Watch.le rfl rfl), trivial⟩ ?_)
 rw [hix]
 (repeat ((repeat1' (first | simp -implicitDefEqProofs -dsimp only [go_sem] | simp -dsimp (disch := omega) only [wrap_i64])); repeat (with_reducible refine sideA ?_)))
 (first | refine callT.at (harch) ⟨(by first | exact leA | exact Watch.le rfl rfl), (by first | exact leA | exact Watch.le rfl rfl), trivial⟩ ?_ | refine callS.at (harch) ⟨(by first | exact leA | exact Watch.le rfl rfl), (by first | exact leA | exact Watch.le rfl rfl), trivial⟩ ?_)
 (repeat ((repeat1' (first | simp -implicitDefEqProofs -dsimp only [go_sem, Watch.o] | simp -dsimp (disch := omega) only [wrap_i64])); repeat (with_reducible refine sideA ?_)))
 refine guardT.splitT (fun g => ?_) (fun g => ?_) <;> (repeat ((repeat1' (first | simp -implicitDefEqProofs -dsimp only [go_sem, g] | simp -dsimp (disch := omega) only [wrap_i64])); repeat (with_reducible refine sideA ?_)))
 · skip
   (first | refine callT.at (hgood) ⟨(by first | exact leA | exact Watch.le rfl rfl), trivial⟩ ?_ | refine callS.at (hgood) ⟨(by first | exact leA | exact Watch.le rfl rfl), trivial⟩ ?_)
   (repeat ((repeat1' (first | simp -implicitDefEqProofs -dsimp only [go_sem, g] | simp -dsimp (disch := omega) only [wrap_i64])); repeat (with_reducible refine sideA ?_)))
   refine WeakR.pick [6, 7] (by decide) (fun j hj => by omega) (.inl ?_) ?_
   · first | rfl | (simp [ren, pickF, posOf, Watch.o, g, archW]; done)
   · simp only [pickH, List.map_cons, List.map_nil, pickB, List.getElem?_cons_zero, List.getElem?_cons_succ, map_ren_rows]
 · skip
   refine WeakR.pick [6, 7] (by decide) (fun j hj => by omega) (.inl ?_) ?_
   · first | rfl | (simp [ren, pickF, posOf, Watch.o, g, archW]; done)
   · simp only [pickH, List.map_cons, List.map_nil, pickB, List.getElem?_cons_zero, List.getElem?_cons_succ, map_ren_rows]
theorem l25Make5_ok (w : Watch) (k n v : Int) (hk : k = 5 ∨ k = 6 ∨ k = 7) (hw : wB w = true) (hs : stepWB w k n v = true) (hv : -100 ≤ v ∧ v ≤ 100) : Ctr Tryd.prog 189 [w.v, .agg [.int .i64 k, .int .i64 n, .int .i64 v]] [] (.tup [(makeS w k n v).o 0 1, .bool (doneW w k n v)]) [some (rows Post.cs w.Posts), some (rows Shock.cs (makeS w k n v).Shocks)] := by
 have W := wB_ok hw
 have pl := W.plen
 have sl := W.slen
 obtain ⟨i, hi, hix, hin⟩ : ∃ i, ∃ h : i < w.Shocks.length, idxI (shockIs n) w.Shocks = (i : Int) ∧ shockIs n w.Shocks[i] = true := by
   have : decide (0 ≤ idxI (shockIs n) w.Shocks) = true := by
     rcases hk with rfl | rfl | rfl <;> simp [stepWB] at hs <;> simp [hs]
   exact idxI_get this
 have hp : sAt w n = i := by simp [sAt, hix]
 have hsh := shAt_get hi
 have e1 : makeS w k n v = ⟨w.Now, w.Posts, w.Shocks.set i (chgX w.Shocks[i] k v), w.Next, w.Archived⟩ := by
   rcases hk with rfl | rfl | rfl <;> simp [makeS, makeW, hp, hsh]
 have e2 : doneW w k n v = (chgB w.Shocks[i] k && wB ⟨w.Now, w.Posts, w.Shocks.set i (chgX w.Shocks[i] k v), w.Next, w.Archived⟩) := by
   rcases hk with rfl | rfl | rfl <;> simp [doneW, makeB, makeW, hp, hsh]
 have hr := rows_at Shock.csl hi
 have hchg := l25Change_ok w.Next w.Now w.Shocks[i] k n v (W.shocks _ (List.getElem_mem hi)) hk hv
 have hlen : ∀ p, (w.Shocks.set i p).length = w.Shocks.length := fun p => by simp
 have hgood := l25Good_ok ⟨w.Now, w.Posts, w.Shocks.set i (chgX w.Shocks[i] k v), w.Next, w.Archived⟩ (by simp; omega) (by simp; omega)
 generalize chgX w.Shocks[i] k v = y at e1 e2 hchg hgood
 have hsp : splice (rows Shock.cs w.Shocks) (i * 5) [.int .i64 y.Number, .int .i64 y.State, .int .i64 y.Seen, .int .i64 y.Size, .int .i64 y.Tick] = rows Shock.cs (w.Shocks.set i y) := splice_row (cs := Shock.cs) Shock.csl hi y
 rw [e1, e2]
 clear e1 e2
 simp only [Watch.v, hlen] at hgood
 simp only [Watch.o, hlen]
 generalize chgB w.Shocks[i] k = b at *
 rcases hk with rfl | rfl | rfl
 · skip
   refine Ctr.intro Tryd.mixed Tryd.func189 rfl Tryd.okF189 ?_
   simp -implicitDefEqProofs -dsimp only [go_sem, Tryd.ntmps189, Tryd.results189]
   simp -implicitDefEqProofs -dsimp only [go_sem, Watch.v]
   (first | refine callT.at (l25Own_ok w (by omega) (by omega)) ⟨(by first | exact leA | exact Watch.le rfl rfl), trivial⟩ ?_ | refine callS.at (l25Own_ok w (by omega) (by omega)) ⟨(by first | exact leA | exact Watch.le rfl rfl), trivial⟩ ?_)
   (repeat ((repeat1' (first | simp -implicitDefEqProofs -dsimp only [go_sem, Watch.o] | simp -dsimp (disch := omega) only [wrap_i64])); repeat (with_reducible refine sideA ?_)))
   (first | refine callT.at (l25Find_ok w n (by omega)) ⟨(by first | exact leA | exact Watch.le rfl rfl), (by first | exact leA | exact Watch.le rfl rfl), trivial⟩ ?_ | refine callS.at (l25Find_ok w n (by omega)) ⟨(by first | exact leA | exact Watch.le rfl rfl), (by first | exact leA | exact Watch.le rfl rfl), trivial⟩ ?_)
   rw [hix]
   (repeat ((repeat1' (first | simp -implicitDefEqProofs -dsimp only [go_sem, hr, Shock.cs] | simp -dsimp (disch := omega) only [wrap_i64])); repeat (with_reducible refine sideA ?_)))
   (first | refine callT.at (hchg) ⟨(by first | exact leA | exact Watch.le rfl rfl), (by first | exact leA | exact Watch.le rfl rfl), trivial⟩ ?_ | refine callS.at (hchg) ⟨(by first | exact leA | exact Watch.le rfl rfl), (by first | exact leA | exact Watch.le rfl rfl), trivial⟩ ?_)
   (repeat ((repeat1' (first | simp -implicitDefEqProofs -dsimp only [go_sem, Shock.v, hsp, Int.toNat_natCast] | simp -dsimp (disch := omega) only [wrap_i64])); repeat (with_reducible refine sideA ?_)))
   refine guardT.splitT (fun g => ?_) (fun g => ?_) <;> (repeat ((repeat1' (first | simp -implicitDefEqProofs -dsimp only [go_sem, g, hsp, Int.toNat_natCast] | simp -dsimp (disch := omega) only [wrap_i64])); repeat (with_reducible refine sideA ?_)))
   · skip
     (first | refine callT.at (hgood) ⟨(by first | exact leA | exact Watch.le rfl rfl), trivial⟩ ?_ | refine callS.at (hgood) ⟨(by first | exact leA | exact Watch.le rfl rfl), trivial⟩ ?_)
     (repeat ((repeat1' (first | simp -implicitDefEqProofs -dsimp only [go_sem, g] | simp -dsimp (disch := omega) only [wrap_i64])); repeat (with_reducible refine sideA ?_)))
     refine WeakR.pick [3, 4] (by decide) (fun j hj => by omega) (.inl ?_) ?_
     · first | rfl | (simp [ren, pickF, posOf, Watch.o, g]; done)
     · simp only [pickH, List.map_cons, List.map_nil, pickB, List.getElem?_cons_zero, List.getElem?_cons_succ, map_ren_rows]
   · skip
     refine WeakR.pick [3, 4] (by decide) (fun j hj => by omega) (.inl ?_) ?_
     · first | rfl | (simp [ren, pickF, posOf, Watch.o, g]; done)
     · simp only [pickH, List.map_cons, List.map_nil, pickB, List.getElem?_cons_zero, List.getElem?_cons_succ, map_ren_rows]
 · skip
   refine Ctr.intro Tryd.mixed Tryd.func189 rfl Tryd.okF189 ?_
   simp -implicitDefEqProofs -dsimp only [go_sem, Tryd.ntmps189, Tryd.results189]
   simp -implicitDefEqProofs -dsimp only [go_sem, Watch.v]
   (first | refine callT.at (l25Own_ok w (by omega) (by omega)) ⟨(by first | exact leA | exact Watch.le rfl rfl), trivial⟩ ?_ | refine callS.at (l25Own_ok w (by omega) (by omega)) ⟨(by first | exact leA | exact Watch.le rfl rfl), trivial⟩ ?_)
   (repeat ((repeat1' (first | simp -implicitDefEqProofs -dsimp only [go_sem, Watch.o] | simp -dsimp (disch := omega) only [wrap_i64])); repeat (with_reducible refine sideA ?_)))
   (first | refine callT.at (l25Find_ok w n (by omega)) ⟨(by first | exact leA | exact Watch.le rfl rfl), (by first | exact leA | exact Watch.le rfl rfl), trivial⟩ ?_ | refine callS.at (l25Find_ok w n (by omega)) ⟨(by first | exact leA | exact Watch.le rfl rfl), (by first | exact leA | exact Watch.le rfl rfl), trivial⟩ ?_)
   rw [hix]
   (repeat ((repeat1' (first | simp -implicitDefEqProofs -dsimp only [go_sem, hr, Shock.cs] | simp -dsimp (disch := omega) only [wrap_i64])); repeat (with_reducible refine sideA ?_)))
   (first | refine callT.at (hchg) ⟨(by first | exact leA | exact Watch.le rfl rfl), (by first | exact leA | exact Watch.le rfl rfl), trivial⟩ ?_ | refine callS.at (hchg) ⟨(by first | exact leA | exact Watch.le rfl rfl), (by first | exact leA | exact Watch.le rfl rfl), trivial⟩ ?_)
   (repeat ((repeat1' (first | simp -implicitDefEqProofs -dsimp only [go_sem, Shock.v, hsp, Int.toNat_natCast] | simp -dsimp (disch := omega) only [wrap_i64])); repeat (with_reducible refine sideA ?_)))
   refine guardT.splitT (fun g => ?_) (fun g => ?_) <;> (repeat ((repeat1' (first | simp -implicitDefEqProofs -dsimp only [go_sem, g, hsp, Int.toNat_natCast] | simp -dsimp (disch := omega) only [wrap_i64])); repeat (with_reducible refine sideA ?_)))
   · skip
     (first | refine callT.at (hgood) ⟨(by first | exact leA | exact Watch.le rfl rfl), trivial⟩ ?_ | refine callS.at (hgood) ⟨(by first | exact leA | exact Watch.le rfl rfl), trivial⟩ ?_)
     (repeat ((repeat1' (first | simp -implicitDefEqProofs -dsimp only [go_sem, g] | simp -dsimp (disch := omega) only [wrap_i64])); repeat (with_reducible refine sideA ?_)))
     refine WeakR.pick [3, 4] (by decide) (fun j hj => by omega) (.inl ?_) ?_
     · first | rfl | (simp [ren, pickF, posOf, Watch.o, g]; done)
     · simp only [pickH, List.map_cons, List.map_nil, pickB, List.getElem?_cons_zero, List.getElem?_cons_succ, map_ren_rows]
   · skip
     refine WeakR.pick [3, 4] (by decide) (fun j hj => by omega) (.inl ?_) ?_
     · first | rfl | (simp [ren, pickF, posOf, Watch.o, g]; done)
     · simp only [pickH, List.map_cons, List.map_nil, pickB, List.getElem?_cons_zero, List.getElem?_cons_succ, map_ren_rows]
 · skip
   refine Ctr.intro Tryd.mixed Tryd.func189 rfl Tryd.okF189 ?_
   simp -implicitDefEqProofs -dsimp only [go_sem, Tryd.ntmps189, Tryd.results189]
   simp -implicitDefEqProofs -dsimp only [go_sem, Watch.v]
   (first | refine callT.at (l25Own_ok w (by omega) (by omega)) ⟨(by first | exact leA | exact Watch.le rfl rfl), trivial⟩ ?_ | refine callS.at (l25Own_ok w (by omega) (by omega)) ⟨(by first | exact leA | exact Watch.le rfl rfl), trivial⟩ ?_)
   (repeat ((repeat1' (first | simp -implicitDefEqProofs -dsimp only [go_sem, Watch.o] | simp -dsimp (disch := omega) only [wrap_i64])); repeat (with_reducible refine sideA ?_)))
   (first | refine callT.at (l25Find_ok w n (by omega)) ⟨(by first | exact leA | exact Watch.le rfl rfl), (by first | exact leA | exact Watch.le rfl rfl), trivial⟩ ?_ | refine callS.at (l25Find_ok w n (by omega)) ⟨(by first | exact leA | exact Watch.le rfl rfl), (by first | exact leA | exact Watch.le rfl rfl), trivial⟩ ?_)
   rw [hix]
   (repeat ((repeat1' (first | simp -implicitDefEqProofs -dsimp only [go_sem, hr, Shock.cs] | simp -dsimp (disch := omega) only [wrap_i64])); repeat (with_reducible refine sideA ?_)))
   (first | refine callT.at (hchg) ⟨(by first | exact leA | exact Watch.le rfl rfl), (by first | exact leA | exact Watch.le rfl rfl), trivial⟩ ?_ | refine callS.at (hchg) ⟨(by first | exact leA | exact Watch.le rfl rfl), (by first | exact leA | exact Watch.le rfl rfl), trivial⟩ ?_)
   (repeat ((repeat1' (first | simp -implicitDefEqProofs -dsimp only [go_sem, Shock.v, hsp, Int.toNat_natCast] | simp -dsimp (disch := omega) only [wrap_i64])); repeat (with_reducible refine sideA ?_)))
   refine guardT.splitT (fun g => ?_) (fun g => ?_) <;> (repeat ((repeat1' (first | simp -implicitDefEqProofs -dsimp only [go_sem, g, hsp, Int.toNat_natCast] | simp -dsimp (disch := omega) only [wrap_i64])); repeat (with_reducible refine sideA ?_)))
   · skip
     (first | refine callT.at (hgood) ⟨(by first | exact leA | exact Watch.le rfl rfl), trivial⟩ ?_ | refine callS.at (hgood) ⟨(by first | exact leA | exact Watch.le rfl rfl), trivial⟩ ?_)
     (repeat ((repeat1' (first | simp -implicitDefEqProofs -dsimp only [go_sem, g] | simp -dsimp (disch := omega) only [wrap_i64])); repeat (with_reducible refine sideA ?_)))
     refine WeakR.pick [3, 4] (by decide) (fun j hj => by omega) (.inl ?_) ?_
     · first | rfl | (simp [ren, pickF, posOf, Watch.o, g]; done)
     · simp only [pickH, List.map_cons, List.map_nil, pickB, List.getElem?_cons_zero, List.getElem?_cons_succ, map_ren_rows]
   · skip
     refine WeakR.pick [3, 4] (by decide) (fun j hj => by omega) (.inl ?_) ?_
     · first | rfl | (simp [ren, pickF, posOf, Watch.o, g]; done)
     · simp only [pickH, List.map_cons, List.map_nil, pickB, List.getElem?_cons_zero, List.getElem?_cons_succ, map_ren_rows]
theorem stepWB_cases {w : Watch} {k n v : Int} (h : stepWB w k n v = true) : (k = 1 ∧ 1 ≤ v) ∨ (k = 2 ∨ k = 3) ∨ k = 4 ∨ k = 8 ∨ ((k = 5 ∨ k = 6 ∨ k = 7) ∧ -100 ≤ v ∧ v ≤ 100) := by
 unfold stepWB at h
 split at h
 · rename_i hk; simp at h; exact .inl ⟨hk, h.2⟩
 split at h
 · rename_i hk; exact .inr (.inl hk)
 split at h
 · rename_i hk; exact .inr (.inr (.inl hk))
 split at h
 · rename_i hk; simp [inB'] at h; exact .inr (.inr (.inr (.inr ⟨.inl hk, by omega, by omega⟩)))
 split at h
 · rename_i hk; simp [inB'] at h; exact .inr (.inr (.inr (.inr ⟨.inr (.inl hk), by omega, by omega⟩)))
 · simp at h
   rcases h.1.1 with hk | hk
   · exact .inr (.inr (.inr (.inr ⟨.inr (.inr hk), by omega, by omega⟩)))
   · exact .inr (.inr (.inr (.inl hk)))
theorem l25Make_ok (w : Watch) (k n v : Int) (hw : wB w = true) (hs : stepWB w k n v = true) (hv : v ≤ 9223372036854775807) : Ctr Tryd.prog 189 [w.v, .agg [.int .i64 k, .int .i64 n, .int .i64 v]] [] (.tup [(makeS w k n v).o 0 1, .bool (doneW w k n v)]) [some (rows Post.cs (makeS w k n v).Posts), some (rows Shock.cs (makeS w k n v).Shocks)] := by
 rcases stepWB_cases hs with ⟨rfl, h1⟩ | hk | rfl | rfl | ⟨hk, h1⟩
 · have e : (makeS w 1 n v).Posts = w.Posts ∧ (makeS w 1 n v).Shocks = w.Shocks := by unfold makeS makeW; split <;> simp
   rw [e.1, e.2]
   exact l25Make1_ok w n v hw h1 hv
 · have e : (makeS w k n v).Shocks = w.Shocks := by rcases hk with rfl | rfl <;> simp [makeS, makeW]
   rw [e]
   exact l25Make2_ok w k n v hk hw hs
 · have e : (makeS w 4 n v).Posts = w.Posts := by simp [makeS, makeW]
   rw [e]
   exact l25Make4_ok w n v hw
 · have e : (makeS w 8 n v).Posts = w.Posts := by simp [makeS, makeW]
   rw [e]
   exact l25Make8_ok w n v hw hs
 · have e : (makeS w k n v).Posts = w.Posts := by rcases hk with rfl | rfl | rfl <;> simp [makeS, makeW]
   rw [e]
   exact l25Make5_ok w k n v hk hw hs h1
def stepW (w : Watch) (k n v : Int) : Option Watch := if wB w && stepWB w k n v && doneW w k n v then some (makeW w k n v) else none
def zeroW : V := .agg [.int .i64 0, .nilsl, .nilsl, .int .i64 0, .int .i64 0]
def stwR : Option Watch → V
 | none => .tup [zeroW, .bool false]
 | some b => .tup [b.o 0 1, .bool true]
def stwH : Option Watch → Hp
 | none => []
 | some b => [some (rows Post.cs b.Posts), some (rows Shock.cs b.Shocks)]
theorem makeS_done {w : Watch} {k n v : Int} (h : doneW w k n v = true) : makeS w k n v = makeW w k n v := by
 unfold makeS
 split
 · rename_i h1
   obtain ⟨rfl, h2⟩ := h1
   simp [doneW, makeB, h2] at h
 · rfl
theorem sStepWatch_ok (w : Watch) (k n v : Int) (hp : w.Posts.length ≤ 16777216) (hs : w.Shocks.length ≤ 16777216) (hv : v ≤ 9223372036854775807) : Ctr Tryd.prog 143 [w.v, .agg [.int .i64 k, .int .i64 n, .int .i64 v]] [] (stwR (stepW w k n v)) (stwH (stepW w k n v)) := by
 refine Ctr.intro Tryd.mixed Tryd.func143 rfl Tryd.okF143 ?_
 simp -implicitDefEqProofs -dsimp only [go_sem, Tryd.ntmps143, Tryd.results143]
 simp -implicitDefEqProofs -dsimp only [go_sem, Watch.v]
 (first | refine callT.at (l25Good_ok w (by omega) (by omega)) ⟨(by first | exact leA | exact Watch.le rfl rfl), trivial⟩ ?_ | refine callS.at (l25Good_ok w (by omega) (by omega)) ⟨(by first | exact leA | exact Watch.le rfl rfl), trivial⟩ ?_)
 have no : stepW w k n v = none → ∀ h : Hp, WeakR 0 (.tup [.agg [.int .i64 0, .nilsl, .nilsl, .int .i64 0, .int .i64 0], .bool false]) h (stwR (stepW w k n v)) (stwH (stepW w k n v)) := by
   intro e h
   rw [e]
   exact WeakR.drop' rfl (by rfl)
 cases hw : wB w with
 | false =>
   (repeat ((repeat1' (first | simp -implicitDefEqProofs -dsimp only [go_sem] | simp -dsimp (disch := omega) only [wrap_i64])); repeat (with_reducible refine sideA ?_)))
   exact no (by simp [stepW, hw]) _
 | true =>
   (repeat ((repeat1' (first | simp -implicitDefEqProofs -dsimp only [go_sem] | simp -dsimp (disch := omega) only [wrap_i64])); repeat (with_reducible refine sideA ?_)))
   (first | refine callT.at (l25Step_ok w k n v hp hs) ⟨(by first | exact leA | exact Watch.le rfl rfl), (by first | exact leA | exact Watch.le rfl rfl), trivial⟩ ?_ | refine callS.at (l25Step_ok w k n v hp hs) ⟨(by first | exact leA | exact Watch.le rfl rfl), (by first | exact leA | exact Watch.le rfl rfl), trivial⟩ ?_)
   cases hst : stepWB w k n v with
   | false =>
     (repeat ((repeat1' (first | simp -implicitDefEqProofs -dsimp only [go_sem] | simp -dsimp (disch := omega) only [wrap_i64])); repeat (with_reducible refine sideA ?_)))
     exact no (by simp [stepW, hst]) _
   | true =>
     (repeat ((repeat1' (first | simp -implicitDefEqProofs -dsimp only [go_sem] | simp -dsimp (disch := omega) only [wrap_i64])); repeat (with_reducible refine sideA ?_)))
     have hm := l25Make_ok w k n v hw hst hv
     cases hd : doneW w k n v with
     | false =>
       rw [hd] at hm
       (first | refine callT.at (hm) ⟨(by first | exact leA | exact Watch.le rfl rfl), (by first | exact leA | exact Watch.le rfl rfl), trivial⟩ ?_ | refine callS.at (hm) ⟨(by first | exact leA | exact Watch.le rfl rfl), (by first | exact leA | exact Watch.le rfl rfl), trivial⟩ ?_)
       (repeat ((repeat1' (first | simp -implicitDefEqProofs -dsimp only [go_sem, Watch.o] | simp -dsimp (disch := omega) only [wrap_i64])); repeat (with_reducible refine sideA ?_)))
       exact no (by simp [stepW, hd]) _
     | true =>
       rw [hd] at hm
       (first | refine callT.at (hm) ⟨(by first | exact leA | exact Watch.le rfl rfl), (by first | exact leA | exact Watch.le rfl rfl), trivial⟩ ?_ | refine callS.at (hm) ⟨(by first | exact leA | exact Watch.le rfl rfl), (by first | exact leA | exact Watch.le rfl rfl), trivial⟩ ?_)
       (repeat ((repeat1' (first | simp -implicitDefEqProofs -dsimp only [go_sem, Watch.o] | simp -dsimp (disch := omega) only [wrap_i64])); repeat (with_reducible refine sideA ?_)))
       have e : stepW w k n v = some (makeW w k n v) := by simp [stepW, hw, hst, hd]
       have e2 := makeS_done hd
       rw [e, ← e2, stwR, stwH]

       refine WeakR.pick [3, 4] (by decide) (fun j hj => by omega) (.inl ?_) ?_
       · first | rfl | (simp [ren, pickF, posOf, Watch.o]; done)
       · simp only [pickH, List.map_cons, List.map_nil, pickB, List.getElem?_cons_zero, List.getElem?_cons_succ, map_ren_rows]
end Go.Proofs
end
section
set_option maxRecDepth 100000
namespace Go.Proofs
open Go.Lv
structure QuakeRow where
 Id : Int
 Tick : Int
 X : Int
 Y : Int
 Deep : Int
 Size : Int
 Grade : Int
def QuakeRow.cs (r : QuakeRow) : List V := [.int .i64 r.Id, .int .i64 r.Tick, .int .i64 r.X, .int .i64 r.Y, .int .i64 r.Deep, .int .i64 r.Size, .int .i64 r.Grade]
def QuakeRow.v (r : QuakeRow) : V := .agg [.int .i64 r.Id, .int .i64 r.Tick, .int .i64 r.X, .int .i64 r.Y, .int .i64 r.Deep, .int .i64 r.Size, .int .i64 r.Grade]
theorem QuakeRow.csl (a : QuakeRow) : a.cs.length = 7 := rfl
instance : FlatP QuakeRow.cs 7 := ⟨fun _ => rfl, fun _ d => by cases d <;> rfl, fun _ => rfl, fun _ => rfl⟩
def QuakeRow.ok (r : QuakeRow) : Prop := i64R r.Id ∧ i64R r.Tick ∧ i64R r.X ∧ i64R r.Y ∧ i64R r.Deep ∧ i64R r.Size ∧ i64R r.Grade
abbrev QuakeRow.rows (L : List QuakeRow) : List V := Go.Lv.rows QuakeRow.cs L
abbrev QuakeRow.sl (L : List QuakeRow) : V := .sl L.length 7 (Go.Lv.rows QuakeRow.cs L)
abbrev QuakeRow.zs : List V := [.int .i64 0, .int .i64 0, .int .i64 0, .int .i64 0, .int .i64 0, .int .i64 0, .int .i64 0]
def QuakeRow.mk1 (k : Int) : QuakeRow := ⟨k, k + 1, k + 1 + 1, k + 1 + 1 + 1, k + 1 + 1 + 1 + 1, k + 1 + 1 + 1 + 1 + 1, k + 1 + 1 + 1 + 1 + 1 + 1⟩
def QuakeRow.marks (k : Int) (n : Nat) : List QuakeRow := (List.range n).map fun i : Nat => QuakeRow.mk1 (k + 7 * (i : Int))
@[simp] theorem QuakeRow.marks_len (k : Int) (n : Nat) : (QuakeRow.marks k n).length = n := by simp [QuakeRow.marks]
end Go.Proofs
end
section
set_option maxRecDepth 100000
namespace Go.Proofs
open Go.Lv
def IntS.cs (x : Int) : List V := [.int .i64 x]
instance : FlatP IntS.cs 1 := ⟨fun _ => rfl, fun _ d => by cases d <;> rfl, fun _ => rfl, fun _ => rfl⟩
theorem IntS.csl (a : Int) : (IntS.cs a).length = 1 := rfl
abbrev IntS.ok (x : Int) : Prop := i64R x
abbrev IntS.sl (L : List Int) : V := .sl L.length 1 (Go.Lv.rows IntS.cs L)
abbrev IntS.zs : List V := [.int .i64 0]
def IntS.marks (k : Int) (n : Nat) : List Int := (List.range n).map fun i : Nat => k + (i : Int)
@[simp] theorem IntS.marks_len (k : Int) (n : Nat) : (IntS.marks k n).length = n := by simp [IntS.marks]
abbrev IntS.v (x : Int) : V := .int .i64 x
end Go.Proofs
end
section
set_option maxRecDepth 100000
namespace Go.Proofs
open Go.Lv
def bump (C : List Int) (k : Nat) : List Int := C.set k (C.getD k 0 + 1)
theorem bump_len (C : List Int) (k : Nat) : (bump C k).length = C.length := by simp [bump]
end Go.Proofs
end
section
set_option maxRecDepth 100000
set_option maxHeartbeats 1000000
namespace Go.Proofs
open Go.Lv
def upTo (L : List Post) (i : Nat) : List Int := ((L.take i).filter Post.Up).map Post.Station
theorem upTo_succ {L : List Post} {i : Nat} (hi : i < L.length) : upTo L (i + 1) = upTo L i ++ if L[i].Up then [L[i].Station] else [] := by
 rw [upTo, List.take_succ_eq_append_getElem hi, List.filter_append, List.map_append]
 congr 1
 cases h : L[i].Up <;> simp [h]
theorem upTo_len (L : List Post) (i : Nat) : (upTo L i).length ≤ i := by
 rw [upTo, List.length_map]
 exact Nat.le_trans (List.length_filter_le _ _) (by simp; omega)
def upR (w : Watch) : Option (List Int) := if wB w = true then some (upTo w.Posts w.Posts.length) else none
theorem watchUp_ok (w : Watch) (hp : w.Posts.length ≤ 16777216) : Ctr Tryd.prog 89 [w.v] [] (.osl 0 0 (upTo w.Posts w.Posts.length).length 1) [some (rows IntS.cs (upTo w.Posts w.Posts.length))] := by
 refine Ctr.intro Tryd.mixed Tryd.func89 rfl Tryd.okF89 ?_
 simp -implicitDefEqProofs -dsimp only [go_sem, Tryd.ntmps89, Tryd.results89]
 simp -implicitDefEqProofs -dsimp only [go_sem, Watch.v]
 refine LoopT.intro (fun i : Nat => i ≤ w.Posts.length) (fun i => ⟨[.undef, .undef, .undef, .osl 1 0 (upTo w.Posts i).length 1, .undef, .undef, .undef, .undef, Post.sl w.Posts, .int .i64 w.Posts.length, .int .i64 i, .undef, .undef, .undef, .undef, .undef, .undef, .undef, .undef, .undef, .undef, .undef, .undef], [some w.cs, some (rows IntS.cs (upTo w.Posts i))], 0⟩) (fun i => w.Posts.length - i) 0 (Nat.zero_le _) ?_ (fun i hi => ?_)
 · refine Weak.cut (2) (by simp) (by simp) ?_ ?_
   · simp [LeC, LeV, ren, cutF, upTo]
   · simp [cutH, cutB, ren, rows, upTo, Watch.cs]
 simp -implicitDefEqProofs -dsimp only [go_sem]
 refine condT.split (fun h1 => ?_) (fun h1 => ?_)
 · simp -implicitDefEqProofs -dsimp only [go_sem, h1]
   have hi' : i < w.Posts.length := by simpa using h1
   have h5 := Post.csl w.Posts[i]
   have hr := rows_at Post.csl hi'
   have hul := upTo_len w.Posts i
   (repeat ((repeat1' (first | simp -implicitDefEqProofs -dsimp only [go_sem, hr, Post.cs] | simp -dsimp (disch := omega) only [wrap_i64])); repeat (with_reducible refine sideA ?_)))
   refine condT.split (fun h6 => ?_) (fun h6 => ?_) <;> simp -implicitDefEqProofs -dsimp only [go_sem, h6]
   · (repeat ((repeat1' (first | simp -implicitDefEqProofs -dsimp only [go_sem, hr, Post.cs, Watch.cs, rows_length, Nat.mul_one, rows_cell] | simp -dsimp (disch := omega) only [wrap_i64])); repeat (with_reducible refine sideA ?_)))
     refine ⟨i + 1, hi', ?_, by omega⟩
     refine Weak.cut (2) (by simp) (by simp) ?_ ?_
     · rw [upTo_succ hi', h6]
       simp [LeC, LeV, ren, cutF]
     · rw [upTo_succ hi', h6, if_pos rfl, ← rows_snoc]
       simp [cutH, cutB, map_ren_rows, killC, ren, IntS.cs, Watch.cs]
   · try (repeat1' (first | simp -implicitDefEqProofs -dsimp only [go_sem] | simp -dsimp (disch := omega) only [wrap_i64]))
     refine ⟨i + 1, hi', ?_, by omega⟩
     refine Weak.cut (2) (by simp) (by simp) ?_ ?_
     · rw [upTo_succ hi', h6]
       simp [LeC, LeV, ren, cutF]
     · rw [upTo_succ hi', h6]
       simp [cutH, cutB, map_ren_rows, ren, Watch.cs]
 · simp -implicitDefEqProofs -dsimp only [go_sem, h1]
   have hi' : i = w.Posts.length := by simp at h1; omega
   subst hi'
   refine WeakR.pick [1] (by decide) (fun j hj => by omega) (.inl ?_) ?_
   · first | rfl | (simp [ren, pickF, posOf]; done)
   · simp only [pickH, List.map_cons, List.map_nil, pickB, List.getElem?_cons_zero, List.getElem?_cons_succ, map_ren_rows]
theorem iPostsUp_ok (w : Watch) (hp : w.Posts.length ≤ 16777216) (hs : w.Shocks.length ≤ 16777216) : Ctr Tryd.prog 33 [w.v] [] (optN 1 (upR w)) (optNh IntS.cs (upR w)) := by
 refine Ctr.intro Tryd.mixed Tryd.func33 rfl Tryd.okF33 ?_
 simp -implicitDefEqProofs -dsimp only [go_sem, Tryd.ntmps33, Tryd.results33]
 simp -implicitDefEqProofs -dsimp only [go_sem, Watch.v]
 cases h : wB w with
 | false =>
   have e : upR w = none := if_neg (by simp [h])
   rw [e]
   repeat' (first | exact WeakR.refl _ _ _ | (refine WeakR.drop' ?_ (by rfl); first | rfl | (simp [h, optN, optNh, *]; done)) | ((first | refine callT.at (iIsWatch_ok w (by omega) (by omega)) ⟨leA, trivial⟩ ?_ | refine callS.at (iIsWatch_ok w (by omega) (by omega)) ⟨leA, trivial⟩ ?_); simp -implicitDefEqProofs -dsimp only [go_sem, h, optN, optNh, *]) | (refine guardT.splitT (fun _ => ?_) (fun _ => ?_) <;> simp -implicitDefEqProofs -dsimp only [go_sem, h, optN, optNh, *]) | (refine guardT.splitF (fun _ => ?_) (fun _ => ?_) <;> simp -implicitDefEqProofs -dsimp only [go_sem, h, optN, optNh, *]) | (refine condT.split (fun _ => ?_) (fun _ => ?_) <;> simp -implicitDefEqProofs -dsimp only [go_sem, h, optN, optNh, *]) | (exfalso; simp_all; done))
 | true =>
   have e : upR w = some (upTo w.Posts w.Posts.length) := if_pos h
   rw [e]
   repeat (first | ((first | refine callT.at (iIsWatch_ok w (by omega) (by omega)) ⟨leA, trivial⟩ ?_ | refine callS.at (iIsWatch_ok w (by omega) (by omega)) ⟨leA, trivial⟩ ?_); simp -implicitDefEqProofs -dsimp only [go_sem, h]) | ((first | refine callT.at (watchUp_ok w hp) ⟨leA, trivial⟩ ?_ | refine callS.at (watchUp_ok w hp) ⟨leA, trivial⟩ ?_); simp -implicitDefEqProofs -dsimp only [go_sem, h]) | (with_reducible refine And.intro (by first | omega | (show drawOk _ = true; kernel_rfl)) ?_; try (repeat1' (first | simp -implicitDefEqProofs -dsimp only [go_sem, h] | simp -dsimp (disch := omega) only [wrap_i64]))))
   simp only [optN, optNh]
   refine WeakR.pick [1] (by decide) (fun j hj => by omega) (.inl ?_) ?_
   · first | rfl | (simp [ren, pickF, posOf]; done)
   · simp only [pickH, List.map_cons, List.map_nil, pickB, List.getElem?_cons_zero, List.getElem?_cons_succ, map_ren_rows]
theorem sPostsUp_ok (w : Watch) (hp : w.Posts.length ≤ 16777216) (hs : w.Shocks.length ≤ 16777216) : Ctr Tryd.prog 34 [w.v] [] (optO 1 (upR w)) (optOh IntS.cs (upR w)) := by
 refine Ctr.intro Tryd.mixed Tryd.func34 rfl Tryd.okF34 ?_
 simp -implicitDefEqProofs -dsimp only [go_sem, Tryd.ntmps34, Tryd.results34]
 simp -implicitDefEqProofs -dsimp only [go_sem, Watch.v]
 cases h : wB w with
 | false =>
   have e : upR w = none := if_neg (by simp [h])
   rw [e]
   repeat (first | ((first | refine callT.at (l25Good_ok w (by omega) (by omega)) ⟨leA, trivial⟩ ?_ | refine callS.at (l25Good_ok w (by omega) (by omega)) ⟨leA, trivial⟩ ?_); simp -implicitDefEqProofs -dsimp only [go_sem, h]) | (with_reducible refine And.intro (by first | omega | (show drawOk _ = true; kernel_rfl)) ?_; try (repeat1' (first | simp -implicitDefEqProofs -dsimp only [go_sem, h] | simp -dsimp (disch := omega) only [wrap_i64]))))
   simp only [optO, optOh]
   refine WeakR.pick [1] (by decide) (fun j hj => by omega) (.inl ?_) ?_
   · first | rfl | (simp [ren, pickF, posOf]; done)
   · simp only [pickH, List.map_cons, List.map_nil, pickB, List.getElem?_cons_zero, List.getElem?_cons_succ, map_ren_rows]
 | true =>
   have e : upR w = some (upTo w.Posts w.Posts.length) := if_pos h
   rw [e]
   repeat (first | ((first | refine callT.at (l25Good_ok w (by omega) (by omega)) ⟨leA, trivial⟩ ?_ | refine callS.at (l25Good_ok w (by omega) (by omega)) ⟨leA, trivial⟩ ?_); simp -implicitDefEqProofs -dsimp only [go_sem, h]) | (with_reducible refine And.intro (by first | omega | (show drawOk _ = true; kernel_rfl)) ?_; try (repeat1' (first | simp -implicitDefEqProofs -dsimp only [go_sem, h] | simp -dsimp (disch := omega) only [wrap_i64]))))
   refine LoopT.intro (fun i : Nat => i ≤ w.Posts.length) (fun i => ⟨[.undef, .ptr 0 0, .undef, .undef, .osl 1 0 (upTo w.Posts i).length 1, .int .i64 i, .undef, .undef, .undef, .undef, .undef, .undef, .undef, .undef, .undef, .undef, .undef, .undef, .undef, .undef, .undef, .undef, .undef, .undef, .undef, .undef, .undef, .undef, .undef, .undef, .undef, .undef, .undef, .undef], [some w.cs, some (rows IntS.cs (upTo w.Posts i))], 0⟩) (fun i => w.Posts.length - i) 0 (Nat.zero_le _) ?_ (fun i hi => ?_)
   · refine Weak.cut (2) (by simp) (by simp) ?_ ?_
     · simp [LeC, LeV, ren, cutF, upTo]
     · simp [cutH, cutB, ren, rows, upTo, Watch.cs]
   simp -implicitDefEqProofs -dsimp only [go_sem, Watch.cs]
   refine condT.split (fun h1 => ?_) (fun h1 => ?_)
   · simp -implicitDefEqProofs -dsimp only [go_sem, h1]
     have hi' : i < w.Posts.length := by simpa using h1
     have h5 := Post.csl w.Posts[i]
     have hr := rows_at Post.csl hi'
     have hul := upTo_len w.Posts i
     (repeat ((repeat1' (first | simp -implicitDefEqProofs -dsimp only [go_sem, hr, Post.cs, Watch.cs] | simp -dsimp (disch := omega) only [wrap_i64])); repeat (with_reducible refine sideA ?_)))
     refine condT.split (fun h6 => ?_) (fun h6 => ?_) <;> simp -implicitDefEqProofs -dsimp only [go_sem, h6]
     · (repeat ((repeat1' (first | simp -implicitDefEqProofs -dsimp only [go_sem, hr, Post.cs, Watch.cs, rows_length, Nat.mul_one, rows_cell] | simp -dsimp (disch := omega) only [wrap_i64])); repeat (with_reducible refine sideA ?_)))
       refine ⟨i + 1, hi', ?_, by omega⟩
       refine Weak.cut (2) (by simp) (by simp) ?_ ?_
       · rw [upTo_succ hi', h6]
         simp [LeC, LeV, ren, cutF]
       · rw [upTo_succ hi', h6, if_pos rfl, ← rows_snoc]
         simp [cutH, cutB, map_ren_rows, killC, ren, IntS.cs, Watch.cs]
     · try (repeat1' (first | simp -implicitDefEqProofs -dsimp only [go_sem] | simp -dsimp (disch := omega) only [wrap_i64]))
       refine ⟨i + 1, hi', ?_, by omega⟩
       refine Weak.cut (2) (by simp) (by simp) ?_ ?_
       · rw [upTo_succ hi', h6]
         simp [LeC, LeV, ren, cutF]
       · rw [upTo_succ hi', h6]
         simp [cutH, cutB, map_ren_rows, ren, Watch.cs]
   · simp -implicitDefEqProofs -dsimp only [go_sem, h1]
     have hi' : i = w.Posts.length := by simp at h1; omega
     subst hi'
     simp only [optO, optOh]
     refine WeakR.pick [1] (by decide) (fun j hj => by omega) (.inl ?_) ?_
     · first | rfl | (simp [ren, pickF, posOf]; done)
     · simp only [pickH, List.map_cons, List.map_nil, pickB, List.getElem?_cons_zero, List.getElem?_cons_succ, map_ren_rows]
def statesTo (L : List Shock) : List Int := L.foldl (fun C x => bump C x.State.toNat) [0, 0, 0, 0]
theorem statesTo_succ {L : List Shock} {i : Nat} (hi : i < L.length) : statesTo (L.take (i + 1)) = bump (statesTo (L.take i)) L[i].State.toNat := by
 rw [List.take_succ_eq_append_getElem hi, statesTo, List.foldl_append]; rfl
theorem statesTo_len {L : List Shock} : ∀ i, i ≤ L.length → (statesTo (L.take i)).length = 4
 | 0, _ => by simp [statesTo]
 | i + 1, hi => by rw [statesTo_succ (by omega : i < L.length), bump_len, statesTo_len i (by omega)]
theorem statesTo_bd {L : List Shock} : ∀ i, i ≤ L.length → ∀ x ∈ statesTo (L.take i), 0 ≤ x ∧ x ≤ i
 | 0, _ => by intro x hx; simp [statesTo] at hx; omega
 | i + 1, hi => by
   intro x hx
   rw [statesTo_succ (by omega : i < L.length), bump] at hx
   have ih := statesTo_bd (L := L) i (by omega)
   rcases List.mem_or_eq_of_mem_set hx with h | h
   · have := ih x h; omega
   · subst h
     rw [List.getD_eq_getElem?_getD]
     cases h : (statesTo (L.take i))[(L[i]'(by omega)).State.toNat]? with
     | none => simp; omega
     | some y => have := ih y (List.mem_of_getElem? h); simp; omega
def statesR (w : Watch) : Option (List Int) := if wB w = true then some (statesTo w.Shocks) else none
theorem iShockStates_ok (w : Watch) (hp : w.Posts.length ≤ 16777216) (hs : w.Shocks.length ≤ 16777216) : Ctr Tryd.prog 28 [w.v] [] (optN 1 (statesR w)) (optNh IntS.cs (statesR w)) := by
 refine Ctr.intro Tryd.mixed Tryd.func28 rfl Tryd.okF28 ?_
 simp -implicitDefEqProofs -dsimp only [go_sem, Tryd.ntmps28, Tryd.results28]
 simp -implicitDefEqProofs -dsimp only [go_sem, Watch.v]
 cases h : wB w with
 | false =>
   have e : statesR w = none := if_neg (by simp [h])
   rw [e]
   repeat' (first | exact WeakR.refl _ _ _ | (refine WeakR.drop' ?_ (by rfl); first | rfl | (simp [h, optN, optNh, *]; done)) | ((first | refine callT.at (iIsWatch_ok w (by omega) (by omega)) ⟨leA, trivial⟩ ?_ | refine callS.at (iIsWatch_ok w (by omega) (by omega)) ⟨leA, trivial⟩ ?_); simp -implicitDefEqProofs -dsimp only [go_sem, h, optN, optNh, *]) | (refine guardT.splitT (fun _ => ?_) (fun _ => ?_) <;> simp -implicitDefEqProofs -dsimp only [go_sem, h, optN, optNh, *]) | (refine guardT.splitF (fun _ => ?_) (fun _ => ?_) <;> simp -implicitDefEqProofs -dsimp only [go_sem, h, optN, optNh, *]) | (refine condT.split (fun _ => ?_) (fun _ => ?_) <;> simp -implicitDefEqProofs -dsimp only [go_sem, h, optN, optNh, *]) | (exfalso; simp_all; done))
 | true =>
   have e : statesR w = some (statesTo w.Shocks) := if_pos h
   rw [e]
   repeat (first | ((first | refine callT.at (iIsWatch_ok w (by omega) (by omega)) ⟨leA, trivial⟩ ?_ | refine callS.at (iIsWatch_ok w (by omega) (by omega)) ⟨leA, trivial⟩ ?_); simp -implicitDefEqProofs -dsimp only [go_sem, h]) | (with_reducible refine And.intro (by first | omega | (show drawOk _ = true; kernel_rfl)) ?_; try (repeat1' (first | simp -implicitDefEqProofs -dsimp only [go_sem, h] | simp -dsimp (disch := omega) only [wrap_i64]))))
   have hz : zrow 4 [V.int .i64 0] = rows IntS.cs [0, 0, 0, 0] := rfl
   (repeat ((repeat1' (first | simp -implicitDefEqProofs -dsimp only [go_sem, hz] | simp -dsimp (disch := omega) only [wrap_i64])); repeat (with_reducible refine sideA ?_)))
   refine LoopT.intro (fun i : Nat => i ≤ w.Shocks.length) (fun i => ⟨[.undef, .undef, .undef, .undef, .osl 1 0 4 1, .undef, .undef, .undef, .undef, .undef, .undef, .undef, Shock.sl w.Shocks, .int .i64 w.Shocks.length, .int .i64 i, .undef, .undef, .undef, .undef, .undef, .undef, .undef, .undef, .undef, .undef, .undef, .undef], [some w.cs, some (rows IntS.cs (statesTo (w.Shocks.take i)))], 0⟩) (fun i => w.Shocks.length - i) 0 (Nat.zero_le _) ?_ (fun i hi => ?_)
   · refine Weak.cut (2) (by simp) (by simp) ?_ ?_
     · simp [LeC, LeV, ren, cutF]
     · simp [cutH, cutB, ren, map_ren_rows, statesTo, Watch.cs]
   simp -implicitDefEqProofs -dsimp only [go_sem]
   refine condT.split (fun h1 => ?_) (fun h1 => ?_)
   · simp -implicitDefEqProofs -dsimp only [go_sem, h1]
     have hi' : i < w.Shocks.length := by simpa using h1
     have h5 := Shock.csl w.Shocks[i]
     have hr := rows_at Shock.csl hi'
     have hvi := shockB_iff.1 ((wB_ok h).shocks _ (List.getElem_mem hi'))
     obtain ⟨k, hk⟩ : ∃ k : Nat, w.Shocks[i].State = (k : Int) := ⟨w.Shocks[i].State.toNat, by omega⟩
     have hkc : k < (statesTo (w.Shocks.take i)).length := by rw [statesTo_len i hi]; omega
     have hrc := rows_at IntS.csl hkc
     have hbd := statesTo_bd i hi _ (List.getElem_mem hkc)
     have hsp := splice_row IntS.csl hkc ((statesTo (w.Shocks.take i))[k] + 1)
     have hlc : (rows IntS.cs (statesTo (w.Shocks.take i))).length = 4 := by rw [rows_length, statesTo_len i hi]
     (repeat ((repeat1' (first | simp -implicitDefEqProofs -dsimp only [go_sem, hr, hk, hrc, IntS.cs, Shock.cs, hlc, Watch.cs] | simp -dsimp (disch := omega) only [wrap_i64])); repeat (with_reducible refine sideA ?_)))
     have e2 : statesTo (w.Shocks.take (i + 1)) = (statesTo (w.Shocks.take i)).set k ((statesTo (w.Shocks.take i))[k] + 1) := by
       rw [statesTo_succ hi', hk, Int.toNat_natCast, bump, List.getD_eq_getElem?_getD, List.getElem?_eq_getElem hkc]; rfl
     simp only [IntS.cs] at hsp
     refine ⟨i + 1, hi', ?_, by omega⟩
     refine Weak.cut (2) (by simp) (by simp) ?_ ?_
     · simp [LeC, LeV, ren, cutF]
     · rw [hsp, e2]
       simp [cutH, cutB, map_ren_rows, ren, Watch.cs]
   · simp -implicitDefEqProofs -dsimp only [go_sem, h1]
     have hi' : i = w.Shocks.length := by simp at h1; omega
     subst hi'
     rw [List.take_length]
     have hc := statesTo_len (L := w.Shocks) w.Shocks.length (Nat.le_refl _)
     rw [List.take_length] at hc
     simp only [optN, optNh, hc]
     refine WeakR.pick [1] (by decide) (fun j hj => by omega) (.inl ?_) ?_
     · first | rfl | (simp [ren, pickF, posOf]; done)
     · simp only [pickH, List.map_cons, List.map_nil, pickB, List.getElem?_cons_zero, List.getElem?_cons_succ, map_ren_rows]
theorem sShockStates_ok (w : Watch) (hp : w.Posts.length ≤ 16777216) (hs : w.Shocks.length ≤ 16777216) : Ctr Tryd.prog 29 [w.v] [] (optO 1 (statesR w)) (optOh IntS.cs (statesR w)) := by
 refine Ctr.intro Tryd.mixed Tryd.func29 rfl Tryd.okF29 ?_
 simp -implicitDefEqProofs -dsimp only [go_sem, Tryd.ntmps29, Tryd.results29]
 simp -implicitDefEqProofs -dsimp only [go_sem, Watch.v]
 cases h : wB w with
 | false =>
   have e : statesR w = none := if_neg (by simp [h])
   rw [e]
   repeat (first | ((first | refine callT.at (l25Good_ok w (by omega) (by omega)) ⟨leA, trivial⟩ ?_ | refine callS.at (l25Good_ok w (by omega) (by omega)) ⟨leA, trivial⟩ ?_); simp -implicitDefEqProofs -dsimp only [go_sem, h]) | (with_reducible refine And.intro (by first | omega | (show drawOk _ = true; kernel_rfl)) ?_; try (repeat1' (first | simp -implicitDefEqProofs -dsimp only [go_sem, h] | simp -dsimp (disch := omega) only [wrap_i64]))))
   simp only [optO, optOh]
   refine WeakR.pick [1] (by decide) (fun j hj => by omega) (.inl ?_) ?_
   · first | rfl | (simp [ren, pickF, posOf]; done)
   · simp only [pickH, List.map_cons, List.map_nil, pickB, List.getElem?_cons_zero, List.getElem?_cons_succ, map_ren_rows]
 | true =>
   have e : statesR w = some (statesTo w.Shocks) := if_pos h
   rw [e]
   repeat (first | ((first | refine callT.at (l25Good_ok w (by omega) (by omega)) ⟨leA, trivial⟩ ?_ | refine callS.at (l25Good_ok w (by omega) (by omega)) ⟨leA, trivial⟩ ?_); simp -implicitDefEqProofs -dsimp only [go_sem, h]) | (with_reducible refine And.intro (by first | omega | (show drawOk _ = true; kernel_rfl)) ?_; try (repeat1' (first | simp -implicitDefEqProofs -dsimp only [go_sem, h] | simp -dsimp (disch := omega) only [wrap_i64]))))
   have hz : zrow 4 [V.int .i64 0] = rows IntS.cs [0, 0, 0, 0] := rfl
   (repeat ((repeat1' (first | simp -implicitDefEqProofs -dsimp only [go_sem, hz] | simp -dsimp (disch := omega) only [wrap_i64])); repeat (with_reducible refine sideA ?_)))
   refine LoopT.intro (fun i : Nat => i ≤ w.Shocks.length) (fun i => ⟨[.undef, .ptr 0 0, .undef, .undef, .osl 1 0 4 1, .int .i64 i, .undef, .undef, .undef, .undef, .undef, .undef, .undef, .undef, .undef, .undef, .undef, .undef, .undef, .undef, .undef, .undef, .undef, .undef, .undef, .undef, .undef, .undef, .undef, .undef, .undef, .undef, .undef, .undef], [some w.cs, some (rows IntS.cs (statesTo (w.Shocks.take i)))], 0⟩) (fun i => w.Shocks.length - i) 0 (Nat.zero_le _) ?_ (fun i hi => ?_)
   · refine Weak.cut (2) (by simp) (by simp) ?_ ?_
     · simp [LeC, LeV, ren, cutF]
     · simp [cutH, cutB, ren, map_ren_rows, statesTo, Watch.cs]
   simp -implicitDefEqProofs -dsimp only [go_sem, Watch.cs]
   refine condT.split (fun h1 => ?_) (fun h1 => ?_)
   · simp -implicitDefEqProofs -dsimp only [go_sem, h1]
     have hi' : i < w.Shocks.length := by simpa using h1
     have h5 := Shock.csl w.Shocks[i]
     have hr := rows_at Shock.csl hi'
     have hvi := shockB_iff.1 ((wB_ok h).shocks _ (List.getElem_mem hi'))
     obtain ⟨k, hk⟩ : ∃ k : Nat, w.Shocks[i].State = (k : Int) := ⟨w.Shocks[i].State.toNat, by omega⟩
     have hkc : k < (statesTo (w.Shocks.take i)).length := by rw [statesTo_len i hi]; omega
     have hrc := rows_at IntS.csl hkc
     have hbd := statesTo_bd i hi _ (List.getElem_mem hkc)
     have hsp := splice_row IntS.csl hkc ((statesTo (w.Shocks.take i))[k] + 1)
     have hlc : (rows IntS.cs (statesTo (w.Shocks.take i))).length = 4 := by rw [rows_length, statesTo_len i hi]
     (repeat ((repeat1' (first | simp -implicitDefEqProofs -dsimp only [go_sem, hr, hk, hrc, IntS.cs, Shock.cs, hlc, Watch.cs] | simp -dsimp (disch := omega) only [wrap_i64])); repeat (with_reducible refine sideA ?_)))
     have e2 : statesTo (w.Shocks.take (i + 1)) = (statesTo (w.Shocks.take i)).set k ((statesTo (w.Shocks.take i))[k] + 1) := by
       rw [statesTo_succ hi', hk, Int.toNat_natCast, bump, List.getD_eq_getElem?_getD, List.getElem?_eq_getElem hkc]; rfl
     simp only [IntS.cs] at hsp
     refine ⟨i + 1, hi', ?_, by omega⟩
     refine Weak.cut (2) (by simp) (by simp) ?_ ?_
     · simp [LeC, LeV, ren, cutF]
     · rw [hsp, e2]
       simp [cutH, cutB, map_ren_rows, ren, Watch.cs]
   · simp -implicitDefEqProofs -dsimp only [go_sem, h1]
     have hi' : i = w.Shocks.length := by simp at h1; omega
     subst hi'
     rw [List.take_length]
     have hc := statesTo_len (L := w.Shocks) w.Shocks.length (Nat.le_refl _)
     rw [List.take_length] at hc
     simp only [optO, optOh, hc]
     refine WeakR.pick [1] (by decide) (fun j hj => by omega) (.inl ?_) ?_
     · first | rfl | (simp [ren, pickF, posOf]; done)
     · simp only [pickH, List.map_cons, List.map_nil, pickB, List.getElem?_cons_zero, List.getElem?_cons_succ, map_ren_rows]
end Go.Proofs
end
section
set_option maxRecDepth 100000
set_option maxHeartbeats 1000000
namespace Go.Proofs
open Go.Lv
def Watch.oc (r : Watch) (i0 i1 : Nat) : List V := [.int .i64 r.Now, .osl i0 0 r.Posts.length 3, .osl i1 0 r.Shocks.length 5, .int .i64 r.Next, .int .i64 r.Archived]
theorem copyOfPost_ok (L : List Post) (hl : L.length ≤ 16777216) : Ctr Tryd.prog 185 [Post.sl L] [] (.osl 0 0 L.length 3) [some (rows Post.cs L)] := by
 refine Ctr.intro Tryd.mixed Tryd.func185 rfl Tryd.okF185 ?_
 simp -implicitDefEqProofs -dsimp only [go_sem, Tryd.ntmps185, Tryd.results185]
 repeat (with_reducible refine sideA ?_)
 exact WeakR.refl _ _ _
theorem copyOfShock_ok (L : List Shock) (hl : L.length ≤ 16777216) : Ctr Tryd.prog 186 [Shock.sl L] [] (.osl 0 0 L.length 5) [some (rows Shock.cs L)] := by
 refine Ctr.intro Tryd.mixed Tryd.func186 rfl Tryd.okF186 ?_
 simp -implicitDefEqProofs -dsimp only [go_sem, Tryd.ntmps186, Tryd.results186]
 repeat (with_reducible refine sideA ?_)
 exact WeakR.refl _ _ _
theorem copiedWatch_ok (w : Watch) (hp : w.Posts.length ≤ 16777216) (hs : w.Shocks.length ≤ 16777216) : Ctr Tryd.prog 139 [w.v] [] (w.o 0 1) [some (rows Post.cs w.Posts), some (rows Shock.cs w.Shocks)] := by
 refine Ctr.intro Tryd.mixed Tryd.func139 rfl Tryd.okF139 ?_
 simp -implicitDefEqProofs -dsimp only [go_sem, Tryd.ntmps139, Tryd.results139]
 simp -implicitDefEqProofs -dsimp only [go_sem, Watch.v]
 repeat (with_reducible refine sideA ?_)
 (first | refine callT.at (copyOfPost_ok w.Posts hp) ⟨leA, trivial⟩ ?_ | refine callS.at (copyOfPost_ok w.Posts hp) ⟨leA, trivial⟩ ?_)
 simp -implicitDefEqProofs -dsimp only [go_sem]
 repeat (with_reducible refine sideA ?_)
 (first | refine callT.at (copyOfShock_ok w.Shocks hs) ⟨leA, trivial⟩ ?_ | refine callS.at (copyOfShock_ok w.Shocks hs) ⟨leA, trivial⟩ ?_)
 simp -implicitDefEqProofs -dsimp only [go_sem]
 repeat (with_reducible refine sideA ?_)
 refine WeakR.pick [2, 3] (by decide) (fun j hj => by omega) (.inl ?_) ?_
 · first | rfl | (simp [ren, pickF, posOf, Watch.o]; done)
 · simp only [pickH, List.map_cons, List.map_nil, pickB, List.getElem?_cons_zero, List.getElem?_cons_succ, map_ren_rows]
theorem sp_state {L : List Shock} {i : Nat} (hi : i < L.length) (s : Int) : splice (rows Shock.cs L) (i * 5 + 1) [.int .i64 s] = rows Shock.cs (L.set i ⟨L[i].Number, s, L[i].Seen, L[i].Size, L[i].Tick⟩) := splice_cell Shock.csl hi (by omega) rfl
theorem sp_size {L : List Shock} {i : Nat} (hi : i < L.length) (x : Shock) (z : Int) : splice (rows Shock.cs (L.set i x)) (i * 5 + 3) [.int .i64 z] = rows Shock.cs (L.set i ⟨x.Number, x.State, x.Seen, z, x.Tick⟩) := by
 have h := splice_cell (cs := Shock.cs) Shock.csl (L := L.set i x) (j := i) (f := 3) (v := .int .i64 z) (x := ⟨x.Number, x.State, x.Seen, z, x.Tick⟩) (by simpa using hi) (by omega) (by simp; rfl)
 rwa [List.set_set] at h
theorem rows_len5 (L : List Shock) : (rows Shock.cs L).length = L.length * 5 := rows_len Shock.csl L
theorem treat5_ok (w : Watch) (i : Nat) (k n v : Int) (hk : k = 5 ∨ k = 6 ∨ k = 7) (hw : wB w = true) (hi : i < w.Shocks.length) (hv : -100 ≤ v ∧ v ≤ 100) : Ctr Tryd.prog 140 [.ptr 0 0, .int .i64 i, .agg [.int .i64 k, .int .i64 n, .int .i64 v]] [some (w.oc 1 2), some (rows Post.cs w.Posts), some (rows Shock.cs w.Shocks)] (.bool (chgB w.Shocks[i] k)) [some (w.oc 1 2), some (rows Post.cs w.Posts), some (rows Shock.cs (w.Shocks.set i (chgX w.Shocks[i] k v)))] := by
 have W := wB_ok hw
 have hx := W.shocks _ (List.getElem_mem hi)
 have hb := shockB_iff.1 hx
 have hr := rows_at Shock.csl hi
 have hwv : IntKind.i64.wrap (w.Shocks[i].Size + v) = w.Shocks[i].Size + v := wrap_i64 (by omega) (by omega)
 have s1 := sp_state hi
 have s2 := sp_size hi
 have hl : ∀ x, (w.Shocks.set i x).length = w.Shocks.length := fun x => by simp
 have hroom : i * 5 + 5 ≤ w.Shocks.length * 5 := by omega
 rcases hk with rfl | rfl | rfl
 · skip
   refine Ctr.intro Tryd.mixed Tryd.func140 rfl Tryd.okF140 ?_
   simp -implicitDefEqProofs -dsimp only [go_sem, Tryd.ntmps140, Tryd.results140]
   (repeat ((repeat1' (first | simp -implicitDefEqProofs -dsimp only [go_sem, Watch.oc, hr, Shock.cs, hwv] | simp -dsimp (disch := omega) only [wrap_i64])); repeat (with_reducible refine sideA ?_)))
   refine lateT.path [true, true, true, true, true, true, false, false, false, false] [false, true, true, true, false, false, false, false, false, false] 1 [2] (by kernel_rfl) ?_
   (repeat ((repeat1' (first | simp -implicitDefEqProofs -dsimp only [go_sem, hr, Shock.cs, hwv, s1, s2, rows_len5, hl] | simp -dsimp (disch := omega) only [wrap_i64])); repeat (with_reducible refine sideA ?_)))
   repeat' (first | (refine guardT.splitT (fun _ => ?_) (fun _ => ?_) <;> (repeat ((repeat1' (first | simp -implicitDefEqProofs -dsimp only [go_sem, *] | simp -dsimp (disch := omega) only [wrap_i64])); repeat (with_reducible refine sideA ?_)))) | (refine guardT.splitF (fun _ => ?_) (fun _ => ?_) <;> (repeat ((repeat1' (first | simp -implicitDefEqProofs -dsimp only [go_sem, *] | simp -dsimp (disch := omega) only [wrap_i64])); repeat (with_reducible refine sideA ?_)))))
   all_goals
     refine WeakR.pick [0, 1, 2] (by decide) (fun j hj => by have hj' : j = 0 ∨ j = 1 ∨ j = 2 := (by omega); rcases hj' with rfl | rfl | rfl <;> rfl) (.inl (by first | rfl | (simp [ren, chgB, *]; done))) ?_
     simp [pickH, pickB, ren, pickF, posOf, map_ren_rows, Watch.oc, chgX, *]
 · skip
   refine Ctr.intro Tryd.mixed Tryd.func140 rfl Tryd.okF140 ?_
   simp -implicitDefEqProofs -dsimp only [go_sem, Tryd.ntmps140, Tryd.results140]
   (repeat ((repeat1' (first | simp -implicitDefEqProofs -dsimp only [go_sem, Watch.oc, hr, Shock.cs, hwv] | simp -dsimp (disch := omega) only [wrap_i64])); repeat (with_reducible refine sideA ?_)))
   refine lateT.path [true, true, true, true, true, true, true, true, true, false, false, false, false] [false, true, true, true, true, true, true, false, false, false, false, false, false] 1 [2] (by kernel_rfl) ?_
   (repeat ((repeat1' (first | simp -implicitDefEqProofs -dsimp only [go_sem, hr, Shock.cs, hwv, s1, s2, rows_len5, hl] | simp -dsimp (disch := omega) only [wrap_i64])); repeat (with_reducible refine sideA ?_)))
   repeat' (first | (refine guardT.splitT (fun _ => ?_) (fun _ => ?_) <;> (repeat ((repeat1' (first | simp -implicitDefEqProofs -dsimp only [go_sem, *] | simp -dsimp (disch := omega) only [wrap_i64])); repeat (with_reducible refine sideA ?_)))) | (refine guardT.splitF (fun _ => ?_) (fun _ => ?_) <;> (repeat ((repeat1' (first | simp -implicitDefEqProofs -dsimp only [go_sem, *] | simp -dsimp (disch := omega) only [wrap_i64])); repeat (with_reducible refine sideA ?_)))))
   all_goals
     refine WeakR.pick [0, 1, 2] (by decide) (fun j hj => by have hj' : j = 0 ∨ j = 1 ∨ j = 2 := (by omega); rcases hj' with rfl | rfl | rfl <;> rfl) (.inl (by first | rfl | (simp [ren, chgB, *]; done))) ?_
     simp [pickH, pickB, ren, pickF, posOf, map_ren_rows, Watch.oc, chgX, *]
 · skip
   refine Ctr.intro Tryd.mixed Tryd.func140 rfl Tryd.okF140 ?_
   simp -implicitDefEqProofs -dsimp only [go_sem, Tryd.ntmps140, Tryd.results140]
   (repeat ((repeat1' (first | simp -implicitDefEqProofs -dsimp only [go_sem, Watch.oc, hr, Shock.cs, hwv, s1, rows_len5, hl] | simp -dsimp (disch := omega) only [wrap_i64])); repeat (with_reducible refine sideA ?_)))
   repeat' (first | (refine guardT.splitT (fun _ => ?_) (fun _ => ?_) <;> (repeat ((repeat1' (first | simp -implicitDefEqProofs -dsimp only [go_sem, *] | simp -dsimp (disch := omega) only [wrap_i64])); repeat (with_reducible refine sideA ?_)))) | (refine guardT.splitF (fun _ => ?_) (fun _ => ?_) <;> (repeat ((repeat1' (first | simp -implicitDefEqProofs -dsimp only [go_sem, *] | simp -dsimp (disch := omega) only [wrap_i64])); repeat (with_reducible refine sideA ?_)))))
   all_goals
     refine WeakR.pick [0, 1, 2] (by decide) (fun j hj => by have hj' : j = 0 ∨ j = 1 ∨ j = 2 := (by omega); rcases hj' with rfl | rfl | rfl <;> rfl) (.inl (by first | rfl | (simp [ren, chgB, *]; done))) ?_
     simp [pickH, pickB, ren, pickF, posOf, map_ren_rows, Watch.oc, chgX, *]
end Go.Proofs
end
