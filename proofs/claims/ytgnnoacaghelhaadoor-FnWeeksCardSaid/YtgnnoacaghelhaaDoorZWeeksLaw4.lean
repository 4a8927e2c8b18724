/-
  A part of the proof: texts put together by a program of the prover. Conditions: none.
-/
import Derived.Test.YtgnnoacaghelhaaDoorZWeeksLaw3
import Derived.Test.YtgnnoacaghelhaaDoorProg
import Derived.KernelRfl
set_option linter.unusedSimpArgs false
set_option linter.unusedVariables false
section
namespace Go.Proofs
open Go.Lv

theorem Tryd.mixed : Tryd.prog.follows .mixedOrders = true := by kernel_rfl
@[go_sem] theorem Tryd.tsz1 : tszOf Tryd.prog 1 = some (1, false) := by kernel_rfl
@[go_sem] theorem Tryd.udef1 : (Tryd.prog.underlying 1).isSome = true := by kernel_rfl
@[go_sem] theorem Tryd.zero1 : zeroOf Tryd.prog 1 = some [.lit ((Go.Value.nilFunc))] := by kernel_rfl
@[go_sem] theorem Tryd.tsz2 : tszOf Tryd.prog 2 = some (1, false) := by kernel_rfl
@[go_sem] theorem Tryd.udef2 : (Tryd.prog.underlying 2).isSome = true := by kernel_rfl
@[go_sem] theorem Tryd.zero2 : zeroOf Tryd.prog 2 = some [.int .i64 0] := by kernel_rfl
@[go_sem] theorem Tryd.isInt2 : isIntT Tryd.prog 2 = some .i64 := by kernel_rfl
@[go_sem] theorem Tryd.tsz3 : tszOf Tryd.prog 3 = some (1, false) := by kernel_rfl
@[go_sem] theorem Tryd.udef3 : (Tryd.prog.underlying 3).isSome = true := by kernel_rfl
@[go_sem] theorem Tryd.zero3 : zeroOf Tryd.prog 3 = some [.int .i64 0] := by kernel_rfl
@[go_sem] theorem Tryd.isInt3 : isIntT Tryd.prog 3 = some .i64 := by kernel_rfl
@[go_sem] theorem Tryd.tsz4 : tszOf Tryd.prog 4 = some (1, false) := by kernel_rfl
@[go_sem] theorem Tryd.udef4 : (Tryd.prog.underlying 4).isSome = true := by kernel_rfl
@[go_sem] theorem Tryd.zero4 : zeroOf Tryd.prog 4 = some [.bool false] := by kernel_rfl
@[go_sem] theorem Tryd.isBool4 : isBoolT Tryd.prog 4 = true := by kernel_rfl
@[go_sem] theorem Tryd.tsz5 : tszOf Tryd.prog 5 = some (1, false) := by kernel_rfl
theorem Tryd.cz5 : Tryd.prog.cellsOf 5 = 1 := by kernel_rfl
@[go_sem] theorem Tryd.udef5 : (Tryd.prog.underlying 5).isSome = true := by kernel_rfl
@[go_sem] theorem Tryd.zero5 : zeroOf Tryd.prog 5 = some [.int .u8 0] := by kernel_rfl
@[go_sem] theorem Tryd.isInt5 : isIntT Tryd.prog 5 = some .u8 := by kernel_rfl
@[go_sem] theorem Tryd.tsz6 : tszOf Tryd.prog 6 = some (1, false) := by kernel_rfl
@[go_sem] theorem Tryd.udef6 : (Tryd.prog.underlying 6).isSome = true := by kernel_rfl
@[go_sem] theorem Tryd.zero6 : zeroOf Tryd.prog 6 = some [.int .u8 0] := by kernel_rfl
@[go_sem] theorem Tryd.isInt6 : isIntT Tryd.prog 6 = some .u8 := by kernel_rfl
@[go_sem] theorem Tryd.tsz7 : tszOf Tryd.prog 7 = some (4, true) := by kernel_rfl
@[go_sem] theorem Tryd.udef7 : (Tryd.prog.underlying 7).isSome = true := by kernel_rfl
@[go_sem] theorem Tryd.zero7 : zeroOf Tryd.prog 7 = some [.int .i64 0, .int .i64 0, .bool false, .int .u8 0] := by kernel_rfl
@[go_sem] theorem Tryd.pl7 : plOf Tryd.prog 7 = some [(0, 1), (1, 1), (2, 1), (3, 1)] := by kernel_rfl
@[go_sem] theorem Tryd.tsz8 : tszOf Tryd.prog 8 = some (4, true) := by kernel_rfl
@[go_sem] theorem Tryd.udef8 : (Tryd.prog.underlying 8).isSome = true := by kernel_rfl
@[go_sem] theorem Tryd.zero8 : zeroOf Tryd.prog 8 = some [.int .i64 0, .int .i64 0, .bool false, .int .u8 0] := by kernel_rfl
@[go_sem] theorem Tryd.pl8 : plOf Tryd.prog 8 = some [(0, 1), (1, 1), (2, 1), (3, 1)] := by kernel_rfl
@[go_sem] theorem Tryd.tsz9 : tszOf Tryd.prog 9 = some (1, false) := by kernel_rfl
@[go_sem] theorem Tryd.udef9 : (Tryd.prog.underlying 9).isSome = true := by kernel_rfl
@[go_sem] theorem Tryd.zero9 : zeroOf Tryd.prog 9 = some [.str ByteArray.empty] := by kernel_rfl
@[go_sem] theorem Tryd.isU8S9 : isU8S Tryd.prog 9 = false := by kernel_rfl
@[go_sem] theorem Tryd.isIntN9 : isIntT Tryd.prog 9 = none := by kernel_rfl
@[go_sem] theorem Tryd.isStr9 : isStr Tryd.prog 9 = true := by kernel_rfl
@[go_sem] theorem Tryd.tsz10 : tszOf Tryd.prog 10 = some (1, false) := by kernel_rfl
@[go_sem] theorem Tryd.udef10 : (Tryd.prog.underlying 10).isSome = true := by kernel_rfl
@[go_sem] theorem Tryd.zero10 : zeroOf Tryd.prog 10 = some [.str ByteArray.empty] := by kernel_rfl
@[go_sem] theorem Tryd.isU8S10 : isU8S Tryd.prog 10 = false := by kernel_rfl
@[go_sem] theorem Tryd.isIntN10 : isIntT Tryd.prog 10 = none := by kernel_rfl
@[go_sem] theorem Tryd.isStr10 : isStr Tryd.prog 10 = true := by kernel_rfl
@[go_sem] theorem Tryd.tsz11 : tszOf Tryd.prog 11 = some (1, false) := by kernel_rfl
@[go_sem] theorem Tryd.udef11 : (Tryd.prog.underlying 11).isSome = true := by kernel_rfl
@[go_sem] theorem Tryd.zero11 : zeroOf Tryd.prog 11 = some [.str ByteArray.empty] := by kernel_rfl
@[go_sem] theorem Tryd.isU8S11 : isU8S Tryd.prog 11 = false := by kernel_rfl
@[go_sem] theorem Tryd.isIntN11 : isIntT Tryd.prog 11 = none := by kernel_rfl
@[go_sem] theorem Tryd.isStr11 : isStr Tryd.prog 11 = true := by kernel_rfl
@[go_sem] theorem Tryd.tsz12 : tszOf Tryd.prog 12 = some (1, false) := by kernel_rfl
@[go_sem] theorem Tryd.udef12 : (Tryd.prog.underlying 12).isSome = true := by kernel_rfl
@[go_sem] theorem Tryd.zero12 : zeroOf Tryd.prog 12 = some [.int .u64 0] := by kernel_rfl
@[go_sem] theorem Tryd.isInt12 : isIntT Tryd.prog 12 = some .u64 := by kernel_rfl
@[go_sem] theorem Tryd.tsz13 : tszOf Tryd.prog 13 = some (2, true) := by kernel_rfl
@[go_sem] theorem Tryd.udef13 : (Tryd.prog.underlying 13).isSome = true := by kernel_rfl
@[go_sem] theorem Tryd.zero13 : zeroOf Tryd.prog 13 = some [.str ByteArray.empty, .int .u64 0] := by kernel_rfl
@[go_sem] theorem Tryd.pl13 : plOf Tryd.prog 13 = some [(0, 1), (1, 1)] := by kernel_rfl
@[go_sem] theorem Tryd.tsz14 : tszOf Tryd.prog 14 = some (2, true) := by kernel_rfl
@[go_sem] theorem Tryd.udef14 : (Tryd.prog.underlying 14).isSome = true := by kernel_rfl
@[go_sem] theorem Tryd.zero14 : zeroOf Tryd.prog 14 = some [.str ByteArray.empty, .int .u64 0] := by kernel_rfl
@[go_sem] theorem Tryd.pl14 : plOf Tryd.prog 14 = some [(0, 1), (1, 1)] := by kernel_rfl
@[go_sem] theorem Tryd.tsz15 : tszOf Tryd.prog 15 = some (1, false) := by kernel_rfl
@[go_sem] theorem Tryd.udef15 : (Tryd.prog.underlying 15).isSome = true := by kernel_rfl
@[go_sem] theorem Tryd.zero15 : zeroOf Tryd.prog 15 = some [.lit ((Go.Value.pointer none))] := by kernel_rfl
@[go_sem] theorem Tryd.tsz16 : tszOf Tryd.prog 16 = some (1, false) := by kernel_rfl
@[go_sem] theorem Tryd.udef16 : (Tryd.prog.underlying 16).isSome = true := by kernel_rfl
@[go_sem] theorem Tryd.zero16 : zeroOf Tryd.prog 16 = some [.lit ((Go.Value.pointer none))] := by kernel_rfl
@[go_sem] theorem Tryd.tsz17 : tszOf Tryd.prog 17 = some (1, false) := by kernel_rfl
@[go_sem] theorem Tryd.udef17 : (Tryd.prog.underlying 17).isSome = true := by kernel_rfl
@[go_sem] theorem Tryd.zero17 : zeroOf Tryd.prog 17 = some [.lit ((Go.Value.pointer none))] := by kernel_rfl
@[go_sem] theorem Tryd.tsz18 : tszOf Tryd.prog 18 = some (1, true) := by kernel_rfl
@[go_sem] theorem Tryd.udef18 : (Tryd.prog.underlying 18).isSome = true := by kernel_rfl
@[go_sem] theorem Tryd.zero18 : zeroOf Tryd.prog 18 = some [.lit ((Go.Value.pointer none))] := by kernel_rfl
@[go_sem] theorem Tryd.pl18 : plOf Tryd.prog 18 = some [(0, 1)] := by kernel_rfl
@[go_sem] theorem Tryd.tsz19 : tszOf Tryd.prog 19 = some (1, true) := by kernel_rfl
@[go_sem] theorem Tryd.udef19 : (Tryd.prog.underlying 19).isSome = true := by kernel_rfl
@[go_sem] theorem Tryd.zero19 : zeroOf Tryd.prog 19 = some [.lit ((Go.Value.pointer none))] := by kernel_rfl
@[go_sem] theorem Tryd.pl19 : plOf Tryd.prog 19 = some [(0, 1)] := by kernel_rfl
@[go_sem] theorem Tryd.tsz20 : tszOf Tryd.prog 20 = some (1, false) := by kernel_rfl
@[go_sem] theorem Tryd.udef20 : (Tryd.prog.underlying 20).isSome = true := by kernel_rfl
@[go_sem] theorem Tryd.zero20 : zeroOf Tryd.prog 20 = some [.lit ((Go.Value.nilIface))] := by kernel_rfl
@[go_sem] theorem Tryd.tsz21 : tszOf Tryd.prog 21 = some (1, false) := by kernel_rfl
@[go_sem] theorem Tryd.udef21 : (Tryd.prog.underlying 21).isSome = true := by kernel_rfl
@[go_sem] theorem Tryd.zero21 : zeroOf Tryd.prog 21 = some [.int .i32 0] := by kernel_rfl
@[go_sem] theorem Tryd.isInt21 : isIntT Tryd.prog 21 = some .i32 := by kernel_rfl
@[go_sem] theorem Tryd.tsz22 : tszOf Tryd.prog 22 = some (1, false) := by kernel_rfl
@[go_sem] theorem Tryd.udef22 : (Tryd.prog.underlying 22).isSome = true := by kernel_rfl
@[go_sem] theorem Tryd.zero22 : zeroOf Tryd.prog 22 = some [.nilsl] := by kernel_rfl
@[go_sem] theorem Tryd.el22 : elOf Tryd.prog 22 = some (5, 1, 1) := by kernel_rfl
@[go_sem] theorem Tryd.isSl22 : isSl Tryd.prog 22 = true := by kernel_rfl
@[go_sem] theorem Tryd.isU8S22 : isU8S Tryd.prog 22 = true := by kernel_rfl
@[go_sem] theorem Tryd.tsz23 : tszOf Tryd.prog 23 = some (1, false) := by kernel_rfl
@[go_sem] theorem Tryd.udef23 : (Tryd.prog.underlying 23).isSome = true := by kernel_rfl
@[go_sem] theorem Tryd.zero23 : zeroOf Tryd.prog 23 = some [.lit ((Go.Value.nilFunc))] := by kernel_rfl
@[go_sem] theorem Tryd.tsz24 : tszOf Tryd.prog 24 = some (1, false) := by kernel_rfl
@[go_sem] theorem Tryd.udef24 : (Tryd.prog.underlying 24).isSome = true := by kernel_rfl
@[go_sem] theorem Tryd.zero24 : zeroOf Tryd.prog 24 = some [.nilsl] := by kernel_rfl
@[go_sem] theorem Tryd.el24 : elOf Tryd.prog 24 = some (39, 5, 40) := by kernel_rfl
@[go_sem] theorem Tryd.isSl24 : isSl Tryd.prog 24 = true := by kernel_rfl
@[go_sem] theorem Tryd.tsz25 : tszOf Tryd.prog 25 = some (1, false) := by kernel_rfl
@[go_sem] theorem Tryd.udef25 : (Tryd.prog.underlying 25).isSome = true := by kernel_rfl
@[go_sem] theorem Tryd.zero25 : zeroOf Tryd.prog 25 = some [.lit ((Go.Value.nilFunc))] := by kernel_rfl
@[go_sem] theorem Tryd.tsz26 : tszOf Tryd.prog 26 = some (1, false) := by kernel_rfl
@[go_sem] theorem Tryd.udef26 : (Tryd.prog.underlying 26).isSome = true := by kernel_rfl
@[go_sem] theorem Tryd.zero26 : zeroOf Tryd.prog 26 = some [.nilsl] := by kernel_rfl
@[go_sem] theorem Tryd.el26 : elOf Tryd.prog 26 = some (3, 1, 8) := by kernel_rfl
@[go_sem] theorem Tryd.isSl26 : isSl Tryd.prog 26 = true := by kernel_rfl
@[go_sem] theorem Tryd.tsz28 : tszOf Tryd.prog 28 = some (1, false) := by kernel_rfl
@[go_sem] theorem Tryd.udef28 : (Tryd.prog.underlying 28).isSome = true := by kernel_rfl
@[go_sem] theorem Tryd.zero28 : zeroOf Tryd.prog 28 = some [.lit ((Go.Value.nilFunc))] := by kernel_rfl
@[go_sem] theorem Tryd.tsz29 : tszOf Tryd.prog 29 = some (1, false) := by kernel_rfl
@[go_sem] theorem Tryd.udef29 : (Tryd.prog.underlying 29).isSome = true := by kernel_rfl
@[go_sem] theorem Tryd.zero29 : zeroOf Tryd.prog 29 = some [.lit ((Go.Value.nilFunc))] := by kernel_rfl
@[go_sem] theorem Tryd.tsz30 : tszOf Tryd.prog 30 = some (1, false) := by kernel_rfl
@[go_sem] theorem Tryd.udef30 : (Tryd.prog.underlying 30).isSome = true := by kernel_rfl
@[go_sem] theorem Tryd.zero30 : zeroOf Tryd.prog 30 = some [.lit ((Go.Value.nilFunc))] := by kernel_rfl
@[go_sem] theorem Tryd.tsz32 : tszOf Tryd.prog 32 = some (1, false) := by kernel_rfl
@[go_sem] theorem Tryd.udef32 : (Tryd.prog.underlying 32).isSome = true := by kernel_rfl
@[go_sem] theorem Tryd.zero32 : zeroOf Tryd.prog 32 = some [.lit ((Go.Value.nilFunc))] := by kernel_rfl
@[go_sem] theorem Tryd.tsz34 : tszOf Tryd.prog 34 = some (1, false) := by kernel_rfl
@[go_sem] theorem Tryd.udef34 : (Tryd.prog.underlying 34).isSome = true := by kernel_rfl
@[go_sem] theorem Tryd.zero34 : zeroOf Tryd.prog 34 = some [.lit ((Go.Value.nilFunc))] := by kernel_rfl
@[go_sem] theorem Tryd.tsz36 : tszOf Tryd.prog 36 = some (1, false) := by kernel_rfl
@[go_sem] theorem Tryd.udef36 : (Tryd.prog.underlying 36).isSome = true := by kernel_rfl
@[go_sem] theorem Tryd.zero36 : zeroOf Tryd.prog 36 = some [.lit ((Go.Value.nilFunc))] := by kernel_rfl
@[go_sem] theorem Tryd.tsz37 : tszOf Tryd.prog 37 = some (1, false) := by kernel_rfl
@[go_sem] theorem Tryd.udef37 : (Tryd.prog.underlying 37).isSome = true := by kernel_rfl
@[go_sem] theorem Tryd.zero37 : zeroOf Tryd.prog 37 = some [.lit ((Go.Value.nilFunc))] := by kernel_rfl
@[go_sem] theorem Tryd.tsz38 : tszOf Tryd.prog 38 = some (5, true) := by kernel_rfl
@[go_sem] theorem Tryd.udef38 : (Tryd.prog.underlying 38).isSome = true := by kernel_rfl
@[go_sem] theorem Tryd.zero38 : zeroOf Tryd.prog 38 = some [.int .i64 0, .int .i64 0, .int .i64 0, .int .i64 0, .int .i64 0] := by kernel_rfl
@[go_sem] theorem Tryd.pl38 : plOf Tryd.prog 38 = some [(0, 1), (1, 1), (2, 1), (3, 1), (4, 1)] := by kernel_rfl
@[go_sem] theorem Tryd.tsz39 : tszOf Tryd.prog 39 = some (5, true) := by kernel_rfl
@[go_sem] theorem Tryd.udef39 : (Tryd.prog.underlying 39).isSome = true := by kernel_rfl
@[go_sem] theorem Tryd.zero39 : zeroOf Tryd.prog 39 = some [.int .i64 0, .int .i64 0, .int .i64 0, .int .i64 0, .int .i64 0] := by kernel_rfl
@[go_sem] theorem Tryd.flatEq39 : flatEq Tryd.prog 39 = some [.int .i64, .int .i64, .int .i64, .int .i64, .int .i64] := by kernel_rfl
@[go_sem] theorem Tryd.pl39 : plOf Tryd.prog 39 = some [(0, 1), (1, 1), (2, 1), (3, 1), (4, 1)] := by kernel_rfl
@[go_sem] theorem Tryd.fd39_0 : fdOf Tryd.prog 39 0 = some (0, 1, false) := by kernel_rfl
@[go_sem] theorem Tryd.fd39_1 : fdOf Tryd.prog 39 1 = some (1, 1, false) := by kernel_rfl
@[go_sem] theorem Tryd.fd39_2 : fdOf Tryd.prog 39 2 = some (2, 1, false) := by kernel_rfl
@[go_sem] theorem Tryd.fd39_3 : fdOf Tryd.prog 39 3 = some (3, 1, false) := by kernel_rfl
@[go_sem] theorem Tryd.fd39_4 : fdOf Tryd.prog 39 4 = some (4, 1, false) := by kernel_rfl
@[go_sem] theorem Tryd.tsz40 : tszOf Tryd.prog 40 = some (1, false) := by kernel_rfl
@[go_sem] theorem Tryd.udef40 : (Tryd.prog.underlying 40).isSome = true := by kernel_rfl
@[go_sem] theorem Tryd.zero40 : zeroOf Tryd.prog 40 = some [.lit ((Go.Value.nilFunc))] := by kernel_rfl
@[go_sem] theorem Tryd.tsz41 : tszOf Tryd.prog 41 = some (1, false) := by kernel_rfl
@[go_sem] theorem Tryd.udef41 : (Tryd.prog.underlying 41).isSome = true := by kernel_rfl
@[go_sem] theorem Tryd.zero41 : zeroOf Tryd.prog 41 = some [.lit ((Go.Value.nilFunc))] := by kernel_rfl
@[go_sem] theorem Tryd.tsz42 : tszOf Tryd.prog 42 = some (1, false) := by kernel_rfl
@[go_sem] theorem Tryd.udef42 : (Tryd.prog.underlying 42).isSome = true := by kernel_rfl
@[go_sem] theorem Tryd.zero42 : zeroOf Tryd.prog 42 = some [.lit ((Go.Value.nilFunc))] := by kernel_rfl
@[go_sem] theorem Tryd.tsz43 : tszOf Tryd.prog 43 = some (1, false) := by kernel_rfl
@[go_sem] theorem Tryd.udef43 : (Tryd.prog.underlying 43).isSome = true := by kernel_rfl
@[go_sem] theorem Tryd.zero43 : zeroOf Tryd.prog 43 = some [.nilsl] := by kernel_rfl
@[go_sem] theorem Tryd.el43 : elOf Tryd.prog 43 = some (109, 3, 24) := by kernel_rfl
@[go_sem] theorem Tryd.isSl43 : isSl Tryd.prog 43 = true := by kernel_rfl
@[go_sem] theorem Tryd.tsz44 : tszOf Tryd.prog 44 = some (1, false) := by kernel_rfl
@[go_sem] theorem Tryd.udef44 : (Tryd.prog.underlying 44).isSome = true := by kernel_rfl
@[go_sem] theorem Tryd.zero44 : zeroOf Tryd.prog 44 = some [.nilsl] := by kernel_rfl
@[go_sem] theorem Tryd.el44 : elOf Tryd.prog 44 = some (101, 5, 40) := by kernel_rfl
@[go_sem] theorem Tryd.isSl44 : isSl Tryd.prog 44 = true := by kernel_rfl
@[go_sem] theorem Tryd.tsz45 : tszOf Tryd.prog 45 = some (5, true) := by kernel_rfl
@[go_sem] theorem Tryd.udef45 : (Tryd.prog.underlying 45).isSome = true := by kernel_rfl
@[go_sem] theorem Tryd.zero45 : zeroOf Tryd.prog 45 = some [.int .i64 0, .nilsl, .nilsl, .int .i64 0, .int .i64 0] := by kernel_rfl
@[go_sem] theorem Tryd.pl45 : plOf Tryd.prog 45 = some [(0, 1), (1, 1), (2, 1), (3, 1), (4, 1)] := by kernel_rfl
@[go_sem] theorem Tryd.tsz46 : tszOf Tryd.prog 46 = some (5, true) := by kernel_rfl
@[go_sem] theorem Tryd.udef46 : (Tryd.prog.underlying 46).isSome = true := by kernel_rfl
@[go_sem] theorem Tryd.zero46 : zeroOf Tryd.prog 46 = some [.int .i64 0, .nilsl, .nilsl, .int .i64 0, .int .i64 0] := by kernel_rfl
@[go_sem] theorem Tryd.pl46 : plOf Tryd.prog 46 = some [(0, 1), (1, 1), (2, 1), (3, 1), (4, 1)] := by kernel_rfl
@[go_sem] theorem Tryd.fd46_0 : fdOf Tryd.prog 46 0 = some (0, 1, false) := by kernel_rfl
@[go_sem] theorem Tryd.fd46_1 : fdOf Tryd.prog 46 1 = some (1, 1, false) := by kernel_rfl
@[go_sem] theorem Tryd.fd46_2 : fdOf Tryd.prog 46 2 = some (2, 1, false) := by kernel_rfl
@[go_sem] theorem Tryd.fd46_3 : fdOf Tryd.prog 46 3 = some (3, 1, false) := by kernel_rfl
@[go_sem] theorem Tryd.fd46_4 : fdOf Tryd.prog 46 4 = some (4, 1, false) := by kernel_rfl
@[go_sem] theorem Tryd.tsz47 : tszOf Tryd.prog 47 = some (1, false) := by kernel_rfl
@[go_sem] theorem Tryd.udef47 : (Tryd.prog.underlying 47).isSome = true := by kernel_rfl
@[go_sem] theorem Tryd.zero47 : zeroOf Tryd.prog 47 = some [.lit ((Go.Value.nilFunc))] := by kernel_rfl
@[go_sem] theorem Tryd.tsz48 : tszOf Tryd.prog 48 = some (1, false) := by kernel_rfl
@[go_sem] theorem Tryd.udef48 : (Tryd.prog.underlying 48).isSome = true := by kernel_rfl
@[go_sem] theorem Tryd.zero48 : zeroOf Tryd.prog 48 = some [.lit ((Go.Value.nilFunc))] := by kernel_rfl
@[go_sem] theorem Tryd.tsz49 : tszOf Tryd.prog 49 = some (1, false) := by kernel_rfl
@[go_sem] theorem Tryd.udef49 : (Tryd.prog.underlying 49).isSome = true := by kernel_rfl
@[go_sem] theorem Tryd.zero49 : zeroOf Tryd.prog 49 = some [.lit ((Go.Value.nilFunc))] := by kernel_rfl
@[go_sem] theorem Tryd.tsz51 : tszOf Tryd.prog 51 = some (1, false) := by kernel_rfl
@[go_sem] theorem Tryd.udef51 : (Tryd.prog.underlying 51).isSome = true := by kernel_rfl
@[go_sem] theorem Tryd.zero51 : zeroOf Tryd.prog 51 = some [.lit ((Go.Value.nilFunc))] := by kernel_rfl
@[go_sem] theorem Tryd.tsz52 : tszOf Tryd.prog 52 = some (3, true) := by kernel_rfl
@[go_sem] theorem Tryd.udef52 : (Tryd.prog.underlying 52).isSome = true := by kernel_rfl
@[go_sem] theorem Tryd.zero52 : zeroOf Tryd.prog 52 = some [.int .i64 0, .int .i64 0, .int .i64 0] := by kernel_rfl
@[go_sem] theorem Tryd.pl52 : plOf Tryd.prog 52 = some [(0, 1), (1, 1), (2, 1)] := by kernel_rfl
@[go_sem] theorem Tryd.tsz53 : tszOf Tryd.prog 53 = some (3, true) := by kernel_rfl
@[go_sem] theorem Tryd.udef53 : (Tryd.prog.underlying 53).isSome = true := by kernel_rfl
@[go_sem] theorem Tryd.zero53 : zeroOf Tryd.prog 53 = some [.int .i64 0, .int .i64 0, .int .i64 0] := by kernel_rfl
@[go_sem] theorem Tryd.flatEq53 : flatEq Tryd.prog 53 = some [.int .i64, .int .i64, .int .i64] := by kernel_rfl
@[go_sem] theorem Tryd.pl53 : plOf Tryd.prog 53 = some [(0, 1), (1, 1), (2, 1)] := by kernel_rfl
@[go_sem] theorem Tryd.fd53_0 : fdOf Tryd.prog 53 0 = some (0, 1, false) := by kernel_rfl
@[go_sem] theorem Tryd.fd53_1 : fdOf Tryd.prog 53 1 = some (1, 1, false) := by kernel_rfl
@[go_sem] theorem Tryd.fd53_2 : fdOf Tryd.prog 53 2 = some (2, 1, false) := by kernel_rfl
@[go_sem] theorem Tryd.tsz55 : tszOf Tryd.prog 55 = some (1, false) := by kernel_rfl
@[go_sem] theorem Tryd.udef55 : (Tryd.prog.underlying 55).isSome = true := by kernel_rfl
@[go_sem] theorem Tryd.zero55 : zeroOf Tryd.prog 55 = some [.lit ((Go.Value.nilFunc))] := by kernel_rfl
@[go_sem] theorem Tryd.tsz56 : tszOf Tryd.prog 56 = some (1, false) := by kernel_rfl
@[go_sem] theorem Tryd.udef56 : (Tryd.prog.underlying 56).isSome = true := by kernel_rfl
@[go_sem] theorem Tryd.zero56 : zeroOf Tryd.prog 56 = some [.lit ((Go.Value.nilFunc))] := by kernel_rfl
@[go_sem] theorem Tryd.tsz58 : tszOf Tryd.prog 58 = some (1, false) := by kernel_rfl
@[go_sem] theorem Tryd.udef58 : (Tryd.prog.underlying 58).isSome = true := by kernel_rfl
@[go_sem] theorem Tryd.zero58 : zeroOf Tryd.prog 58 = some [.lit ((Go.Value.nilFunc))] := by kernel_rfl
@[go_sem] theorem Tryd.tsz59 : tszOf Tryd.prog 59 = some (1, false) := by kernel_rfl
@[go_sem] theorem Tryd.udef59 : (Tryd.prog.underlying 59).isSome = true := by kernel_rfl
@[go_sem] theorem Tryd.zero59 : zeroOf Tryd.prog 59 = some [.lit ((Go.Value.nilFunc))] := by kernel_rfl
@[go_sem] theorem Tryd.tsz60 : tszOf Tryd.prog 60 = some (7, true) := by kernel_rfl
@[go_sem] theorem Tryd.udef60 : (Tryd.prog.underlying 60).isSome = true := by kernel_rfl
@[go_sem] theorem Tryd.zero60 : zeroOf Tryd.prog 60 = some [.int .i64 0, .int .i64 0, .int .i64 0, .int .i64 0, .int .i64 0, .int .i64 0, .int .i64 0] := by kernel_rfl
@[go_sem] theorem Tryd.pl60 : plOf Tryd.prog 60 = some [(0, 1), (1, 1), (2, 1), (3, 1), (4, 1), (5, 1), (6, 1)] := by kernel_rfl
@[go_sem] theorem Tryd.tsz61 : tszOf Tryd.prog 61 = some (7, true) := by kernel_rfl
@[go_sem] theorem Tryd.udef61 : (Tryd.prog.underlying 61).isSome = true := by kernel_rfl
@[go_sem] theorem Tryd.zero61 : zeroOf Tryd.prog 61 = some [.int .i64 0, .int .i64 0, .int .i64 0, .int .i64 0, .int .i64 0, .int .i64 0, .int .i64 0] := by kernel_rfl
@[go_sem] theorem Tryd.flatEq61 : flatEq Tryd.prog 61 = some [.int .i64, .int .i64, .int .i64, .int .i64, .int .i64, .int .i64, .int .i64] := by kernel_rfl
@[go_sem] theorem Tryd.pl61 : plOf Tryd.prog 61 = some [(0, 1), (1, 1), (2, 1), (3, 1), (4, 1), (5, 1), (6, 1)] := by kernel_rfl
@[go_sem] theorem Tryd.fd61_0 : fdOf Tryd.prog 61 0 = some (0, 1, false) := by kernel_rfl
@[go_sem] theorem Tryd.fd61_1 : fdOf Tryd.prog 61 1 = some (1, 1, false) := by kernel_rfl
@[go_sem] theorem Tryd.fd61_2 : fdOf Tryd.prog 61 2 = some (2, 1, false) := by kernel_rfl
@[go_sem] theorem Tryd.fd61_3 : fdOf Tryd.prog 61 3 = some (3, 1, false) := by kernel_rfl
@[go_sem] theorem Tryd.fd61_4 : fdOf Tryd.prog 61 4 = some (4, 1, false) := by kernel_rfl
@[go_sem] theorem Tryd.fd61_5 : fdOf Tryd.prog 61 5 = some (5, 1, false) := by kernel_rfl
@[go_sem] theorem Tryd.fd61_6 : fdOf Tryd.prog 61 6 = some (6, 1, false) := by kernel_rfl
@[go_sem] theorem Tryd.tsz63 : tszOf Tryd.prog 63 = some (1, false) := by kernel_rfl
@[go_sem] theorem Tryd.udef63 : (Tryd.prog.underlying 63).isSome = true := by kernel_rfl
@[go_sem] theorem Tryd.zero63 : zeroOf Tryd.prog 63 = some [.lit ((Go.Value.nilFunc))] := by kernel_rfl
@[go_sem] theorem Tryd.tsz64 : tszOf Tryd.prog 64 = some (1, false) := by kernel_rfl
@[go_sem] theorem Tryd.udef64 : (Tryd.prog.underlying 64).isSome = true := by kernel_rfl
@[go_sem] theorem Tryd.zero64 : zeroOf Tryd.prog 64 = some [.lit ((Go.Value.nilFunc))] := by kernel_rfl
@[go_sem] theorem Tryd.tsz65 : tszOf Tryd.prog 65 = some (1, false) := by kernel_rfl
@[go_sem] theorem Tryd.udef65 : (Tryd.prog.underlying 65).isSome = true := by kernel_rfl
@[go_sem] theorem Tryd.zero65 : zeroOf Tryd.prog 65 = some [.lit ((Go.Value.nilFunc))] := by kernel_rfl
@[go_sem] theorem Tryd.tsz66 : tszOf Tryd.prog 66 = some (1, false) := by kernel_rfl
@[go_sem] theorem Tryd.udef66 : (Tryd.prog.underlying 66).isSome = true := by kernel_rfl
@[go_sem] theorem Tryd.zero66 : zeroOf Tryd.prog 66 = some [.nilsl] := by kernel_rfl
@[go_sem] theorem Tryd.el66 : elOf Tryd.prog 66 = some (128, 2, 16) := by kernel_rfl
@[go_sem] theorem Tryd.isSl66 : isSl Tryd.prog 66 = true := by kernel_rfl
@[go_sem] theorem Tryd.tsz67 : tszOf Tryd.prog 67 = some (5, true) := by kernel_rfl
@[go_sem] theorem Tryd.udef67 : (Tryd.prog.underlying 67).isSome = true := by kernel_rfl
@[go_sem] theorem Tryd.zero67 : zeroOf Tryd.prog 67 = some [.int .i64 0, .int .i64 0, .nilsl, .int .i64 0, .int .i64 0] := by kernel_rfl
@[go_sem] theorem Tryd.pl67 : plOf Tryd.prog 67 = some [(0, 1), (1, 1), (2, 1), (3, 1), (4, 1)] := by kernel_rfl
@[go_sem] theorem Tryd.tsz68 : tszOf Tryd.prog 68 = some (5, true) := by kernel_rfl
@[go_sem] theorem Tryd.udef68 : (Tryd.prog.underlying 68).isSome = true := by kernel_rfl
@[go_sem] theorem Tryd.zero68 : zeroOf Tryd.prog 68 = some [.int .i64 0, .int .i64 0, .nilsl, .int .i64 0, .int .i64 0] := by kernel_rfl
@[go_sem] theorem Tryd.pl68 : plOf Tryd.prog 68 = some [(0, 1), (1, 1), (2, 1), (3, 1), (4, 1)] := by kernel_rfl
@[go_sem] theorem Tryd.fd68_0 : fdOf Tryd.prog 68 0 = some (0, 1, false) := by kernel_rfl
@[go_sem] theorem Tryd.fd68_1 : fdOf Tryd.prog 68 1 = some (1, 1, false) := by kernel_rfl
@[go_sem] theorem Tryd.fd68_2 : fdOf Tryd.prog 68 2 = some (2, 1, false) := by kernel_rfl
@[go_sem] theorem Tryd.fd68_3 : fdOf Tryd.prog 68 3 = some (3, 1, false) := by kernel_rfl
@[go_sem] theorem Tryd.fd68_4 : fdOf Tryd.prog 68 4 = some (4, 1, false) := by kernel_rfl
@[go_sem] theorem Tryd.tsz69 : tszOf Tryd.prog 69 = some (1, false) := by kernel_rfl
@[go_sem] theorem Tryd.udef69 : (Tryd.prog.underlying 69).isSome = true := by kernel_rfl
@[go_sem] theorem Tryd.zero69 : zeroOf Tryd.prog 69 = some [.lit ((Go.Value.nilFunc))] := by kernel_rfl
@[go_sem] theorem Tryd.tsz71 : tszOf Tryd.prog 71 = some (1, false) := by kernel_rfl
@[go_sem] theorem Tryd.udef71 : (Tryd.prog.underlying 71).isSome = true := by kernel_rfl
@[go_sem] theorem Tryd.zero71 : zeroOf Tryd.prog 71 = some [.lit ((Go.Value.nilFunc))] := by kernel_rfl
@[go_sem] theorem Tryd.tsz72 : tszOf Tryd.prog 72 = some (1, false) := by kernel_rfl
@[go_sem] theorem Tryd.udef72 : (Tryd.prog.underlying 72).isSome = true := by kernel_rfl
@[go_sem] theorem Tryd.zero72 : zeroOf Tryd.prog 72 = some [.lit ((Go.Value.nilFunc))] := by kernel_rfl
@[go_sem] theorem Tryd.tsz74 : tszOf Tryd.prog 74 = some (1, false) := by kernel_rfl
@[go_sem] theorem Tryd.udef74 : (Tryd.prog.underlying 74).isSome = true := by kernel_rfl
@[go_sem] theorem Tryd.zero74 : zeroOf Tryd.prog 74 = some [.lit ((Go.Value.nilFunc))] := by kernel_rfl
@[go_sem] theorem Tryd.tsz75 : tszOf Tryd.prog 75 = some (2, true) := by kernel_rfl
@[go_sem] theorem Tryd.udef75 : (Tryd.prog.underlying 75).isSome = true := by kernel_rfl
@[go_sem] theorem Tryd.zero75 : zeroOf Tryd.prog 75 = some [.int .i64 0, .int .i64 0] := by kernel_rfl
@[go_sem] theorem Tryd.pl75 : plOf Tryd.prog 75 = some [(0, 1), (1, 1)] := by kernel_rfl
@[go_sem] theorem Tryd.tsz76 : tszOf Tryd.prog 76 = some (2, true) := by kernel_rfl
@[go_sem] theorem Tryd.udef76 : (Tryd.prog.underlying 76).isSome = true := by kernel_rfl
@[go_sem] theorem Tryd.zero76 : zeroOf Tryd.prog 76 = some [.int .i64 0, .int .i64 0] := by kernel_rfl
@[go_sem] theorem Tryd.flatEq76 : flatEq Tryd.prog 76 = some [.int .i64, .int .i64] := by kernel_rfl
@[go_sem] theorem Tryd.pl76 : plOf Tryd.prog 76 = some [(0, 1), (1, 1)] := by kernel_rfl
@[go_sem] theorem Tryd.fd76_0 : fdOf Tryd.prog 76 0 = some (0, 1, false) := by kernel_rfl
@[go_sem] theorem Tryd.fd76_1 : fdOf Tryd.prog 76 1 = some (1, 1, false) := by kernel_rfl
@[go_sem] theorem Tryd.tsz78 : tszOf Tryd.prog 78 = some (1, false) := by kernel_rfl
@[go_sem] theorem Tryd.udef78 : (Tryd.prog.underlying 78).isSome = true := by kernel_rfl
@[go_sem] theorem Tryd.zero78 : zeroOf Tryd.prog 78 = some [.lit ((Go.Value.nilFunc))] := by kernel_rfl
@[go_sem] theorem Tryd.tsz79 : tszOf Tryd.prog 79 = some (1, false) := by kernel_rfl
@[go_sem] theorem Tryd.udef79 : (Tryd.prog.underlying 79).isSome = true := by kernel_rfl
@[go_sem] theorem Tryd.zero79 : zeroOf Tryd.prog 79 = some [.lit ((Go.Value.nilFunc))] := by kernel_rfl
@[go_sem] theorem Tryd.tsz80 : tszOf Tryd.prog 80 = some (1, false) := by kernel_rfl
@[go_sem] theorem Tryd.udef80 : (Tryd.prog.underlying 80).isSome = true := by kernel_rfl
@[go_sem] theorem Tryd.zero80 : zeroOf Tryd.prog 80 = some [.lit ((Go.Value.nilFunc))] := by kernel_rfl
@[go_sem] theorem Tryd.tsz81 : tszOf Tryd.prog 81 = some (1, false) := by kernel_rfl
@[go_sem] theorem Tryd.udef81 : (Tryd.prog.underlying 81).isSome = true := by kernel_rfl
@[go_sem] theorem Tryd.zero81 : zeroOf Tryd.prog 81 = some [.lit ((Go.Value.nilFunc))] := by kernel_rfl
@[go_sem] theorem Tryd.tsz82 : tszOf Tryd.prog 82 = some (1, false) := by kernel_rfl
@[go_sem] theorem Tryd.udef82 : (Tryd.prog.underlying 82).isSome = true := by kernel_rfl
@[go_sem] theorem Tryd.zero82 : zeroOf Tryd.prog 82 = some [.lit ((Go.Value.nilFunc))] := by kernel_rfl
@[go_sem] theorem Tryd.tsz83 : tszOf Tryd.prog 83 = some (1, false) := by kernel_rfl
@[go_sem] theorem Tryd.udef83 : (Tryd.prog.underlying 83).isSome = true := by kernel_rfl
@[go_sem] theorem Tryd.zero83 : zeroOf Tryd.prog 83 = some [.lit ((Go.Value.nilFunc))] := by kernel_rfl
@[go_sem] theorem Tryd.tsz84 : tszOf Tryd.prog 84 = some (1, false) := by kernel_rfl
@[go_sem] theorem Tryd.udef84 : (Tryd.prog.underlying 84).isSome = true := by kernel_rfl
@[go_sem] theorem Tryd.zero84 : zeroOf Tryd.prog 84 = some [.lit ((Go.Value.nilFunc))] := by kernel_rfl
@[go_sem] theorem Tryd.tsz85 : tszOf Tryd.prog 85 = some (1, false) := by kernel_rfl
@[go_sem] theorem Tryd.udef85 : (Tryd.prog.underlying 85).isSome = true := by kernel_rfl
@[go_sem] theorem Tryd.zero85 : zeroOf Tryd.prog 85 = some [.lit ((Go.Value.nilFunc))] := by kernel_rfl
@[go_sem] theorem Tryd.tsz86 : tszOf Tryd.prog 86 = some (1, false) := by kernel_rfl
@[go_sem] theorem Tryd.udef86 : (Tryd.prog.underlying 86).isSome = true := by kernel_rfl
@[go_sem] theorem Tryd.zero86 : zeroOf Tryd.prog 86 = some [.lit ((Go.Value.nilFunc))] := by kernel_rfl
@[go_sem] theorem Tryd.tsz87 : tszOf Tryd.prog 87 = some (1, false) := by kernel_rfl
@[go_sem] theorem Tryd.udef87 : (Tryd.prog.underlying 87).isSome = true := by kernel_rfl
@[go_sem] theorem Tryd.zero87 : zeroOf Tryd.prog 87 = some [.lit ((Go.Value.pointer none))] := by kernel_rfl
@[go_sem] theorem Tryd.tsz88 : tszOf Tryd.prog 88 = some (1, false) := by kernel_rfl
@[go_sem] theorem Tryd.udef88 : (Tryd.prog.underlying 88).isSome = true := by kernel_rfl
@[go_sem] theorem Tryd.zero88 : zeroOf Tryd.prog 88 = some [.int .u64 0] := by kernel_rfl
@[go_sem] theorem Tryd.isInt88 : isIntT Tryd.prog 88 = some .u64 := by kernel_rfl
@[go_sem] theorem Tryd.tsz89 : tszOf Tryd.prog 89 = some (3, true) := by kernel_rfl
@[go_sem] theorem Tryd.udef89 : (Tryd.prog.underlying 89).isSome = true := by kernel_rfl
@[go_sem] theorem Tryd.zero89 : zeroOf Tryd.prog 89 = some [.nilsl, .int .i64 0, .int .u64 0] := by kernel_rfl
@[go_sem] theorem Tryd.pl89 : plOf Tryd.prog 89 = some [(0, 1), (1, 1), (2, 1)] := by kernel_rfl
@[go_sem] theorem Tryd.tsz90 : tszOf Tryd.prog 90 = some (3, true) := by kernel_rfl
@[go_sem] theorem Tryd.udef90 : (Tryd.prog.underlying 90).isSome = true := by kernel_rfl
@[go_sem] theorem Tryd.zero90 : zeroOf Tryd.prog 90 = some [.nilsl, .int .i64 0, .int .u64 0] := by kernel_rfl
@[go_sem] theorem Tryd.pl90 : plOf Tryd.prog 90 = some [(0, 1), (1, 1), (2, 1)] := by kernel_rfl
@[go_sem] theorem Tryd.fd90_0 : fdOf Tryd.prog 90 0 = some (0, 1, false) := by kernel_rfl
@[go_sem] theorem Tryd.fd90_1 : fdOf Tryd.prog 90 1 = some (1, 1, false) := by kernel_rfl
@[go_sem] theorem Tryd.fd90_2 : fdOf Tryd.prog 90 2 = some (2, 1, false) := by kernel_rfl
@[go_sem] theorem Tryd.tsz91 : tszOf Tryd.prog 91 = some (1, false) := by kernel_rfl
@[go_sem] theorem Tryd.udef91 : (Tryd.prog.underlying 91).isSome = true := by kernel_rfl
@[go_sem] theorem Tryd.zero91 : zeroOf Tryd.prog 91 = some [.lit ((Go.Value.nilFunc))] := by kernel_rfl
@[go_sem] theorem Tryd.tsz92 : tszOf Tryd.prog 92 = some (1, false) := by kernel_rfl
@[go_sem] theorem Tryd.udef92 : (Tryd.prog.underlying 92).isSome = true := by kernel_rfl
@[go_sem] theorem Tryd.zero92 : zeroOf Tryd.prog 92 = some [.lit ((Go.Value.nilFunc))] := by kernel_rfl
@[go_sem] theorem Tryd.tsz93 : tszOf Tryd.prog 93 = some (1, false) := by kernel_rfl
@[go_sem] theorem Tryd.udef93 : (Tryd.prog.underlying 93).isSome = true := by kernel_rfl
@[go_sem] theorem Tryd.zero93 : zeroOf Tryd.prog 93 = some [.lit ((Go.Value.nilFunc))] := by kernel_rfl
@[go_sem] theorem Tryd.tsz94 : tszOf Tryd.prog 94 = some (1, false) := by kernel_rfl
@[go_sem] theorem Tryd.udef94 : (Tryd.prog.underlying 94).isSome = true := by kernel_rfl
@[go_sem] theorem Tryd.zero94 : zeroOf Tryd.prog 94 = some [.lit ((Go.Value.nilFunc))] := by kernel_rfl
@[go_sem] theorem Tryd.tsz95 : tszOf Tryd.prog 95 = some (1, false) := by kernel_rfl
@[go_sem] theorem Tryd.udef95 : (Tryd.prog.underlying 95).isSome = true := by kernel_rfl
@[go_sem] theorem Tryd.zero95 : zeroOf Tryd.prog 95 = some [.lit ((Go.Value.nilFunc))] := by kernel_rfl
@[go_sem] theorem Tryd.tsz96 : tszOf Tryd.prog 96 = some (1, false) := by kernel_rfl
@[go_sem] theorem Tryd.udef96 : (Tryd.prog.underlying 96).isSome = true := by kernel_rfl
@[go_sem] theorem Tryd.zero96 : zeroOf Tryd.prog 96 = some [.lit ((Go.Value.nilFunc))] := by kernel_rfl
@[go_sem] theorem Tryd.tsz97 : tszOf Tryd.prog 97 = some (1, false) := by kernel_rfl
@[go_sem] theorem Tryd.udef97 : (Tryd.prog.underlying 97).isSome = true := by kernel_rfl
@[go_sem] theorem Tryd.zero97 : zeroOf Tryd.prog 97 = some [.lit ((Go.Value.nilFunc))] := by kernel_rfl
@[go_sem] theorem Tryd.tsz98 : tszOf Tryd.prog 98 = some (1, false) := by kernel_rfl
@[go_sem] theorem Tryd.udef98 : (Tryd.prog.underlying 98).isSome = true := by kernel_rfl
@[go_sem] theorem Tryd.zero98 : zeroOf Tryd.prog 98 = some [.lit ((Go.Value.nilFunc))] := by kernel_rfl
@[go_sem] theorem Tryd.tsz99 : tszOf Tryd.prog 99 = some (1, false) := by kernel_rfl
@[go_sem] theorem Tryd.udef99 : (Tryd.prog.underlying 99).isSome = true := by kernel_rfl
@[go_sem] theorem Tryd.zero99 : zeroOf Tryd.prog 99 = some [.lit ((Go.Value.nilFunc))] := by kernel_rfl
@[go_sem] theorem Tryd.tsz100 : tszOf Tryd.prog 100 = some (5, true) := by kernel_rfl
@[go_sem] theorem Tryd.udef100 : (Tryd.prog.underlying 100).isSome = true := by kernel_rfl
@[go_sem] theorem Tryd.zero100 : zeroOf Tryd.prog 100 = some [.int .i64 0, .int .i64 0, .int .i64 0, .int .i64 0, .int .i64 0] := by kernel_rfl
@[go_sem] theorem Tryd.pl100 : plOf Tryd.prog 100 = some [(0, 1), (1, 1), (2, 1), (3, 1), (4, 1)] := by kernel_rfl
@[go_sem] theorem Tryd.tsz101 : tszOf Tryd.prog 101 = some (5, true) := by kernel_rfl
@[go_sem] theorem Tryd.udef101 : (Tryd.prog.underlying 101).isSome = true := by kernel_rfl
@[go_sem] theorem Tryd.zero101 : zeroOf Tryd.prog 101 = some [.int .i64 0, .int .i64 0, .int .i64 0, .int .i64 0, .int .i64 0] := by kernel_rfl
@[go_sem] theorem Tryd.flatEq101 : flatEq Tryd.prog 101 = some [.int .i64, .int .i64, .int .i64, .int .i64, .int .i64] := by kernel_rfl
@[go_sem] theorem Tryd.pl101 : plOf Tryd.prog 101 = some [(0, 1), (1, 1), (2, 1), (3, 1), (4, 1)] := by kernel_rfl
@[go_sem] theorem Tryd.fd101_0 : fdOf Tryd.prog 101 0 = some (0, 1, false) := by kernel_rfl
@[go_sem] theorem Tryd.fd101_1 : fdOf Tryd.prog 101 1 = some (1, 1, false) := by kernel_rfl
@[go_sem] theorem Tryd.fd101_2 : fdOf Tryd.prog 101 2 = some (2, 1, false) := by kernel_rfl
@[go_sem] theorem Tryd.fd101_3 : fdOf Tryd.prog 101 3 = some (3, 1, false) := by kernel_rfl
@[go_sem] theorem Tryd.fd101_4 : fdOf Tryd.prog 101 4 = some (4, 1, false) := by kernel_rfl
@[go_sem] theorem Tryd.tsz102 : tszOf Tryd.prog 102 = some (1, false) := by kernel_rfl
@[go_sem] theorem Tryd.udef102 : (Tryd.prog.underlying 102).isSome = true := by kernel_rfl
@[go_sem] theorem Tryd.zero102 : zeroOf Tryd.prog 102 = some [.lit ((Go.Value.nilFunc))] := by kernel_rfl
@[go_sem] theorem Tryd.tsz103 : tszOf Tryd.prog 103 = some (1, false) := by kernel_rfl
@[go_sem] theorem Tryd.udef103 : (Tryd.prog.underlying 103).isSome = true := by kernel_rfl
@[go_sem] theorem Tryd.zero103 : zeroOf Tryd.prog 103 = some [.lit ((Go.Value.nilFunc))] := by kernel_rfl
@[go_sem] theorem Tryd.tsz104 : tszOf Tryd.prog 104 = some (1, false) := by kernel_rfl
@[go_sem] theorem Tryd.udef104 : (Tryd.prog.underlying 104).isSome = true := by kernel_rfl
@[go_sem] theorem Tryd.zero104 : zeroOf Tryd.prog 104 = some [.lit ((Go.Value.nilFunc))] := by kernel_rfl
@[go_sem] theorem Tryd.tsz105 : tszOf Tryd.prog 105 = some (1, false) := by kernel_rfl
@[go_sem] theorem Tryd.udef105 : (Tryd.prog.underlying 105).isSome = true := by kernel_rfl
@[go_sem] theorem Tryd.zero105 : zeroOf Tryd.prog 105 = some [.lit ((Go.Value.nilFunc))] := by kernel_rfl
@[go_sem] theorem Tryd.tsz106 : tszOf Tryd.prog 106 = some (1, false) := by kernel_rfl
@[go_sem] theorem Tryd.udef106 : (Tryd.prog.underlying 106).isSome = true := by kernel_rfl
@[go_sem] theorem Tryd.zero106 : zeroOf Tryd.prog 106 = some [.lit ((Go.Value.nilFunc))] := by kernel_rfl
@[go_sem] theorem Tryd.tsz107 : tszOf Tryd.prog 107 = some (1, false) := by kernel_rfl
@[go_sem] theorem Tryd.udef107 : (Tryd.prog.underlying 107).isSome = true := by kernel_rfl
@[go_sem] theorem Tryd.zero107 : zeroOf Tryd.prog 107 = some [.lit ((Go.Value.nilFunc))] := by kernel_rfl
@[go_sem] theorem Tryd.tsz108 : tszOf Tryd.prog 108 = some (3, true) := by kernel_rfl
@[go_sem] theorem Tryd.udef108 : (Tryd.prog.underlying 108).isSome = true := by kernel_rfl
@[go_sem] theorem Tryd.zero108 : zeroOf Tryd.prog 108 = some [.int .i64 0, .bool false, .int .i64 0] := by kernel_rfl
@[go_sem] theorem Tryd.pl108 : plOf Tryd.prog 108 = some [(0, 1), (1, 1), (2, 1)] := by kernel_rfl
@[go_sem] theorem Tryd.tsz109 : tszOf Tryd.prog 109 = some (3, true) := by kernel_rfl
@[go_sem] theorem Tryd.udef109 : (Tryd.prog.underlying 109).isSome = true := by kernel_rfl
@[go_sem] theorem Tryd.zero109 : zeroOf Tryd.prog 109 = some [.int .i64 0, .bool false, .int .i64 0] := by kernel_rfl
@[go_sem] theorem Tryd.flatEq109 : flatEq Tryd.prog 109 = some [.int .i64, .bool, .int .i64] := by kernel_rfl
@[go_sem] theorem Tryd.pl109 : plOf Tryd.prog 109 = some [(0, 1), (1, 1), (2, 1)] := by kernel_rfl
@[go_sem] theorem Tryd.fd109_0 : fdOf Tryd.prog 109 0 = some (0, 1, false) := by kernel_rfl
@[go_sem] theorem Tryd.fd109_1 : fdOf Tryd.prog 109 1 = some (1, 1, false) := by kernel_rfl
@[go_sem] theorem Tryd.fd109_2 : fdOf Tryd.prog 109 2 = some (2, 1, false) := by kernel_rfl
@[go_sem] theorem Tryd.tsz110 : tszOf Tryd.prog 110 = some (1, false) := by kernel_rfl
@[go_sem] theorem Tryd.udef110 : (Tryd.prog.underlying 110).isSome = true := by kernel_rfl
@[go_sem] theorem Tryd.zero110 : zeroOf Tryd.prog 110 = some [.lit ((Go.Value.nilFunc))] := by kernel_rfl
@[go_sem] theorem Tryd.tsz111 : tszOf Tryd.prog 111 = some (1, false) := by kernel_rfl
@[go_sem] theorem Tryd.udef111 : (Tryd.prog.underlying 111).isSome = true := by kernel_rfl
@[go_sem] theorem Tryd.zero111 : zeroOf Tryd.prog 111 = some [.lit ((Go.Value.nilFunc))] := by kernel_rfl
@[go_sem] theorem Tryd.tsz112 : tszOf Tryd.prog 112 = some (1, false) := by kernel_rfl
@[go_sem] theorem Tryd.udef112 : (Tryd.prog.underlying 112).isSome = true := by kernel_rfl
@[go_sem] theorem Tryd.zero112 : zeroOf Tryd.prog 112 = some [.lit ((Go.Value.nilFunc))] := by kernel_rfl
@[go_sem] theorem Tryd.tsz113 : tszOf Tryd.prog 113 = some (1, false) := by kernel_rfl
@[go_sem] theorem Tryd.udef113 : (Tryd.prog.underlying 113).isSome = true := by kernel_rfl
@[go_sem] theorem Tryd.zero113 : zeroOf Tryd.prog 113 = some [.lit ((Go.Value.nilFunc))] := by kernel_rfl
@[go_sem] theorem Tryd.tsz114 : tszOf Tryd.prog 114 = some (1, false) := by kernel_rfl
@[go_sem] theorem Tryd.udef114 : (Tryd.prog.underlying 114).isSome = true := by kernel_rfl
@[go_sem] theorem Tryd.zero114 : zeroOf Tryd.prog 114 = some [.lit ((Go.Value.nilFunc))] := by kernel_rfl
@[go_sem] theorem Tryd.tsz115 : tszOf Tryd.prog 115 = some (1, false) := by kernel_rfl
@[go_sem] theorem Tryd.udef115 : (Tryd.prog.underlying 115).isSome = true := by kernel_rfl
@[go_sem] theorem Tryd.zero115 : zeroOf Tryd.prog 115 = some [.nilsl] := by kernel_rfl
@[go_sem] theorem Tryd.el115 : elOf Tryd.prog 115 = some (9, 1, 16) := by kernel_rfl
@[go_sem] theorem Tryd.isSl115 : isSl Tryd.prog 115 = true := by kernel_rfl
@[go_sem] theorem Tryd.tsz116 : tszOf Tryd.prog 116 = some (1, false) := by kernel_rfl
@[go_sem] theorem Tryd.udef116 : (Tryd.prog.underlying 116).isSome = true := by kernel_rfl
@[go_sem] theorem Tryd.zero116 : zeroOf Tryd.prog 116 = some [.lit ((Go.Value.nilFunc))] := by kernel_rfl
@[go_sem] theorem Tryd.tsz117 : tszOf Tryd.prog 117 = some (1, false) := by kernel_rfl
@[go_sem] theorem Tryd.udef117 : (Tryd.prog.underlying 117).isSome = true := by kernel_rfl
@[go_sem] theorem Tryd.zero117 : zeroOf Tryd.prog 117 = some [.lit ((Go.Value.nilFunc))] := by kernel_rfl
@[go_sem] theorem Tryd.tsz118 : tszOf Tryd.prog 118 = some (1, false) := by kernel_rfl
@[go_sem] theorem Tryd.udef118 : (Tryd.prog.underlying 118).isSome = true := by kernel_rfl
@[go_sem] theorem Tryd.zero118 : zeroOf Tryd.prog 118 = some [.lit ((Go.Value.nilFunc))] := by kernel_rfl
@[go_sem] theorem Tryd.tsz119 : tszOf Tryd.prog 119 = some (1, false) := by kernel_rfl
@[go_sem] theorem Tryd.udef119 : (Tryd.prog.underlying 119).isSome = true := by kernel_rfl
@[go_sem] theorem Tryd.zero119 : zeroOf Tryd.prog 119 = some [.lit ((Go.Value.nilFunc))] := by kernel_rfl
@[go_sem] theorem Tryd.tsz120 : tszOf Tryd.prog 120 = some (1, false) := by kernel_rfl
@[go_sem] theorem Tryd.udef120 : (Tryd.prog.underlying 120).isSome = true := by kernel_rfl
@[go_sem] theorem Tryd.zero120 : zeroOf Tryd.prog 120 = some [.lit ((Go.Value.nilFunc))] := by kernel_rfl
@[go_sem] theorem Tryd.tsz122 : tszOf Tryd.prog 122 = some (1, false) := by kernel_rfl
@[go_sem] theorem Tryd.udef122 : (Tryd.prog.underlying 122).isSome = true := by kernel_rfl
@[go_sem] theorem Tryd.zero122 : zeroOf Tryd.prog 122 = some [.lit ((Go.Value.nilFunc))] := by kernel_rfl
@[go_sem] theorem Tryd.tsz123 : tszOf Tryd.prog 123 = some (1, false) := by kernel_rfl
@[go_sem] theorem Tryd.udef123 : (Tryd.prog.underlying 123).isSome = true := by kernel_rfl
@[go_sem] theorem Tryd.zero123 : zeroOf Tryd.prog 123 = some [.lit ((Go.Value.nilFunc))] := by kernel_rfl
@[go_sem] theorem Tryd.tsz124 : tszOf Tryd.prog 124 = some (1, false) := by kernel_rfl
@[go_sem] theorem Tryd.udef124 : (Tryd.prog.underlying 124).isSome = true := by kernel_rfl
@[go_sem] theorem Tryd.zero124 : zeroOf Tryd.prog 124 = some [.lit ((Go.Value.nilFunc))] := by kernel_rfl
@[go_sem] theorem Tryd.tsz125 : tszOf Tryd.prog 125 = some (1, false) := by kernel_rfl
@[go_sem] theorem Tryd.udef125 : (Tryd.prog.underlying 125).isSome = true := by kernel_rfl
@[go_sem] theorem Tryd.zero125 : zeroOf Tryd.prog 125 = some [.lit ((Go.Value.nilFunc))] := by kernel_rfl
@[go_sem] theorem Tryd.tsz126 : tszOf Tryd.prog 126 = some (1, false) := by kernel_rfl
@[go_sem] theorem Tryd.udef126 : (Tryd.prog.underlying 126).isSome = true := by kernel_rfl
@[go_sem] theorem Tryd.zero126 : zeroOf Tryd.prog 126 = some [.lit ((Go.Value.nilFunc))] := by kernel_rfl
@[go_sem] theorem Tryd.tsz127 : tszOf Tryd.prog 127 = some (2, true) := by kernel_rfl
@[go_sem] theorem Tryd.udef127 : (Tryd.prog.underlying 127).isSome = true := by kernel_rfl
@[go_sem] theorem Tryd.zero127 : zeroOf Tryd.prog 127 = some [.int .i64 0, .int .i64 0] := by kernel_rfl
@[go_sem] theorem Tryd.pl127 : plOf Tryd.prog 127 = some [(0, 1), (1, 1)] := by kernel_rfl
@[go_sem] theorem Tryd.tsz128 : tszOf Tryd.prog 128 = some (2, true) := by kernel_rfl
@[go_sem] theorem Tryd.udef128 : (Tryd.prog.underlying 128).isSome = true := by kernel_rfl
@[go_sem] theorem Tryd.zero128 : zeroOf Tryd.prog 128 = some [.int .i64 0, .int .i64 0] := by kernel_rfl
@[go_sem] theorem Tryd.flatEq128 : flatEq Tryd.prog 128 = some [.int .i64, .int .i64] := by kernel_rfl
@[go_sem] theorem Tryd.pl128 : plOf Tryd.prog 128 = some [(0, 1), (1, 1)] := by kernel_rfl
@[go_sem] theorem Tryd.fd128_0 : fdOf Tryd.prog 128 0 = some (0, 1, false) := by kernel_rfl
@[go_sem] theorem Tryd.fd128_1 : fdOf Tryd.prog 128 1 = some (1, 1, false) := by kernel_rfl
@[go_sem] theorem Tryd.tsz129 : tszOf Tryd.prog 129 = some (1, false) := by kernel_rfl
@[go_sem] theorem Tryd.udef129 : (Tryd.prog.underlying 129).isSome = true := by kernel_rfl
@[go_sem] theorem Tryd.zero129 : zeroOf Tryd.prog 129 = some [.lit ((Go.Value.nilFunc))] := by kernel_rfl
@[go_sem] theorem Tryd.tsz130 : tszOf Tryd.prog 130 = some (1, false) := by kernel_rfl
@[go_sem] theorem Tryd.udef130 : (Tryd.prog.underlying 130).isSome = true := by kernel_rfl
@[go_sem] theorem Tryd.zero130 : zeroOf Tryd.prog 130 = some [.lit ((Go.Value.nilFunc))] := by kernel_rfl
@[go_sem] theorem Tryd.tsz131 : tszOf Tryd.prog 131 = some (1, false) := by kernel_rfl
@[go_sem] theorem Tryd.udef131 : (Tryd.prog.underlying 131).isSome = true := by kernel_rfl
@[go_sem] theorem Tryd.zero131 : zeroOf Tryd.prog 131 = some [.lit ((Go.Value.nilFunc))] := by kernel_rfl
@[go_sem] theorem Tryd.tsz132 : tszOf Tryd.prog 132 = some (1, false) := by kernel_rfl
@[go_sem] theorem Tryd.udef132 : (Tryd.prog.underlying 132).isSome = true := by kernel_rfl
@[go_sem] theorem Tryd.zero132 : zeroOf Tryd.prog 132 = some [.lit ((Go.Value.nilFunc))] := by kernel_rfl
@[go_sem] theorem Tryd.tsz133 : tszOf Tryd.prog 133 = some (1, false) := by kernel_rfl
@[go_sem] theorem Tryd.udef133 : (Tryd.prog.underlying 133).isSome = true := by kernel_rfl
@[go_sem] theorem Tryd.zero133 : zeroOf Tryd.prog 133 = some [.lit ((Go.Value.nilFunc))] := by kernel_rfl
@[go_sem] theorem Tryd.tsz134 : tszOf Tryd.prog 134 = some (1, false) := by kernel_rfl
@[go_sem] theorem Tryd.udef134 : (Tryd.prog.underlying 134).isSome = true := by kernel_rfl
@[go_sem] theorem Tryd.zero134 : zeroOf Tryd.prog 134 = some [.lit ((Go.Value.nilFunc))] := by kernel_rfl
@[go_sem] theorem Tryd.tsz135 : tszOf Tryd.prog 135 = some (1, false) := by kernel_rfl
@[go_sem] theorem Tryd.udef135 : (Tryd.prog.underlying 135).isSome = true := by kernel_rfl
@[go_sem] theorem Tryd.zero135 : zeroOf Tryd.prog 135 = some [.lit ((Go.Value.nilFunc))] := by kernel_rfl
@[go_sem] theorem Tryd.tsz136 : tszOf Tryd.prog 136 = some (1, false) := by kernel_rfl
@[go_sem] theorem Tryd.udef136 : (Tryd.prog.underlying 136).isSome = true := by kernel_rfl
@[go_sem] theorem Tryd.zero136 : zeroOf Tryd.prog 136 = some [.lit ((Go.Value.nilFunc))] := by kernel_rfl
@[go_sem] theorem Tryd.tsz137 : tszOf Tryd.prog 137 = some (1, false) := by kernel_rfl
@[go_sem] theorem Tryd.udef137 : (Tryd.prog.underlying 137).isSome = true := by kernel_rfl
@[go_sem] theorem Tryd.zero137 : zeroOf Tryd.prog 137 = some [.lit ((Go.Value.nilFunc))] := by kernel_rfl
@[go_sem] theorem Tryd.tsz138 : tszOf Tryd.prog 138 = some (1, false) := by kernel_rfl
@[go_sem] theorem Tryd.udef138 : (Tryd.prog.underlying 138).isSome = true := by kernel_rfl
@[go_sem] theorem Tryd.zero138 : zeroOf Tryd.prog 138 = some [.lit ((Go.Value.nilFunc))] := by kernel_rfl
@[go_sem] theorem Tryd.tsz139 : tszOf Tryd.prog 139 = some (1, false) := by kernel_rfl
@[go_sem] theorem Tryd.udef139 : (Tryd.prog.underlying 139).isSome = true := by kernel_rfl
@[go_sem] theorem Tryd.zero139 : zeroOf Tryd.prog 139 = some [.lit ((Go.Value.nilFunc))] := by kernel_rfl
@[go_sem] theorem Tryd.tsz140 : tszOf Tryd.prog 140 = some (1, false) := by kernel_rfl
@[go_sem] theorem Tryd.udef140 : (Tryd.prog.underlying 140).isSome = true := by kernel_rfl
@[go_sem] theorem Tryd.zero140 : zeroOf Tryd.prog 140 = some [.int .u64 0] := by kernel_rfl
@[go_sem] theorem Tryd.isInt140 : isIntT Tryd.prog 140 = some .u64 := by kernel_rfl
@[go_sem] theorem Tryd.tsz141 : tszOf Tryd.prog 141 = some (1, false) := by kernel_rfl
@[go_sem] theorem Tryd.udef141 : (Tryd.prog.underlying 141).isSome = true := by kernel_rfl
@[go_sem] theorem Tryd.zero141 : zeroOf Tryd.prog 141 = some [.lit ((Go.Value.nilFunc))] := by kernel_rfl
@[go_sem] theorem Tryd.tsz142 : tszOf Tryd.prog 142 = some (1, false) := by kernel_rfl
@[go_sem] theorem Tryd.udef142 : (Tryd.prog.underlying 142).isSome = true := by kernel_rfl
@[go_sem] theorem Tryd.zero142 : zeroOf Tryd.prog 142 = some [.lit ((Go.Value.nilFunc))] := by kernel_rfl
@[go_sem] theorem Tryd.tsz143 : tszOf Tryd.prog 143 = some (1, false) := by kernel_rfl
@[go_sem] theorem Tryd.udef143 : (Tryd.prog.underlying 143).isSome = true := by kernel_rfl
@[go_sem] theorem Tryd.zero143 : zeroOf Tryd.prog 143 = some [.lit ((Go.Value.nilFunc))] := by kernel_rfl
@[go_sem] theorem Tryd.tsz144 : tszOf Tryd.prog 144 = some (1, false) := by kernel_rfl
@[go_sem] theorem Tryd.udef144 : (Tryd.prog.underlying 144).isSome = true := by kernel_rfl
@[go_sem] theorem Tryd.zero144 : zeroOf Tryd.prog 144 = some [.lit ((Go.Value.nilFunc))] := by kernel_rfl
@[go_sem] theorem Tryd.tsz145 : tszOf Tryd.prog 145 = some (1, false) := by kernel_rfl
@[go_sem] theorem Tryd.udef145 : (Tryd.prog.underlying 145).isSome = true := by kernel_rfl
@[go_sem] theorem Tryd.zero145 : zeroOf Tryd.prog 145 = some [.lit ((Go.Value.nilFunc))] := by kernel_rfl
@[go_sem] theorem Tryd.tsz146 : tszOf Tryd.prog 146 = some (1, false) := by kernel_rfl
@[go_sem] theorem Tryd.udef146 : (Tryd.prog.underlying 146).isSome = true := by kernel_rfl
@[go_sem] theorem Tryd.zero146 : zeroOf Tryd.prog 146 = some [.lit ((Go.Value.nilFunc))] := by kernel_rfl
@[go_sem] theorem Tryd.tsz147 : tszOf Tryd.prog 147 = some (1, false) := by kernel_rfl
@[go_sem] theorem Tryd.udef147 : (Tryd.prog.underlying 147).isSome = true := by kernel_rfl
@[go_sem] theorem Tryd.zero147 : zeroOf Tryd.prog 147 = some [.lit ((Go.Value.nilFunc))] := by kernel_rfl
@[go_sem] theorem Tryd.tsz148 : tszOf Tryd.prog 148 = some (1, false) := by kernel_rfl
@[go_sem] theorem Tryd.udef148 : (Tryd.prog.underlying 148).isSome = true := by kernel_rfl
@[go_sem] theorem Tryd.zero148 : zeroOf Tryd.prog 148 = some [.lit ((Go.Value.nilFunc))] := by kernel_rfl
@[go_sem] theorem Tryd.tsz149 : tszOf Tryd.prog 149 = some (1, false) := by kernel_rfl
@[go_sem] theorem Tryd.udef149 : (Tryd.prog.underlying 149).isSome = true := by kernel_rfl
@[go_sem] theorem Tryd.zero149 : zeroOf Tryd.prog 149 = some [.lit ((Go.Value.nilFunc))] := by kernel_rfl
@[go_sem] theorem Tryd.tsz150 : tszOf Tryd.prog 150 = some (1, false) := by kernel_rfl
@[go_sem] theorem Tryd.udef150 : (Tryd.prog.underlying 150).isSome = true := by kernel_rfl
@[go_sem] theorem Tryd.zero150 : zeroOf Tryd.prog 150 = some [.lit ((Go.Value.nilFunc))] := by kernel_rfl
@[go_sem] theorem Tryd.tsz151 : tszOf Tryd.prog 151 = some (1, false) := by kernel_rfl
@[go_sem] theorem Tryd.udef151 : (Tryd.prog.underlying 151).isSome = true := by kernel_rfl
@[go_sem] theorem Tryd.zero151 : zeroOf Tryd.prog 151 = some [.lit ((Go.Value.nilFunc))] := by kernel_rfl
@[go_sem] theorem Tryd.tsz152 : tszOf Tryd.prog 152 = some (1, false) := by kernel_rfl
@[go_sem] theorem Tryd.udef152 : (Tryd.prog.underlying 152).isSome = true := by kernel_rfl
@[go_sem] theorem Tryd.zero152 : zeroOf Tryd.prog 152 = some [.lit ((Go.Value.nilFunc))] := by kernel_rfl
@[go_sem] theorem Tryd.tsz153 : tszOf Tryd.prog 153 = some (1, false) := by kernel_rfl
@[go_sem] theorem Tryd.udef153 : (Tryd.prog.underlying 153).isSome = true := by kernel_rfl
@[go_sem] theorem Tryd.zero153 : zeroOf Tryd.prog 153 = some [.lit ((Go.Value.nilFunc))] := by kernel_rfl
@[go_sem] theorem Tryd.tsz154 : tszOf Tryd.prog 154 = some (1, false) := by kernel_rfl
@[go_sem] theorem Tryd.udef154 : (Tryd.prog.underlying 154).isSome = true := by kernel_rfl
@[go_sem] theorem Tryd.zero154 : zeroOf Tryd.prog 154 = some [.lit ((Go.Value.nilFunc))] := by kernel_rfl
@[go_sem] theorem Tryd.tsz155 : tszOf Tryd.prog 155 = some (1, false) := by kernel_rfl
@[go_sem] theorem Tryd.udef155 : (Tryd.prog.underlying 155).isSome = true := by kernel_rfl
@[go_sem] theorem Tryd.zero155 : zeroOf Tryd.prog 155 = some [.lit ((Go.Value.nilFunc))] := by kernel_rfl
@[go_sem] theorem Tryd.tsz156 : tszOf Tryd.prog 156 = some (1, false) := by kernel_rfl
@[go_sem] theorem Tryd.udef156 : (Tryd.prog.underlying 156).isSome = true := by kernel_rfl
@[go_sem] theorem Tryd.zero156 : zeroOf Tryd.prog 156 = some [.lit ((Go.Value.pointer none))] := by kernel_rfl
@[go_sem] theorem Tryd.tsz157 : tszOf Tryd.prog 157 = some (2, true) := by kernel_rfl
@[go_sem] theorem Tryd.udef157 : (Tryd.prog.underlying 157).isSome = true := by kernel_rfl
@[go_sem] theorem Tryd.zero157 : zeroOf Tryd.prog 157 = some [.lit ((Go.Value.pointer none)), .nilsl] := by kernel_rfl
@[go_sem] theorem Tryd.pl157 : plOf Tryd.prog 157 = some [(0, 1), (1, 1)] := by kernel_rfl
@[go_sem] theorem Tryd.tsz158 : tszOf Tryd.prog 158 = some (2, true) := by kernel_rfl
@[go_sem] theorem Tryd.udef158 : (Tryd.prog.underlying 158).isSome = true := by kernel_rfl
@[go_sem] theorem Tryd.zero158 : zeroOf Tryd.prog 158 = some [.lit ((Go.Value.pointer none)), .nilsl] := by kernel_rfl
@[go_sem] theorem Tryd.pl158 : plOf Tryd.prog 158 = some [(0, 1), (1, 1)] := by kernel_rfl
@[go_sem] theorem Tryd.fd158_0 : fdOf Tryd.prog 158 0 = some (0, 1, false) := by kernel_rfl
@[go_sem] theorem Tryd.fd158_1 : fdOf Tryd.prog 158 1 = some (1, 1, false) := by kernel_rfl
@[go_sem] theorem Tryd.tsz159 : tszOf Tryd.prog 159 = some (1, false) := by kernel_rfl
@[go_sem] theorem Tryd.udef159 : (Tryd.prog.underlying 159).isSome = true := by kernel_rfl
@[go_sem] theorem Tryd.zero159 : zeroOf Tryd.prog 159 = some [.lit ((Go.Value.nilFunc))] := by kernel_rfl
@[go_sem] theorem Tryd.tsz160 : tszOf Tryd.prog 160 = some (1, false) := by kernel_rfl
@[go_sem] theorem Tryd.udef160 : (Tryd.prog.underlying 160).isSome = true := by kernel_rfl
@[go_sem] theorem Tryd.zero160 : zeroOf Tryd.prog 160 = some [.lit ((Go.Value.nilIface))] := by kernel_rfl
@[go_sem] theorem Tryd.tsz161 : tszOf Tryd.prog 161 = some (1, false) := by kernel_rfl
@[go_sem] theorem Tryd.udef161 : (Tryd.prog.underlying 161).isSome = true := by kernel_rfl
@[go_sem] theorem Tryd.zero161 : zeroOf Tryd.prog 161 = some [.lit ((Go.Value.nilIface))] := by kernel_rfl
@[go_sem] theorem Tryd.tsz163 : tszOf Tryd.prog 163 = some (1, false) := by kernel_rfl
@[go_sem] theorem Tryd.udef163 : (Tryd.prog.underlying 163).isSome = true := by kernel_rfl
@[go_sem] theorem Tryd.zero163 : zeroOf Tryd.prog 163 = some [.lit ((Go.Value.nilFunc))] := by kernel_rfl
@[go_sem] theorem Tryd.tsz165 : tszOf Tryd.prog 165 = some (1, false) := by kernel_rfl
@[go_sem] theorem Tryd.udef165 : (Tryd.prog.underlying 165).isSome = true := by kernel_rfl
@[go_sem] theorem Tryd.zero165 : zeroOf Tryd.prog 165 = some [.lit ((Go.Value.nilFunc))] := by kernel_rfl
@[go_sem] theorem Tryd.tsz166 : tszOf Tryd.prog 166 = some (1, false) := by kernel_rfl
@[go_sem] theorem Tryd.udef166 : (Tryd.prog.underlying 166).isSome = true := by kernel_rfl
@[go_sem] theorem Tryd.zero166 : zeroOf Tryd.prog 166 = some [.lit ((Go.Value.nilFunc))] := by kernel_rfl
@[go_sem] theorem Tryd.tsz167 : tszOf Tryd.prog 167 = some (1, false) := by kernel_rfl
@[go_sem] theorem Tryd.udef167 : (Tryd.prog.underlying 167).isSome = true := by kernel_rfl
@[go_sem] theorem Tryd.zero167 : zeroOf Tryd.prog 167 = some [.lit ((Go.Value.nilFunc))] := by kernel_rfl
@[go_sem] theorem Tryd.tsz168 : tszOf Tryd.prog 168 = some (1, false) := by kernel_rfl
@[go_sem] theorem Tryd.udef168 : (Tryd.prog.underlying 168).isSome = true := by kernel_rfl
@[go_sem] theorem Tryd.zero168 : zeroOf Tryd.prog 168 = some [.lit ((Go.Value.nilFunc))] := by kernel_rfl
@[go_sem] theorem Tryd.tsz169 : tszOf Tryd.prog 169 = some (1, false) := by kernel_rfl
@[go_sem] theorem Tryd.udef169 : (Tryd.prog.underlying 169).isSome = true := by kernel_rfl
@[go_sem] theorem Tryd.zero169 : zeroOf Tryd.prog 169 = some [.lit ((Go.Value.map none))] := by kernel_rfl
@[go_sem] theorem Tryd.mapOf169 : mapOf Tryd.prog 169 = some (.int .i64, .bool false) := by kernel_rfl
@[go_sem] theorem Tryd.tsz170 : tszOf Tryd.prog 170 = some (1, false) := by kernel_rfl
@[go_sem] theorem Tryd.udef170 : (Tryd.prog.underlying 170).isSome = true := by kernel_rfl
@[go_sem] theorem Tryd.zero170 : zeroOf Tryd.prog 170 = some [.lit ((Go.Value.nilFunc))] := by kernel_rfl
@[go_sem] theorem Tryd.tsz171 : tszOf Tryd.prog 171 = some (1, false) := by kernel_rfl
@[go_sem] theorem Tryd.udef171 : (Tryd.prog.underlying 171).isSome = true := by kernel_rfl
@[go_sem] theorem Tryd.zero171 : zeroOf Tryd.prog 171 = some [.lit ((Go.Value.nilFunc))] := by kernel_rfl
@[go_sem] theorem Tryd.tsz172 : tszOf Tryd.prog 172 = some (1, false) := by kernel_rfl
@[go_sem] theorem Tryd.udef172 : (Tryd.prog.underlying 172).isSome = true := by kernel_rfl
@[go_sem] theorem Tryd.zero172 : zeroOf Tryd.prog 172 = some [.int .i64 0] := by kernel_rfl
@[go_sem] theorem Tryd.isInt172 : isIntT Tryd.prog 172 = some .i64 := by kernel_rfl
@[go_sem] theorem Tryd.tsz174 : tszOf Tryd.prog 174 = some (1, false) := by kernel_rfl
@[go_sem] theorem Tryd.udef174 : (Tryd.prog.underlying 174).isSome = true := by kernel_rfl
@[go_sem] theorem Tryd.zero174 : zeroOf Tryd.prog 174 = some [.lit ((Go.Value.nilFunc))] := by kernel_rfl
@[go_sem] theorem Tryd.tsz175 : tszOf Tryd.prog 175 = some (1, false) := by kernel_rfl
@[go_sem] theorem Tryd.udef175 : (Tryd.prog.underlying 175).isSome = true := by kernel_rfl
@[go_sem] theorem Tryd.zero175 : zeroOf Tryd.prog 175 = some [.lit ((Go.Value.nilFunc))] := by kernel_rfl
@[go_sem] theorem Tryd.tsz176 : tszOf Tryd.prog 176 = some (1, false) := by kernel_rfl
@[go_sem] theorem Tryd.udef176 : (Tryd.prog.underlying 176).isSome = true := by kernel_rfl
@[go_sem] theorem Tryd.zero176 : zeroOf Tryd.prog 176 = some [.lit ((Go.Value.nilFunc))] := by kernel_rfl
@[go_sem] theorem Tryd.tsz177 : tszOf Tryd.prog 177 = some (1, false) := by kernel_rfl
@[go_sem] theorem Tryd.udef177 : (Tryd.prog.underlying 177).isSome = true := by kernel_rfl
@[go_sem] theorem Tryd.zero177 : zeroOf Tryd.prog 177 = some [.lit ((Go.Value.nilFunc))] := by kernel_rfl
@[go_sem] theorem Tryd.tsz178 : tszOf Tryd.prog 178 = some (1, false) := by kernel_rfl
@[go_sem] theorem Tryd.udef178 : (Tryd.prog.underlying 178).isSome = true := by kernel_rfl
@[go_sem] theorem Tryd.zero178 : zeroOf Tryd.prog 178 = some [.lit ((Go.Value.nilFunc))] := by kernel_rfl
@[go_sem] theorem Tryd.tsz179 : tszOf Tryd.prog 179 = some (1, false) := by kernel_rfl
@[go_sem] theorem Tryd.udef179 : (Tryd.prog.underlying 179).isSome = true := by kernel_rfl
@[go_sem] theorem Tryd.zero179 : zeroOf Tryd.prog 179 = some [.int .u32 0] := by kernel_rfl
@[go_sem] theorem Tryd.isInt179 : isIntT Tryd.prog 179 = some .u32 := by kernel_rfl
@[go_sem] theorem Tryd.tsz180 : tszOf Tryd.prog 180 = some (1, false) := by kernel_rfl
@[go_sem] theorem Tryd.udef180 : (Tryd.prog.underlying 180).isSome = true := by kernel_rfl
@[go_sem] theorem Tryd.zero180 : zeroOf Tryd.prog 180 = some [.lit ((Go.Value.nilFunc))] := by kernel_rfl
@[go_sem] theorem Tryd.tsz181 : tszOf Tryd.prog 181 = some (1, false) := by kernel_rfl
@[go_sem] theorem Tryd.udef181 : (Tryd.prog.underlying 181).isSome = true := by kernel_rfl
@[go_sem] theorem Tryd.zero181 : zeroOf Tryd.prog 181 = some [.lit ((Go.Value.nilFunc))] := by kernel_rfl
@[go_sem] theorem Tryd.tsz182 : tszOf Tryd.prog 182 = some (1, false) := by kernel_rfl
@[go_sem] theorem Tryd.udef182 : (Tryd.prog.underlying 182).isSome = true := by kernel_rfl
@[go_sem] theorem Tryd.zero182 : zeroOf Tryd.prog 182 = some [.lit ((Go.Value.nilFunc))] := by kernel_rfl
@[go_sem] theorem Tryd.tsz183 : tszOf Tryd.prog 183 = some (1, false) := by kernel_rfl
@[go_sem] theorem Tryd.udef183 : (Tryd.prog.underlying 183).isSome = true := by kernel_rfl
@[go_sem] theorem Tryd.zero183 : zeroOf Tryd.prog 183 = some [.lit ((Go.Value.nilFunc))] := by kernel_rfl
@[go_sem] theorem Tryd.tsz184 : tszOf Tryd.prog 184 = some (1, false) := by kernel_rfl
@[go_sem] theorem Tryd.udef184 : (Tryd.prog.underlying 184).isSome = true := by kernel_rfl
@[go_sem] theorem Tryd.zero184 : zeroOf Tryd.prog 184 = some [.lit ((Go.Value.nilFunc))] := by kernel_rfl
@[go_sem] theorem Tryd.tsz185 : tszOf Tryd.prog 185 = some (1, false) := by kernel_rfl
@[go_sem] theorem Tryd.udef185 : (Tryd.prog.underlying 185).isSome = true := by kernel_rfl
@[go_sem] theorem Tryd.zero185 : zeroOf Tryd.prog 185 = some [.lit ((Go.Value.nilFunc))] := by kernel_rfl
@[go_sem] theorem Tryd.tsz186 : tszOf Tryd.prog 186 = some (1, false) := by kernel_rfl
@[go_sem] theorem Tryd.udef186 : (Tryd.prog.underlying 186).isSome = true := by kernel_rfl
@[go_sem] theorem Tryd.zero186 : zeroOf Tryd.prog 186 = some [.lit ((Go.Value.pointer none))] := by kernel_rfl
@[go_sem] theorem Tryd.tsz187 : tszOf Tryd.prog 187 = some (1, false) := by kernel_rfl
@[go_sem] theorem Tryd.udef187 : (Tryd.prog.underlying 187).isSome = true := by kernel_rfl
@[go_sem] theorem Tryd.zero187 : zeroOf Tryd.prog 187 = some [.lit ((Go.Value.pointer none))] := by kernel_rfl
@[go_sem] theorem Tryd.tsz188 : tszOf Tryd.prog 188 = some (1, false) := by kernel_rfl
@[go_sem] theorem Tryd.udef188 : (Tryd.prog.underlying 188).isSome = true := by kernel_rfl
@[go_sem] theorem Tryd.zero188 : zeroOf Tryd.prog 188 = some [.lit ((Go.Value.nilFunc))] := by kernel_rfl
@[go_sem] theorem Tryd.tsz189 : tszOf Tryd.prog 189 = some (1, false) := by kernel_rfl
@[go_sem] theorem Tryd.udef189 : (Tryd.prog.underlying 189).isSome = true := by kernel_rfl
@[go_sem] theorem Tryd.zero189 : zeroOf Tryd.prog 189 = some [.lit ((Go.Value.nilFunc))] := by kernel_rfl
@[go_sem] theorem Tryd.tsz190 : tszOf Tryd.prog 190 = some (1, false) := by kernel_rfl
@[go_sem] theorem Tryd.udef190 : (Tryd.prog.underlying 190).isSome = true := by kernel_rfl
@[go_sem] theorem Tryd.zero190 : zeroOf Tryd.prog 190 = some [.lit ((Go.Value.nilFunc))] := by kernel_rfl
@[go_sem] theorem Tryd.tsz191 : tszOf Tryd.prog 191 = some (1, false) := by kernel_rfl
@[go_sem] theorem Tryd.udef191 : (Tryd.prog.underlying 191).isSome = true := by kernel_rfl
@[go_sem] theorem Tryd.zero191 : zeroOf Tryd.prog 191 = some [.lit ((Go.Value.nilFunc))] := by kernel_rfl
@[go_sem] theorem Tryd.tsz192 : tszOf Tryd.prog 192 = some (1, false) := by kernel_rfl
@[go_sem] theorem Tryd.udef192 : (Tryd.prog.underlying 192).isSome = true := by kernel_rfl
@[go_sem] theorem Tryd.zero192 : zeroOf Tryd.prog 192 = some [.lit ((Go.Value.pointer none))] := by kernel_rfl
@[go_sem] theorem Tryd.tsz193 : tszOf Tryd.prog 193 = some (1, false) := by kernel_rfl
@[go_sem] theorem Tryd.udef193 : (Tryd.prog.underlying 193).isSome = true := by kernel_rfl
@[go_sem] theorem Tryd.zero193 : zeroOf Tryd.prog 193 = some [.lit ((Go.Value.nilFunc))] := by kernel_rfl
@[go_sem] theorem Tryd.tsz194 : tszOf Tryd.prog 194 = some (1, false) := by kernel_rfl
@[go_sem] theorem Tryd.udef194 : (Tryd.prog.underlying 194).isSome = true := by kernel_rfl
@[go_sem] theorem Tryd.zero194 : zeroOf Tryd.prog 194 = some [.lit ((Go.Value.nilFunc))] := by kernel_rfl
@[go_sem] theorem Tryd.tsz195 : tszOf Tryd.prog 195 = some (1, false) := by kernel_rfl
@[go_sem] theorem Tryd.udef195 : (Tryd.prog.underlying 195).isSome = true := by kernel_rfl
@[go_sem] theorem Tryd.zero195 : zeroOf Tryd.prog 195 = some [.lit ((Go.Value.nilFunc))] := by kernel_rfl
@[go_sem] theorem Tryd.tsz196 : tszOf Tryd.prog 196 = some (1, false) := by kernel_rfl
@[go_sem] theorem Tryd.udef196 : (Tryd.prog.underlying 196).isSome = true := by kernel_rfl
@[go_sem] theorem Tryd.zero196 : zeroOf Tryd.prog 196 = some [.lit ((Go.Value.nilFunc))] := by kernel_rfl
@[go_sem] theorem Tryd.tsz197 : tszOf Tryd.prog 197 = some (1, false) := by kernel_rfl
@[go_sem] theorem Tryd.udef197 : (Tryd.prog.underlying 197).isSome = true := by kernel_rfl
@[go_sem] theorem Tryd.zero197 : zeroOf Tryd.prog 197 = some [.lit ((Go.Value.nilFunc))] := by kernel_rfl
@[go_sem] theorem Tryd.tsz198 : tszOf Tryd.prog 198 = some (1, false) := by kernel_rfl
@[go_sem] theorem Tryd.udef198 : (Tryd.prog.underlying 198).isSome = true := by kernel_rfl
@[go_sem] theorem Tryd.zero198 : zeroOf Tryd.prog 198 = some [.lit ((Go.Value.nilFunc))] := by kernel_rfl
@[go_sem] theorem Tryd.tsz199 : tszOf Tryd.prog 199 = some (1, false) := by kernel_rfl
@[go_sem] theorem Tryd.udef199 : (Tryd.prog.underlying 199).isSome = true := by kernel_rfl
@[go_sem] theorem Tryd.zero199 : zeroOf Tryd.prog 199 = some [.lit ((Go.Value.nilFunc))] := by kernel_rfl
@[go_sem] theorem Tryd.tsz200 : tszOf Tryd.prog 200 = some (1, false) := by kernel_rfl
@[go_sem] theorem Tryd.udef200 : (Tryd.prog.underlying 200).isSome = true := by kernel_rfl
@[go_sem] theorem Tryd.zero200 : zeroOf Tryd.prog 200 = some [.lit ((Go.Value.nilFunc))] := by kernel_rfl
@[go_sem] theorem Tryd.tsz201 : tszOf Tryd.prog 201 = some (1, false) := by kernel_rfl
@[go_sem] theorem Tryd.udef201 : (Tryd.prog.underlying 201).isSome = true := by kernel_rfl
@[go_sem] theorem Tryd.zero201 : zeroOf Tryd.prog 201 = some [.lit ((Go.Value.nilFunc))] := by kernel_rfl
@[go_sem] theorem Tryd.tsz202 : tszOf Tryd.prog 202 = some (1, false) := by kernel_rfl
@[go_sem] theorem Tryd.udef202 : (Tryd.prog.underlying 202).isSome = true := by kernel_rfl
@[go_sem] theorem Tryd.zero202 : zeroOf Tryd.prog 202 = some [.lit ((Go.Value.nilFunc))] := by kernel_rfl
@[go_sem] theorem Tryd.tsz203 : tszOf Tryd.prog 203 = some (1, false) := by kernel_rfl
@[go_sem] theorem Tryd.udef203 : (Tryd.prog.underlying 203).isSome = true := by kernel_rfl
@[go_sem] theorem Tryd.zero203 : zeroOf Tryd.prog 203 = some [.lit ((Go.Value.pointer none))] := by kernel_rfl
@[go_sem] theorem Tryd.tsz204 : tszOf Tryd.prog 204 = some (1, false) := by kernel_rfl
@[go_sem] theorem Tryd.udef204 : (Tryd.prog.underlying 204).isSome = true := by kernel_rfl
@[go_sem] theorem Tryd.zero204 : zeroOf Tryd.prog 204 = some [.lit ((Go.Value.nilFunc))] := by kernel_rfl
@[go_sem] theorem Tryd.tsz205 : tszOf Tryd.prog 205 = some (1, false) := by kernel_rfl
@[go_sem] theorem Tryd.udef205 : (Tryd.prog.underlying 205).isSome = true := by kernel_rfl
@[go_sem] theorem Tryd.zero205 : zeroOf Tryd.prog 205 = some [.lit ((Go.Value.nilFunc))] := by kernel_rfl
@[go_sem] theorem Tryd.tsz206 : tszOf Tryd.prog 206 = some (1, false) := by kernel_rfl
@[go_sem] theorem Tryd.udef206 : (Tryd.prog.underlying 206).isSome = true := by kernel_rfl
@[go_sem] theorem Tryd.zero206 : zeroOf Tryd.prog 206 = some [.int .u64 0] := by kernel_rfl
@[go_sem] theorem Tryd.isInt206 : isIntT Tryd.prog 206 = some .u64 := by kernel_rfl
@[go_sem] theorem Tryd.tsz210 : tszOf Tryd.prog 210 = some (1, false) := by kernel_rfl
@[go_sem] theorem Tryd.udef210 : (Tryd.prog.underlying 210).isSome = true := by kernel_rfl
@[go_sem] theorem Tryd.zero210 : zeroOf Tryd.prog 210 = some [.lit ((Go.Value.pointer none))] := by kernel_rfl
@[go_sem] theorem Tryd.tsz217 : tszOf Tryd.prog 217 = some (1, false) := by kernel_rfl
@[go_sem] theorem Tryd.udef217 : (Tryd.prog.underlying 217).isSome = true := by kernel_rfl
@[go_sem] theorem Tryd.zero217 : zeroOf Tryd.prog 217 = some [.lit ((Go.Value.pointer none))] := by kernel_rfl
@[go_sem] theorem Tryd.tsz219 : tszOf Tryd.prog 219 = some (1, false) := by kernel_rfl
@[go_sem] theorem Tryd.udef219 : (Tryd.prog.underlying 219).isSome = true := by kernel_rfl
@[go_sem] theorem Tryd.zero219 : zeroOf Tryd.prog 219 = some [.lit ((Go.Value.nilFunc))] := by kernel_rfl
@[go_sem] theorem Tryd.tsz220 : tszOf Tryd.prog 220 = some (256, true) := by kernel_rfl
@[go_sem] theorem Tryd.udef220 : (Tryd.prog.underlying 220).isSome = true := by kernel_rfl
@[go_sem] theorem Tryd.ar220 : arOf Tryd.prog 220 = some (256, 1, false) := by kernel_rfl
@[go_sem] theorem Tryd.pl220 : plOf Tryd.prog 220 = some [(0, 1), (1, 1), (2, 1), (3, 1), (4, 1), (5, 1), (6, 1), (7, 1), (8, 1), (9, 1), (10, 1), (11, 1), (12, 1), (13, 1), (14, 1), (15, 1), (16, 1), (17, 1), (18, 1), (19, 1), (20, 1), (21, 1), (22, 1), (23, 1), (24, 1), (25, 1), (26, 1), (27, 1), (28, 1), (29, 1), (30, 1), (31, 1), (32, 1), (33, 1), (34, 1), (35, 1), (36, 1), (37, 1), (38, 1), (39, 1), (40, 1), (41, 1), (42, 1), (43, 1), (44, 1), (45, 1), (46, 1), (47, 1), (48, 1), (49, 1), (50, 1), (51, 1), (52, 1), (53, 1), (54, 1), (55, 1), (56, 1), (57, 1), (58, 1), (59, 1), (60, 1), (61, 1), (62, 1), (63, 1), (64, 1), (65, 1), (66, 1), (67, 1), (68, 1), (69, 1), (70, 1), (71, 1), (72, 1), (73, 1), (74, 1), (75, 1), (76, 1), (77, 1), (78, 1), (79, 1), (80, 1), (81, 1), (82, 1), (83, 1), (84, 1), (85, 1), (86, 1), (87, 1), (88, 1), (89, 1), (90, 1), (91, 1), (92, 1), (93, 1), (94, 1), (95, 1), (96, 1), (97, 1), (98, 1), (99, 1), (100, 1), (101, 1), (102, 1), (103, 1), (104, 1), (105, 1), (106, 1), (107, 1), (108, 1), (109, 1), (110, 1), (111, 1), (112, 1), (113, 1), (114, 1), (115, 1), (116, 1), (117, 1), (118, 1), (119, 1), (120, 1), (121, 1), (122, 1), (123, 1), (124, 1), (125, 1), (126, 1), (127, 1), (128, 1), (129, 1), (130, 1), (131, 1), (132, 1), (133, 1), (134, 1), (135, 1), (136, 1), (137, 1), (138, 1), (139, 1), (140, 1), (141, 1), (142, 1), (143, 1), (144, 1), (145, 1), (146, 1), (147, 1), (148, 1), (149, 1), (150, 1), (151, 1), (152, 1), (153, 1), (154, 1), (155, 1), (156, 1), (157, 1), (158, 1), (159, 1), (160, 1), (161, 1), (162, 1), (163, 1), (164, 1), (165, 1), (166, 1), (167, 1), (168, 1), (169, 1), (170, 1), (171, 1), (172, 1), (173, 1), (174, 1), (175, 1), (176, 1), (177, 1), (178, 1), (179, 1), (180, 1), (181, 1), (182, 1), (183, 1), (184, 1), (185, 1), (186, 1), (187, 1), (188, 1), (189, 1), (190, 1), (191, 1), (192, 1), (193, 1), (194, 1), (195, 1), (196, 1), (197, 1), (198, 1), (199, 1), (200, 1), (201, 1), (202, 1), (203, 1), (204, 1), (205, 1), (206, 1), (207, 1), (208, 1), (209, 1), (210, 1), (211, 1), (212, 1), (213, 1), (214, 1), (215, 1), (216, 1), (217, 1), (218, 1), (219, 1), (220, 1), (221, 1), (222, 1), (223, 1), (224, 1), (225, 1), (226, 1), (227, 1), (228, 1), (229, 1), (230, 1), (231, 1), (232, 1), (233, 1), (234, 1), (235, 1), (236, 1), (237, 1), (238, 1), (239, 1), (240, 1), (241, 1), (242, 1), (243, 1), (244, 1), (245, 1), (246, 1), (247, 1), (248, 1), (249, 1), (250, 1), (251, 1), (252, 1), (253, 1), (254, 1), (255, 1)] := by kernel_rfl
@[go_sem] theorem Tryd.tsz221 : tszOf Tryd.prog 221 = some (2, true) := by kernel_rfl
@[go_sem] theorem Tryd.udef221 : (Tryd.prog.underlying 221).isSome = true := by kernel_rfl
@[go_sem] theorem Tryd.zero221 : zeroOf Tryd.prog 221 = some [.int .u8 0, .int .u8 0] := by kernel_rfl
@[go_sem] theorem Tryd.pl221 : plOf Tryd.prog 221 = some [(0, 1), (1, 1)] := by kernel_rfl
@[go_sem] theorem Tryd.tsz222 : tszOf Tryd.prog 222 = some (2, true) := by kernel_rfl
@[go_sem] theorem Tryd.udef222 : (Tryd.prog.underlying 222).isSome = true := by kernel_rfl
@[go_sem] theorem Tryd.zero222 : zeroOf Tryd.prog 222 = some [.int .u8 0, .int .u8 0] := by kernel_rfl
@[go_sem] theorem Tryd.pl222 : plOf Tryd.prog 222 = some [(0, 1), (1, 1)] := by kernel_rfl
@[go_sem] theorem Tryd.fd222_0 : fdOf Tryd.prog 222 0 = some (0, 1, false) := by kernel_rfl
@[go_sem] theorem Tryd.fd222_1 : fdOf Tryd.prog 222 1 = some (1, 1, false) := by kernel_rfl
@[go_sem] theorem Tryd.tsz223 : tszOf Tryd.prog 223 = some (32, true) := by kernel_rfl
@[go_sem] theorem Tryd.udef223 : (Tryd.prog.underlying 223).isSome = true := by kernel_rfl
@[go_sem] theorem Tryd.zero223 : zeroOf Tryd.prog 223 = some [.int .u8 0, .int .u8 0, .int .u8 0, .int .u8 0, .int .u8 0, .int .u8 0, .int .u8 0, .int .u8 0, .int .u8 0, .int .u8 0, .int .u8 0, .int .u8 0, .int .u8 0, .int .u8 0, .int .u8 0, .int .u8 0, .int .u8 0, .int .u8 0, .int .u8 0, .int .u8 0, .int .u8 0, .int .u8 0, .int .u8 0, .int .u8 0, .int .u8 0, .int .u8 0, .int .u8 0, .int .u8 0, .int .u8 0, .int .u8 0, .int .u8 0, .int .u8 0] := by kernel_rfl
@[go_sem] theorem Tryd.ar223 : arOf Tryd.prog 223 = some (16, 2, true) := by kernel_rfl
@[go_sem] theorem Tryd.pl223 : plOf Tryd.prog 223 = some [(0, 2), (2, 2), (4, 2), (6, 2), (8, 2), (10, 2), (12, 2), (14, 2), (16, 2), (18, 2), (20, 2), (22, 2), (24, 2), (26, 2), (28, 2), (30, 2)] := by kernel_rfl
@[go_sem] theorem Tryd.tsz224 : tszOf Tryd.prog 224 = some (1, false) := by kernel_rfl
@[go_sem] theorem Tryd.udef224 : (Tryd.prog.underlying 224).isSome = true := by kernel_rfl
@[go_sem] theorem Tryd.zero224 : zeroOf Tryd.prog 224 = some [.int .i64 0] := by kernel_rfl
@[go_sem] theorem Tryd.isInt224 : isIntT Tryd.prog 224 = some .i64 := by kernel_rfl
@[go_sem] theorem Tryd.tsz231 : tszOf Tryd.prog 231 = some (1, false) := by kernel_rfl
@[go_sem] theorem Tryd.udef231 : (Tryd.prog.underlying 231).isSome = true := by kernel_rfl
@[go_sem] theorem Tryd.zero231 : zeroOf Tryd.prog 231 = some [.lit ((Go.Value.nilFunc))] := by kernel_rfl
@[go_sem] theorem Tryd.tsz232 : tszOf Tryd.prog 232 = some (24, true) := by kernel_rfl
@[go_sem] theorem Tryd.udef232 : (Tryd.prog.underlying 232).isSome = true := by kernel_rfl
@[go_sem] theorem Tryd.zero232 : zeroOf Tryd.prog 232 = some [.int .u8 0, .int .u8 0, .int .u8 0, .int .u8 0, .int .u8 0, .int .u8 0, .int .u8 0, .int .u8 0, .int .u8 0, .int .u8 0, .int .u8 0, .int .u8 0, .int .u8 0, .int .u8 0, .int .u8 0, .int .u8 0, .int .u8 0, .int .u8 0, .int .u8 0, .int .u8 0, .int .u8 0, .int .u8 0, .int .u8 0, .int .u8 0] := by kernel_rfl
@[go_sem] theorem Tryd.ar232 : arOf Tryd.prog 232 = some (24, 1, false) := by kernel_rfl
@[go_sem] theorem Tryd.pl232 : plOf Tryd.prog 232 = some [(0, 1), (1, 1), (2, 1), (3, 1), (4, 1), (5, 1), (6, 1), (7, 1), (8, 1), (9, 1), (10, 1), (11, 1), (12, 1), (13, 1), (14, 1), (15, 1), (16, 1), (17, 1), (18, 1), (19, 1), (20, 1), (21, 1), (22, 1), (23, 1)] := by kernel_rfl
@[go_sem] theorem Tryd.tsz233 : tszOf Tryd.prog 233 = some (1, false) := by kernel_rfl
@[go_sem] theorem Tryd.udef233 : (Tryd.prog.underlying 233).isSome = true := by kernel_rfl
@[go_sem] theorem Tryd.zero233 : zeroOf Tryd.prog 233 = some [.lit ((Go.Value.nilFunc))] := by kernel_rfl
@[go_sem] theorem Tryd.tsz236 : tszOf Tryd.prog 236 = some (1, false) := by kernel_rfl
@[go_sem] theorem Tryd.udef236 : (Tryd.prog.underlying 236).isSome = true := by kernel_rfl
@[go_sem] theorem Tryd.zero236 : zeroOf Tryd.prog 236 = some [.lit ((Go.Value.pointer none))] := by kernel_rfl
@[go_sem] theorem Tryd.tsz240 : tszOf Tryd.prog 240 = some (1, false) := by kernel_rfl
@[go_sem] theorem Tryd.udef240 : (Tryd.prog.underlying 240).isSome = true := by kernel_rfl
@[go_sem] theorem Tryd.zero240 : zeroOf Tryd.prog 240 = some [.lit ((Go.Value.nilFunc))] := by kernel_rfl
@[go_sem] theorem Tryd.tsz247 : tszOf Tryd.prog 247 = some (1, false) := by kernel_rfl
@[go_sem] theorem Tryd.udef247 : (Tryd.prog.underlying 247).isSome = true := by kernel_rfl
@[go_sem] theorem Tryd.zero247 : zeroOf Tryd.prog 247 = some [.lit ((Go.Value.nilFunc))] := by kernel_rfl
@[go_sem] theorem Tryd.tsz248 : tszOf Tryd.prog 248 = some (1, false) := by kernel_rfl
@[go_sem] theorem Tryd.udef248 : (Tryd.prog.underlying 248).isSome = true := by kernel_rfl
@[go_sem] theorem Tryd.zero248 : zeroOf Tryd.prog 248 = some [.lit ((Go.Value.nilFunc))] := by kernel_rfl
@[go_sem] theorem Tryd.tsz249 : tszOf Tryd.prog 249 = some (1, false) := by kernel_rfl
@[go_sem] theorem Tryd.udef249 : (Tryd.prog.underlying 249).isSome = true := by kernel_rfl
@[go_sem] theorem Tryd.zero249 : zeroOf Tryd.prog 249 = some [.lit ((Go.Value.nilFunc))] := by kernel_rfl
@[go_sem] theorem Tryd.tsz250 : tszOf Tryd.prog 250 = some (1, false) := by kernel_rfl
@[go_sem] theorem Tryd.udef250 : (Tryd.prog.underlying 250).isSome = true := by kernel_rfl
@[go_sem] theorem Tryd.zero250 : zeroOf Tryd.prog 250 = some [.lit ((Go.Value.nilFunc))] := by kernel_rfl
@[go_sem] theorem Tryd.tsz251 : tszOf Tryd.prog 251 = some (1, false) := by kernel_rfl
@[go_sem] theorem Tryd.udef251 : (Tryd.prog.underlying 251).isSome = true := by kernel_rfl
@[go_sem] theorem Tryd.zero251 : zeroOf Tryd.prog 251 = some [.lit ((Go.Value.nilFunc))] := by kernel_rfl
@[go_sem] theorem Tryd.tsz252 : tszOf Tryd.prog 252 = some (20, true) := by kernel_rfl
@[go_sem] theorem Tryd.udef252 : (Tryd.prog.underlying 252).isSome = true := by kernel_rfl
@[go_sem] theorem Tryd.zero252 : zeroOf Tryd.prog 252 = some [.int .u64 0, .int .u64 0, .int .u64 0, .int .u64 0, .int .u64 0, .int .u64 0, .int .u64 0, .int .u64 0, .int .u64 0, .int .u64 0, .int .u64 0, .int .u64 0, .int .u64 0, .int .u64 0, .int .u64 0, .int .u64 0, .int .u64 0, .int .u64 0, .int .u64 0, .int .u64 0] := by kernel_rfl
@[go_sem] theorem Tryd.ar252 : arOf Tryd.prog 252 = some (20, 1, false) := by kernel_rfl
@[go_sem] theorem Tryd.pl252 : plOf Tryd.prog 252 = some [(0, 1), (1, 1), (2, 1), (3, 1), (4, 1), (5, 1), (6, 1), (7, 1), (8, 1), (9, 1), (10, 1), (11, 1), (12, 1), (13, 1), (14, 1), (15, 1), (16, 1), (17, 1), (18, 1), (19, 1)] := by kernel_rfl
@[go_sem] theorem Tryd.tsz253 : tszOf Tryd.prog 253 = some (65, true) := by kernel_rfl
@[go_sem] theorem Tryd.udef253 : (Tryd.prog.underlying 253).isSome = true := by kernel_rfl
@[go_sem] theorem Tryd.ar253 : arOf Tryd.prog 253 = some (65, 1, false) := by kernel_rfl
@[go_sem] theorem Tryd.pl253 : plOf Tryd.prog 253 = some [(0, 1), (1, 1), (2, 1), (3, 1), (4, 1), (5, 1), (6, 1), (7, 1), (8, 1), (9, 1), (10, 1), (11, 1), (12, 1), (13, 1), (14, 1), (15, 1), (16, 1), (17, 1), (18, 1), (19, 1), (20, 1), (21, 1), (22, 1), (23, 1), (24, 1), (25, 1), (26, 1), (27, 1), (28, 1), (29, 1), (30, 1), (31, 1), (32, 1), (33, 1), (34, 1), (35, 1), (36, 1), (37, 1), (38, 1), (39, 1), (40, 1), (41, 1), (42, 1), (43, 1), (44, 1), (45, 1), (46, 1), (47, 1), (48, 1), (49, 1), (50, 1), (51, 1), (52, 1), (53, 1), (54, 1), (55, 1), (56, 1), (57, 1), (58, 1), (59, 1), (60, 1), (61, 1), (62, 1), (63, 1), (64, 1)] := by kernel_rfl
@[go_sem] theorem Tryd.tsz254 : tszOf Tryd.prog 254 = some (1, false) := by kernel_rfl
@[go_sem] theorem Tryd.udef254 : (Tryd.prog.underlying 254).isSome = true := by kernel_rfl
@[go_sem] theorem Tryd.zero254 : zeroOf Tryd.prog 254 = some [.lit ((Go.Value.nilFunc))] := by kernel_rfl
@[go_sem] theorem Tryd.tsz255 : tszOf Tryd.prog 255 = some (1, false) := by kernel_rfl
@[go_sem] theorem Tryd.udef255 : (Tryd.prog.underlying 255).isSome = true := by kernel_rfl
@[go_sem] theorem Tryd.zero255 : zeroOf Tryd.prog 255 = some [.lit ((Go.Value.pointer none))] := by kernel_rfl
@[go_sem] theorem Tryd.tsz256 : tszOf Tryd.prog 256 = some (1, true) := by kernel_rfl
@[go_sem] theorem Tryd.udef256 : (Tryd.prog.underlying 256).isSome = true := by kernel_rfl
@[go_sem] theorem Tryd.zero256 : zeroOf Tryd.prog 256 = some [.str ByteArray.empty] := by kernel_rfl
@[go_sem] theorem Tryd.pl256 : plOf Tryd.prog 256 = some [(0, 1)] := by kernel_rfl
@[go_sem] theorem Tryd.tsz257 : tszOf Tryd.prog 257 = some (1, true) := by kernel_rfl
@[go_sem] theorem Tryd.udef257 : (Tryd.prog.underlying 257).isSome = true := by kernel_rfl
@[go_sem] theorem Tryd.zero257 : zeroOf Tryd.prog 257 = some [.str ByteArray.empty] := by kernel_rfl
@[go_sem] theorem Tryd.pl257 : plOf Tryd.prog 257 = some [(0, 1)] := by kernel_rfl
@[go_sem] theorem Tryd.tsz258 : tszOf Tryd.prog 258 = some (32, true) := by kernel_rfl
@[go_sem] theorem Tryd.udef258 : (Tryd.prog.underlying 258).isSome = true := by kernel_rfl
@[go_sem] theorem Tryd.zero258 : zeroOf Tryd.prog 258 = some [.int .u8 0, .int .u8 0, .int .u8 0, .int .u8 0, .int .u8 0, .int .u8 0, .int .u8 0, .int .u8 0, .int .u8 0, .int .u8 0, .int .u8 0, .int .u8 0, .int .u8 0, .int .u8 0, .int .u8 0, .int .u8 0, .int .u8 0, .int .u8 0, .int .u8 0, .int .u8 0, .int .u8 0, .int .u8 0, .int .u8 0, .int .u8 0, .int .u8 0, .int .u8 0, .int .u8 0, .int .u8 0, .int .u8 0, .int .u8 0, .int .u8 0, .int .u8 0] := by kernel_rfl
@[go_sem] theorem Tryd.ar258 : arOf Tryd.prog 258 = some (32, 1, false) := by kernel_rfl
@[go_sem] theorem Tryd.pl258 : plOf Tryd.prog 258 = some [(0, 1), (1, 1), (2, 1), (3, 1), (4, 1), (5, 1), (6, 1), (7, 1), (8, 1), (9, 1), (10, 1), (11, 1), (12, 1), (13, 1), (14, 1), (15, 1), (16, 1), (17, 1), (18, 1), (19, 1), (20, 1), (21, 1), (22, 1), (23, 1), (24, 1), (25, 1), (26, 1), (27, 1), (28, 1), (29, 1), (30, 1), (31, 1)] := by kernel_rfl
@[go_sem] theorem Tryd.tsz259 : tszOf Tryd.prog 259 = some (64, true) := by kernel_rfl
@[go_sem] theorem Tryd.udef259 : (Tryd.prog.underlying 259).isSome = true := by kernel_rfl
@[go_sem] theorem Tryd.zero259 : zeroOf Tryd.prog 259 = some [.int .u8 0, .int .u8 0, .int .u8 0, .int .u8 0, .int .u8 0, .int .u8 0, .int .u8 0, .int .u8 0, .int .u8 0, .int .u8 0, .int .u8 0, .int .u8 0, .int .u8 0, .int .u8 0, .int .u8 0, .int .u8 0, .int .u8 0, .int .u8 0, .int .u8 0, .int .u8 0, .int .u8 0, .int .u8 0, .int .u8 0, .int .u8 0, .int .u8 0, .int .u8 0, .int .u8 0, .int .u8 0, .int .u8 0, .int .u8 0, .int .u8 0, .int .u8 0, .int .u8 0, .int .u8 0, .int .u8 0, .int .u8 0, .int .u8 0, .int .u8 0, .int .u8 0, .int .u8 0, .int .u8 0, .int .u8 0, .int .u8 0, .int .u8 0, .int .u8 0, .int .u8 0, .int .u8 0, .int .u8 0, .int .u8 0, .int .u8 0, .int .u8 0, .int .u8 0, .int .u8 0, .int .u8 0, .int .u8 0, .int .u8 0, .int .u8 0, .int .u8 0, .int .u8 0, .int .u8 0, .int .u8 0, .int .u8 0, .int .u8 0, .int .u8 0] := by kernel_rfl
@[go_sem] theorem Tryd.ar259 : arOf Tryd.prog 259 = some (64, 1, false) := by kernel_rfl
@[go_sem] theorem Tryd.pl259 : plOf Tryd.prog 259 = some [(0, 1), (1, 1), (2, 1), (3, 1), (4, 1), (5, 1), (6, 1), (7, 1), (8, 1), (9, 1), (10, 1), (11, 1), (12, 1), (13, 1), (14, 1), (15, 1), (16, 1), (17, 1), (18, 1), (19, 1), (20, 1), (21, 1), (22, 1), (23, 1), (24, 1), (25, 1), (26, 1), (27, 1), (28, 1), (29, 1), (30, 1), (31, 1), (32, 1), (33, 1), (34, 1), (35, 1), (36, 1), (37, 1), (38, 1), (39, 1), (40, 1), (41, 1), (42, 1), (43, 1), (44, 1), (45, 1), (46, 1), (47, 1), (48, 1), (49, 1), (50, 1), (51, 1), (52, 1), (53, 1), (54, 1), (55, 1), (56, 1), (57, 1), (58, 1), (59, 1), (60, 1), (61, 1), (62, 1), (63, 1)] := by kernel_rfl
@[go_sem] theorem Tryd.tsz260 : tszOf Tryd.prog 260 = some (4, true) := by kernel_rfl
@[go_sem] theorem Tryd.udef260 : (Tryd.prog.underlying 260).isSome = true := by kernel_rfl
@[go_sem] theorem Tryd.zero260 : zeroOf Tryd.prog 260 = some [.lit ((Go.Value.pointer none)), .lit ((Go.Value.pointer none)), .lit ((Go.Value.pointer none)), .str ByteArray.empty] := by kernel_rfl
@[go_sem] theorem Tryd.pl260 : plOf Tryd.prog 260 = some [(0, 1), (1, 1), (2, 1), (3, 1)] := by kernel_rfl
@[go_sem] theorem Tryd.tsz261 : tszOf Tryd.prog 261 = some (4, true) := by kernel_rfl
@[go_sem] theorem Tryd.udef261 : (Tryd.prog.underlying 261).isSome = true := by kernel_rfl
@[go_sem] theorem Tryd.zero261 : zeroOf Tryd.prog 261 = some [.lit ((Go.Value.pointer none)), .lit ((Go.Value.pointer none)), .lit ((Go.Value.pointer none)), .str ByteArray.empty] := by kernel_rfl
@[go_sem] theorem Tryd.pl261 : plOf Tryd.prog 261 = some [(0, 1), (1, 1), (2, 1), (3, 1)] := by kernel_rfl
@[go_sem] theorem Tryd.tsz262 : tszOf Tryd.prog 262 = some (0, true) := by kernel_rfl
@[go_sem] theorem Tryd.udef262 : (Tryd.prog.underlying 262).isSome = true := by kernel_rfl
@[go_sem] theorem Tryd.zero262 : zeroOf Tryd.prog 262 = some [] := by kernel_rfl
@[go_sem] theorem Tryd.ar262 : arOf Tryd.prog 262 = some (0, 1, false) := by kernel_rfl
@[go_sem] theorem Tryd.pl262 : plOf Tryd.prog 262 = some [] := by kernel_rfl
@[go_sem] theorem Tryd.tsz263 : tszOf Tryd.prog 263 = some (0, true) := by kernel_rfl
@[go_sem] theorem Tryd.udef263 : (Tryd.prog.underlying 263).isSome = true := by kernel_rfl
@[go_sem] theorem Tryd.zero263 : zeroOf Tryd.prog 263 = some [] := by kernel_rfl
@[go_sem] theorem Tryd.pl263 : plOf Tryd.prog 263 = some [(0, 0)] := by kernel_rfl
@[go_sem] theorem Tryd.tsz264 : tszOf Tryd.prog 264 = some (0, true) := by kernel_rfl
@[go_sem] theorem Tryd.udef264 : (Tryd.prog.underlying 264).isSome = true := by kernel_rfl
@[go_sem] theorem Tryd.zero264 : zeroOf Tryd.prog 264 = some [] := by kernel_rfl
@[go_sem] theorem Tryd.pl264 : plOf Tryd.prog 264 = some [(0, 0)] := by kernel_rfl
@[go_sem] theorem Tryd.tsz265 : tszOf Tryd.prog 265 = some (1, false) := by kernel_rfl
@[go_sem] theorem Tryd.udef265 : (Tryd.prog.underlying 265).isSome = true := by kernel_rfl
@[go_sem] theorem Tryd.zero265 : zeroOf Tryd.prog 265 = some [.int .u8 0] := by kernel_rfl
@[go_sem] theorem Tryd.isInt265 : isIntT Tryd.prog 265 = some .u8 := by kernel_rfl
@[go_sem] theorem Tryd.tsz266 : tszOf Tryd.prog 266 = some (1, false) := by kernel_rfl
@[go_sem] theorem Tryd.udef266 : (Tryd.prog.underlying 266).isSome = true := by kernel_rfl
@[go_sem] theorem Tryd.zero266 : zeroOf Tryd.prog 266 = some [.int .u8 0] := by kernel_rfl
@[go_sem] theorem Tryd.isInt266 : isIntT Tryd.prog 266 = some .u8 := by kernel_rfl
@[go_sem] theorem Tryd.tsz267 : tszOf Tryd.prog 267 = some (1, false) := by kernel_rfl
@[go_sem] theorem Tryd.udef267 : (Tryd.prog.underlying 267).isSome = true := by kernel_rfl
@[go_sem] theorem Tryd.zero267 : zeroOf Tryd.prog 267 = some [.lit ((Go.Value.nilFunc))] := by kernel_rfl
@[go_sem] theorem Tryd.tsz268 : tszOf Tryd.prog 268 = some (1, false) := by kernel_rfl
@[go_sem] theorem Tryd.udef268 : (Tryd.prog.underlying 268).isSome = true := by kernel_rfl
@[go_sem] theorem Tryd.zero268 : zeroOf Tryd.prog 268 = some [.int .i32 0] := by kernel_rfl
@[go_sem] theorem Tryd.isInt268 : isIntT Tryd.prog 268 = some .i32 := by kernel_rfl
@[go_sem] theorem Tryd.tsz269 : tszOf Tryd.prog 269 = some (1, false) := by kernel_rfl
@[go_sem] theorem Tryd.udef269 : (Tryd.prog.underlying 269).isSome = true := by kernel_rfl
@[go_sem] theorem Tryd.zero269 : zeroOf Tryd.prog 269 = some [.int .i32 0] := by kernel_rfl
@[go_sem] theorem Tryd.isInt269 : isIntT Tryd.prog 269 = some .i32 := by kernel_rfl
@[go_sem] theorem Tryd.tsz270 : tszOf Tryd.prog 270 = some (11, true) := by kernel_rfl
@[go_sem] theorem Tryd.udef270 : (Tryd.prog.underlying 270).isSome = true := by kernel_rfl
@[go_sem] theorem Tryd.zero270 : zeroOf Tryd.prog 270 = some [.int .u64 0, .int .u64 0, .int .u32 0, .int .u8 0, .int .u8 0, .int .u8 0, .int .u8 0, .lit ((Go.Value.nilFunc)), .lit ((Go.Value.pointer none)), .int .i32 0, .int .i32 0] := by kernel_rfl
@[go_sem] theorem Tryd.pl270 : plOf Tryd.prog 270 = some [(0, 1), (1, 1), (2, 1), (3, 1), (4, 1), (5, 1), (6, 1), (7, 1), (8, 1), (9, 1), (10, 1)] := by kernel_rfl
@[go_sem] theorem Tryd.tsz271 : tszOf Tryd.prog 271 = some (11, true) := by kernel_rfl
@[go_sem] theorem Tryd.udef271 : (Tryd.prog.underlying 271).isSome = true := by kernel_rfl
@[go_sem] theorem Tryd.zero271 : zeroOf Tryd.prog 271 = some [.int .u64 0, .int .u64 0, .int .u32 0, .int .u8 0, .int .u8 0, .int .u8 0, .int .u8 0, .lit ((Go.Value.nilFunc)), .lit ((Go.Value.pointer none)), .int .i32 0, .int .i32 0] := by kernel_rfl
@[go_sem] theorem Tryd.pl271 : plOf Tryd.prog 271 = some [(0, 1), (1, 1), (2, 1), (3, 1), (4, 1), (5, 1), (6, 1), (7, 1), (8, 1), (9, 1), (10, 1)] := by kernel_rfl
@[go_sem] theorem Tryd.isPt2 : isPt Tryd.prog 2 = false := by kernel_rfl
@[go_sem] theorem Tryd.isPt3 : isPt Tryd.prog 3 = false := by kernel_rfl
@[go_sem] theorem Tryd.isPt4 : isPt Tryd.prog 4 = false := by kernel_rfl
@[go_sem] theorem Tryd.isPt5 : isPt Tryd.prog 5 = false := by kernel_rfl
@[go_sem] theorem Tryd.isPt9 : isPt Tryd.prog 9 = false := by kernel_rfl
@[go_sem] theorem Tryd.isPt22 : isPt Tryd.prog 22 = false := by kernel_rfl
@[go_sem] theorem Tryd.isPt24 : isPt Tryd.prog 24 = false := by kernel_rfl
@[go_sem] theorem Tryd.isPt26 : isPt Tryd.prog 26 = false := by kernel_rfl
@[go_sem] theorem Tryd.isPt39 : isPt Tryd.prog 39 = false := by kernel_rfl
@[go_sem] theorem Tryd.isPt43 : isPt Tryd.prog 43 = false := by kernel_rfl
@[go_sem] theorem Tryd.isPt44 : isPt Tryd.prog 44 = false := by kernel_rfl
@[go_sem] theorem Tryd.isPt46 : isPt Tryd.prog 46 = false := by kernel_rfl
@[go_sem] theorem Tryd.isPt61 : isPt Tryd.prog 61 = false := by kernel_rfl
@[go_sem] theorem Tryd.isPt66 : isPt Tryd.prog 66 = false := by kernel_rfl
@[go_sem] theorem Tryd.isPt68 : isPt Tryd.prog 68 = false := by kernel_rfl
@[go_sem] theorem Tryd.isPt76 : isPt Tryd.prog 76 = false := by kernel_rfl
@[go_sem] theorem Tryd.isPt87 : isPt Tryd.prog 87 = true := by kernel_rfl
@[go_sem] theorem Tryd.isPt88 : isPt Tryd.prog 88 = false := by kernel_rfl
@[go_sem] theorem Tryd.isPt101 : isPt Tryd.prog 101 = false := by kernel_rfl
@[go_sem] theorem Tryd.isPt109 : isPt Tryd.prog 109 = false := by kernel_rfl
@[go_sem] theorem Tryd.isPt115 : isPt Tryd.prog 115 = false := by kernel_rfl
@[go_sem] theorem Tryd.isPt128 : isPt Tryd.prog 128 = false := by kernel_rfl
@[go_sem] theorem Tryd.isPt140 : isPt Tryd.prog 140 = false := by kernel_rfl
@[go_sem] theorem Tryd.isPt156 : isPt Tryd.prog 156 = true := by kernel_rfl
@[go_sem] theorem Tryd.isPt158 : isPt Tryd.prog 158 = false := by kernel_rfl
@[go_sem] theorem Tryd.isPt179 : isPt Tryd.prog 179 = false := by kernel_rfl
@[go_sem] theorem Tryd.isPt203 : isPt Tryd.prog 203 = true := by kernel_rfl
@[go_sem] theorem Tryd.isPt206 : isPt Tryd.prog 206 = false := by kernel_rfl
@[go_sem] theorem Tryd.isPt217 : isPt Tryd.prog 217 = false := by kernel_rfl
theorem Tryd.okF3 : okF Tryd.prog 3 = true := by kernel_rfl
theorem Tryd.okF7 : okF Tryd.prog 7 = true := by kernel_rfl
theorem Tryd.okF8 : okF Tryd.prog 8 = true := by kernel_rfl
theorem Tryd.okF9 : okF Tryd.prog 9 = true := by kernel_rfl
theorem Tryd.okF10 : okF Tryd.prog 10 = true := by kernel_rfl
theorem Tryd.okF11 : okF Tryd.prog 11 = true := by kernel_rfl
theorem Tryd.okF12 : okF Tryd.prog 12 = true := by kernel_rfl
theorem Tryd.okF13 : okF Tryd.prog 13 = true := by kernel_rfl
theorem Tryd.okF14 : okF Tryd.prog 14 = true := by kernel_rfl
theorem Tryd.okF15 : okF Tryd.prog 15 = true := by kernel_rfl
theorem Tryd.okF16 : okF Tryd.prog 16 = true := by kernel_rfl
theorem Tryd.okF17 : okF Tryd.prog 17 = true := by kernel_rfl
theorem Tryd.okF18 : okF Tryd.prog 18 = true := by kernel_rfl
theorem Tryd.okF19 : okF Tryd.prog 19 = true := by kernel_rfl
theorem Tryd.okF20 : okF Tryd.prog 20 = true := by kernel_rfl
theorem Tryd.okF21 : okF Tryd.prog 21 = true := by kernel_rfl
theorem Tryd.okF22 : okF Tryd.prog 22 = true := by kernel_rfl
theorem Tryd.okF61 : okF Tryd.prog 61 = true := by kernel_rfl
theorem Tryd.okF62 : okF Tryd.prog 62 = true := by kernel_rfl
theorem Tryd.okF63 : okF Tryd.prog 63 = true := by kernel_rfl
theorem Tryd.okF64 : okF Tryd.prog 64 = true := by kernel_rfl
theorem Tryd.okF65 : okF Tryd.prog 65 = true := by kernel_rfl
theorem Tryd.okF66 : okF Tryd.prog 66 = true := by kernel_rfl
theorem Tryd.okF67 : okF Tryd.prog 67 = true := by kernel_rfl
theorem Tryd.okF68 : okF Tryd.prog 68 = true := by kernel_rfl
theorem Tryd.okF69 : okF Tryd.prog 69 = true := by kernel_rfl
theorem Tryd.okF70 : okF Tryd.prog 70 = true := by kernel_rfl
theorem Tryd.okF71 : okF Tryd.prog 71 = true := by kernel_rfl
theorem Tryd.okF72 : okF Tryd.prog 72 = true := by kernel_rfl
theorem Tryd.okF73 : okF Tryd.prog 73 = true := by kernel_rfl
theorem Tryd.okF77 : okF Tryd.prog 77 = true := by kernel_rfl
theorem Tryd.okF78 : okF Tryd.prog 78 = true := by kernel_rfl
theorem Tryd.okF79 : okF Tryd.prog 79 = true := by kernel_rfl
theorem Tryd.okF91 : okF Tryd.prog 91 = true := by kernel_rfl
theorem Tryd.okF92 : okF Tryd.prog 92 = true := by kernel_rfl
theorem Tryd.okF93 : okF Tryd.prog 93 = true := by kernel_rfl
theorem Tryd.okF122 : okF Tryd.prog 122 = true := by kernel_rfl
theorem Tryd.okF123 : okF Tryd.prog 123 = true := by kernel_rfl
theorem Tryd.okF127 : okF Tryd.prog 127 = true := by kernel_rfl
theorem Tryd.okF145 : okF Tryd.prog 145 = true := by kernel_rfl
end Go.Proofs
end
section
namespace Go.Lv

def rows {α : Type} (cs : α → List V) (L : List α) : List V := L.flatMap cs

section
variable {α : Type} {cs : α → List V} {w : Nat}

theorem rows_len (h : ∀ a, (cs a).length = w) (L : List α) : (rows cs L).length = L.length * w := by
 induction L with
 | nil => simp [rows]
 | cons a L ih => simp [rows, h] at ih ⊢; rw [ih, Nat.succ_mul, Nat.add_comm]

theorem rowsOf_append (L K : List α) : rows cs (L ++ K) = rows cs L ++ rows cs K := by simp [rows]
theorem rows_nil : rows cs ([] : List α) = [] := rfl
theorem rows_cons (a : α) (L : List α) : rows cs (a :: L) = cs a ++ rows cs L := by simp [rows]
theorem rows_one (a : α) : rows cs [a] = cs a := by simp [rows]

theorem rows_drop (h : ∀ a, (cs a).length = w) (L : List α) (i : Nat) : (rows cs L).drop (i * w) = rows cs (L.drop i) := by
 induction i generalizing L with
 | zero => simp
 | succ i ih =>
   cases L with
   | nil => simp [rows]
   | cons a L =>
     rw [rows_cons, Nat.succ_mul, Nat.add_comm, ← List.drop_drop, List.drop_append, h a, Nat.sub_self, List.drop_zero]
     rw [show (cs a).drop w = [] by simp [h]]
     simpa using ih L

theorem rows_take (h : ∀ a, (cs a).length = w) (L : List α) (i : Nat) : (rows cs L).take (i * w) = rows cs (L.take i) := by
 induction i generalizing L with
 | zero => simp [rows]
 | succ i ih =>
   cases L with
   | nil => simp [rows]
   | cons a L =>
     rw [rows_cons, List.take_succ_cons, rows_cons, Nat.succ_mul, Nat.add_comm, List.take_append, h a, Nat.add_sub_cancel_left, ih]
     rw [List.take_of_length_le (by simp [h])]

theorem rows_at (h : ∀ a, (cs a).length = w) {L : List α} {i : Nat} (hi : i < L.length) : ((rows cs L).drop (i * w)).take w = cs L[i] := by
 rw [rows_drop h, List.drop_eq_getElem_cons hi, rows_cons, List.take_append, h, Nat.sub_self, List.take_zero, List.append_nil, List.take_of_length_le (by simp [h])]

theorem rows_all {p : V → Bool} (h : ∀ a, (cs a).all p = true) (L : List α) : (rows cs L).all p = true := by
 induction L with
 | nil => rfl
 | cons a L ih => rw [rows_cons, List.all_append, h a, ih]; rfl

theorem map_ren (f : Nat → R) {d : Nat} {l : List V} (h : l.all (noOwn d) = true) : l.map (ren f d) = l := by
 rw [List.map_congr_left (g := id) (fun x hx => ren_noOwn f d x (List.all_eq_true.1 h x hx)), List.map_id]

theorem wrap_i64 {n : Int} (h0 : -9223372036854775808 ≤ n) (h1 : n ≤ 9223372036854775807) : IntKind.i64.wrap n = n := by
 rw [IntKind.wrap_i64]; omega

def i64R (z : Int) : Prop := -9223372036854775808 ≤ z ∧ z ≤ 9223372036854775807
def lstR (ok : α → Prop) (L : List α) : Prop := L.length ≤ 9223372036854775807 ∧ ∀ x ∈ L, ok x

class FlatP (cs : α → List V) (w : outParam Nat) : Prop where
 len : ∀ a, (cs a).length = w
 plain : ∀ a d, (cs a).all (noOwn d) = true
 cell : ∀ a, (cs a).all isCell = true
 noro : ∀ a, (cs a).all (noRoB 0) = true

theorem rows_length [FlatP cs w] (L : List α) : (rows cs L).length = L.length * w := rows_len FlatP.len L
theorem map_ren_rows [FlatP cs w] (f : Nat → R) (d : Nat) (L : List α) : (rows cs L).map (ren f d) = rows cs L := map_ren f (rows_all (fun a => FlatP.plain a d) L)
theorem rows_cell [FlatP cs w] (L : List α) : (rows cs L).all isCell = true := rows_all FlatP.cell L
theorem rows_noRo [FlatP cs w] (L : List α) : (rows cs L).all (noRoB 0) = true := rows_all FlatP.noro L
theorem rows_noOwn [FlatP cs w] (L : List α) (d : Nat) : (rows cs L).all (noOwn d) = true := rows_all (fun a => FlatP.plain a d) L
theorem rows_refV [FlatP cs w] (p : Nat → Bool) (L : List α) (d : Nat) : (rows cs L).all (refV p d) = true := List.all_eq_true.2 fun x hx => refV_noOwn p d x (List.all_eq_true.1 (rows_noOwn (cs := cs) L d) x hx)
theorem noRoH_rows [FlatP cs w] (L : List α) : NoRoH [some (rows cs L)] := NoRoH.of (by simp only [hpNoRo, List.all_cons, List.all_nil, rows_noRo, Bool.and_self])
theorem take_rows [FlatP cs w] (L : List α) : (rows cs L).take (L.length * w) = rows cs L := List.take_of_length_le (by rw [rows_length]; exact Nat.le_refl _)

theorem le_snap [FlatP cs w] {h : Hp} {id : Nat} {L : List α} (hid : h[id]? = some (some (rows cs L))) : LeV (ren (snapR h 3) 3 (.osl id 0 L.length w)) (.sl L.length w (rows cs L)) := by
 refine .inl ?_
 simp only [ren, snapR, hid, map_ren_rows, List.drop_zero, take_rows]
theorem le_snap' [FlatP cs w] {h : Hp} {id n : Nat} {L : List α} (hid : h[id]? = some (some (rows cs L))) (hn : n = L.length) : LeV (ren (snapR h 3) 3 (.osl id 0 n w)) (.sl L.length w (rows cs L)) := by
 subst hn; exact le_snap hid
theorem le_nil {h : Hp} {w : Nat} : LeV (ren (snapR h 3) 3 .nilsl) (.sl 0 w []) := .inr (.inr (.inl ⟨rfl, w, rfl⟩))
theorem LeV.aggR {f : Nat → R} {d : Nat} {cs cs' : List V} (h : LeA (cs.map (ren f d)) cs') : LeV (ren f (d + 1) (.agg cs)) (.agg cs') := LeV.agg h
theorem leE_snap [FlatP cs w] {h : Hp} {id n n' : Nat} {L : List α} (hid : h[id]? = some (some (rows cs L))) (hn : n = L.length) (hn' : n' = L.length) : LeE (ren (snapR h 3) 2 (.osl id 0 n w)) (.sl n' w (rows cs L)) := by
 subst hn hn'
 refine .inl ?_
 simp only [ren, snapR, hid, map_ren_rows, List.drop_zero, take_rows]
theorem lend_one [FlatP cs w] {h : Hp} {id : Nat} {fz : Bool} {L : List α} (hid : h[id]? = some (some (rows cs L))) : pickH [id] h fz = [some (rows cs L)] := by
 simp only [pickH, List.map_cons, List.map_nil, pickB, hid, map_ren_rows]
theorem isMb_cells {l : List V} (h : l.all isCell = true) : isMb l = false := by
 match l, h with
 | [], _ => rfl
 | _ :: _ :: _, _ => rfl
 | [x], h => cases x <;> first | rfl | (simp [isCell] at h)
theorem isMb_rows [FlatP cs w] (L : List α) : isMb (rows cs L) = false := isMb_cells (rows_cell L)
theorem grown_one [FlatP cs w] {L L' : List α} (h : L.length = L'.length) : grown [some (rows cs L)] [some (rows cs L')] := by
 simp [grown, rows_length, h, isMb_rows]

def optO (w : Nat) (R : Option (List α)) : V := match R with
 | some M => .tup [.osl 0 0 M.length w, .bool true]
 | none => .tup [.osl 0 0 0 w, .bool false]
def optOh (cs : α → List V) (R : Option (List α)) : Hp := match R with
 | some M => [some (rows cs M)]
 | none => [some []]
def optN (w : Nat) (R : Option (List α)) : V := match R with
 | some M => .tup [.osl 0 0 M.length w, .bool true]
 | none => .tup [.nilsl, .bool false]
def optNh (cs : α → List V) (R : Option (List α)) : Hp := match R with
 | some M => [some (rows cs M)]
 | none => []
theorem rows_snoc (L : List α) (a : α) : rows cs L ++ cs a = rows cs (L ++ [a]) := by rw [rowsOf_append, rows_one]

theorem LeL_same {f : V → V} : ∀ {l : List V}, l.map f = l → LeL (l.map f) l
 | [], _ => trivial
 | a :: l, h => by
   simp only [List.map_cons, List.cons.injEq] at h
   exact ⟨.inl h.1.symm, LeL_same h.2⟩

theorem splice_mid {A M ns : List V} {n j : Nat} (h : A.length = n) : splice (A ++ M) (n + j) ns = A ++ splice M j ns := by
 subst h
 unfold splice
 rw [List.take_append, List.drop_append, List.take_of_length_le (by omega), List.drop_of_length_le (by omega)]
 simp only [Nat.add_sub_cancel_left, List.nil_append, List.append_assoc]
 congr 3
 congr 1
 omega
theorem splice_mid0 {A M ns : List V} {n : Nat} (h : A.length = n) : splice (A ++ M) n ns = A ++ splice M 0 ns := by
 have := splice_mid (M := M) (ns := ns) (j := 0) h
 rwa [Nat.add_zero] at this

theorem rows_drop_at (h : ∀ a, (cs a).length = w) {L : List α} {i : Nat} (hi : i < L.length) (j : Nat) : (rows cs L).drop (i * w + j) = (cs L[i] ++ rows cs (L.drop (i + 1))).drop j := by
 rw [← List.drop_drop, rows_drop h, List.drop_eq_getElem_cons hi, rows_cons]
theorem apart {L : List α} {i : Nat} (hi : i < L.length) : ∃ A B, L = A ++ L[i] :: B ∧ A.length = i ∧ A = L.take i ∧ B = L.drop (i + 1) := by
 refine ⟨L.take i, L.drop (i + 1), ?_, by simp; omega, rfl, rfl⟩
 rw [← List.drop_eq_getElem_cons hi, List.take_append_drop]

def listedQ (p : α → Bool) (k : α → Int) (L : List α) (i : Nat) : Bool :=
 match L[i]? with
 | none => true
 | some x => p x && match i with
   | 0 => true
   | j + 1 => match L[j]? with
     | none => true
     | some y => decide (k y < k x)

def listedB (p : α → Bool) (k : α → Int) (m : Nat) (L : List α) : Bool := (List.range L.length).all (listedQ p k L) && decide (L.length ≤ m)

theorem range_all_false {q : Nat → Bool} {n i : Nat} (hi : i < n) (h : q i = false) : (List.range n).all q = false := by
 rw [List.all_eq_false]
 exact ⟨i, by simpa using hi, by simp [h]⟩
theorem range_all_succ {q : Nat → Bool} {i : Nat} (h : (List.range i).all q = true) (h1 : q i = true) : (List.range (i + 1)).all q = true := by
 rw [List.range_succ, List.all_append, h]
 simp [h1]
theorem listedB_false {p : α → Bool} {k : α → Int} {m : Nat} {L : List α} {i : Nat} (hi : i < L.length) (h : listedQ p k L i = false) : listedB p k m L = false := by
 rw [listedB, range_all_false hi h]
 rfl
theorem listedQ_zero {p : α → Bool} {k : α → Int} {L : List α} (h0 : 0 < L.length) : listedQ p k L 0 = p L[0] := by simp [listedQ, h0]
theorem listedQ_succ {p : α → Bool} {k : α → Int} {L : List α} {j : Nat} (h : j + 1 < L.length) : listedQ p k L (j + 1) = (p L[j + 1] && decide (k (L[j]'(by omega)) < k L[j + 1])) := by
 have : j < L.length := by omega
 simp [listedQ, h, this]
end

theorem leA {x y : V} (h : LeV x y := by first | exact le_snap rfl | exact .inl rfl | exact le_nil | exact le_snap' rfl (by simp) | exact LeV.aggR (by first | ((repeat' (first | exact True.intro | exact leE_snap rfl (by simp) (by simp) | exact LeE.nil | exact LeE.refl _ | refine And.intro ?_ ?_)); done) | fail)) : LeV x y := h
theorem callT.at {P : Program} {h : Hp} {g : FuncId} {a c args : List V} {K : V → Hp → Prop} {x : Tag K} {as' : List V} {r : V} {hout : Hp} (hs : Ctr P g as' [] r hout) (hle : LeL ((a ++ args ++ c).map (ren (snapR h 3) 3)) as') (hk : K r hout)
   (hro : (a ++ args ++ c).all (noOwn 3) = true ∨ NoRo r ∧ NoRoH hout := by first | exact .inl rfl | exact .inr ⟨noRo_ok 3 rfl, by first | exact NoRoH.nil | exact noRoH_rows _ | exact NoRoH.of (by simp only [hpNoRo, List.all_cons, List.all_nil, rows_noRo, Bool.and_self])⟩)
   (hrf : refOk h 4 (.fn (.func g) a c) = true ∧ args.all (refOk h 3) = true := by first | exact ⟨rfl, rfl⟩ | exact ⟨rfl, by simp [refOk, refV, refB, noOwn, rows_noOwn, rows_refV]⟩ | simp [refOk, refV, refB, noOwn, rows_noOwn, rows_refV]) : callT P h (.fn (.func g) a c) args K x :=
 callT.intro hs hle hro hrf hk
theorem callS.at {P : Program} {t : List V} {h : Hp} {k : Nat} {dst : Option Tmp} {g : FuncId} {a c args : List V} {K : St → Prop} {x : Tag K} {as' : List V} {r : V} {hout : Hp} (hs : Ctr P g as' [] r hout)
   (hle : LeL ((a ++ args ++ c).map (ren (snapR h 3) 3)) as') (hk : K (afterCall ⟨t, h, k⟩ dst r hout))
   (hro : (a ++ args ++ c).all (noOwn 3) = true ∨ NoRo r ∧ NoRoH hout := by first | exact .inl rfl | exact .inr ⟨noRo_ok 3 rfl, by first | exact NoRoH.nil | exact noRoH_rows _ | exact NoRoH.of (by simp only [hpNoRo, List.all_cons, List.all_nil, rows_noRo, Bool.and_self])⟩) : callS P ⟨t, h, k⟩ dst (.fn (.func g) a c) args K x :=
 callS.intro hs hle hro hk
theorem lendA {sel : List Nat} {h hin : Hp} {fz : Bool} (hh : pickH sel h fz = hin := by first | exact lend_one rfl | rfl | (simp only [pickH, List.map_cons, List.map_nil, pickB, List.getElem?_cons_zero, List.getElem?_cons_succ, map_ren_rows]; done)) : pickH sel h fz = hin := hh
theorem leO {x y : V} (h : LeV x y := by first | exact .inl rfl | exact LeV.aggR (by first | ((repeat' (first | exact True.intro | exact LeE.nil | exact LeE.refl _ | refine And.intro ?_ ?_)); done) | fail)) : LeV x y := h
theorem sideA {a b : Prop} (hb : b) (ha : a := by first | omega | with_reducible rfl | (show drawOk _ = true; kernel_rfl) | (simp only [rows_length, rows_cell, List.length_append, List.length_cons, List.length_nil, List.all_append, List.all_cons, List.all_nil, isCell, Nat.mul_one, Nat.one_mul, Bool.and_self]; first | done | omega)) : a ∧ b := ⟨ha, hb⟩
attribute [go_sem] Nat.le_refl Int.toNat_natCast beq_self_eq_true bne_self_eq_false decide_true decide_false eq_self ne_eq Option.some.injEq not_false_eq_true Option.map_some map_ren_rows
attribute [go_sem] Nat.reduceSub Nat.reduceAdd Nat.reduceMul Nat.reduceLT Nat.reduceLeDiff Nat.reduceEqDiff Nat.reduceDiv Nat.reduceMod Int.reduceToNat Int.reduceLE Int.reduceLT Int.reduceBEq Int.reduceBNe Int.reduceNeg Int.reduceAdd Int.reduceSub Int.reduceMul reduceCtorEq
end Go.Lv
end
section
set_option maxRecDepth 100000
namespace Go.Proofs
open Go.Lv
def inB' (n a b : Int) : Bool := decide (a ≤ n) && decide (n ≤ b)
theorem in_ok (n a b : Int) : Ctr Tryd.prog 79 [.int .i64 n, .int .i64 a, .int .i64 b] [] (.bool (inB' n a b)) [] := by
 refine Ctr.intro Tryd.mixed Tryd.func79 rfl Tryd.okF79 ?_
 simp -implicitDefEqProofs -dsimp only [go_sem, Tryd.ntmps79, Tryd.results79]
 refine guardT.splitT (fun h1 => ?_) (fun h1 => ?_) <;> simp -implicitDefEqProofs -dsimp only [go_sem, h1]
 · exact WeakR.of_eq (by simp [inB', h1])
 · exact WeakR.of_eq (by simp [inB', h1])
theorem l1In_ok (n a b : Int) : Ctr Tryd.prog 127 [.int .i64 n, .int .i64 a, .int .i64 b] [] (.bool (inB' n a b)) [] := by
 refine Ctr.intro Tryd.mixed Tryd.func127 rfl Tryd.okF127 ?_
 simp -implicitDefEqProofs -dsimp only [go_sem, Tryd.ntmps127, Tryd.results127]
 refine guardT.splitT (fun h1 => ?_) (fun h1 => ?_) <;> simp -implicitDefEqProofs -dsimp only [go_sem, h1]
 · exact WeakR.of_eq (by simp [inB', h1])
 · exact WeakR.of_eq (by simp [inB', h1])
theorem listedB_all {α : Type} {p : α → Bool} {k : α → Int} {m : Nat} {L : List α} (h : listedB p k m L = true) : (∀ x ∈ L, p x = true) ∧ L.length ≤ m := by
 simp only [listedB, Bool.and_eq_true, decide_eq_true_eq, List.all_eq_true, List.mem_range] at h
 refine ⟨fun x hx => ?_, h.2⟩
 obtain ⟨i, hi, rfl⟩ := List.getElem_of_mem hx
 have := h.1 i hi
 simp only [listedQ, List.getElem?_eq_getElem hi, Bool.and_eq_true] at this
 exact this.1
theorem listedB_lt {α : Type} {p : α → Bool} {k : α → Int} {m : Nat} {L : List α} (h : listedB p k m L = true) : (L.map k).Pairwise (· < ·) := by
 simp only [listedB, Bool.and_eq_true, List.all_eq_true, List.mem_range] at h
 have adj : ∀ j, (hj : j + 1 < L.length) → k (L[j]'(by omega)) < k L[j + 1] := by
   intro j hj
   have := h.1 (j + 1) hj
   rw [listedQ_succ hj] at this
   simp at this
   exact this.2
 rw [List.pairwise_iff_getElem]
 intro i j hi hj hij
 simp only [List.length_map] at hi hj
 simp only [List.getElem_map]
 induction j with
 | zero => omega
 | succ j ih =>
   have h1 := adj j hj
   rcases Nat.lt_succ_iff_lt_or_eq.1 hij with h2 | h2
   · have := ih (by simpa using (by omega : j < L.length)) h2 (by omega)
     omega
   · subst h2; exact h1
def wsum {α : Type} (f : α → Int) (L : List α) : Int := L.foldl (fun a x => IntKind.i64.wrap (a + f x)) 0
theorem wsum_succ {α : Type} (f : α → Int) {L : List α} {i : Nat} (hi : i < L.length) : wsum f (L.take (i + 1)) = IntKind.i64.wrap (wsum f (L.take i) + f L[i]) := by
 rw [List.take_succ_eq_append_getElem hi, wsum, List.foldl_append]
 rfl
def psum {α : Type} (f : α → Int) (L : List α) : Int := (L.map f).sum
theorem psum_succ {α : Type} (f : α → Int) {L : List α} {i : Nat} (hi : i < L.length) : psum f (L.take (i + 1)) = psum f (L.take i) + f L[i] := by
 rw [psum, List.take_succ_eq_append_getElem hi, List.map_append, List.sum_append]
 show _ = (List.map f (List.take i L)).sum + f L[i]
 simp
theorem psum_bound {α : Type} {f : α → Int} {B : Int} : ∀ {L : List α}, (∀ x ∈ L, 0 ≤ f x ∧ f x ≤ B) → 0 ≤ psum f L ∧ psum f L ≤ L.length * B
 | [], _ => by simp [psum]
 | x :: L, h => by
   have h1 := h x (by simp)
   have h2 := psum_bound (L := L) (fun y hy => h y (by simp [hy]))
   have e : psum f (x :: L) = f x + psum f L := by simp [psum]
   rw [e, List.length_cons]
   have : ((L.length + 1 : Nat) : Int) * B = L.length * B + B := by rw [Int.natCast_add, Int.add_mul]; simp
   omega
theorem wsum_psum {α : Type} {f : α → Int} {B : Int} {L : List α} (h : ∀ x ∈ L, 0 ≤ f x ∧ f x ≤ B) (hB : L.length * B ≤ 9223372036854775807) : wsum f L = psum f L := by
 have hB0 : 0 ≤ B ∨ L = [] := by
   cases L with
   | nil => exact .inr rfl
   | cons x L => have := h x (by simp); exact .inl (by omega)
 have key : ∀ i, i ≤ L.length → wsum f (L.take i) = psum f (L.take i) := by
   intro i
   induction i with
   | zero => intro _; simp [wsum, psum]
   | succ i ih =>
     intro hi
     have hi' : i < L.length := hi
     rw [wsum_succ f hi', psum_succ f hi', ih (by omega)]
     have h1 := psum_bound (L := L.take (i + 1)) (fun x hx => h x (List.mem_of_mem_take hx))
     rw [psum_succ f hi'] at h1
     have h2 : (((L.take (i + 1)).length : Nat) : Int) * B ≤ L.length * B := by
       rcases hB0 with h0 | h0
       · exact Int.mul_le_mul_of_nonneg_right (by simp; omega) h0
       · subst h0; simp at hi'
     rw [wrap_i64 (by omega) (by omega)]
 have := key L.length (Nat.le_refl _)
 simpa using this
end Go.Proofs
end
section
set_option maxRecDepth 100000
namespace Go.Proofs
open Go.Lv
structure WeekRow where
 Week : Int
 Events : Int
 Felt : Int
 Picks : Int
 Lost : Int
def WeekRow.cs (r : WeekRow) : List V := [.int .i64 r.Week, .int .i64 r.Events, .int .i64 r.Felt, .int .i64 r.Picks, .int .i64 r.Lost]
def WeekRow.v (r : WeekRow) : V := .agg [.int .i64 r.Week, .int .i64 r.Events, .int .i64 r.Felt, .int .i64 r.Picks, .int .i64 r.Lost]
theorem WeekRow.csl (a : WeekRow) : a.cs.length = 5 := rfl
instance : FlatP WeekRow.cs 5 := ⟨fun _ => rfl, fun _ d => by cases d <;> rfl, fun _ => rfl, fun _ => rfl⟩
def WeekRow.ok (r : WeekRow) : Prop := i64R r.Week ∧ i64R r.Events ∧ i64R r.Felt ∧ i64R r.Picks ∧ i64R r.Lost
abbrev WeekRow.rows (L : List WeekRow) : List V := Go.Lv.rows WeekRow.cs L
abbrev WeekRow.sl (L : List WeekRow) : V := .sl L.length 5 (Go.Lv.rows WeekRow.cs L)
abbrev WeekRow.zs : List V := [.int .i64 0, .int .i64 0, .int .i64 0, .int .i64 0, .int .i64 0]
def WeekRow.mk1 (k : Int) : WeekRow := ⟨k, k + 1, k + 1 + 1, k + 1 + 1 + 1, k + 1 + 1 + 1 + 1⟩
def WeekRow.marks (k : Int) (n : Nat) : List WeekRow := (List.range n).map fun i : Nat => WeekRow.mk1 (k + 5 * (i : Int))
@[simp] theorem WeekRow.marks_len (k : Int) (n : Nat) : (WeekRow.marks k n).length = n := by simp [WeekRow.marks]
theorem areListedWeekRow_ok (L : List WeekRow) (p : WeekRow → Bool) (key : WeekRow → Int) (most : Int) (fv fk : Nat) (vc kc : List V) (hvc : ∀ d, vc.all (noOwn d) = true) (hkc : ∀ d, kc.all (noOwn d) = true) (hv : ∀ x, Ctr Tryd.prog fv (WeekRow.v x :: vc) [] (.bool (p x)) []) (hkey : ∀ x, Ctr Tryd.prog fk (WeekRow.v x :: kc) [] (.int .i64 (key x)) []) (m : Nat) (hm : most = m) (hl : L.length ≤ 281474976710656) :
   Ctr Tryd.prog 64 [WeekRow.sl L, .int .i64 most, .fn (.func fv) [] vc, .fn (.func fk) [] kc] [] (.bool (listedB p key m L)) [] := by
 subst hm
 refine Ctr.intro Tryd.mixed Tryd.func64 rfl Tryd.okF64 ?_
 simp -implicitDefEqProofs -dsimp only [go_sem, Tryd.ntmps64, Tryd.results64]
 have hvc2 : ∀ f d, vc.map (ren f d) = vc := fun f d => map_ren f (hvc d)
 have hkc2 : ∀ f d, kc.map (ren f d) = kc := fun f d => map_ren f (hkc d)
 refine LoopT.intro (fun i : Nat => i ≤ L.length ∧ (List.range i).all (listedQ p key L) = true) (fun i => ⟨[WeekRow.sl L, .int .i64 m, .fn (.func fv) [] vc, .fn (.func fk) [] kc, .undef, .undef, .undef, .undef, .undef, .undef, .undef, WeekRow.sl L, .int .i64 L.length, .int .i64 i, .undef, .undef, .undef, .undef, .undef, .undef, .undef, .undef, .undef, .undef, .undef, .undef, .undef, .undef, .undef, .undef, .undef, .undef, .undef, .undef, .undef, .undef, .undef, .undef, .undef, .undef, .undef, .undef, .undef, .undef], [], 0⟩) (fun i => L.length - i) 0 ⟨Nat.zero_le _, rfl⟩ ?_ (fun i hi => ?_)
 · refine Weak.cut (0) (by simp) (by simp) ?_ ?_
   · simp [LeC, LeV, ren, cutF, hvc2, hkc2]
   · rfl
 simp -implicitDefEqProofs -dsimp only [go_sem]
 refine condT.split (fun h1 => ?_) (fun h1 => ?_)
 · simp -implicitDefEqProofs -dsimp only [go_sem, h1]
   have hi' : i < L.length := by simpa using h1
   have h5 := WeekRow.csl L[i]
   have hr := rows_at WeekRow.csl hi'
   (repeat1' (first | simp -implicitDefEqProofs -dsimp only [go_sem, hr, WeekRow.cs] | simp -dsimp (disch := omega) only [wrap_i64]))
   repeat (with_reducible refine sideA ?_)
   refine callT.intro (hv L[i]) ⟨.inl rfl, LeL_same (hvc2 _ _)⟩ (.inl (by simp only [List.nil_append, List.cons_append, List.all_cons, hvc, Bool.and_true]; rfl)) ⟨refOk_fn (hvc 3), rfl⟩ ?_
   simp -implicitDefEqProofs -dsimp only [go_sem]
   refine guardT.splitF (fun h2 => ?_) (fun h2 => ?_) <;> simp -implicitDefEqProofs -dsimp only [go_sem, h2]
   · have hw : p L[i] = true := by simpa using h2
     refine guardT.splitT (fun h3 => ?_) (fun h3 => ?_) <;> simp -implicitDefEqProofs -dsimp only [go_sem, h3]
     · obtain ⟨j, rfl⟩ : ∃ j, i = j + 1 := ⟨i - 1, by simp at h3; omega⟩
       have hj : j < L.length := by omega
       refine callT.intro (hkey L[j + 1]) ⟨.inl rfl, LeL_same (hkc2 _ _)⟩ (.inl (by simp only [List.nil_append, List.cons_append, List.all_cons, hkc, Bool.and_true]; rfl)) ⟨refOk_fn (hkc 3), rfl⟩ ?_
       have hw1 : IntKind.i64.wrap (((j + 1 : Nat) : Int) - 1) = (j : Int) := by rw [wrap_i64 (by omega) (by omega)]; omega
       have hr2 := rows_at WeekRow.csl hj
       (repeat1' (first | simp -implicitDefEqProofs -dsimp only [go_sem, hw1, hr2, WeekRow.cs] | simp -dsimp (disch := omega) only [wrap_i64]))
       repeat (with_reducible refine sideA ?_)
       refine callT.intro (hkey L[j]) ⟨.inl rfl, LeL_same (hkc2 _ _)⟩ (.inl (by simp only [List.nil_append, List.cons_append, List.all_cons, hkc, Bool.and_true]; rfl)) ⟨refOk_fn (hkc 3), rfl⟩ ?_
       (repeat1' (first | simp -implicitDefEqProofs -dsimp only [go_sem] | simp -dsimp (disch := omega) only [wrap_i64]))
       refine condT.split (fun h4 => ?_) (fun h4 => ?_) <;> simp -implicitDefEqProofs -dsimp only [go_sem, h4]
       · refine WeakR.drop' ?_ rfl
         have hq : listedQ p key L (j + 1) = false := by
           rw [listedQ_succ hi', hw]
           simp at h4 ⊢
           omega
         rw [listedB_false hi' hq]
       · refine ⟨j + 1 + 1, ⟨hi', range_all_succ hi.2 (by rw [listedQ_succ hi', hw]; simp at h4 ⊢; omega)⟩, ?_, by omega⟩
         refine Weak.cut (0) (by simp) (by simp) ?_ ?_
         · rw [wrap_i64 (by omega) (by omega)]
           simp [LeC, LeV, ren, cutF, hvc2, hkc2]
         · rfl
     · have h0 : i = 0 := by simp at h3; omega
       refine ⟨i + 1, ⟨hi', range_all_succ hi.2 (by subst h0; rw [listedQ_zero hi', hw])⟩, ?_, by omega⟩
       refine Weak.cut (0) (by simp) (by simp) ?_ ?_
       · rw [wrap_i64 (by omega) (by omega)]
         simp [LeC, LeV, ren, cutF, hvc2, hkc2]
       · rfl
   · have hw : p L[i] = false := by simpa using h2
     refine WeakR.drop' ?_ rfl
     have hq : listedQ p key L i = false := by simp [listedQ, hi', hw]
     rw [listedB_false hi' hq]
 · simp -implicitDefEqProofs -dsimp only [go_sem, h1]
   refine WeakR.drop' ?_ rfl
   have : i = L.length := by simp at h1; omega
   subst this
   rw [listedB, hi.2]
   simp
   try omega
end Go.Proofs
end
section
set_option maxRecDepth 100000
namespace Go.Proofs
open Go.Lv
def wrB (r : WeekRow) : Bool := inB' r.Week 1 5000 && inB' r.Events 0 9999 && inB' r.Felt 0 r.Events && inB' r.Picks 0 99999 && inB' r.Lost 0 9999
theorem l26One_ok (r : WeekRow) : Ctr Tryd.prog 78 [r.v] [] (.bool (wrB r)) [] := by
 refine Ctr.intro Tryd.mixed Tryd.func78 rfl Tryd.okF78 ?_
 simp -implicitDefEqProofs -dsimp only [go_sem, Tryd.ntmps78, Tryd.results78]
 simp -implicitDefEqProofs -dsimp only [go_sem, WeekRow.v]
 repeat' (first | (refine WeakR.drop' ?_ rfl; (simp [wrB, *]; done)) | ((first | refine callT.at (l1In_ok _ _ _) ⟨.inl rfl, .inl rfl, .inl rfl, trivial⟩ ?_ | refine callS.at (l1In_ok _ _ _) ⟨.inl rfl, .inl rfl, .inl rfl, trivial⟩ ?_); simp -implicitDefEqProofs -dsimp only [go_sem, *]) | (refine guardT.splitT (fun _ => ?_) (fun _ => ?_) <;> simp -implicitDefEqProofs -dsimp only [go_sem, *]))
theorem iIsWeekRow_ok (r : WeekRow) : Ctr Tryd.prog 22 [r.v] [] (.bool (wrB r)) [] := by
 refine Ctr.intro Tryd.mixed Tryd.func22 rfl Tryd.okF22 ?_
 simp -implicitDefEqProofs -dsimp only [go_sem, Tryd.ntmps22, Tryd.results22]
 simp -implicitDefEqProofs -dsimp only [go_sem, WeekRow.v]
 repeat' (first | (refine WeakR.drop' ?_ rfl; (simp [wrB, *]; done)) | ((first | refine callT.at (in_ok _ _ _) ⟨.inl rfl, .inl rfl, .inl rfl, trivial⟩ ?_ | refine callS.at (in_ok _ _ _) ⟨.inl rfl, .inl rfl, .inl rfl, trivial⟩ ?_); simp -implicitDefEqProofs -dsimp only [go_sem, *]) | (refine guardT.splitT (fun _ => ?_) (fun _ => ?_) <;> simp -implicitDefEqProofs -dsimp only [go_sem, *]))
def wrsB (L : List WeekRow) : Bool := listedB wrB WeekRow.Week 12 L
theorem l26Good_ok (L : List WeekRow) (hl : L.length ≤ 281474976710656) : Ctr Tryd.prog 63 [WeekRow.sl L] [] (.bool (wrsB L)) [] := by
 refine Ctr.intro Tryd.mixed Tryd.func63 rfl Tryd.okF63 ?_
 simp -implicitDefEqProofs -dsimp only [go_sem, Tryd.ntmps63, Tryd.results63]
 refine LoopT.intro (fun i : Nat => i ≤ L.length ∧ (List.range i).all (listedQ wrB WeekRow.Week L) = true) (fun i => ⟨[WeekRow.sl L, .undef, .undef, .int .i64 i, .undef, .undef, .undef, .undef, .undef, .undef, .undef, .undef, .undef, .undef, .undef, .undef, .undef, .undef, .undef, .undef, .undef, .undef, .undef, .undef, .undef, .undef, .undef, .undef, .undef, .undef, .undef, .undef, .undef, .undef, .undef, .undef, .undef], [], 0⟩) (fun i => L.length - i) 0 ⟨Nat.zero_le _, rfl⟩ ?_ (fun i hi => ?_)
 · refine Weak.cut (0) (by simp) (by simp) ?_ ?_
   · simp [LeC, LeV, ren, cutF]
   · rfl
 simp -implicitDefEqProofs -dsimp only [go_sem]
 refine condT.split (fun h1 => ?_) (fun h1 => ?_)
 · simp -implicitDefEqProofs -dsimp only [go_sem, h1]
   have hi' : i < L.length := by simpa using h1
   have h5 := WeekRow.csl L[i]
   have hr := rows_at WeekRow.csl hi'
   simp -implicitDefEqProofs -dsimp only [go_sem, hr]
   repeat (with_reducible refine sideA ?_)
   (first | refine callT.at (l26One_ok L[i]) ⟨.inl rfl, trivial⟩ ?_ | refine callS.at (l26One_ok L[i]) ⟨.inl rfl, trivial⟩ ?_)
   simp -implicitDefEqProofs -dsimp only [go_sem]
   refine guardT.splitF (fun h2 => ?_) (fun h2 => ?_) <;> simp -implicitDefEqProofs -dsimp only [go_sem, h2]
   · have hw : wrB L[i] = true := by simpa using h2
     refine guardT.splitT (fun h3 => ?_) (fun h3 => ?_) <;> simp -implicitDefEqProofs -dsimp only [go_sem, h3]
     · obtain ⟨j, rfl⟩ : ∃ j, i = j + 1 := ⟨i - 1, by simp at h3; omega⟩
       have hj : j < L.length := by omega
       have hw1 : IntKind.i64.wrap (((j + 1 : Nat) : Int) - 1) = (j : Int) := by rw [wrap_i64 (by omega) (by omega)]; omega
       have hr2 := rows_at WeekRow.csl hj
       simp -implicitDefEqProofs -dsimp only [go_sem, hw1, hr, hr2, WeekRow.cs]
       repeat (with_reducible refine sideA ?_)
       refine condT.split (fun h4 => ?_) (fun h4 => ?_) <;> simp -implicitDefEqProofs -dsimp only [go_sem, h4]
       · refine WeakR.drop' ?_ rfl
         have hq : listedQ wrB WeekRow.Week L (j + 1) = false := by
           rw [listedQ_succ hi', hw]
           simp at h4 ⊢
           omega
         rw [wrsB, listedB_false hi' hq]
       · refine ⟨j + 1 + 1, ⟨hi', range_all_succ hi.2 (by rw [listedQ_succ hi', hw]; simp at h4 ⊢; omega)⟩, ?_, by omega⟩
         refine Weak.cut (0) (by simp) (by simp) ?_ ?_
         · rw [wrap_i64 (by omega) (by omega)]
           simp [LeC, LeV, ren, cutF]
         · rfl
     · have h0 : i = 0 := by simp at h3; omega
       refine ⟨i + 1, ⟨hi', range_all_succ hi.2 (by subst h0; rw [listedQ_zero hi', hw])⟩, ?_, by omega⟩
       refine Weak.cut (0) (by simp) (by simp) ?_ ?_
       · rw [wrap_i64 (by omega) (by omega)]
         simp [LeC, LeV, ren, cutF]
       · rfl
   · have hw : wrB L[i] = false := by simpa using h2
     refine WeakR.drop' ?_ rfl
     have hq : listedQ wrB WeekRow.Week L i = false := by simp [listedQ, hi', hw]
     rw [wrsB, listedB_false hi' hq]
 · simp -implicitDefEqProofs -dsimp only [go_sem, h1]
   refine WeakR.drop' ?_ rfl
   have : i = L.length := by simp at h1; omega
   subst this
   rw [wrsB, listedB, hi.2]
   simp
   try omega
theorem weekOf_ok (r : WeekRow) : Ctr Tryd.prog 65 [r.v] [] (.int .i64 r.Week) [] := by
 refine Ctr.intro Tryd.mixed Tryd.func65 rfl Tryd.okF65 ?_
 simp -implicitDefEqProofs -dsimp only [go_sem, Tryd.ntmps65, Tryd.results65]
 simp -implicitDefEqProofs -dsimp only [go_sem, WeekRow.v]
 exact WeakR.drop' rfl rfl
theorem iAreWeekRows_ok (L : List WeekRow) (hl : L.length ≤ 281474976710656) : Ctr Tryd.prog 12 [WeekRow.sl L] [] (.bool (wrsB L)) [] := by
 refine Ctr.intro Tryd.mixed Tryd.func12 rfl Tryd.okF12 ?_
 simp -implicitDefEqProofs -dsimp only [go_sem, Tryd.ntmps12, Tryd.results12]
 refine callS.intro (areListedWeekRow_ok L wrB WeekRow.Week 12 _ _ [] [] (fun _ => rfl) (fun _ => rfl) iIsWeekRow_ok weekOf_ok 12 rfl hl) ⟨.inl rfl, .inl rfl, .inl rfl, .inl rfl, trivial⟩ (.inl rfl) ?_
 simp -implicitDefEqProofs -dsimp only [go_sem]
 exact WeakR.drop' rfl rfl
theorem wrB_iff {r : WeekRow} : wrB r = true ↔ (1 ≤ r.Week ∧ r.Week ≤ 5000) ∧ (0 ≤ r.Events ∧ r.Events ≤ 9999) ∧ (0 ≤ r.Felt ∧ r.Felt ≤ r.Events) ∧ (0 ≤ r.Picks ∧ r.Picks ≤ 99999) ∧ 0 ≤ r.Lost ∧ r.Lost ≤ 9999 := by
 simp [wrB, inB', and_assoc]
def tot (L : List WeekRow) : WeekRow := ⟨0, wsum WeekRow.Events L, wsum WeekRow.Felt L, wsum WeekRow.Picks L, wsum WeekRow.Lost L⟩
theorem totals_ok (L : List WeekRow) (hl : L.length ≤ 281474976710656) : Ctr Tryd.prog 62 [WeekRow.sl L] [] (tot L).v [] := by
 refine Ctr.intro Tryd.mixed Tryd.func62 rfl Tryd.okF62 ?_
 simp -implicitDefEqProofs -dsimp only [go_sem, Tryd.ntmps62, Tryd.results62]
 refine LoopT.intro (fun i : Nat => i ≤ L.length) (fun i => ⟨[.undef, .undef, .ptr 0 0, .ptr 1 0, .undef, .undef, .undef, WeekRow.sl L, .int .i64 L.length, .int .i64 i, .undef, .undef, .undef, .undef, .undef, .undef, .undef, .undef, .undef, .undef, .undef, .undef, .undef, .undef, .undef, .undef, .undef, .undef, .undef, .undef, .undef, .undef, .undef, .undef, .undef, .undef, .undef, .undef, .undef], [some WeekRow.zs, some (tot (L.take i)).cs], 0⟩) (fun i => L.length - i) 0 (Nat.zero_le _) ?_ (fun i hi => ?_)
 · refine Weak.cut (2) (by simp) (by simp) ?_ ?_
   · simp [LeC, LeV, ren, cutF]
   · rfl
 simp -implicitDefEqProofs -dsimp only [go_sem]
 refine condT.split (fun h1 => ?_) (fun h1 => ?_)
 · simp -implicitDefEqProofs -dsimp only [go_sem, h1]
   have hi' : i < L.length := by simpa using h1
   have h5 := WeekRow.csl L[i]
   have hr := rows_at WeekRow.csl hi'
   simp -implicitDefEqProofs -dsimp only [go_sem, hr, WeekRow.cs, tot]
   repeat (with_reducible refine sideA ?_)
   refine ⟨i + 1, hi', ?_, by omega⟩
   refine Weak.cut (2) (by simp) (by simp) ?_ ?_
   · rw [wrap_i64 (by omega) (by omega)]
     simp [LeC, LeV, ren, cutF]
   · simp [cutH, cutB, ren, wsum_succ _ hi']
 · simp -implicitDefEqProofs -dsimp only [go_sem, h1, WeekRow.cs, tot]
   have : i = L.length := by simp at h1; omega
   subst this
   exact WeakR.drop' (by simp [WeekRow.v, tot]) rfl
end Go.Proofs
end
section
set_option maxRecDepth 100000
namespace Go.Proofs
open Go.Lv
theorem wrsB_all {L : List WeekRow} (h : wrsB L = true) : (∀ x ∈ L, wrB x = true) ∧ L.length ≤ 12 := listedB_all h
theorem wrs_events {L : List WeekRow} (h : ∀ x ∈ L, wrB x = true) : ∀ x ∈ L, 0 ≤ x.Events ∧ x.Events ≤ 9999 := fun x hx => (wrB_iff.1 (h x hx)).2.1
theorem wrs_felt {L : List WeekRow} (h : ∀ x ∈ L, wrB x = true) : ∀ x ∈ L, 0 ≤ x.Felt ∧ x.Felt ≤ 9999 := fun x hx => by
 have := wrB_iff.1 (h x hx); omega
theorem psum_take_le {α : Type} {f : α → Int} {B : Int} {L : List α} (h : ∀ x ∈ L, 0 ≤ f x ∧ f x ≤ B) (hB : 0 ≤ B) {n : Nat} (hn : L.length ≤ n) (i : Nat) : 0 ≤ psum f (L.take i) ∧ psum f (L.take i) ≤ n * B := by
 have h1 := psum_bound (L := L.take i) (fun x hx => h x (List.mem_of_mem_take hx))
 have h2 : (((L.take i).length : Nat) : Int) * B ≤ n * B := Int.mul_le_mul_of_nonneg_right (by simp; omega) hB
 omega
end Go.Proofs
end
section
set_option maxRecDepth 100000
set_option maxHeartbeats 1000000
namespace Go.Proofs
open Go.Lv
def addR (x r : WeekRow) : WeekRow := ⟨r.Week, x.Events + r.Events, x.Felt + r.Felt, x.Picks + r.Picks, x.Lost + r.Lost⟩
def putW : List WeekRow → WeekRow → List WeekRow
 | [], r => [r]
 | x :: S, r => if x.Week < r.Week then x :: putW S r else if x.Week = r.Week then addR x r :: S else r :: x :: S
def Asc (S : List WeekRow) : Prop := S.Pairwise fun x y => x.Week < y.Week
theorem putW_mem {S : List WeekRow} {r y : WeekRow} (h : y ∈ putW S r) : y.Week = r.Week ∨ y ∈ S := by
 induction S with
 | nil => simp [putW] at h; simp [h]
 | cons x S ih =>
   rw [putW] at h
   split at h
   · rcases List.mem_cons.1 h with h | h
     · simp [h]
     · rcases ih h with h | h
       · exact .inl h
       · exact .inr (List.mem_cons_of_mem _ h)
   · split at h
     · rcases List.mem_cons.1 h with h | h
       · exact .inl (by rw [h]; rfl)
       · exact .inr (List.mem_cons_of_mem _ h)
     · rcases List.mem_cons.1 h with h | h
       · exact .inl (by rw [h])
       · exact .inr h
theorem putW_asc {S : List WeekRow} {r : WeekRow} (h : Asc S) : Asc (putW S r) := by
 induction S with
 | nil => exact List.pairwise_singleton _ _
 | cons x S ih =>
   obtain ⟨h1, h2⟩ := List.pairwise_cons.1 h
   rw [putW]
   split
   · rename_i hx
     refine List.pairwise_cons.2 ⟨fun y hy => ?_, ih h2⟩
     rcases putW_mem hy with e | e
     · rw [e]; exact hx
     · exact h1 y e
   · rename_i hx
     split
     · rename_i hq
       refine List.pairwise_cons.2 ⟨fun y hy => ?_, h2⟩
       have := h1 y hy
       show r.Week < y.Week
       omega
     · rename_i hq
       refine List.pairwise_cons.2 ⟨fun y hy => ?_, h⟩
       rcases List.mem_cons.1 hy with e | e
       · rw [e]; omega
       · have := h1 y e; omega
theorem putW_new {S : List WeekRow} {r : WeekRow} (h : ∀ x ∈ S, x.Week ≠ r.Week) : (putW S r).Perm (r :: S) := by
 induction S with
 | nil => exact List.Perm.refl _
 | cons x S ih =>
   rw [putW]
   split
   · exact ((ih fun y hy => h y (List.mem_cons_of_mem _ hy)).cons x).trans (List.Perm.swap _ _ _)
   · rw [if_neg (h x (List.mem_cons_self ..))]
theorem putW_old {S : List WeekRow} {r x : WeekRow} (h : Asc S) (hx : x ∈ S) (hw : x.Week = r.Week) : ∃ T, S.Perm (x :: T) ∧ (putW S r).Perm (addR x r :: T) := by
 induction S with
 | nil => simp at hx
 | cons y S ih =>
   obtain ⟨h1, h2⟩ := List.pairwise_cons.1 h
   rw [putW]
   rcases List.mem_cons.1 hx with e | e
   · subst e
     rw [if_neg (by omega), if_pos hw]
     exact ⟨S, List.Perm.refl _, List.Perm.refl _⟩
   · have := h1 x e
     rw [if_pos (by omega)]
     obtain ⟨T, p1, p2⟩ := ih h2 e
     exact ⟨y :: T, (p1.cons y).trans (List.Perm.swap _ _ _), (p2.cons y).trans (List.Perm.swap _ _ _)⟩
theorem putW_len (S : List WeekRow) (r : WeekRow) : (putW S r).length ≤ S.length + 1 := by
 induction S with
 | nil => simp [putW]
 | cons x S ih =>
   rw [putW]
   split
   · simp only [List.length_cons]; omega
   · split <;> simp only [List.length_cons] <;> omega
theorem putW_at {S : List WeekRow} {r : WeekRow} : ∀ {k : Nat}, k ≤ S.length → (∀ j (hj : j < S.length), j < k → S[j].Week < r.Week) → (∀ hk : k < S.length, r.Week ≤ S[k].Week) → putW S r = S.take k ++ (match S.drop k with
   | [] => [r]
   | x :: R => if x.Week = r.Week then addR x r :: R else r :: x :: R) := by
 induction S with
 | nil => intro k hk _ _; simp at hk; subst hk; rfl
 | cons x S ih =>
   intro k hk h1 h2
   cases k with
   | zero =>
     have := h2 (by simp)
     simp only [List.getElem_cons_zero] at this
     rw [putW, if_neg (by omega)]
     simp
   | succ k =>
     have := h1 0 (by simp) (by omega)
     simp only [List.getElem_cons_zero] at this
     rw [putW, if_pos this, ih (k := k) (by simpa using hk) (fun j hj hjk => h1 (j + 1) (by simpa using hj) (by omega)) (fun hk => h2 (by simpa using hk))]
     simp
def joinS (a b : List WeekRow) : List WeekRow := b.foldl putW a
theorem joinS_take {a b : List WeekRow} {i : Nat} (hi : i < b.length) : joinS a (b.take (i + 1)) = putW (joinS a (b.take i)) b[i] := by
 rw [joinS, List.take_succ_eq_append_getElem hi, List.foldl_append]; rfl
theorem joinS_len (a b : List WeekRow) : (joinS a b).length ≤ a.length + b.length := by
 induction b generalizing a with
 | nil => simp [joinS]
 | cons r b ih =>
   have := ih (putW a r)
   have h2 := putW_len a r
   have e : joinS a (r :: b) = joinS (putW a r) b := rfl
   rw [e, List.length_cons]; omega
theorem joinS_asc {a : List WeekRow} (b : List WeekRow) (h : Asc a) : Asc (joinS a b) := by
 induction b generalizing a with
 | nil => exact h
 | cons r b ih => exact ih (putW_asc h)
def weekP (w : Int) (x : WeekRow) : Bool := x.Week == w
def outW (a O : List WeekRow) (r : WeekRow) : List WeekRow := match a.findIdx? (weekP r.Week) with
 | none => O ++ [r]
 | some k => match a[k]? with
   | none => O
   | some x => O.set k (addR x r)
def joinO (a b : List WeekRow) : List WeekRow := b.foldl (outW a) a
theorem joinO_take {a b : List WeekRow} {i : Nat} (hi : i < b.length) : joinO a (b.take (i + 1)) = outW a (joinO a (b.take i)) b[i] := by
 rw [joinO, List.take_succ_eq_append_getElem hi, List.foldl_append]; rfl
theorem outW_none {a O : List WeekRow} {r : WeekRow} (h : a.findIdx? (weekP r.Week) = none) : outW a O r = O ++ [r] := by rw [outW, h]
theorem outW_some {a O : List WeekRow} {r : WeekRow} {k : Nat} (h : a.findIdx? (weekP r.Week) = some k) (hk : k < a.length) : outW a O r = O.set k (addR a[k] r) := by
 rw [outW, h]; simp only [List.getElem?_eq_getElem hk]
structure JoinI (a S O : List WeekRow) (D : List WeekRow) : Prop where
 asc : Asc S
 perm : S.Perm O
 len : a.length ≤ O.length
 up : O.length ≤ a.length + D.length
 keep : ∀ k (hk : k < a.length), (∀ r ∈ D, r.Week ≠ a[k].Week) → O[k]? = some a[k]
 wk : ∀ k (hk : k < a.length), ∃ x, O[k]? = some x ∧ x.Week = a[k].Week
 new : ∀ k, a.length ≤ k → ∀ x, O[k]? = some x → ∃ r ∈ D, r.Week = x.Week
theorem joinI_step {a S O D : List WeekRow} {r : WeekRow} (I : JoinI a S O D) (hr : ∀ d ∈ D, d.Week ≠ r.Week) : JoinI a (putW S r) (outW a O r) (D ++ [r]) := by
 have hlen := I.len
 have hup := I.up
 cases h : a.findIdx? (weekP r.Week) with
 | none =>
   have hn : ∀ x ∈ a, x.Week ≠ r.Week := fun x hx => by
     have := (List.findIdx?_eq_none_iff.1 h) x hx
     simpa [weekP] using this
   have hO : ∀ x ∈ O, x.Week ≠ r.Week := by
     intro x hx
     obtain ⟨k, hk, rfl⟩ := List.getElem_of_mem hx
     rcases Nat.lt_or_ge k a.length with h1 | h1
     · obtain ⟨y, hy, hyw⟩ := I.wk k h1
       rw [List.getElem?_eq_getElem hk] at hy
       simp only [Option.some.injEq] at hy
       rw [hy, hyw]
       exact hn _ (List.getElem_mem h1)
     · obtain ⟨d, hd, hdw⟩ := I.new k h1 _ (List.getElem?_eq_getElem hk)
       rw [← hdw]
       exact hr d hd
   rw [outW_none h]
   refine ⟨putW_asc I.asc, ?_, by simp; omega, by simp; omega, fun k hk hd => ?_, fun k hk => ?_, fun k hk x hx => ?_⟩
   · refine (putW_new fun x hx => hO x (I.perm.mem_iff.1 hx)).trans ((I.perm.cons r).trans ?_)
     exact (List.perm_append_singleton r O).symm
   · rw [List.getElem?_append_left (by omega)]
     exact I.keep k hk fun d hd' => hd d (List.mem_append_left _ hd')
   · rw [List.getElem?_append_left (by omega)]
     exact I.wk k hk
   · rcases Nat.lt_or_ge k O.length with h1 | h1
     · rw [List.getElem?_append_left h1] at hx
       obtain ⟨d, hd, hdw⟩ := I.new k hk x hx
       exact ⟨d, List.mem_append_left _ hd, hdw⟩
     · rw [List.getElem?_append_right h1] at hx
       have := List.mem_of_getElem? hx
       simp only [List.mem_singleton] at this
       exact ⟨r, by simp, by rw [this]⟩
 | some k =>
   obtain ⟨hk, h1, h2⟩ := List.findIdx?_eq_some_iff_getElem.1 h
   have hkw : a[k].Week = r.Week := by simpa [weekP] using h1
   have hOk := I.keep k hk fun d hd => by rw [hkw]; exact hr d hd
   have hkO : k < O.length := by omega
   have hOk' : O[k] = a[k] := by rw [List.getElem?_eq_getElem hkO] at hOk; exact Option.some.inj hOk
   have hin : a[k] ∈ S := I.perm.mem_iff.2 (by rw [← hOk']; exact List.getElem_mem hkO)
   obtain ⟨T, p1, p2⟩ := putW_old I.asc hin hkw
   rw [outW_some h hk]
   have hcut : O = O.take k ++ a[k] :: O.drop (k + 1) := by rw [← hOk', List.getElem_cons_drop, List.take_append_drop]
   have hset : O.set k (addR a[k] r) = O.take k ++ addR a[k] r :: O.drop (k + 1) := by rw [List.set_eq_take_append_cons_drop, if_pos hkO]
   refine ⟨putW_asc I.asc, ?_, by simpa using hlen, by simp; omega, fun j hj hd => ?_, fun j hj => ?_, fun j hj x hx => ?_⟩
   · have q0 : O.Perm (a[k] :: (O.take k ++ O.drop (k + 1))) := by
       conv => lhs; rw [hcut]
       exact List.perm_middle
     have q := p1.symm.trans (I.perm.trans q0)
     rw [hset]
     exact p2.trans (((List.Perm.cons_inv q).cons _).trans List.perm_middle.symm)
   · have hjk : k ≠ j := by
       rintro rfl
       exact hd r (by simp) hkw.symm
     rw [List.getElem?_set_ne hjk]
     exact I.keep j hj fun d hd' => hd d (List.mem_append_left _ hd')
   · by_cases hjk : k = j
     · subst hjk
       exact ⟨addR a[k] r, by rw [List.getElem?_set_self hkO], by rw [hkw]; rfl⟩
     · rw [List.getElem?_set_ne hjk]
       exact I.wk j hj
   · rw [List.getElem?_set_ne (by omega)] at hx
     obtain ⟨d, hd, hdw⟩ := I.new j hj x hx
     exact ⟨d, List.mem_append_left _ hd, hdw⟩
theorem asc_of {L : List WeekRow} (h : wrsB L = true) : Asc L := List.pairwise_map.1 (listedB_lt h)
theorem joinI_all {a b : List WeekRow} (ha : Asc a) (hb : Asc b) : ∀ i, i ≤ b.length → JoinI a (joinS a (b.take i)) (joinO a (b.take i)) (b.take i)
 | 0, _ => ⟨ha, List.Perm.refl _, Nat.le_refl _, by simp [joinO], fun k hk _ => List.getElem?_eq_getElem hk, fun k hk => ⟨_, List.getElem?_eq_getElem hk, rfl⟩, fun k hk x hx => by
   rw [List.take_zero, joinO, List.foldl_nil, List.getElem?_eq_none hk] at hx
   cases hx⟩
 | i + 1, hi => by
   rw [joinS_take hi, joinO_take hi, List.take_succ_eq_append_getElem hi]
   refine joinI_step (joinI_all ha hb i (by omega)) fun d hd => ?_
   obtain ⟨j, hj, rfl⟩ := List.getElem_of_mem hd
   have hj' : j < i := by simp at hj; omega
   rw [List.getElem_take]
   have := (List.pairwise_iff_getElem.1 hb) j i (by omega) hi hj'
   omega
theorem take_ne {b : List WeekRow} (hb : Asc b) {i : Nat} (hi : i < b.length) : ∀ d ∈ b.take i, d.Week ≠ b[i].Week := by
 intro d hd
 obtain ⟨j, hj, rfl⟩ := List.getElem_of_mem hd
 have hj' : j < i := by simp at hj; omega
 rw [List.getElem_take]
 have := (List.pairwise_iff_getElem.1 hb) j i (by omega) hi hj'
 omega
theorem join_old {a b : List WeekRow} (ha : Asc a) (hb : Asc b) {i : Nat} (hi : i < b.length) {x : WeekRow} (hx : x ∈ joinS a (b.take i)) (hw : x.Week = b[i].Week) : x ∈ a := by
 have I := joinI_all ha hb i (by omega)
 have hne := take_ne hb hi
 obtain ⟨k, hk, rfl⟩ := List.getElem_of_mem (I.perm.mem_iff.1 hx)
 rcases Nat.lt_or_ge k a.length with h1 | h1
 · obtain ⟨y, hy, hyw⟩ := I.wk k h1
   rw [List.getElem?_eq_getElem hk] at hy
   have hy := Option.some.inj hy
   rw [← hy] at hyw
   have hkk := I.keep k h1 fun r hr => by rw [← hyw, hw]; exact hne r hr
   rw [List.getElem?_eq_getElem hk] at hkk
   rw [Option.some.inj hkk]
   exact List.getElem_mem h1
 · obtain ⟨r, hr, hrw⟩ := I.new k h1 _ (List.getElem?_eq_getElem hk)
   exact absurd (hrw.trans hw) (hne r hr)
theorem join_idx {a b : List WeekRow} (ha : Asc a) (hb : Asc b) {i : Nat} (hi : i < b.length) {k : Nat} (h : a.findIdx? (weekP b[i].Week) = some k) : ∃ hk : k < a.length, a[k].Week = b[i].Week ∧ (joinO a (b.take i))[k]? = some a[k] := by
 obtain ⟨hk, h1, _⟩ := List.findIdx?_eq_some_iff_getElem.1 h
 have I := joinI_all ha hb i (by omega)
 have hkw : a[k].Week = b[i].Week := by simpa [weekP] using h1
 exact ⟨hk, hkw, I.keep k hk fun d hd => by rw [hkw]; exact take_ne hb hi d hd⟩
theorem asc_unique : ∀ {S D : List WeekRow}, Asc S → D.Pairwise (fun x y => x.Week ≤ y.Week) → D.Perm S → D = S
 | [], D, _, _, h => List.Perm.eq_nil h
 | s :: S, [], _, _, h => absurd h.length_eq (by simp)
 | s :: S, d :: D, hs, hd, h => by
   obtain ⟨s1, s2⟩ := List.pairwise_cons.1 hs
   obtain ⟨d1, d2⟩ := List.pairwise_cons.1 hd
   have e : d = s := by
     have m1 : d ∈ s :: S := h.mem_iff.1 (List.mem_cons_self ..)
     have m2 : s ∈ d :: D := h.mem_iff.2 (List.mem_cons_self ..)
     rcases List.mem_cons.1 m1 with e | e
     · exact e
     · rcases List.mem_cons.1 m2 with e2 | e2
       · exact e2.symm
       · have h1 := s1 d e
         have h2 := d1 s e2
         omega
   subst e
   rw [asc_unique s2 d2 (List.Perm.cons_inv h)]
end Go.Proofs
end
section
namespace Go.Lv
def idxI {α : Type} (p : α → Bool) (L : List α) : Int := match L.findIdx? p with
 | some i => i
 | none => -1
theorem idxI_found {α : Type} {p : α → Bool} {L : List α} {i : Nat} (h : i < L.length) (h0 : (L.take i).any p = false) (h1 : p L[i] = true) : idxI p L = i := by
 have : L.findIdx? p = some i := by
   rw [List.findIdx?_eq_some_iff_getElem]
   refine ⟨h, h1, fun j hj => ?_⟩
   have := List.any_eq_false.1 h0 L[j] (by rw [List.mem_take_iff_getElem]; exact ⟨j, by omega, rfl⟩)
   simpa using this
 simp [idxI, this]
theorem idxI_none {α : Type} {p : α → Bool} {L : List α} (h : L.any p = false) : idxI p L = -1 := by
 have : L.findIdx? p = none := by
   rw [List.findIdx?_eq_none_iff]
   intro x hx
   have := List.any_eq_false.1 h x hx
   simpa using this
 simp [idxI, this]
end Go.Lv
end
section
set_option maxRecDepth 100000
namespace Go.Proofs
open Go.Lv
theorem indexFuncWeekRow_ok (L : List WeekRow) (p : WeekRow → Bool) (fv : Nat) (vc : List V) (hvc : ∀ d, vc.all (noOwn d) = true) (hv : ∀ x, Ctr Tryd.prog fv (WeekRow.v x :: vc) [] (.bool (p x)) []) (hl : L.length ≤ 281474976710656) :
   Ctr Tryd.prog 72 [WeekRow.sl L, .fn (.func fv) [] vc] [] (.int .i64 (idxI p L)) [] := by
 refine Ctr.intro Tryd.mixed Tryd.func72 rfl Tryd.okF72 ?_
 simp -implicitDefEqProofs -dsimp only [go_sem, Tryd.ntmps72, Tryd.results72]
 have hvc2 : ∀ f d, vc.map (ren f d) = vc := fun f d => map_ren f (hvc d)
 refine LoopT.intro (fun i : Nat => i ≤ L.length ∧ (L.take i).any p = false) (fun i => ⟨[WeekRow.sl L, .fn (.func fv) [] vc, .undef, .undef, .undef, .undef, .undef, .int .i64 L.length, .int .i64 i, .undef, .undef, .undef, .undef, .undef, .undef, .undef, .undef, .undef, .undef], [], 0⟩) (fun i => L.length - i) 0 ⟨Nat.zero_le _, rfl⟩ ?_ (fun i hi => ?_)
 · refine Weak.cut (0) (by simp) (by simp) ?_ ?_
   · simp [LeC, LeV, ren, cutF, hvc2]
   · rfl
 simp -implicitDefEqProofs -dsimp only [go_sem]
 refine condT.split (fun h1 => ?_) (fun h1 => ?_)
 · simp -implicitDefEqProofs -dsimp only [go_sem, h1]
   have hi' : i < L.length := by simpa using h1
   have h5 := WeekRow.csl L[i]
   have hr := rows_at WeekRow.csl hi'
   (repeat1' (first | simp -implicitDefEqProofs -dsimp only [go_sem, hr, WeekRow.cs] | simp -dsimp (disch := omega) only [wrap_i64]))
   repeat (with_reducible refine sideA ?_)
   refine callS.intro (hv L[i]) ⟨.inl rfl, LeL_same (hvc2 _ _)⟩ (.inl (by simp only [List.nil_append, List.cons_append, List.all_cons, hvc, Bool.and_true]; rfl)) ?_
   simp -implicitDefEqProofs -dsimp only [go_sem]
   refine condT.split (fun h2 => ?_) (fun h2 => ?_) <;> simp -implicitDefEqProofs -dsimp only [go_sem, h2]
   · exact WeakR.drop' (by rw [idxI_found hi' hi.2 h2]) (by rfl)
   · refine ⟨i + 1, ⟨hi', by rw [List.take_succ_eq_append_getElem hi']; simp only [List.any_append, hi.2, List.any_cons, h2, List.any_nil, Bool.or_self]⟩, ?_, by omega⟩
     refine Weak.cut (0) (by simp) (by simp) ?_ ?_
     · rw [wrap_i64 (by omega) (by omega)]
       simp [LeC, LeV, ren, cutF, hvc2]
     · rfl
 · simp -implicitDefEqProofs -dsimp only [go_sem, h1]
   have hi' : i = L.length := by simp at h1; omega
   subst hi'
   have h2 := hi.2
   rw [List.take_length] at h2
   exact WeakR.drop' (by rw [idxI_none h2]) (by rfl)
end Go.Proofs
end
section
set_option maxRecDepth 100000
namespace Go.Proofs
open Go.Lv
theorem Ctr.raw {P : Program} {f : FuncId} {args : List V} {hin : Hp} {r : V} {hout : Hp} (hok : okF P f = true)
   (h : ∀ (w : World) (vs : Array Value) (m : Nat → Nat) (av : Nat → Prop), Inv w m hin av ⟨args, hin, hin.length⟩ { tmps := vs, defers := [] } w m → vs.size = args.length →
     Calls P f vs w fun e w' => ∃ v m' s a, e = .returned v ∧ s.h = hout ∧ Inv w m hin av s a w' m' ∧ RV w' m' hout (avm av m' hout) true v r) : Ctr P f args hin r hout := by
 refine ⟨hok, fun w vs m av hH hav hgl hs ha => ?_⟩
 have hav' : ∀ b, avm av m hin b → av b := fun b hb => by
   rcases hb with hb | ⟨id, cs, h1, rfl⟩
   · exact hb
   · exact hH.avd id cs h1
 have hstep : ∀ {o : Bool} {v : Value} {x : V}, RV w m hin av o v x → RV w m hin (avm av m hin) o v x :=
   fun {o v x} hx => RV.step (w := w) (w' := w) (m := m) (m' := m) (h := hin) (h' := hin) (av := av) (av' := avm av m hin) (fun b off v hb hc => ⟨fun h => hb (hav' b h), hc⟩) (fun id c hid => ⟨c, hid, Nat.le_refl _, rfl, Nat.le_refl _, rfl⟩) hx
 have I : Inv w m hin av ⟨args, hin, hin.length⟩ { tmps := vs, defers := [] } w m := by
   refine ⟨⟨hH.inj, fun id cs h => .inr ⟨id, cs, h, rfl⟩, fun id cs h => ?_⟩, hs, fun i hi => hstep (ha i hi), rfl, Ext.refl _ _, fun id cs h => .inl ⟨id_lt h, cs, h, Nat.le_refl _, .inl rfl⟩, hav, fun b ⟨id, cs, h1, h2⟩ => h2 ▸ hH.avd id cs h1, hgl, rfl, Nat.le_refl _⟩
   exact (hH.blk id cs h).step rfl (fun v x => hstep)
 refine (h w vs m av I hs).mono ?_
 rintro e w' ⟨v, m', s, a, rfl, rfl, I', hv⟩
 exact ⟨v, m', rfl, I'.ext, I'.rh, hv, I'.ids⟩
end Go.Proofs
end
