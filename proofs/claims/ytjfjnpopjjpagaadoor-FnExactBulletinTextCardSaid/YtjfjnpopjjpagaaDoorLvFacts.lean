/-
  Closed facts on the types and functions of the seat, for the rules. Made by a program of the prover. Conditions: none.
-/
import Derived.Test.YtjfjnpopjjpagaaDoorProg
import Derived.Test.YtjfjnpopjjpagaaDoorLvJ
import Derived.KernelRfl
namespace Go.Proofs
open Go.Lv

theorem Tryd.mixed : Tryd.prog.follows .mixedOrders = true := by kernel_rfl
@[go_sem] theorem Tryd.tsz1 : tszOf Tryd.prog 1 = some (1, false) := by kernel_rfl
theorem Tryd.cz1 : Tryd.prog.cellsOf 1 = 1 := by kernel_rfl
@[go_sem] theorem Tryd.udef1 : (Tryd.prog.underlying 1).isSome = true := by kernel_rfl
@[go_sem] theorem Tryd.zero1 : zeroOf Tryd.prog 1 = some [.lit ((Go.Value.nilFunc))] := by kernel_rfl
@[go_sem] theorem Tryd.tsz2 : tszOf Tryd.prog 2 = some (1, false) := by kernel_rfl
theorem Tryd.cz2 : Tryd.prog.cellsOf 2 = 1 := by kernel_rfl
@[go_sem] theorem Tryd.udef2 : (Tryd.prog.underlying 2).isSome = true := by kernel_rfl
@[go_sem] theorem Tryd.zero2 : zeroOf Tryd.prog 2 = some [.int .i64 0] := by kernel_rfl
@[go_sem] theorem Tryd.isInt2 : isIntT Tryd.prog 2 = some .i64 := by kernel_rfl
@[go_sem] theorem Tryd.tsz3 : tszOf Tryd.prog 3 = some (1, false) := by kernel_rfl
theorem Tryd.cz3 : Tryd.prog.cellsOf 3 = 1 := by kernel_rfl
@[go_sem] theorem Tryd.udef3 : (Tryd.prog.underlying 3).isSome = true := by kernel_rfl
@[go_sem] theorem Tryd.zero3 : zeroOf Tryd.prog 3 = some [.int .i64 0] := by kernel_rfl
@[go_sem] theorem Tryd.isInt3 : isIntT Tryd.prog 3 = some .i64 := by kernel_rfl
@[go_sem] theorem Tryd.tsz4 : tszOf Tryd.prog 4 = some (1, false) := by kernel_rfl
theorem Tryd.cz4 : Tryd.prog.cellsOf 4 = 1 := by kernel_rfl
@[go_sem] theorem Tryd.udef4 : (Tryd.prog.underlying 4).isSome = true := by kernel_rfl
@[go_sem] theorem Tryd.zero4 : zeroOf Tryd.prog 4 = some [.bool false] := by kernel_rfl
@[go_sem] theorem Tryd.isBool4 : isBoolT Tryd.prog 4 = true := by kernel_rfl
@[go_sem] theorem Tryd.tsz5 : tszOf Tryd.prog 5 = some (1, false) := by kernel_rfl
theorem Tryd.cz5 : Tryd.prog.cellsOf 5 = 1 := by kernel_rfl
@[go_sem] theorem Tryd.udef5 : (Tryd.prog.underlying 5).isSome = true := by kernel_rfl
@[go_sem] theorem Tryd.zero5 : zeroOf Tryd.prog 5 = some [.int .u8 0] := by kernel_rfl
@[go_sem] theorem Tryd.isInt5 : isIntT Tryd.prog 5 = some .u8 := by kernel_rfl
@[go_sem] theorem Tryd.tsz6 : tszOf Tryd.prog 6 = some (1, false) := by kernel_rfl
theorem Tryd.cz6 : Tryd.prog.cellsOf 6 = 1 := by kernel_rfl
@[go_sem] theorem Tryd.udef6 : (Tryd.prog.underlying 6).isSome = true := by kernel_rfl
@[go_sem] theorem Tryd.zero6 : zeroOf Tryd.prog 6 = some [.int .u8 0] := by kernel_rfl
@[go_sem] theorem Tryd.isInt6 : isIntT Tryd.prog 6 = some .u8 := by kernel_rfl
@[go_sem] theorem Tryd.tsz7 : tszOf Tryd.prog 7 = some (4, true) := by kernel_rfl
theorem Tryd.cz7 : Tryd.prog.cellsOf 7 = 4 := by kernel_rfl
@[go_sem] theorem Tryd.udef7 : (Tryd.prog.underlying 7).isSome = true := by kernel_rfl
@[go_sem] theorem Tryd.zero7 : zeroOf Tryd.prog 7 = some [.int .i64 0, .int .i64 0, .bool false, .int .u8 0] := by kernel_rfl
@[go_sem] theorem Tryd.pl7 : plOf Tryd.prog 7 = some [(0, 1), (1, 1), (2, 1), (3, 1)] := by kernel_rfl
@[go_sem] theorem Tryd.tsz8 : tszOf Tryd.prog 8 = some (4, true) := by kernel_rfl
theorem Tryd.cz8 : Tryd.prog.cellsOf 8 = 4 := by kernel_rfl
@[go_sem] theorem Tryd.udef8 : (Tryd.prog.underlying 8).isSome = true := by kernel_rfl
@[go_sem] theorem Tryd.zero8 : zeroOf Tryd.prog 8 = some [.int .i64 0, .int .i64 0, .bool false, .int .u8 0] := by kernel_rfl
@[go_sem] theorem Tryd.pl8 : plOf Tryd.prog 8 = some [(0, 1), (1, 1), (2, 1), (3, 1)] := by kernel_rfl
@[go_sem] theorem Tryd.tsz9 : tszOf Tryd.prog 9 = some (1, false) := by kernel_rfl
theorem Tryd.cz9 : Tryd.prog.cellsOf 9 = 1 := by kernel_rfl
@[go_sem] theorem Tryd.udef9 : (Tryd.prog.underlying 9).isSome = true := by kernel_rfl
@[go_sem] theorem Tryd.zero9 : zeroOf Tryd.prog 9 = some [.str ByteArray.empty] := by kernel_rfl
@[go_sem] theorem Tryd.isIntN9 : isIntT Tryd.prog 9 = none := by kernel_rfl
@[go_sem] theorem Tryd.isStr9 : isStr Tryd.prog 9 = true := by kernel_rfl
@[go_sem] theorem Tryd.tsz10 : tszOf Tryd.prog 10 = some (1, false) := by kernel_rfl
theorem Tryd.cz10 : Tryd.prog.cellsOf 10 = 1 := by kernel_rfl
@[go_sem] theorem Tryd.udef10 : (Tryd.prog.underlying 10).isSome = true := by kernel_rfl
@[go_sem] theorem Tryd.zero10 : zeroOf Tryd.prog 10 = some [.str ByteArray.empty] := by kernel_rfl
@[go_sem] theorem Tryd.isIntN10 : isIntT Tryd.prog 10 = none := by kernel_rfl
@[go_sem] theorem Tryd.isStr10 : isStr Tryd.prog 10 = true := by kernel_rfl
@[go_sem] theorem Tryd.tsz11 : tszOf Tryd.prog 11 = some (1, false) := by kernel_rfl
theorem Tryd.cz11 : Tryd.prog.cellsOf 11 = 1 := by kernel_rfl
@[go_sem] theorem Tryd.udef11 : (Tryd.prog.underlying 11).isSome = true := by kernel_rfl
@[go_sem] theorem Tryd.zero11 : zeroOf Tryd.prog 11 = some [.str ByteArray.empty] := by kernel_rfl
@[go_sem] theorem Tryd.isIntN11 : isIntT Tryd.prog 11 = none := by kernel_rfl
@[go_sem] theorem Tryd.isStr11 : isStr Tryd.prog 11 = true := by kernel_rfl
@[go_sem] theorem Tryd.tsz12 : tszOf Tryd.prog 12 = some (1, false) := by kernel_rfl
theorem Tryd.cz12 : Tryd.prog.cellsOf 12 = 1 := by kernel_rfl
@[go_sem] theorem Tryd.udef12 : (Tryd.prog.underlying 12).isSome = true := by kernel_rfl
@[go_sem] theorem Tryd.zero12 : zeroOf Tryd.prog 12 = some [.int .u64 0] := by kernel_rfl
@[go_sem] theorem Tryd.isInt12 : isIntT Tryd.prog 12 = some .u64 := by kernel_rfl
@[go_sem] theorem Tryd.tsz13 : tszOf Tryd.prog 13 = some (2, true) := by kernel_rfl
theorem Tryd.cz13 : Tryd.prog.cellsOf 13 = 2 := by kernel_rfl
@[go_sem] theorem Tryd.udef13 : (Tryd.prog.underlying 13).isSome = true := by kernel_rfl
@[go_sem] theorem Tryd.zero13 : zeroOf Tryd.prog 13 = some [.str ByteArray.empty, .int .u64 0] := by kernel_rfl
@[go_sem] theorem Tryd.pl13 : plOf Tryd.prog 13 = some [(0, 1), (1, 1)] := by kernel_rfl
@[go_sem] theorem Tryd.tsz14 : tszOf Tryd.prog 14 = some (2, true) := by kernel_rfl
theorem Tryd.cz14 : Tryd.prog.cellsOf 14 = 2 := by kernel_rfl
@[go_sem] theorem Tryd.udef14 : (Tryd.prog.underlying 14).isSome = true := by kernel_rfl
@[go_sem] theorem Tryd.zero14 : zeroOf Tryd.prog 14 = some [.str ByteArray.empty, .int .u64 0] := by kernel_rfl
@[go_sem] theorem Tryd.pl14 : plOf Tryd.prog 14 = some [(0, 1), (1, 1)] := by kernel_rfl
@[go_sem] theorem Tryd.tsz15 : tszOf Tryd.prog 15 = some (1, false) := by kernel_rfl
theorem Tryd.cz15 : Tryd.prog.cellsOf 15 = 1 := by kernel_rfl
@[go_sem] theorem Tryd.udef15 : (Tryd.prog.underlying 15).isSome = true := by kernel_rfl
@[go_sem] theorem Tryd.zero15 : zeroOf Tryd.prog 15 = some [.lit ((Go.Value.pointer none))] := by kernel_rfl
@[go_sem] theorem Tryd.tsz16 : tszOf Tryd.prog 16 = some (1, false) := by kernel_rfl
theorem Tryd.cz16 : Tryd.prog.cellsOf 16 = 1 := by kernel_rfl
@[go_sem] theorem Tryd.udef16 : (Tryd.prog.underlying 16).isSome = true := by kernel_rfl
@[go_sem] theorem Tryd.zero16 : zeroOf Tryd.prog 16 = some [.lit ((Go.Value.pointer none))] := by kernel_rfl
@[go_sem] theorem Tryd.tsz17 : tszOf Tryd.prog 17 = some (1, false) := by kernel_rfl
theorem Tryd.cz17 : Tryd.prog.cellsOf 17 = 1 := by kernel_rfl
@[go_sem] theorem Tryd.udef17 : (Tryd.prog.underlying 17).isSome = true := by kernel_rfl
@[go_sem] theorem Tryd.zero17 : zeroOf Tryd.prog 17 = some [.lit ((Go.Value.pointer none))] := by kernel_rfl
@[go_sem] theorem Tryd.tsz18 : tszOf Tryd.prog 18 = some (1, true) := by kernel_rfl
theorem Tryd.cz18 : Tryd.prog.cellsOf 18 = 1 := by kernel_rfl
@[go_sem] theorem Tryd.udef18 : (Tryd.prog.underlying 18).isSome = true := by kernel_rfl
@[go_sem] theorem Tryd.zero18 : zeroOf Tryd.prog 18 = some [.lit ((Go.Value.pointer none))] := by kernel_rfl
@[go_sem] theorem Tryd.pl18 : plOf Tryd.prog 18 = some [(0, 1)] := by kernel_rfl
@[go_sem] theorem Tryd.tsz19 : tszOf Tryd.prog 19 = some (1, true) := by kernel_rfl
theorem Tryd.cz19 : Tryd.prog.cellsOf 19 = 1 := by kernel_rfl
@[go_sem] theorem Tryd.udef19 : (Tryd.prog.underlying 19).isSome = true := by kernel_rfl
@[go_sem] theorem Tryd.zero19 : zeroOf Tryd.prog 19 = some [.lit ((Go.Value.pointer none))] := by kernel_rfl
@[go_sem] theorem Tryd.pl19 : plOf Tryd.prog 19 = some [(0, 1)] := by kernel_rfl
@[go_sem] theorem Tryd.tsz20 : tszOf Tryd.prog 20 = some (1, false) := by kernel_rfl
theorem Tryd.cz20 : Tryd.prog.cellsOf 20 = 1 := by kernel_rfl
@[go_sem] theorem Tryd.udef20 : (Tryd.prog.underlying 20).isSome = true := by kernel_rfl
@[go_sem] theorem Tryd.zero20 : zeroOf Tryd.prog 20 = some [.lit ((Go.Value.nilIface))] := by kernel_rfl
@[go_sem] theorem Tryd.tsz21 : tszOf Tryd.prog 21 = some (1, false) := by kernel_rfl
theorem Tryd.cz21 : Tryd.prog.cellsOf 21 = 1 := by kernel_rfl
@[go_sem] theorem Tryd.udef21 : (Tryd.prog.underlying 21).isSome = true := by kernel_rfl
@[go_sem] theorem Tryd.zero21 : zeroOf Tryd.prog 21 = some [.int .i32 0] := by kernel_rfl
@[go_sem] theorem Tryd.isInt21 : isIntT Tryd.prog 21 = some .i32 := by kernel_rfl
@[go_sem] theorem Tryd.tsz22 : tszOf Tryd.prog 22 = some (1, false) := by kernel_rfl
theorem Tryd.cz22 : Tryd.prog.cellsOf 22 = 1 := by kernel_rfl
@[go_sem] theorem Tryd.udef22 : (Tryd.prog.underlying 22).isSome = true := by kernel_rfl
@[go_sem] theorem Tryd.zero22 : zeroOf Tryd.prog 22 = some [.nilsl] := by kernel_rfl
@[go_sem] theorem Tryd.el22 : elOf Tryd.prog 22 = some (49, 7, 56) := by kernel_rfl
@[go_sem] theorem Tryd.isSl22 : isSl Tryd.prog 22 = true := by kernel_rfl
@[go_sem] theorem Tryd.tsz23 : tszOf Tryd.prog 23 = some (1, false) := by kernel_rfl
theorem Tryd.cz23 : Tryd.prog.cellsOf 23 = 1 := by kernel_rfl
@[go_sem] theorem Tryd.udef23 : (Tryd.prog.underlying 23).isSome = true := by kernel_rfl
@[go_sem] theorem Tryd.zero23 : zeroOf Tryd.prog 23 = some [.lit ((Go.Value.nilFunc))] := by kernel_rfl
@[go_sem] theorem Tryd.tsz25 : tszOf Tryd.prog 25 = some (1, false) := by kernel_rfl
theorem Tryd.cz25 : Tryd.prog.cellsOf 25 = 1 := by kernel_rfl
@[go_sem] theorem Tryd.udef25 : (Tryd.prog.underlying 25).isSome = true := by kernel_rfl
@[go_sem] theorem Tryd.zero25 : zeroOf Tryd.prog 25 = some [.lit ((Go.Value.nilFunc))] := by kernel_rfl
@[go_sem] theorem Tryd.tsz26 : tszOf Tryd.prog 26 = some (1, false) := by kernel_rfl
theorem Tryd.cz26 : Tryd.prog.cellsOf 26 = 1 := by kernel_rfl
@[go_sem] theorem Tryd.udef26 : (Tryd.prog.underlying 26).isSome = true := by kernel_rfl
@[go_sem] theorem Tryd.zero26 : zeroOf Tryd.prog 26 = some [.nilsl] := by kernel_rfl
@[go_sem] theorem Tryd.el26 : elOf Tryd.prog 26 = some (46, 7, 56) := by kernel_rfl
@[go_sem] theorem Tryd.isSl26 : isSl Tryd.prog 26 = true := by kernel_rfl
@[go_sem] theorem Tryd.tsz27 : tszOf Tryd.prog 27 = some (1, false) := by kernel_rfl
theorem Tryd.cz27 : Tryd.prog.cellsOf 27 = 1 := by kernel_rfl
@[go_sem] theorem Tryd.udef27 : (Tryd.prog.underlying 27).isSome = true := by kernel_rfl
@[go_sem] theorem Tryd.zero27 : zeroOf Tryd.prog 27 = some [.lit ((Go.Value.nilFunc))] := by kernel_rfl
@[go_sem] theorem Tryd.tsz28 : tszOf Tryd.prog 28 = some (1, false) := by kernel_rfl
theorem Tryd.cz28 : Tryd.prog.cellsOf 28 = 1 := by kernel_rfl
@[go_sem] theorem Tryd.udef28 : (Tryd.prog.underlying 28).isSome = true := by kernel_rfl
@[go_sem] theorem Tryd.zero28 : zeroOf Tryd.prog 28 = some [.lit ((Go.Value.nilFunc))] := by kernel_rfl
@[go_sem] theorem Tryd.tsz29 : tszOf Tryd.prog 29 = some (1, false) := by kernel_rfl
theorem Tryd.cz29 : Tryd.prog.cellsOf 29 = 1 := by kernel_rfl
@[go_sem] theorem Tryd.udef29 : (Tryd.prog.underlying 29).isSome = true := by kernel_rfl
@[go_sem] theorem Tryd.zero29 : zeroOf Tryd.prog 29 = some [.lit ((Go.Value.nilFunc))] := by kernel_rfl
@[go_sem] theorem Tryd.tsz30 : tszOf Tryd.prog 30 = some (1, false) := by kernel_rfl
theorem Tryd.cz30 : Tryd.prog.cellsOf 30 = 1 := by kernel_rfl
@[go_sem] theorem Tryd.udef30 : (Tryd.prog.underlying 30).isSome = true := by kernel_rfl
@[go_sem] theorem Tryd.zero30 : zeroOf Tryd.prog 30 = some [.nilsl] := by kernel_rfl
@[go_sem] theorem Tryd.el30 : elOf Tryd.prog 30 = some (75, 3, 24) := by kernel_rfl
@[go_sem] theorem Tryd.isSl30 : isSl Tryd.prog 30 = true := by kernel_rfl
@[go_sem] theorem Tryd.tsz31 : tszOf Tryd.prog 31 = some (1, false) := by kernel_rfl
theorem Tryd.cz31 : Tryd.prog.cellsOf 31 = 1 := by kernel_rfl
@[go_sem] theorem Tryd.udef31 : (Tryd.prog.underlying 31).isSome = true := by kernel_rfl
@[go_sem] theorem Tryd.zero31 : zeroOf Tryd.prog 31 = some [.nilsl] := by kernel_rfl
@[go_sem] theorem Tryd.el31 : elOf Tryd.prog 31 = some (77, 5, 40) := by kernel_rfl
@[go_sem] theorem Tryd.isSl31 : isSl Tryd.prog 31 = true := by kernel_rfl
@[go_sem] theorem Tryd.tsz32 : tszOf Tryd.prog 32 = some (5, true) := by kernel_rfl
theorem Tryd.cz32 : Tryd.prog.cellsOf 32 = 5 := by kernel_rfl
@[go_sem] theorem Tryd.udef32 : (Tryd.prog.underlying 32).isSome = true := by kernel_rfl
@[go_sem] theorem Tryd.zero32 : zeroOf Tryd.prog 32 = some [.int .i64 0, .nilsl, .nilsl, .int .i64 0, .int .i64 0] := by kernel_rfl
@[go_sem] theorem Tryd.pl32 : plOf Tryd.prog 32 = some [(0, 1), (1, 1), (2, 1), (3, 1), (4, 1)] := by kernel_rfl
@[go_sem] theorem Tryd.tsz33 : tszOf Tryd.prog 33 = some (5, true) := by kernel_rfl
theorem Tryd.cz33 : Tryd.prog.cellsOf 33 = 5 := by kernel_rfl
@[go_sem] theorem Tryd.udef33 : (Tryd.prog.underlying 33).isSome = true := by kernel_rfl
@[go_sem] theorem Tryd.zero33 : zeroOf Tryd.prog 33 = some [.int .i64 0, .nilsl, .nilsl, .int .i64 0, .int .i64 0] := by kernel_rfl
@[go_sem] theorem Tryd.pl33 : plOf Tryd.prog 33 = some [(0, 1), (1, 1), (2, 1), (3, 1), (4, 1)] := by kernel_rfl
@[go_sem] theorem Tryd.fd33_0 : fdOf Tryd.prog 33 0 = some (0, 1, false) := by kernel_rfl
@[go_sem] theorem Tryd.fd33_1 : fdOf Tryd.prog 33 1 = some (1, 1, false) := by kernel_rfl
@[go_sem] theorem Tryd.fd33_2 : fdOf Tryd.prog 33 2 = some (2, 1, false) := by kernel_rfl
@[go_sem] theorem Tryd.fd33_3 : fdOf Tryd.prog 33 3 = some (3, 1, false) := by kernel_rfl
@[go_sem] theorem Tryd.fd33_4 : fdOf Tryd.prog 33 4 = some (4, 1, false) := by kernel_rfl
@[go_sem] theorem Tryd.tsz34 : tszOf Tryd.prog 34 = some (1, false) := by kernel_rfl
theorem Tryd.cz34 : Tryd.prog.cellsOf 34 = 1 := by kernel_rfl
@[go_sem] theorem Tryd.udef34 : (Tryd.prog.underlying 34).isSome = true := by kernel_rfl
@[go_sem] theorem Tryd.zero34 : zeroOf Tryd.prog 34 = some [.lit ((Go.Value.nilFunc))] := by kernel_rfl
@[go_sem] theorem Tryd.tsz35 : tszOf Tryd.prog 35 = some (1, false) := by kernel_rfl
theorem Tryd.cz35 : Tryd.prog.cellsOf 35 = 1 := by kernel_rfl
@[go_sem] theorem Tryd.udef35 : (Tryd.prog.underlying 35).isSome = true := by kernel_rfl
@[go_sem] theorem Tryd.zero35 : zeroOf Tryd.prog 35 = some [.lit ((Go.Value.nilFunc))] := by kernel_rfl
@[go_sem] theorem Tryd.tsz36 : tszOf Tryd.prog 36 = some (1, false) := by kernel_rfl
theorem Tryd.cz36 : Tryd.prog.cellsOf 36 = 1 := by kernel_rfl
@[go_sem] theorem Tryd.udef36 : (Tryd.prog.underlying 36).isSome = true := by kernel_rfl
@[go_sem] theorem Tryd.zero36 : zeroOf Tryd.prog 36 = some [.nilsl] := by kernel_rfl
@[go_sem] theorem Tryd.el36 : elOf Tryd.prog 36 = some (72, 3, 24) := by kernel_rfl
@[go_sem] theorem Tryd.isSl36 : isSl Tryd.prog 36 = true := by kernel_rfl
@[go_sem] theorem Tryd.tsz37 : tszOf Tryd.prog 37 = some (1, false) := by kernel_rfl
theorem Tryd.cz37 : Tryd.prog.cellsOf 37 = 1 := by kernel_rfl
@[go_sem] theorem Tryd.udef37 : (Tryd.prog.underlying 37).isSome = true := by kernel_rfl
@[go_sem] theorem Tryd.zero37 : zeroOf Tryd.prog 37 = some [.nilsl] := by kernel_rfl
@[go_sem] theorem Tryd.el37 : elOf Tryd.prog 37 = some (58, 5, 40) := by kernel_rfl
@[go_sem] theorem Tryd.isSl37 : isSl Tryd.prog 37 = true := by kernel_rfl
@[go_sem] theorem Tryd.tsz38 : tszOf Tryd.prog 38 = some (5, true) := by kernel_rfl
theorem Tryd.cz38 : Tryd.prog.cellsOf 38 = 5 := by kernel_rfl
@[go_sem] theorem Tryd.udef38 : (Tryd.prog.underlying 38).isSome = true := by kernel_rfl
@[go_sem] theorem Tryd.zero38 : zeroOf Tryd.prog 38 = some [.int .i64 0, .nilsl, .nilsl, .int .i64 0, .int .i64 0] := by kernel_rfl
@[go_sem] theorem Tryd.pl38 : plOf Tryd.prog 38 = some [(0, 1), (1, 1), (2, 1), (3, 1), (4, 1)] := by kernel_rfl
@[go_sem] theorem Tryd.tsz39 : tszOf Tryd.prog 39 = some (5, true) := by kernel_rfl
theorem Tryd.cz39 : Tryd.prog.cellsOf 39 = 5 := by kernel_rfl
@[go_sem] theorem Tryd.udef39 : (Tryd.prog.underlying 39).isSome = true := by kernel_rfl
@[go_sem] theorem Tryd.zero39 : zeroOf Tryd.prog 39 = some [.int .i64 0, .nilsl, .nilsl, .int .i64 0, .int .i64 0] := by kernel_rfl
@[go_sem] theorem Tryd.pl39 : plOf Tryd.prog 39 = some [(0, 1), (1, 1), (2, 1), (3, 1), (4, 1)] := by kernel_rfl
@[go_sem] theorem Tryd.fd39_0 : fdOf Tryd.prog 39 0 = some (0, 1, false) := by kernel_rfl
@[go_sem] theorem Tryd.fd39_1 : fdOf Tryd.prog 39 1 = some (1, 1, false) := by kernel_rfl
@[go_sem] theorem Tryd.fd39_2 : fdOf Tryd.prog 39 2 = some (2, 1, false) := by kernel_rfl
@[go_sem] theorem Tryd.fd39_3 : fdOf Tryd.prog 39 3 = some (3, 1, false) := by kernel_rfl
@[go_sem] theorem Tryd.fd39_4 : fdOf Tryd.prog 39 4 = some (4, 1, false) := by kernel_rfl
@[go_sem] theorem Tryd.tsz40 : tszOf Tryd.prog 40 = some (1, false) := by kernel_rfl
theorem Tryd.cz40 : Tryd.prog.cellsOf 40 = 1 := by kernel_rfl
@[go_sem] theorem Tryd.udef40 : (Tryd.prog.underlying 40).isSome = true := by kernel_rfl
@[go_sem] theorem Tryd.zero40 : zeroOf Tryd.prog 40 = some [.lit ((Go.Value.nilFunc))] := by kernel_rfl
@[go_sem] theorem Tryd.tsz41 : tszOf Tryd.prog 41 = some (1, false) := by kernel_rfl
theorem Tryd.cz41 : Tryd.prog.cellsOf 41 = 1 := by kernel_rfl
@[go_sem] theorem Tryd.udef41 : (Tryd.prog.underlying 41).isSome = true := by kernel_rfl
@[go_sem] theorem Tryd.zero41 : zeroOf Tryd.prog 41 = some [.lit ((Go.Value.nilFunc))] := by kernel_rfl
@[go_sem] theorem Tryd.tsz42 : tszOf Tryd.prog 42 = some (1, false) := by kernel_rfl
theorem Tryd.cz42 : Tryd.prog.cellsOf 42 = 1 := by kernel_rfl
@[go_sem] theorem Tryd.udef42 : (Tryd.prog.underlying 42).isSome = true := by kernel_rfl
@[go_sem] theorem Tryd.zero42 : zeroOf Tryd.prog 42 = some [.lit ((Go.Value.nilFunc))] := by kernel_rfl
@[go_sem] theorem Tryd.tsz43 : tszOf Tryd.prog 43 = some (1, false) := by kernel_rfl
theorem Tryd.cz43 : Tryd.prog.cellsOf 43 = 1 := by kernel_rfl
@[go_sem] theorem Tryd.udef43 : (Tryd.prog.underlying 43).isSome = true := by kernel_rfl
@[go_sem] theorem Tryd.zero43 : zeroOf Tryd.prog 43 = some [.lit ((Go.Value.nilFunc))] := by kernel_rfl
@[go_sem] theorem Tryd.tsz44 : tszOf Tryd.prog 44 = some (1, false) := by kernel_rfl
theorem Tryd.cz44 : Tryd.prog.cellsOf 44 = 1 := by kernel_rfl
@[go_sem] theorem Tryd.udef44 : (Tryd.prog.underlying 44).isSome = true := by kernel_rfl
@[go_sem] theorem Tryd.zero44 : zeroOf Tryd.prog 44 = some [.lit ((Go.Value.nilFunc))] := by kernel_rfl
@[go_sem] theorem Tryd.tsz45 : tszOf Tryd.prog 45 = some (7, true) := by kernel_rfl
theorem Tryd.cz45 : Tryd.prog.cellsOf 45 = 7 := by kernel_rfl
@[go_sem] theorem Tryd.udef45 : (Tryd.prog.underlying 45).isSome = true := by kernel_rfl
@[go_sem] theorem Tryd.zero45 : zeroOf Tryd.prog 45 = some [.int .i64 0, .int .i64 0, .int .i64 0, .int .i64 0, .int .i64 0, .int .i64 0, .int .i64 0] := by kernel_rfl
@[go_sem] theorem Tryd.pl45 : plOf Tryd.prog 45 = some [(0, 1), (1, 1), (2, 1), (3, 1), (4, 1), (5, 1), (6, 1)] := by kernel_rfl
@[go_sem] theorem Tryd.tsz46 : tszOf Tryd.prog 46 = some (7, true) := by kernel_rfl
theorem Tryd.cz46 : Tryd.prog.cellsOf 46 = 7 := by kernel_rfl
@[go_sem] theorem Tryd.udef46 : (Tryd.prog.underlying 46).isSome = true := by kernel_rfl
@[go_sem] theorem Tryd.zero46 : zeroOf Tryd.prog 46 = some [.int .i64 0, .int .i64 0, .int .i64 0, .int .i64 0, .int .i64 0, .int .i64 0, .int .i64 0] := by kernel_rfl
@[go_sem] theorem Tryd.flatEq46 : flatEq Tryd.prog 46 = some [.int .i64, .int .i64, .int .i64, .int .i64, .int .i64, .int .i64, .int .i64] := by kernel_rfl
@[go_sem] theorem Tryd.pl46 : plOf Tryd.prog 46 = some [(0, 1), (1, 1), (2, 1), (3, 1), (4, 1), (5, 1), (6, 1)] := by kernel_rfl
@[go_sem] theorem Tryd.fd46_0 : fdOf Tryd.prog 46 0 = some (0, 1, false) := by kernel_rfl
@[go_sem] theorem Tryd.fd46_1 : fdOf Tryd.prog 46 1 = some (1, 1, false) := by kernel_rfl
@[go_sem] theorem Tryd.fd46_2 : fdOf Tryd.prog 46 2 = some (2, 1, false) := by kernel_rfl
@[go_sem] theorem Tryd.fd46_3 : fdOf Tryd.prog 46 3 = some (3, 1, false) := by kernel_rfl
@[go_sem] theorem Tryd.fd46_4 : fdOf Tryd.prog 46 4 = some (4, 1, false) := by kernel_rfl
@[go_sem] theorem Tryd.fd46_5 : fdOf Tryd.prog 46 5 = some (5, 1, false) := by kernel_rfl
@[go_sem] theorem Tryd.fd46_6 : fdOf Tryd.prog 46 6 = some (6, 1, false) := by kernel_rfl
@[go_sem] theorem Tryd.tsz47 : tszOf Tryd.prog 47 = some (1, false) := by kernel_rfl
theorem Tryd.cz47 : Tryd.prog.cellsOf 47 = 1 := by kernel_rfl
@[go_sem] theorem Tryd.udef47 : (Tryd.prog.underlying 47).isSome = true := by kernel_rfl
@[go_sem] theorem Tryd.zero47 : zeroOf Tryd.prog 47 = some [.lit ((Go.Value.nilFunc))] := by kernel_rfl
@[go_sem] theorem Tryd.tsz48 : tszOf Tryd.prog 48 = some (1, false) := by kernel_rfl
theorem Tryd.cz48 : Tryd.prog.cellsOf 48 = 1 := by kernel_rfl
@[go_sem] theorem Tryd.udef48 : (Tryd.prog.underlying 48).isSome = true := by kernel_rfl
@[go_sem] theorem Tryd.zero48 : zeroOf Tryd.prog 48 = some [.lit ((Go.Value.nilFunc))] := by kernel_rfl
@[go_sem] theorem Tryd.tsz49 : tszOf Tryd.prog 49 = some (7, true) := by kernel_rfl
theorem Tryd.cz49 : Tryd.prog.cellsOf 49 = 7 := by kernel_rfl
@[go_sem] theorem Tryd.udef49 : (Tryd.prog.underlying 49).isSome = true := by kernel_rfl
@[go_sem] theorem Tryd.zero49 : zeroOf Tryd.prog 49 = some [.int .i64 0, .int .i64 0, .int .i64 0, .int .i64 0, .int .i64 0, .int .i64 0, .int .i64 0] := by kernel_rfl
@[go_sem] theorem Tryd.flatEq49 : flatEq Tryd.prog 49 = some [.int .i64, .int .i64, .int .i64, .int .i64, .int .i64, .int .i64, .int .i64] := by kernel_rfl
@[go_sem] theorem Tryd.pl49 : plOf Tryd.prog 49 = some [(0, 1), (1, 1), (2, 1), (3, 1), (4, 1), (5, 1), (6, 1)] := by kernel_rfl
@[go_sem] theorem Tryd.fd49_0 : fdOf Tryd.prog 49 0 = some (0, 1, false) := by kernel_rfl
@[go_sem] theorem Tryd.fd49_1 : fdOf Tryd.prog 49 1 = some (1, 1, false) := by kernel_rfl
@[go_sem] theorem Tryd.fd49_2 : fdOf Tryd.prog 49 2 = some (2, 1, false) := by kernel_rfl
@[go_sem] theorem Tryd.fd49_3 : fdOf Tryd.prog 49 3 = some (3, 1, false) := by kernel_rfl
@[go_sem] theorem Tryd.fd49_4 : fdOf Tryd.prog 49 4 = some (4, 1, false) := by kernel_rfl
@[go_sem] theorem Tryd.fd49_5 : fdOf Tryd.prog 49 5 = some (5, 1, false) := by kernel_rfl
@[go_sem] theorem Tryd.fd49_6 : fdOf Tryd.prog 49 6 = some (6, 1, false) := by kernel_rfl
@[go_sem] theorem Tryd.tsz50 : tszOf Tryd.prog 50 = some (1, false) := by kernel_rfl
theorem Tryd.cz50 : Tryd.prog.cellsOf 50 = 1 := by kernel_rfl
@[go_sem] theorem Tryd.udef50 : (Tryd.prog.underlying 50).isSome = true := by kernel_rfl
@[go_sem] theorem Tryd.zero50 : zeroOf Tryd.prog 50 = some [.lit ((Go.Value.nilFunc))] := by kernel_rfl
@[go_sem] theorem Tryd.tsz51 : tszOf Tryd.prog 51 = some (1, false) := by kernel_rfl
theorem Tryd.cz51 : Tryd.prog.cellsOf 51 = 1 := by kernel_rfl
@[go_sem] theorem Tryd.udef51 : (Tryd.prog.underlying 51).isSome = true := by kernel_rfl
@[go_sem] theorem Tryd.zero51 : zeroOf Tryd.prog 51 = some [.lit ((Go.Value.nilFunc))] := by kernel_rfl
@[go_sem] theorem Tryd.tsz52 : tszOf Tryd.prog 52 = some (1, false) := by kernel_rfl
theorem Tryd.cz52 : Tryd.prog.cellsOf 52 = 1 := by kernel_rfl
@[go_sem] theorem Tryd.udef52 : (Tryd.prog.underlying 52).isSome = true := by kernel_rfl
@[go_sem] theorem Tryd.zero52 : zeroOf Tryd.prog 52 = some [.lit ((Go.Value.nilFunc))] := by kernel_rfl
@[go_sem] theorem Tryd.tsz53 : tszOf Tryd.prog 53 = some (1, false) := by kernel_rfl
theorem Tryd.cz53 : Tryd.prog.cellsOf 53 = 1 := by kernel_rfl
@[go_sem] theorem Tryd.udef53 : (Tryd.prog.underlying 53).isSome = true := by kernel_rfl
@[go_sem] theorem Tryd.zero53 : zeroOf Tryd.prog 53 = some [.lit ((Go.Value.nilFunc))] := by kernel_rfl
@[go_sem] theorem Tryd.tsz54 : tszOf Tryd.prog 54 = some (1, false) := by kernel_rfl
theorem Tryd.cz54 : Tryd.prog.cellsOf 54 = 1 := by kernel_rfl
@[go_sem] theorem Tryd.udef54 : (Tryd.prog.underlying 54).isSome = true := by kernel_rfl
@[go_sem] theorem Tryd.zero54 : zeroOf Tryd.prog 54 = some [.lit ((Go.Value.nilFunc))] := by kernel_rfl
@[go_sem] theorem Tryd.tsz55 : tszOf Tryd.prog 55 = some (1, false) := by kernel_rfl
theorem Tryd.cz55 : Tryd.prog.cellsOf 55 = 1 := by kernel_rfl
@[go_sem] theorem Tryd.udef55 : (Tryd.prog.underlying 55).isSome = true := by kernel_rfl
@[go_sem] theorem Tryd.zero55 : zeroOf Tryd.prog 55 = some [.lit ((Go.Value.nilFunc))] := by kernel_rfl
@[go_sem] theorem Tryd.tsz56 : tszOf Tryd.prog 56 = some (1, false) := by kernel_rfl
theorem Tryd.cz56 : Tryd.prog.cellsOf 56 = 1 := by kernel_rfl
@[go_sem] theorem Tryd.udef56 : (Tryd.prog.underlying 56).isSome = true := by kernel_rfl
@[go_sem] theorem Tryd.zero56 : zeroOf Tryd.prog 56 = some [.lit ((Go.Value.nilFunc))] := by kernel_rfl
@[go_sem] theorem Tryd.tsz57 : tszOf Tryd.prog 57 = some (5, true) := by kernel_rfl
theorem Tryd.cz57 : Tryd.prog.cellsOf 57 = 5 := by kernel_rfl
@[go_sem] theorem Tryd.udef57 : (Tryd.prog.underlying 57).isSome = true := by kernel_rfl
@[go_sem] theorem Tryd.zero57 : zeroOf Tryd.prog 57 = some [.int .i64 0, .int .i64 0, .int .i64 0, .int .i64 0, .int .i64 0] := by kernel_rfl
@[go_sem] theorem Tryd.pl57 : plOf Tryd.prog 57 = some [(0, 1), (1, 1), (2, 1), (3, 1), (4, 1)] := by kernel_rfl
@[go_sem] theorem Tryd.tsz58 : tszOf Tryd.prog 58 = some (5, true) := by kernel_rfl
theorem Tryd.cz58 : Tryd.prog.cellsOf 58 = 5 := by kernel_rfl
@[go_sem] theorem Tryd.udef58 : (Tryd.prog.underlying 58).isSome = true := by kernel_rfl
@[go_sem] theorem Tryd.zero58 : zeroOf Tryd.prog 58 = some [.int .i64 0, .int .i64 0, .int .i64 0, .int .i64 0, .int .i64 0] := by kernel_rfl
@[go_sem] theorem Tryd.flatEq58 : flatEq Tryd.prog 58 = some [.int .i64, .int .i64, .int .i64, .int .i64, .int .i64] := by kernel_rfl
@[go_sem] theorem Tryd.pl58 : plOf Tryd.prog 58 = some [(0, 1), (1, 1), (2, 1), (3, 1), (4, 1)] := by kernel_rfl
@[go_sem] theorem Tryd.fd58_0 : fdOf Tryd.prog 58 0 = some (0, 1, false) := by kernel_rfl
@[go_sem] theorem Tryd.fd58_1 : fdOf Tryd.prog 58 1 = some (1, 1, false) := by kernel_rfl
@[go_sem] theorem Tryd.fd58_2 : fdOf Tryd.prog 58 2 = some (2, 1, false) := by kernel_rfl
@[go_sem] theorem Tryd.fd58_3 : fdOf Tryd.prog 58 3 = some (3, 1, false) := by kernel_rfl
@[go_sem] theorem Tryd.fd58_4 : fdOf Tryd.prog 58 4 = some (4, 1, false) := by kernel_rfl
@[go_sem] theorem Tryd.tsz59 : tszOf Tryd.prog 59 = some (1, false) := by kernel_rfl
theorem Tryd.cz59 : Tryd.prog.cellsOf 59 = 1 := by kernel_rfl
@[go_sem] theorem Tryd.udef59 : (Tryd.prog.underlying 59).isSome = true := by kernel_rfl
@[go_sem] theorem Tryd.zero59 : zeroOf Tryd.prog 59 = some [.lit ((Go.Value.nilFunc))] := by kernel_rfl
@[go_sem] theorem Tryd.tsz60 : tszOf Tryd.prog 60 = some (1, false) := by kernel_rfl
theorem Tryd.cz60 : Tryd.prog.cellsOf 60 = 1 := by kernel_rfl
@[go_sem] theorem Tryd.udef60 : (Tryd.prog.underlying 60).isSome = true := by kernel_rfl
@[go_sem] theorem Tryd.zero60 : zeroOf Tryd.prog 60 = some [.lit ((Go.Value.nilFunc))] := by kernel_rfl
@[go_sem] theorem Tryd.tsz61 : tszOf Tryd.prog 61 = some (1, false) := by kernel_rfl
theorem Tryd.cz61 : Tryd.prog.cellsOf 61 = 1 := by kernel_rfl
@[go_sem] theorem Tryd.udef61 : (Tryd.prog.underlying 61).isSome = true := by kernel_rfl
@[go_sem] theorem Tryd.zero61 : zeroOf Tryd.prog 61 = some [.lit ((Go.Value.nilFunc))] := by kernel_rfl
@[go_sem] theorem Tryd.tsz62 : tszOf Tryd.prog 62 = some (1, false) := by kernel_rfl
theorem Tryd.cz62 : Tryd.prog.cellsOf 62 = 1 := by kernel_rfl
@[go_sem] theorem Tryd.udef62 : (Tryd.prog.underlying 62).isSome = true := by kernel_rfl
@[go_sem] theorem Tryd.zero62 : zeroOf Tryd.prog 62 = some [.lit ((Go.Value.nilFunc))] := by kernel_rfl
@[go_sem] theorem Tryd.tsz63 : tszOf Tryd.prog 63 = some (1, false) := by kernel_rfl
theorem Tryd.cz63 : Tryd.prog.cellsOf 63 = 1 := by kernel_rfl
@[go_sem] theorem Tryd.udef63 : (Tryd.prog.underlying 63).isSome = true := by kernel_rfl
@[go_sem] theorem Tryd.zero63 : zeroOf Tryd.prog 63 = some [.lit ((Go.Value.nilFunc))] := by kernel_rfl
@[go_sem] theorem Tryd.tsz64 : tszOf Tryd.prog 64 = some (1, false) := by kernel_rfl
theorem Tryd.cz64 : Tryd.prog.cellsOf 64 = 1 := by kernel_rfl
@[go_sem] theorem Tryd.udef64 : (Tryd.prog.underlying 64).isSome = true := by kernel_rfl
@[go_sem] theorem Tryd.zero64 : zeroOf Tryd.prog 64 = some [.lit ((Go.Value.nilFunc))] := by kernel_rfl
@[go_sem] theorem Tryd.tsz65 : tszOf Tryd.prog 65 = some (1, false) := by kernel_rfl
theorem Tryd.cz65 : Tryd.prog.cellsOf 65 = 1 := by kernel_rfl
@[go_sem] theorem Tryd.udef65 : (Tryd.prog.underlying 65).isSome = true := by kernel_rfl
@[go_sem] theorem Tryd.zero65 : zeroOf Tryd.prog 65 = some [.nilsl] := by kernel_rfl
@[go_sem] theorem Tryd.el65 : elOf Tryd.prog 65 = some (9, 1, 16) := by kernel_rfl
@[go_sem] theorem Tryd.isSl65 : isSl Tryd.prog 65 = true := by kernel_rfl
@[go_sem] theorem Tryd.tsz66 : tszOf Tryd.prog 66 = some (1, false) := by kernel_rfl
theorem Tryd.cz66 : Tryd.prog.cellsOf 66 = 1 := by kernel_rfl
@[go_sem] theorem Tryd.udef66 : (Tryd.prog.underlying 66).isSome = true := by kernel_rfl
@[go_sem] theorem Tryd.zero66 : zeroOf Tryd.prog 66 = some [.lit ((Go.Value.nilFunc))] := by kernel_rfl
@[go_sem] theorem Tryd.tsz67 : tszOf Tryd.prog 67 = some (1, false) := by kernel_rfl
theorem Tryd.cz67 : Tryd.prog.cellsOf 67 = 1 := by kernel_rfl
@[go_sem] theorem Tryd.udef67 : (Tryd.prog.underlying 67).isSome = true := by kernel_rfl
@[go_sem] theorem Tryd.zero67 : zeroOf Tryd.prog 67 = some [.lit ((Go.Value.nilFunc))] := by kernel_rfl
@[go_sem] theorem Tryd.tsz68 : tszOf Tryd.prog 68 = some (1, false) := by kernel_rfl
theorem Tryd.cz68 : Tryd.prog.cellsOf 68 = 1 := by kernel_rfl
@[go_sem] theorem Tryd.udef68 : (Tryd.prog.underlying 68).isSome = true := by kernel_rfl
@[go_sem] theorem Tryd.zero68 : zeroOf Tryd.prog 68 = some [.lit ((Go.Value.nilFunc))] := by kernel_rfl
@[go_sem] theorem Tryd.tsz69 : tszOf Tryd.prog 69 = some (1, false) := by kernel_rfl
theorem Tryd.cz69 : Tryd.prog.cellsOf 69 = 1 := by kernel_rfl
@[go_sem] theorem Tryd.udef69 : (Tryd.prog.underlying 69).isSome = true := by kernel_rfl
@[go_sem] theorem Tryd.zero69 : zeroOf Tryd.prog 69 = some [.lit ((Go.Value.nilFunc))] := by kernel_rfl
@[go_sem] theorem Tryd.tsz70 : tszOf Tryd.prog 70 = some (1, false) := by kernel_rfl
theorem Tryd.cz70 : Tryd.prog.cellsOf 70 = 1 := by kernel_rfl
@[go_sem] theorem Tryd.udef70 : (Tryd.prog.underlying 70).isSome = true := by kernel_rfl
@[go_sem] theorem Tryd.zero70 : zeroOf Tryd.prog 70 = some [.lit ((Go.Value.nilFunc))] := by kernel_rfl
@[go_sem] theorem Tryd.tsz71 : tszOf Tryd.prog 71 = some (3, true) := by kernel_rfl
theorem Tryd.cz71 : Tryd.prog.cellsOf 71 = 3 := by kernel_rfl
@[go_sem] theorem Tryd.udef71 : (Tryd.prog.underlying 71).isSome = true := by kernel_rfl
@[go_sem] theorem Tryd.zero71 : zeroOf Tryd.prog 71 = some [.int .i64 0, .bool false, .int .i64 0] := by kernel_rfl
@[go_sem] theorem Tryd.pl71 : plOf Tryd.prog 71 = some [(0, 1), (1, 1), (2, 1)] := by kernel_rfl
@[go_sem] theorem Tryd.tsz72 : tszOf Tryd.prog 72 = some (3, true) := by kernel_rfl
theorem Tryd.cz72 : Tryd.prog.cellsOf 72 = 3 := by kernel_rfl
@[go_sem] theorem Tryd.udef72 : (Tryd.prog.underlying 72).isSome = true := by kernel_rfl
@[go_sem] theorem Tryd.zero72 : zeroOf Tryd.prog 72 = some [.int .i64 0, .bool false, .int .i64 0] := by kernel_rfl
@[go_sem] theorem Tryd.flatEq72 : flatEq Tryd.prog 72 = some [.int .i64, .bool, .int .i64] := by kernel_rfl
@[go_sem] theorem Tryd.pl72 : plOf Tryd.prog 72 = some [(0, 1), (1, 1), (2, 1)] := by kernel_rfl
@[go_sem] theorem Tryd.fd72_0 : fdOf Tryd.prog 72 0 = some (0, 1, false) := by kernel_rfl
@[go_sem] theorem Tryd.fd72_1 : fdOf Tryd.prog 72 1 = some (1, 1, false) := by kernel_rfl
@[go_sem] theorem Tryd.fd72_2 : fdOf Tryd.prog 72 2 = some (2, 1, false) := by kernel_rfl
@[go_sem] theorem Tryd.tsz73 : tszOf Tryd.prog 73 = some (1, false) := by kernel_rfl
theorem Tryd.cz73 : Tryd.prog.cellsOf 73 = 1 := by kernel_rfl
@[go_sem] theorem Tryd.udef73 : (Tryd.prog.underlying 73).isSome = true := by kernel_rfl
@[go_sem] theorem Tryd.zero73 : zeroOf Tryd.prog 73 = some [.lit ((Go.Value.nilFunc))] := by kernel_rfl
@[go_sem] theorem Tryd.tsz74 : tszOf Tryd.prog 74 = some (1, false) := by kernel_rfl
theorem Tryd.cz74 : Tryd.prog.cellsOf 74 = 1 := by kernel_rfl
@[go_sem] theorem Tryd.udef74 : (Tryd.prog.underlying 74).isSome = true := by kernel_rfl
@[go_sem] theorem Tryd.zero74 : zeroOf Tryd.prog 74 = some [.lit ((Go.Value.nilFunc))] := by kernel_rfl
@[go_sem] theorem Tryd.tsz75 : tszOf Tryd.prog 75 = some (3, true) := by kernel_rfl
theorem Tryd.cz75 : Tryd.prog.cellsOf 75 = 3 := by kernel_rfl
@[go_sem] theorem Tryd.udef75 : (Tryd.prog.underlying 75).isSome = true := by kernel_rfl
@[go_sem] theorem Tryd.zero75 : zeroOf Tryd.prog 75 = some [.int .i64 0, .bool false, .int .i64 0] := by kernel_rfl
@[go_sem] theorem Tryd.flatEq75 : flatEq Tryd.prog 75 = some [.int .i64, .bool, .int .i64] := by kernel_rfl
@[go_sem] theorem Tryd.pl75 : plOf Tryd.prog 75 = some [(0, 1), (1, 1), (2, 1)] := by kernel_rfl
@[go_sem] theorem Tryd.fd75_0 : fdOf Tryd.prog 75 0 = some (0, 1, false) := by kernel_rfl
@[go_sem] theorem Tryd.fd75_1 : fdOf Tryd.prog 75 1 = some (1, 1, false) := by kernel_rfl
@[go_sem] theorem Tryd.fd75_2 : fdOf Tryd.prog 75 2 = some (2, 1, false) := by kernel_rfl
@[go_sem] theorem Tryd.tsz76 : tszOf Tryd.prog 76 = some (1, false) := by kernel_rfl
theorem Tryd.cz76 : Tryd.prog.cellsOf 76 = 1 := by kernel_rfl
@[go_sem] theorem Tryd.udef76 : (Tryd.prog.underlying 76).isSome = true := by kernel_rfl
@[go_sem] theorem Tryd.zero76 : zeroOf Tryd.prog 76 = some [.lit ((Go.Value.nilFunc))] := by kernel_rfl
@[go_sem] theorem Tryd.tsz77 : tszOf Tryd.prog 77 = some (5, true) := by kernel_rfl
theorem Tryd.cz77 : Tryd.prog.cellsOf 77 = 5 := by kernel_rfl
@[go_sem] theorem Tryd.udef77 : (Tryd.prog.underlying 77).isSome = true := by kernel_rfl
@[go_sem] theorem Tryd.zero77 : zeroOf Tryd.prog 77 = some [.int .i64 0, .int .i64 0, .int .i64 0, .int .i64 0, .int .i64 0] := by kernel_rfl
@[go_sem] theorem Tryd.flatEq77 : flatEq Tryd.prog 77 = some [.int .i64, .int .i64, .int .i64, .int .i64, .int .i64] := by kernel_rfl
@[go_sem] theorem Tryd.pl77 : plOf Tryd.prog 77 = some [(0, 1), (1, 1), (2, 1), (3, 1), (4, 1)] := by kernel_rfl
@[go_sem] theorem Tryd.fd77_0 : fdOf Tryd.prog 77 0 = some (0, 1, false) := by kernel_rfl
@[go_sem] theorem Tryd.fd77_1 : fdOf Tryd.prog 77 1 = some (1, 1, false) := by kernel_rfl
@[go_sem] theorem Tryd.fd77_2 : fdOf Tryd.prog 77 2 = some (2, 1, false) := by kernel_rfl
@[go_sem] theorem Tryd.fd77_3 : fdOf Tryd.prog 77 3 = some (3, 1, false) := by kernel_rfl
@[go_sem] theorem Tryd.fd77_4 : fdOf Tryd.prog 77 4 = some (4, 1, false) := by kernel_rfl
@[go_sem] theorem Tryd.tsz78 : tszOf Tryd.prog 78 = some (1, false) := by kernel_rfl
theorem Tryd.cz78 : Tryd.prog.cellsOf 78 = 1 := by kernel_rfl
@[go_sem] theorem Tryd.udef78 : (Tryd.prog.underlying 78).isSome = true := by kernel_rfl
@[go_sem] theorem Tryd.zero78 : zeroOf Tryd.prog 78 = some [.lit ((Go.Value.nilFunc))] := by kernel_rfl
@[go_sem] theorem Tryd.tsz79 : tszOf Tryd.prog 79 = some (1, false) := by kernel_rfl
theorem Tryd.cz79 : Tryd.prog.cellsOf 79 = 1 := by kernel_rfl
@[go_sem] theorem Tryd.udef79 : (Tryd.prog.underlying 79).isSome = true := by kernel_rfl
@[go_sem] theorem Tryd.zero79 : zeroOf Tryd.prog 79 = some [.lit ((Go.Value.nilFunc))] := by kernel_rfl
@[go_sem] theorem Tryd.tsz80 : tszOf Tryd.prog 80 = some (1, false) := by kernel_rfl
theorem Tryd.cz80 : Tryd.prog.cellsOf 80 = 1 := by kernel_rfl
@[go_sem] theorem Tryd.udef80 : (Tryd.prog.underlying 80).isSome = true := by kernel_rfl
@[go_sem] theorem Tryd.zero80 : zeroOf Tryd.prog 80 = some [.lit ((Go.Value.nilFunc))] := by kernel_rfl
@[go_sem] theorem Tryd.tsz81 : tszOf Tryd.prog 81 = some (1, false) := by kernel_rfl
theorem Tryd.cz81 : Tryd.prog.cellsOf 81 = 1 := by kernel_rfl
@[go_sem] theorem Tryd.udef81 : (Tryd.prog.underlying 81).isSome = true := by kernel_rfl
@[go_sem] theorem Tryd.zero81 : zeroOf Tryd.prog 81 = some [.lit ((Go.Value.nilFunc))] := by kernel_rfl
@[go_sem] theorem Tryd.tsz82 : tszOf Tryd.prog 82 = some (1, false) := by kernel_rfl
theorem Tryd.cz82 : Tryd.prog.cellsOf 82 = 1 := by kernel_rfl
@[go_sem] theorem Tryd.udef82 : (Tryd.prog.underlying 82).isSome = true := by kernel_rfl
@[go_sem] theorem Tryd.zero82 : zeroOf Tryd.prog 82 = some [.lit ((Go.Value.nilFunc))] := by kernel_rfl
@[go_sem] theorem Tryd.tsz83 : tszOf Tryd.prog 83 = some (1, false) := by kernel_rfl
theorem Tryd.cz83 : Tryd.prog.cellsOf 83 = 1 := by kernel_rfl
@[go_sem] theorem Tryd.udef83 : (Tryd.prog.underlying 83).isSome = true := by kernel_rfl
@[go_sem] theorem Tryd.zero83 : zeroOf Tryd.prog 83 = some [.lit ((Go.Value.nilFunc))] := by kernel_rfl
@[go_sem] theorem Tryd.tsz84 : tszOf Tryd.prog 84 = some (1, false) := by kernel_rfl
theorem Tryd.cz84 : Tryd.prog.cellsOf 84 = 1 := by kernel_rfl
@[go_sem] theorem Tryd.udef84 : (Tryd.prog.underlying 84).isSome = true := by kernel_rfl
@[go_sem] theorem Tryd.zero84 : zeroOf Tryd.prog 84 = some [.lit ((Go.Value.nilFunc))] := by kernel_rfl
@[go_sem] theorem Tryd.tsz85 : tszOf Tryd.prog 85 = some (1, false) := by kernel_rfl
theorem Tryd.cz85 : Tryd.prog.cellsOf 85 = 1 := by kernel_rfl
@[go_sem] theorem Tryd.udef85 : (Tryd.prog.underlying 85).isSome = true := by kernel_rfl
@[go_sem] theorem Tryd.zero85 : zeroOf Tryd.prog 85 = some [.lit ((Go.Value.nilFunc))] := by kernel_rfl
@[go_sem] theorem Tryd.tsz86 : tszOf Tryd.prog 86 = some (1, false) := by kernel_rfl
theorem Tryd.cz86 : Tryd.prog.cellsOf 86 = 1 := by kernel_rfl
@[go_sem] theorem Tryd.udef86 : (Tryd.prog.underlying 86).isSome = true := by kernel_rfl
@[go_sem] theorem Tryd.zero86 : zeroOf Tryd.prog 86 = some [.lit ((Go.Value.nilFunc))] := by kernel_rfl
@[go_sem] theorem Tryd.tsz87 : tszOf Tryd.prog 87 = some (1, false) := by kernel_rfl
theorem Tryd.cz87 : Tryd.prog.cellsOf 87 = 1 := by kernel_rfl
@[go_sem] theorem Tryd.udef87 : (Tryd.prog.underlying 87).isSome = true := by kernel_rfl
@[go_sem] theorem Tryd.zero87 : zeroOf Tryd.prog 87 = some [.lit ((Go.Value.nilFunc))] := by kernel_rfl
@[go_sem] theorem Tryd.tsz88 : tszOf Tryd.prog 88 = some (1, false) := by kernel_rfl
theorem Tryd.cz88 : Tryd.prog.cellsOf 88 = 1 := by kernel_rfl
@[go_sem] theorem Tryd.udef88 : (Tryd.prog.underlying 88).isSome = true := by kernel_rfl
@[go_sem] theorem Tryd.zero88 : zeroOf Tryd.prog 88 = some [.lit ((Go.Value.map none))] := by kernel_rfl
@[go_sem] theorem Tryd.mapOf88 : mapOf Tryd.prog 88 = some (.int .i64, .bool false) := by kernel_rfl
@[go_sem] theorem Tryd.tsz89 : tszOf Tryd.prog 89 = some (1, false) := by kernel_rfl
theorem Tryd.cz89 : Tryd.prog.cellsOf 89 = 1 := by kernel_rfl
@[go_sem] theorem Tryd.udef89 : (Tryd.prog.underlying 89).isSome = true := by kernel_rfl
@[go_sem] theorem Tryd.zero89 : zeroOf Tryd.prog 89 = some [.lit ((Go.Value.nilFunc))] := by kernel_rfl
@[go_sem] theorem Tryd.tsz90 : tszOf Tryd.prog 90 = some (24, true) := by kernel_rfl
theorem Tryd.cz90 : Tryd.prog.cellsOf 90 = 24 := by kernel_rfl
@[go_sem] theorem Tryd.udef90 : (Tryd.prog.underlying 90).isSome = true := by kernel_rfl
@[go_sem] theorem Tryd.zero90 : zeroOf Tryd.prog 90 = some [.int .u8 0, .int .u8 0, .int .u8 0, .int .u8 0, .int .u8 0, .int .u8 0, .int .u8 0, .int .u8 0, .int .u8 0, .int .u8 0, .int .u8 0, .int .u8 0, .int .u8 0, .int .u8 0, .int .u8 0, .int .u8 0, .int .u8 0, .int .u8 0, .int .u8 0, .int .u8 0, .int .u8 0, .int .u8 0, .int .u8 0, .int .u8 0] := by kernel_rfl
@[go_sem] theorem Tryd.ar90 : arOf Tryd.prog 90 = some (24, 1, false) := by kernel_rfl
@[go_sem] theorem Tryd.pl90 : plOf Tryd.prog 90 = some [(0, 1), (1, 1), (2, 1), (3, 1), (4, 1), (5, 1), (6, 1), (7, 1), (8, 1), (9, 1), (10, 1), (11, 1), (12, 1), (13, 1), (14, 1), (15, 1), (16, 1), (17, 1), (18, 1), (19, 1), (20, 1), (21, 1), (22, 1), (23, 1)] := by kernel_rfl
@[go_sem] theorem Tryd.tsz91 : tszOf Tryd.prog 91 = some (1, false) := by kernel_rfl
theorem Tryd.cz91 : Tryd.prog.cellsOf 91 = 1 := by kernel_rfl
@[go_sem] theorem Tryd.udef91 : (Tryd.prog.underlying 91).isSome = true := by kernel_rfl
@[go_sem] theorem Tryd.zero91 : zeroOf Tryd.prog 91 = some [.int .u64 0] := by kernel_rfl
@[go_sem] theorem Tryd.isInt91 : isIntT Tryd.prog 91 = some .u64 := by kernel_rfl
@[go_sem] theorem Tryd.tsz92 : tszOf Tryd.prog 92 = some (1, false) := by kernel_rfl
theorem Tryd.cz92 : Tryd.prog.cellsOf 92 = 1 := by kernel_rfl
@[go_sem] theorem Tryd.udef92 : (Tryd.prog.underlying 92).isSome = true := by kernel_rfl
@[go_sem] theorem Tryd.zero92 : zeroOf Tryd.prog 92 = some [.lit ((Go.Value.nilFunc))] := by kernel_rfl
@[go_sem] theorem Tryd.tsz93 : tszOf Tryd.prog 93 = some (1, false) := by kernel_rfl
theorem Tryd.cz93 : Tryd.prog.cellsOf 93 = 1 := by kernel_rfl
@[go_sem] theorem Tryd.udef93 : (Tryd.prog.underlying 93).isSome = true := by kernel_rfl
@[go_sem] theorem Tryd.zero93 : zeroOf Tryd.prog 93 = some [.lit ((Go.Value.nilFunc))] := by kernel_rfl
@[go_sem] theorem Tryd.tsz94 : tszOf Tryd.prog 94 = some (1, false) := by kernel_rfl
theorem Tryd.cz94 : Tryd.prog.cellsOf 94 = 1 := by kernel_rfl
@[go_sem] theorem Tryd.udef94 : (Tryd.prog.underlying 94).isSome = true := by kernel_rfl
@[go_sem] theorem Tryd.zero94 : zeroOf Tryd.prog 94 = some [.nilsl] := by kernel_rfl
@[go_sem] theorem Tryd.el94 : elOf Tryd.prog 94 = some (5, 1, 1) := by kernel_rfl
@[go_sem] theorem Tryd.isSl94 : isSl Tryd.prog 94 = true := by kernel_rfl
@[go_sem] theorem Tryd.tsz96 : tszOf Tryd.prog 96 = some (1, false) := by kernel_rfl
theorem Tryd.cz96 : Tryd.prog.cellsOf 96 = 1 := by kernel_rfl
@[go_sem] theorem Tryd.udef96 : (Tryd.prog.underlying 96).isSome = true := by kernel_rfl
@[go_sem] theorem Tryd.zero96 : zeroOf Tryd.prog 96 = some [.lit ((Go.Value.nilFunc))] := by kernel_rfl
@[go_sem] theorem Tryd.tsz97 : tszOf Tryd.prog 97 = some (1, false) := by kernel_rfl
theorem Tryd.cz97 : Tryd.prog.cellsOf 97 = 1 := by kernel_rfl
@[go_sem] theorem Tryd.udef97 : (Tryd.prog.underlying 97).isSome = true := by kernel_rfl
@[go_sem] theorem Tryd.zero97 : zeroOf Tryd.prog 97 = some [.lit ((Go.Value.nilFunc))] := by kernel_rfl
@[go_sem] theorem Tryd.tsz98 : tszOf Tryd.prog 98 = some (20, true) := by kernel_rfl
theorem Tryd.cz98 : Tryd.prog.cellsOf 98 = 20 := by kernel_rfl
@[go_sem] theorem Tryd.udef98 : (Tryd.prog.underlying 98).isSome = true := by kernel_rfl
@[go_sem] theorem Tryd.zero98 : zeroOf Tryd.prog 98 = some [.int .u64 0, .int .u64 0, .int .u64 0, .int .u64 0, .int .u64 0, .int .u64 0, .int .u64 0, .int .u64 0, .int .u64 0, .int .u64 0, .int .u64 0, .int .u64 0, .int .u64 0, .int .u64 0, .int .u64 0, .int .u64 0, .int .u64 0, .int .u64 0, .int .u64 0, .int .u64 0] := by kernel_rfl
@[go_sem] theorem Tryd.ar98 : arOf Tryd.prog 98 = some (20, 1, false) := by kernel_rfl
@[go_sem] theorem Tryd.pl98 : plOf Tryd.prog 98 = some [(0, 1), (1, 1), (2, 1), (3, 1), (4, 1), (5, 1), (6, 1), (7, 1), (8, 1), (9, 1), (10, 1), (11, 1), (12, 1), (13, 1), (14, 1), (15, 1), (16, 1), (17, 1), (18, 1), (19, 1)] := by kernel_rfl
@[go_sem] theorem Tryd.tsz99 : tszOf Tryd.prog 99 = some (1, false) := by kernel_rfl
theorem Tryd.cz99 : Tryd.prog.cellsOf 99 = 1 := by kernel_rfl
@[go_sem] theorem Tryd.udef99 : (Tryd.prog.underlying 99).isSome = true := by kernel_rfl
@[go_sem] theorem Tryd.zero99 : zeroOf Tryd.prog 99 = some [.int .u32 0] := by kernel_rfl
@[go_sem] theorem Tryd.isInt99 : isIntT Tryd.prog 99 = some .u32 := by kernel_rfl
@[go_sem] theorem Tryd.tsz100 : tszOf Tryd.prog 100 = some (65, true) := by kernel_rfl
theorem Tryd.cz100 : Tryd.prog.cellsOf 100 = 65 := by kernel_rfl
@[go_sem] theorem Tryd.udef100 : (Tryd.prog.underlying 100).isSome = true := by kernel_rfl
@[go_sem] theorem Tryd.ar100 : arOf Tryd.prog 100 = some (65, 1, false) := by kernel_rfl
@[go_sem] theorem Tryd.pl100 : plOf Tryd.prog 100 = some [(0, 1), (1, 1), (2, 1), (3, 1), (4, 1), (5, 1), (6, 1), (7, 1), (8, 1), (9, 1), (10, 1), (11, 1), (12, 1), (13, 1), (14, 1), (15, 1), (16, 1), (17, 1), (18, 1), (19, 1), (20, 1), (21, 1), (22, 1), (23, 1), (24, 1), (25, 1), (26, 1), (27, 1), (28, 1), (29, 1), (30, 1), (31, 1), (32, 1), (33, 1), (34, 1), (35, 1), (36, 1), (37, 1), (38, 1), (39, 1), (40, 1), (41, 1), (42, 1), (43, 1), (44, 1), (45, 1), (46, 1), (47, 1), (48, 1), (49, 1), (50, 1), (51, 1), (52, 1), (53, 1), (54, 1), (55, 1), (56, 1), (57, 1), (58, 1), (59, 1), (60, 1), (61, 1), (62, 1), (63, 1), (64, 1)] := by kernel_rfl
@[go_sem] theorem Tryd.tsz101 : tszOf Tryd.prog 101 = some (1, false) := by kernel_rfl
theorem Tryd.cz101 : Tryd.prog.cellsOf 101 = 1 := by kernel_rfl
@[go_sem] theorem Tryd.udef101 : (Tryd.prog.underlying 101).isSome = true := by kernel_rfl
@[go_sem] theorem Tryd.zero101 : zeroOf Tryd.prog 101 = some [.int .u64 0] := by kernel_rfl
@[go_sem] theorem Tryd.isInt101 : isIntT Tryd.prog 101 = some .u64 := by kernel_rfl
@[go_sem] theorem Tryd.tsz102 : tszOf Tryd.prog 102 = some (1, false) := by kernel_rfl
theorem Tryd.cz102 : Tryd.prog.cellsOf 102 = 1 := by kernel_rfl
@[go_sem] theorem Tryd.udef102 : (Tryd.prog.underlying 102).isSome = true := by kernel_rfl
@[go_sem] theorem Tryd.zero102 : zeroOf Tryd.prog 102 = some [.lit ((Go.Value.nilFunc))] := by kernel_rfl
@[go_sem] theorem Tryd.tsz103 : tszOf Tryd.prog 103 = some (1, false) := by kernel_rfl
theorem Tryd.cz103 : Tryd.prog.cellsOf 103 = 1 := by kernel_rfl
@[go_sem] theorem Tryd.udef103 : (Tryd.prog.underlying 103).isSome = true := by kernel_rfl
@[go_sem] theorem Tryd.zero103 : zeroOf Tryd.prog 103 = some [.lit ((Go.Value.nilFunc))] := by kernel_rfl
@[go_sem] theorem Tryd.tsz104 : tszOf Tryd.prog 104 = some (32, true) := by kernel_rfl
theorem Tryd.cz104 : Tryd.prog.cellsOf 104 = 32 := by kernel_rfl
@[go_sem] theorem Tryd.udef104 : (Tryd.prog.underlying 104).isSome = true := by kernel_rfl
@[go_sem] theorem Tryd.zero104 : zeroOf Tryd.prog 104 = some [.int .u8 0, .int .u8 0, .int .u8 0, .int .u8 0, .int .u8 0, .int .u8 0, .int .u8 0, .int .u8 0, .int .u8 0, .int .u8 0, .int .u8 0, .int .u8 0, .int .u8 0, .int .u8 0, .int .u8 0, .int .u8 0, .int .u8 0, .int .u8 0, .int .u8 0, .int .u8 0, .int .u8 0, .int .u8 0, .int .u8 0, .int .u8 0, .int .u8 0, .int .u8 0, .int .u8 0, .int .u8 0, .int .u8 0, .int .u8 0, .int .u8 0, .int .u8 0] := by kernel_rfl
@[go_sem] theorem Tryd.ar104 : arOf Tryd.prog 104 = some (32, 1, false) := by kernel_rfl
@[go_sem] theorem Tryd.pl104 : plOf Tryd.prog 104 = some [(0, 1), (1, 1), (2, 1), (3, 1), (4, 1), (5, 1), (6, 1), (7, 1), (8, 1), (9, 1), (10, 1), (11, 1), (12, 1), (13, 1), (14, 1), (15, 1), (16, 1), (17, 1), (18, 1), (19, 1), (20, 1), (21, 1), (22, 1), (23, 1), (24, 1), (25, 1), (26, 1), (27, 1), (28, 1), (29, 1), (30, 1), (31, 1)] := by kernel_rfl
@[go_sem] theorem Tryd.tsz105 : tszOf Tryd.prog 105 = some (64, true) := by kernel_rfl
theorem Tryd.cz105 : Tryd.prog.cellsOf 105 = 64 := by kernel_rfl
@[go_sem] theorem Tryd.udef105 : (Tryd.prog.underlying 105).isSome = true := by kernel_rfl
@[go_sem] theorem Tryd.zero105 : zeroOf Tryd.prog 105 = some [.int .u8 0, .int .u8 0, .int .u8 0, .int .u8 0, .int .u8 0, .int .u8 0, .int .u8 0, .int .u8 0, .int .u8 0, .int .u8 0, .int .u8 0, .int .u8 0, .int .u8 0, .int .u8 0, .int .u8 0, .int .u8 0, .int .u8 0, .int .u8 0, .int .u8 0, .int .u8 0, .int .u8 0, .int .u8 0, .int .u8 0, .int .u8 0, .int .u8 0, .int .u8 0, .int .u8 0, .int .u8 0, .int .u8 0, .int .u8 0, .int .u8 0, .int .u8 0, .int .u8 0, .int .u8 0, .int .u8 0, .int .u8 0, .int .u8 0, .int .u8 0, .int .u8 0, .int .u8 0, .int .u8 0, .int .u8 0, .int .u8 0, .int .u8 0, .int .u8 0, .int .u8 0, .int .u8 0, .int .u8 0, .int .u8 0, .int .u8 0, .int .u8 0, .int .u8 0, .int .u8 0, .int .u8 0, .int .u8 0, .int .u8 0, .int .u8 0, .int .u8 0, .int .u8 0, .int .u8 0, .int .u8 0, .int .u8 0, .int .u8 0, .int .u8 0] := by kernel_rfl
@[go_sem] theorem Tryd.ar105 : arOf Tryd.prog 105 = some (64, 1, false) := by kernel_rfl
@[go_sem] theorem Tryd.pl105 : plOf Tryd.prog 105 = some [(0, 1), (1, 1), (2, 1), (3, 1), (4, 1), (5, 1), (6, 1), (7, 1), (8, 1), (9, 1), (10, 1), (11, 1), (12, 1), (13, 1), (14, 1), (15, 1), (16, 1), (17, 1), (18, 1), (19, 1), (20, 1), (21, 1), (22, 1), (23, 1), (24, 1), (25, 1), (26, 1), (27, 1), (28, 1), (29, 1), (30, 1), (31, 1), (32, 1), (33, 1), (34, 1), (35, 1), (36, 1), (37, 1), (38, 1), (39, 1), (40, 1), (41, 1), (42, 1), (43, 1), (44, 1), (45, 1), (46, 1), (47, 1), (48, 1), (49, 1), (50, 1), (51, 1), (52, 1), (53, 1), (54, 1), (55, 1), (56, 1), (57, 1), (58, 1), (59, 1), (60, 1), (61, 1), (62, 1), (63, 1)] := by kernel_rfl
@[go_sem] theorem Tryd.tsz106 : tszOf Tryd.prog 106 = some (4, true) := by kernel_rfl
theorem Tryd.cz106 : Tryd.prog.cellsOf 106 = 4 := by kernel_rfl
@[go_sem] theorem Tryd.udef106 : (Tryd.prog.underlying 106).isSome = true := by kernel_rfl
@[go_sem] theorem Tryd.zero106 : zeroOf Tryd.prog 106 = some [.lit ((Go.Value.pointer none)), .lit ((Go.Value.pointer none)), .lit ((Go.Value.pointer none)), .str ByteArray.empty] := by kernel_rfl
@[go_sem] theorem Tryd.pl106 : plOf Tryd.prog 106 = some [(0, 1), (1, 1), (2, 1), (3, 1)] := by kernel_rfl
@[go_sem] theorem Tryd.tsz107 : tszOf Tryd.prog 107 = some (4, true) := by kernel_rfl
theorem Tryd.cz107 : Tryd.prog.cellsOf 107 = 4 := by kernel_rfl
@[go_sem] theorem Tryd.udef107 : (Tryd.prog.underlying 107).isSome = true := by kernel_rfl
@[go_sem] theorem Tryd.zero107 : zeroOf Tryd.prog 107 = some [.lit ((Go.Value.pointer none)), .lit ((Go.Value.pointer none)), .lit ((Go.Value.pointer none)), .str ByteArray.empty] := by kernel_rfl
@[go_sem] theorem Tryd.pl107 : plOf Tryd.prog 107 = some [(0, 1), (1, 1), (2, 1), (3, 1)] := by kernel_rfl
@[go_sem] theorem Tryd.tsz108 : tszOf Tryd.prog 108 = some (0, true) := by kernel_rfl
theorem Tryd.cz108 : Tryd.prog.cellsOf 108 = 0 := by kernel_rfl
@[go_sem] theorem Tryd.udef108 : (Tryd.prog.underlying 108).isSome = true := by kernel_rfl
@[go_sem] theorem Tryd.zero108 : zeroOf Tryd.prog 108 = some [] := by kernel_rfl
@[go_sem] theorem Tryd.ar108 : arOf Tryd.prog 108 = some (0, 1, false) := by kernel_rfl
@[go_sem] theorem Tryd.pl108 : plOf Tryd.prog 108 = some [] := by kernel_rfl
@[go_sem] theorem Tryd.tsz109 : tszOf Tryd.prog 109 = some (0, true) := by kernel_rfl
theorem Tryd.cz109 : Tryd.prog.cellsOf 109 = 0 := by kernel_rfl
@[go_sem] theorem Tryd.udef109 : (Tryd.prog.underlying 109).isSome = true := by kernel_rfl
@[go_sem] theorem Tryd.zero109 : zeroOf Tryd.prog 109 = some [] := by kernel_rfl
@[go_sem] theorem Tryd.pl109 : plOf Tryd.prog 109 = some [(0, 0)] := by kernel_rfl
@[go_sem] theorem Tryd.tsz110 : tszOf Tryd.prog 110 = some (0, true) := by kernel_rfl
theorem Tryd.cz110 : Tryd.prog.cellsOf 110 = 0 := by kernel_rfl
@[go_sem] theorem Tryd.udef110 : (Tryd.prog.underlying 110).isSome = true := by kernel_rfl
@[go_sem] theorem Tryd.zero110 : zeroOf Tryd.prog 110 = some [] := by kernel_rfl
@[go_sem] theorem Tryd.pl110 : plOf Tryd.prog 110 = some [(0, 0)] := by kernel_rfl
@[go_sem] theorem Tryd.tsz111 : tszOf Tryd.prog 111 = some (1, false) := by kernel_rfl
theorem Tryd.cz111 : Tryd.prog.cellsOf 111 = 1 := by kernel_rfl
@[go_sem] theorem Tryd.udef111 : (Tryd.prog.underlying 111).isSome = true := by kernel_rfl
@[go_sem] theorem Tryd.zero111 : zeroOf Tryd.prog 111 = some [.lit ((Go.Value.nilFunc))] := by kernel_rfl
@[go_sem] theorem Tryd.tsz112 : tszOf Tryd.prog 112 = some (1, false) := by kernel_rfl
theorem Tryd.cz112 : Tryd.prog.cellsOf 112 = 1 := by kernel_rfl
@[go_sem] theorem Tryd.udef112 : (Tryd.prog.underlying 112).isSome = true := by kernel_rfl
@[go_sem] theorem Tryd.zero112 : zeroOf Tryd.prog 112 = some [.int .u8 0] := by kernel_rfl
@[go_sem] theorem Tryd.isInt112 : isIntT Tryd.prog 112 = some .u8 := by kernel_rfl
@[go_sem] theorem Tryd.tsz113 : tszOf Tryd.prog 113 = some (1, false) := by kernel_rfl
theorem Tryd.cz113 : Tryd.prog.cellsOf 113 = 1 := by kernel_rfl
@[go_sem] theorem Tryd.udef113 : (Tryd.prog.underlying 113).isSome = true := by kernel_rfl
@[go_sem] theorem Tryd.zero113 : zeroOf Tryd.prog 113 = some [.int .u8 0] := by kernel_rfl
@[go_sem] theorem Tryd.isInt113 : isIntT Tryd.prog 113 = some .u8 := by kernel_rfl
@[go_sem] theorem Tryd.tsz114 : tszOf Tryd.prog 114 = some (1, false) := by kernel_rfl
theorem Tryd.cz114 : Tryd.prog.cellsOf 114 = 1 := by kernel_rfl
@[go_sem] theorem Tryd.udef114 : (Tryd.prog.underlying 114).isSome = true := by kernel_rfl
@[go_sem] theorem Tryd.zero114 : zeroOf Tryd.prog 114 = some [.lit ((Go.Value.nilFunc))] := by kernel_rfl
@[go_sem] theorem Tryd.tsz115 : tszOf Tryd.prog 115 = some (1, false) := by kernel_rfl
theorem Tryd.cz115 : Tryd.prog.cellsOf 115 = 1 := by kernel_rfl
@[go_sem] theorem Tryd.udef115 : (Tryd.prog.underlying 115).isSome = true := by kernel_rfl
@[go_sem] theorem Tryd.zero115 : zeroOf Tryd.prog 115 = some [.lit ((Go.Value.pointer none))] := by kernel_rfl
@[go_sem] theorem Tryd.tsz116 : tszOf Tryd.prog 116 = some (1, false) := by kernel_rfl
theorem Tryd.cz116 : Tryd.prog.cellsOf 116 = 1 := by kernel_rfl
@[go_sem] theorem Tryd.udef116 : (Tryd.prog.underlying 116).isSome = true := by kernel_rfl
@[go_sem] theorem Tryd.zero116 : zeroOf Tryd.prog 116 = some [.int .i32 0] := by kernel_rfl
@[go_sem] theorem Tryd.isInt116 : isIntT Tryd.prog 116 = some .i32 := by kernel_rfl
@[go_sem] theorem Tryd.tsz117 : tszOf Tryd.prog 117 = some (1, false) := by kernel_rfl
theorem Tryd.cz117 : Tryd.prog.cellsOf 117 = 1 := by kernel_rfl
@[go_sem] theorem Tryd.udef117 : (Tryd.prog.underlying 117).isSome = true := by kernel_rfl
@[go_sem] theorem Tryd.zero117 : zeroOf Tryd.prog 117 = some [.int .i32 0] := by kernel_rfl
@[go_sem] theorem Tryd.isInt117 : isIntT Tryd.prog 117 = some .i32 := by kernel_rfl
@[go_sem] theorem Tryd.tsz118 : tszOf Tryd.prog 118 = some (11, true) := by kernel_rfl
theorem Tryd.cz118 : Tryd.prog.cellsOf 118 = 11 := by kernel_rfl
@[go_sem] theorem Tryd.udef118 : (Tryd.prog.underlying 118).isSome = true := by kernel_rfl
@[go_sem] theorem Tryd.zero118 : zeroOf Tryd.prog 118 = some [.int .u64 0, .int .u64 0, .int .u32 0, .int .u8 0, .int .u8 0, .int .u8 0, .int .u8 0, .lit ((Go.Value.nilFunc)), .lit ((Go.Value.pointer none)), .int .i32 0, .int .i32 0] := by kernel_rfl
@[go_sem] theorem Tryd.pl118 : plOf Tryd.prog 118 = some [(0, 1), (1, 1), (2, 1), (3, 1), (4, 1), (5, 1), (6, 1), (7, 1), (8, 1), (9, 1), (10, 1)] := by kernel_rfl
@[go_sem] theorem Tryd.tsz119 : tszOf Tryd.prog 119 = some (11, true) := by kernel_rfl
theorem Tryd.cz119 : Tryd.prog.cellsOf 119 = 11 := by kernel_rfl
@[go_sem] theorem Tryd.udef119 : (Tryd.prog.underlying 119).isSome = true := by kernel_rfl
@[go_sem] theorem Tryd.zero119 : zeroOf Tryd.prog 119 = some [.int .u64 0, .int .u64 0, .int .u32 0, .int .u8 0, .int .u8 0, .int .u8 0, .int .u8 0, .lit ((Go.Value.nilFunc)), .lit ((Go.Value.pointer none)), .int .i32 0, .int .i32 0] := by kernel_rfl
@[go_sem] theorem Tryd.pl119 : plOf Tryd.prog 119 = some [(0, 1), (1, 1), (2, 1), (3, 1), (4, 1), (5, 1), (6, 1), (7, 1), (8, 1), (9, 1), (10, 1)] := by kernel_rfl
@[go_sem] theorem Tryd.tsz120 : tszOf Tryd.prog 120 = some (1, false) := by kernel_rfl
theorem Tryd.cz120 : Tryd.prog.cellsOf 120 = 1 := by kernel_rfl
@[go_sem] theorem Tryd.udef120 : (Tryd.prog.underlying 120).isSome = true := by kernel_rfl
@[go_sem] theorem Tryd.zero120 : zeroOf Tryd.prog 120 = some [.lit ((Go.Value.pointer none))] := by kernel_rfl
theorem Tryd.okF2 : okF Tryd.prog 2 = true := by kernel_rfl
theorem Tryd.okF3 : okF Tryd.prog 3 = true := by kernel_rfl
theorem Tryd.okF4 : okF Tryd.prog 4 = true := by kernel_rfl
theorem Tryd.okF5 : okF Tryd.prog 5 = true := by kernel_rfl
theorem Tryd.okF6 : okF Tryd.prog 6 = true := by kernel_rfl
theorem Tryd.okF7 : okF Tryd.prog 7 = true := by kernel_rfl
theorem Tryd.okF8 : okF Tryd.prog 8 = true := by kernel_rfl
theorem Tryd.okF9 : okF Tryd.prog 9 = true := by kernel_rfl
theorem Tryd.okF10 : okF Tryd.prog 10 = true := by kernel_rfl
theorem Tryd.okF11 : okF Tryd.prog 11 = true := by kernel_rfl
theorem Tryd.okF12 : okF Tryd.prog 12 = true := by kernel_rfl
theorem Tryd.okF13 : okF Tryd.prog 13 = true := by kernel_rfl
theorem Tryd.okF14 : okF Tryd.prog 14 = true := by kernel_rfl
theorem Tryd.okF15 : okF Tryd.prog 15 = true := by kernel_rfl
theorem Tryd.okF16 : okF Tryd.prog 16 = true := by kernel_rfl
theorem Tryd.okF17 : okF Tryd.prog 17 = true := by kernel_rfl
theorem Tryd.okF18 : okF Tryd.prog 18 = true := by kernel_rfl
theorem Tryd.okF19 : okF Tryd.prog 19 = true := by kernel_rfl
theorem Tryd.okF20 : okF Tryd.prog 20 = true := by kernel_rfl
theorem Tryd.okF21 : okF Tryd.prog 21 = true := by kernel_rfl
theorem Tryd.okF22 : okF Tryd.prog 22 = true := by kernel_rfl
theorem Tryd.okF23 : okF Tryd.prog 23 = true := by kernel_rfl
theorem Tryd.okF24 : okF Tryd.prog 24 = true := by kernel_rfl
theorem Tryd.okF25 : okF Tryd.prog 25 = true := by kernel_rfl
theorem Tryd.okF26 : okF Tryd.prog 26 = true := by kernel_rfl
theorem Tryd.okF27 : okF Tryd.prog 27 = true := by kernel_rfl
theorem Tryd.okF28 : okF Tryd.prog 28 = true := by kernel_rfl
theorem Tryd.okF29 : okF Tryd.prog 29 = true := by kernel_rfl
theorem Tryd.okF30 : okF Tryd.prog 30 = true := by kernel_rfl
theorem Tryd.okF31 : okF Tryd.prog 31 = true := by kernel_rfl
theorem Tryd.okF32 : okF Tryd.prog 32 = true := by kernel_rfl
theorem Tryd.okF33 : okF Tryd.prog 33 = true := by kernel_rfl
theorem Tryd.okF34 : okF Tryd.prog 34 = true := by kernel_rfl
theorem Tryd.okF35 : okF Tryd.prog 35 = true := by kernel_rfl
theorem Tryd.okF36 : okF Tryd.prog 36 = true := by kernel_rfl
theorem Tryd.okF37 : okF Tryd.prog 37 = true := by kernel_rfl
theorem Tryd.okF38 : okF Tryd.prog 38 = true := by kernel_rfl
theorem Tryd.okF39 : okF Tryd.prog 39 = true := by kernel_rfl
theorem Tryd.okF40 : okF Tryd.prog 40 = true := by kernel_rfl
theorem Tryd.okF41 : okF Tryd.prog 41 = true := by kernel_rfl
theorem Tryd.okF42 : okF Tryd.prog 42 = true := by kernel_rfl
theorem Tryd.okF43 : okF Tryd.prog 43 = true := by kernel_rfl
theorem Tryd.okF44 : okF Tryd.prog 44 = true := by kernel_rfl
theorem Tryd.okF45 : okF Tryd.prog 45 = true := by kernel_rfl
theorem Tryd.okF46 : okF Tryd.prog 46 = true := by kernel_rfl
theorem Tryd.okF47 : okF Tryd.prog 47 = true := by kernel_rfl
theorem Tryd.okF48 : okF Tryd.prog 48 = true := by kernel_rfl
theorem Tryd.okF49 : okF Tryd.prog 49 = true := by kernel_rfl
theorem Tryd.okF50 : okF Tryd.prog 50 = true := by kernel_rfl
theorem Tryd.okF51 : okF Tryd.prog 51 = true := by kernel_rfl
theorem Tryd.okF52 : okF Tryd.prog 52 = true := by kernel_rfl
theorem Tryd.okF53 : okF Tryd.prog 53 = true := by kernel_rfl
theorem Tryd.okF54 : okF Tryd.prog 54 = true := by kernel_rfl
theorem Tryd.okF55 : okF Tryd.prog 55 = true := by kernel_rfl
theorem Tryd.okF56 : okF Tryd.prog 56 = true := by kernel_rfl
theorem Tryd.okF57 : okF Tryd.prog 57 = true := by kernel_rfl
theorem Tryd.okF58 : okF Tryd.prog 58 = true := by kernel_rfl
theorem Tryd.okF59 : okF Tryd.prog 59 = true := by kernel_rfl
theorem Tryd.okF60 : okF Tryd.prog 60 = true := by kernel_rfl
theorem Tryd.okF61 : okF Tryd.prog 61 = true := by kernel_rfl
theorem Tryd.okF62 : okF Tryd.prog 62 = true := by kernel_rfl
theorem Tryd.okF63 : okF Tryd.prog 63 = true := by kernel_rfl
theorem Tryd.okF64 : okF Tryd.prog 64 = true := by kernel_rfl
theorem Tryd.okF65 : okF Tryd.prog 65 = true := by kernel_rfl
theorem Tryd.okF66 : okF Tryd.prog 66 = true := by kernel_rfl
theorem Tryd.okF67 : okF Tryd.prog 67 = true := by kernel_rfl
theorem Tryd.okF68 : okF Tryd.prog 68 = true := by kernel_rfl
theorem Tryd.okF69 : okF Tryd.prog 69 = true := by kernel_rfl
theorem Tryd.okF70 : okF Tryd.prog 70 = true := by kernel_rfl
theorem Tryd.okF71 : okF Tryd.prog 71 = true := by kernel_rfl
theorem Tryd.okF72 : okF Tryd.prog 72 = true := by kernel_rfl
theorem Tryd.okF73 : okF Tryd.prog 73 = true := by kernel_rfl
theorem Tryd.okF74 : okF Tryd.prog 74 = true := by kernel_rfl
theorem Tryd.okF75 : okF Tryd.prog 75 = true := by kernel_rfl
theorem Tryd.okF76 : okF Tryd.prog 76 = true := by kernel_rfl
theorem Tryd.okF77 : okF Tryd.prog 77 = true := by kernel_rfl
theorem Tryd.okF78 : okF Tryd.prog 78 = true := by kernel_rfl
theorem Tryd.okF101 : okF Tryd.prog 101 = true := by kernel_rfl
end Go.Proofs
