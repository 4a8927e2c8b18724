/-
  A part of the proof: texts put together by a program of the prover. Conditions: none.
-/
import Derived.Test.YtfdikfpnkgglkaaZConnectFaults2
import Derived.Test.YtfdikfpnkgglkaaZConnectFaults3
import Derived.Test.YtfdikfpnkgglkaaProg
import Derived.KernelRfl
set_option linter.unusedSimpArgs false
set_option linter.unusedVariables false
section
namespace Go.Proofs
open Go.Lv

theorem Try.mixed : Try.prog.follows .mixedOrders = true := by kernel_rfl
@[go_sem] theorem Try.tsz1 : tszOf Try.prog 1 = some (1, false) := by kernel_rfl
@[go_sem] theorem Try.udef1 : (Try.prog.underlying 1).isSome = true := by kernel_rfl
@[go_sem] theorem Try.zero1 : zeroOf Try.prog 1 = some [.lit ((Go.Value.nilFunc))] := by kernel_rfl
@[go_sem] theorem Try.tsz2 : tszOf Try.prog 2 = some (1, false) := by kernel_rfl
@[go_sem] theorem Try.udef2 : (Try.prog.underlying 2).isSome = true := by kernel_rfl
@[go_sem] theorem Try.zero2 : zeroOf Try.prog 2 = some [.int .i64 0] := by kernel_rfl
@[go_sem] theorem Try.isInt2 : isIntT Try.prog 2 = some .i64 := by kernel_rfl
@[go_sem] theorem Try.tsz3 : tszOf Try.prog 3 = some (1, false) := by kernel_rfl
theorem Try.cz3 : Try.prog.cellsOf 3 = 1 := by kernel_rfl
@[go_sem] theorem Try.udef3 : (Try.prog.underlying 3).isSome = true := by kernel_rfl
@[go_sem] theorem Try.zero3 : zeroOf Try.prog 3 = some [.int .i64 0] := by kernel_rfl
@[go_sem] theorem Try.isInt3 : isIntT Try.prog 3 = some .i64 := by kernel_rfl
@[go_sem] theorem Try.tsz4 : tszOf Try.prog 4 = some (1, false) := by kernel_rfl
@[go_sem] theorem Try.udef4 : (Try.prog.underlying 4).isSome = true := by kernel_rfl
@[go_sem] theorem Try.zero4 : zeroOf Try.prog 4 = some [.bool false] := by kernel_rfl
@[go_sem] theorem Try.isBool4 : isBoolT Try.prog 4 = true := by kernel_rfl
@[go_sem] theorem Try.tsz5 : tszOf Try.prog 5 = some (1, false) := by kernel_rfl
@[go_sem] theorem Try.udef5 : (Try.prog.underlying 5).isSome = true := by kernel_rfl
@[go_sem] theorem Try.zero5 : zeroOf Try.prog 5 = some [.int .u8 0] := by kernel_rfl
@[go_sem] theorem Try.isInt5 : isIntT Try.prog 5 = some .u8 := by kernel_rfl
@[go_sem] theorem Try.tsz6 : tszOf Try.prog 6 = some (1, false) := by kernel_rfl
@[go_sem] theorem Try.udef6 : (Try.prog.underlying 6).isSome = true := by kernel_rfl
@[go_sem] theorem Try.zero6 : zeroOf Try.prog 6 = some [.int .u8 0] := by kernel_rfl
@[go_sem] theorem Try.isInt6 : isIntT Try.prog 6 = some .u8 := by kernel_rfl
@[go_sem] theorem Try.tsz7 : tszOf Try.prog 7 = some (4, true) := by kernel_rfl
@[go_sem] theorem Try.udef7 : (Try.prog.underlying 7).isSome = true := by kernel_rfl
@[go_sem] theorem Try.zero7 : zeroOf Try.prog 7 = some [.int .i64 0, .int .i64 0, .bool false, .int .u8 0] := by kernel_rfl
@[go_sem] theorem Try.pl7 : plOf Try.prog 7 = some [(0, 1), (1, 1), (2, 1), (3, 1)] := by kernel_rfl
@[go_sem] theorem Try.tsz8 : tszOf Try.prog 8 = some (4, true) := by kernel_rfl
@[go_sem] theorem Try.udef8 : (Try.prog.underlying 8).isSome = true := by kernel_rfl
@[go_sem] theorem Try.zero8 : zeroOf Try.prog 8 = some [.int .i64 0, .int .i64 0, .bool false, .int .u8 0] := by kernel_rfl
@[go_sem] theorem Try.pl8 : plOf Try.prog 8 = some [(0, 1), (1, 1), (2, 1), (3, 1)] := by kernel_rfl
@[go_sem] theorem Try.tsz9 : tszOf Try.prog 9 = some (1, false) := by kernel_rfl
theorem Try.cz9 : Try.prog.cellsOf 9 = 1 := by kernel_rfl
@[go_sem] theorem Try.udef9 : (Try.prog.underlying 9).isSome = true := by kernel_rfl
@[go_sem] theorem Try.zero9 : zeroOf Try.prog 9 = some [.str ByteArray.empty] := by kernel_rfl
@[go_sem] theorem Try.isU8S9 : isU8S Try.prog 9 = false := by kernel_rfl
@[go_sem] theorem Try.isIntN9 : isIntT Try.prog 9 = none := by kernel_rfl
@[go_sem] theorem Try.isStr9 : isStr Try.prog 9 = true := by kernel_rfl
@[go_sem] theorem Try.isIntN10 : isIntT Try.prog 10 = none := by kernel_rfl
@[go_sem] theorem Try.isIntN11 : isIntT Try.prog 11 = none := by kernel_rfl
@[go_sem] theorem Try.tsz12 : tszOf Try.prog 12 = some (1, false) := by kernel_rfl
@[go_sem] theorem Try.udef12 : (Try.prog.underlying 12).isSome = true := by kernel_rfl
@[go_sem] theorem Try.zero12 : zeroOf Try.prog 12 = some [.int .u64 0] := by kernel_rfl
@[go_sem] theorem Try.isInt12 : isIntT Try.prog 12 = some .u64 := by kernel_rfl
@[go_sem] theorem Try.tsz16 : tszOf Try.prog 16 = some (1, false) := by kernel_rfl
@[go_sem] theorem Try.udef16 : (Try.prog.underlying 16).isSome = true := by kernel_rfl
@[go_sem] theorem Try.zero16 : zeroOf Try.prog 16 = some [.lit ((Go.Value.pointer none))] := by kernel_rfl
@[go_sem] theorem Try.tsz17 : tszOf Try.prog 17 = some (1, false) := by kernel_rfl
@[go_sem] theorem Try.udef17 : (Try.prog.underlying 17).isSome = true := by kernel_rfl
@[go_sem] theorem Try.zero17 : zeroOf Try.prog 17 = some [.lit ((Go.Value.pointer none))] := by kernel_rfl
@[go_sem] theorem Try.tsz20 : tszOf Try.prog 20 = some (1, false) := by kernel_rfl
@[go_sem] theorem Try.udef20 : (Try.prog.underlying 20).isSome = true := by kernel_rfl
@[go_sem] theorem Try.zero20 : zeroOf Try.prog 20 = some [.lit ((Go.Value.nilIface))] := by kernel_rfl
@[go_sem] theorem Try.isIf20 : isIfT Try.prog 20 = true := by kernel_rfl
@[go_sem] theorem Try.tsz21 : tszOf Try.prog 21 = some (1, false) := by kernel_rfl
@[go_sem] theorem Try.udef21 : (Try.prog.underlying 21).isSome = true := by kernel_rfl
@[go_sem] theorem Try.zero21 : zeroOf Try.prog 21 = some [.int .i32 0] := by kernel_rfl
@[go_sem] theorem Try.isInt21 : isIntT Try.prog 21 = some .i32 := by kernel_rfl
@[go_sem] theorem Try.tsz22 : tszOf Try.prog 22 = some (1, false) := by kernel_rfl
@[go_sem] theorem Try.udef22 : (Try.prog.underlying 22).isSome = true := by kernel_rfl
@[go_sem] theorem Try.zero22 : zeroOf Try.prog 22 = some [.nilsl] := by kernel_rfl
@[go_sem] theorem Try.el22 : elOf Try.prog 22 = some (34, 4, 56) := by kernel_rfl
@[go_sem] theorem Try.isSl22 : isSl Try.prog 22 = true := by kernel_rfl
@[go_sem] theorem Try.tsz23 : tszOf Try.prog 23 = some (1, false) := by kernel_rfl
@[go_sem] theorem Try.udef23 : (Try.prog.underlying 23).isSome = true := by kernel_rfl
@[go_sem] theorem Try.zero23 : zeroOf Try.prog 23 = some [.lit ((Go.Value.nilFunc))] := by kernel_rfl
@[go_sem] theorem Try.tsz24 : tszOf Try.prog 24 = some (1, false) := by kernel_rfl
@[go_sem] theorem Try.udef24 : (Try.prog.underlying 24).isSome = true := by kernel_rfl
@[go_sem] theorem Try.zero24 : zeroOf Try.prog 24 = some [.nilsl] := by kernel_rfl
@[go_sem] theorem Try.el24 : elOf Try.prog 24 = some (40, 4, 56) := by kernel_rfl
@[go_sem] theorem Try.isSl24 : isSl Try.prog 24 = true := by kernel_rfl
@[go_sem] theorem Try.tsz28 : tszOf Try.prog 28 = some (1, false) := by kernel_rfl
@[go_sem] theorem Try.udef28 : (Try.prog.underlying 28).isSome = true := by kernel_rfl
@[go_sem] theorem Try.zero28 : zeroOf Try.prog 28 = some [.lit ((Go.Value.nilFunc))] := by kernel_rfl
@[go_sem] theorem Try.tsz32 : tszOf Try.prog 32 = some (1, false) := by kernel_rfl
theorem Try.cz32 : Try.prog.cellsOf 32 = 1 := by kernel_rfl
@[go_sem] theorem Try.udef32 : (Try.prog.underlying 32).isSome = true := by kernel_rfl
@[go_sem] theorem Try.zero32 : zeroOf Try.prog 32 = some [.nilsl] := by kernel_rfl
@[go_sem] theorem Try.el32 : elOf Try.prog 32 = some (65, 2, 16) := by kernel_rfl
@[go_sem] theorem Try.isSl32 : isSl Try.prog 32 = true := by kernel_rfl
@[go_sem] theorem Try.tsz33 : tszOf Try.prog 33 = some (4, true) := by kernel_rfl
@[go_sem] theorem Try.udef33 : (Try.prog.underlying 33).isSome = true := by kernel_rfl
@[go_sem] theorem Try.zero33 : zeroOf Try.prog 33 = some [.int .i64 0, .str ByteArray.empty, .nilsl, .int .i64 0] := by kernel_rfl
@[go_sem] theorem Try.pl33 : plOf Try.prog 33 = some [(0, 1), (1, 1), (2, 1), (3, 1)] := by kernel_rfl
@[go_sem] theorem Try.tsz34 : tszOf Try.prog 34 = some (4, true) := by kernel_rfl
theorem Try.cz34 : Try.prog.cellsOf 34 = 4 := by kernel_rfl
@[go_sem] theorem Try.udef34 : (Try.prog.underlying 34).isSome = true := by kernel_rfl
@[go_sem] theorem Try.zero34 : zeroOf Try.prog 34 = some [.int .i64 0, .str ByteArray.empty, .nilsl, .int .i64 0] := by kernel_rfl
@[go_sem] theorem Try.pl34 : plOf Try.prog 34 = some [(0, 1), (1, 1), (2, 1), (3, 1)] := by kernel_rfl
@[go_sem] theorem Try.fd34_0 : fdOf Try.prog 34 0 = some (0, 1, false) := by kernel_rfl
@[go_sem] theorem Try.fd34_1 : fdOf Try.prog 34 1 = some (1, 1, false) := by kernel_rfl
@[go_sem] theorem Try.fd34_2 : fdOf Try.prog 34 2 = some (2, 1, false) := by kernel_rfl
@[go_sem] theorem Try.fd34_3 : fdOf Try.prog 34 3 = some (3, 1, false) := by kernel_rfl
@[go_sem] theorem Try.tsz36 : tszOf Try.prog 36 = some (2, true) := by kernel_rfl
@[go_sem] theorem Try.udef36 : (Try.prog.underlying 36).isSome = true := by kernel_rfl
@[go_sem] theorem Try.zero36 : zeroOf Try.prog 36 = some [.int .i64 0, .int .i64 0] := by kernel_rfl
@[go_sem] theorem Try.pl36 : plOf Try.prog 36 = some [(0, 1), (1, 1)] := by kernel_rfl
@[go_sem] theorem Try.tsz37 : tszOf Try.prog 37 = some (2, true) := by kernel_rfl
@[go_sem] theorem Try.udef37 : (Try.prog.underlying 37).isSome = true := by kernel_rfl
@[go_sem] theorem Try.zero37 : zeroOf Try.prog 37 = some [.int .i64 0, .int .i64 0] := by kernel_rfl
@[go_sem] theorem Try.flatEq37 : flatEq Try.prog 37 = some [.int .i64, .int .i64] := by kernel_rfl
@[go_sem] theorem Try.pl37 : plOf Try.prog 37 = some [(0, 1), (1, 1)] := by kernel_rfl
@[go_sem] theorem Try.fd37_0 : fdOf Try.prog 37 0 = some (0, 1, false) := by kernel_rfl
@[go_sem] theorem Try.fd37_1 : fdOf Try.prog 37 1 = some (1, 1, false) := by kernel_rfl
@[go_sem] theorem Try.tsz38 : tszOf Try.prog 38 = some (1, false) := by kernel_rfl
@[go_sem] theorem Try.udef38 : (Try.prog.underlying 38).isSome = true := by kernel_rfl
@[go_sem] theorem Try.zero38 : zeroOf Try.prog 38 = some [.nilsl] := by kernel_rfl
@[go_sem] theorem Try.el38 : elOf Try.prog 38 = some (37, 2, 16) := by kernel_rfl
@[go_sem] theorem Try.isSl38 : isSl Try.prog 38 = true := by kernel_rfl
@[go_sem] theorem Try.tsz39 : tszOf Try.prog 39 = some (4, true) := by kernel_rfl
@[go_sem] theorem Try.udef39 : (Try.prog.underlying 39).isSome = true := by kernel_rfl
@[go_sem] theorem Try.zero39 : zeroOf Try.prog 39 = some [.int .i64 0, .str ByteArray.empty, .nilsl, .int .i64 0] := by kernel_rfl
@[go_sem] theorem Try.pl39 : plOf Try.prog 39 = some [(0, 1), (1, 1), (2, 1), (3, 1)] := by kernel_rfl
@[go_sem] theorem Try.tsz40 : tszOf Try.prog 40 = some (4, true) := by kernel_rfl
@[go_sem] theorem Try.udef40 : (Try.prog.underlying 40).isSome = true := by kernel_rfl
@[go_sem] theorem Try.zero40 : zeroOf Try.prog 40 = some [.int .i64 0, .str ByteArray.empty, .nilsl, .int .i64 0] := by kernel_rfl
@[go_sem] theorem Try.pl40 : plOf Try.prog 40 = some [(0, 1), (1, 1), (2, 1), (3, 1)] := by kernel_rfl
@[go_sem] theorem Try.fd40_0 : fdOf Try.prog 40 0 = some (0, 1, false) := by kernel_rfl
@[go_sem] theorem Try.fd40_1 : fdOf Try.prog 40 1 = some (1, 1, false) := by kernel_rfl
@[go_sem] theorem Try.fd40_2 : fdOf Try.prog 40 2 = some (2, 1, false) := by kernel_rfl
@[go_sem] theorem Try.fd40_3 : fdOf Try.prog 40 3 = some (3, 1, false) := by kernel_rfl
@[go_sem] theorem Try.tsz44 : tszOf Try.prog 44 = some (1, false) := by kernel_rfl
@[go_sem] theorem Try.udef44 : (Try.prog.underlying 44).isSome = true := by kernel_rfl
@[go_sem] theorem Try.zero44 : zeroOf Try.prog 44 = some [.lit ((Go.Value.nilFunc))] := by kernel_rfl
@[go_sem] theorem Try.tsz48 : tszOf Try.prog 48 = some (1, false) := by kernel_rfl
@[go_sem] theorem Try.udef48 : (Try.prog.underlying 48).isSome = true := by kernel_rfl
@[go_sem] theorem Try.zero48 : zeroOf Try.prog 48 = some [.lit ((Go.Value.nilFunc))] := by kernel_rfl
@[go_sem] theorem Try.tsz49 : tszOf Try.prog 49 = some (1, false) := by kernel_rfl
@[go_sem] theorem Try.udef49 : (Try.prog.underlying 49).isSome = true := by kernel_rfl
@[go_sem] theorem Try.zero49 : zeroOf Try.prog 49 = some [.lit ((Go.Value.nilFunc))] := by kernel_rfl
@[go_sem] theorem Try.tsz53 : tszOf Try.prog 53 = some (1, false) := by kernel_rfl
@[go_sem] theorem Try.udef53 : (Try.prog.underlying 53).isSome = true := by kernel_rfl
@[go_sem] theorem Try.zero53 : zeroOf Try.prog 53 = some [.lit ((Go.Value.nilFunc))] := by kernel_rfl
@[go_sem] theorem Try.tsz55 : tszOf Try.prog 55 = some (1, false) := by kernel_rfl
@[go_sem] theorem Try.udef55 : (Try.prog.underlying 55).isSome = true := by kernel_rfl
@[go_sem] theorem Try.zero55 : zeroOf Try.prog 55 = some [.lit ((Go.Value.nilFunc))] := by kernel_rfl
@[go_sem] theorem Try.tsz56 : tszOf Try.prog 56 = some (1, false) := by kernel_rfl
@[go_sem] theorem Try.udef56 : (Try.prog.underlying 56).isSome = true := by kernel_rfl
@[go_sem] theorem Try.zero56 : zeroOf Try.prog 56 = some [.nilsl] := by kernel_rfl
@[go_sem] theorem Try.el56 : elOf Try.prog 56 = some (38, 1, 24) := by kernel_rfl
@[go_sem] theorem Try.isSl56 : isSl Try.prog 56 = true := by kernel_rfl
@[go_sem] theorem Try.tsz60 : tszOf Try.prog 60 = some (1, false) := by kernel_rfl
@[go_sem] theorem Try.udef60 : (Try.prog.underlying 60).isSome = true := by kernel_rfl
@[go_sem] theorem Try.zero60 : zeroOf Try.prog 60 = some [.nilsl] := by kernel_rfl
@[go_sem] theorem Try.el60 : elOf Try.prog 60 = some (5, 1, 1) := by kernel_rfl
@[go_sem] theorem Try.isSl60 : isSl Try.prog 60 = true := by kernel_rfl
@[go_sem] theorem Try.isU8S60 : isU8S Try.prog 60 = true := by kernel_rfl
@[go_sem] theorem Try.tsz65 : tszOf Try.prog 65 = some (2, true) := by kernel_rfl
theorem Try.cz65 : Try.prog.cellsOf 65 = 2 := by kernel_rfl
@[go_sem] theorem Try.udef65 : (Try.prog.underlying 65).isSome = true := by kernel_rfl
@[go_sem] theorem Try.zero65 : zeroOf Try.prog 65 = some [.int .i64 0, .int .i64 0] := by kernel_rfl
@[go_sem] theorem Try.flatEq65 : flatEq Try.prog 65 = some [.int .i64, .int .i64] := by kernel_rfl
@[go_sem] theorem Try.pl65 : plOf Try.prog 65 = some [(0, 1), (1, 1)] := by kernel_rfl
@[go_sem] theorem Try.fd65_0 : fdOf Try.prog 65 0 = some (0, 1, false) := by kernel_rfl
@[go_sem] theorem Try.fd65_1 : fdOf Try.prog 65 1 = some (1, 1, false) := by kernel_rfl
@[go_sem] theorem Try.tsz67 : tszOf Try.prog 67 = some (1, false) := by kernel_rfl
@[go_sem] theorem Try.udef67 : (Try.prog.underlying 67).isSome = true := by kernel_rfl
@[go_sem] theorem Try.zero67 : zeroOf Try.prog 67 = some [.lit ((Go.Value.nilFunc))] := by kernel_rfl
@[go_sem] theorem Try.tsz68 : tszOf Try.prog 68 = some (1, false) := by kernel_rfl
@[go_sem] theorem Try.udef68 : (Try.prog.underlying 68).isSome = true := by kernel_rfl
@[go_sem] theorem Try.zero68 : zeroOf Try.prog 68 = some [.lit ((Go.Value.map none))] := by kernel_rfl
@[go_sem] theorem Try.mapOf68 : mapOf Try.prog 68 = some (.string, .bool false) := by kernel_rfl
@[go_sem] theorem Try.tsz74 : tszOf Try.prog 74 = some (0, true) := by kernel_rfl
@[go_sem] theorem Try.udef74 : (Try.prog.underlying 74).isSome = true := by kernel_rfl
@[go_sem] theorem Try.zero74 : zeroOf Try.prog 74 = some [] := by kernel_rfl
@[go_sem] theorem Try.ar74 : arOf Try.prog 74 = some (0, 1, false) := by kernel_rfl
@[go_sem] theorem Try.pl74 : plOf Try.prog 74 = some [] := by kernel_rfl
@[go_sem] theorem Try.tsz75 : tszOf Try.prog 75 = some (0, true) := by kernel_rfl
@[go_sem] theorem Try.udef75 : (Try.prog.underlying 75).isSome = true := by kernel_rfl
@[go_sem] theorem Try.zero75 : zeroOf Try.prog 75 = some [] := by kernel_rfl
@[go_sem] theorem Try.pl75 : plOf Try.prog 75 = some [(0, 0)] := by kernel_rfl
@[go_sem] theorem Try.tsz76 : tszOf Try.prog 76 = some (0, true) := by kernel_rfl
@[go_sem] theorem Try.udef76 : (Try.prog.underlying 76).isSome = true := by kernel_rfl
@[go_sem] theorem Try.zero76 : zeroOf Try.prog 76 = some [] := by kernel_rfl
@[go_sem] theorem Try.pl76 : plOf Try.prog 76 = some [(0, 0)] := by kernel_rfl
@[go_sem] theorem Try.tsz78 : tszOf Try.prog 78 = some (1, false) := by kernel_rfl
@[go_sem] theorem Try.udef78 : (Try.prog.underlying 78).isSome = true := by kernel_rfl
@[go_sem] theorem Try.zero78 : zeroOf Try.prog 78 = some [.int .u32 0] := by kernel_rfl
@[go_sem] theorem Try.isInt78 : isIntT Try.prog 78 = some .u32 := by kernel_rfl
@[go_sem] theorem Try.tsz79 : tszOf Try.prog 79 = some (1, false) := by kernel_rfl
@[go_sem] theorem Try.udef79 : (Try.prog.underlying 79).isSome = true := by kernel_rfl
@[go_sem] theorem Try.zero79 : zeroOf Try.prog 79 = some [.int .u8 0] := by kernel_rfl
@[go_sem] theorem Try.isInt79 : isIntT Try.prog 79 = some .u8 := by kernel_rfl
@[go_sem] theorem Try.tsz80 : tszOf Try.prog 80 = some (1, false) := by kernel_rfl
@[go_sem] theorem Try.udef80 : (Try.prog.underlying 80).isSome = true := by kernel_rfl
@[go_sem] theorem Try.zero80 : zeroOf Try.prog 80 = some [.int .u8 0] := by kernel_rfl
@[go_sem] theorem Try.isInt80 : isIntT Try.prog 80 = some .u8 := by kernel_rfl
@[go_sem] theorem Try.tsz81 : tszOf Try.prog 81 = some (1, false) := by kernel_rfl
@[go_sem] theorem Try.udef81 : (Try.prog.underlying 81).isSome = true := by kernel_rfl
@[go_sem] theorem Try.zero81 : zeroOf Try.prog 81 = some [.lit ((Go.Value.nilFunc))] := by kernel_rfl
@[go_sem] theorem Try.tsz82 : tszOf Try.prog 82 = some (1, false) := by kernel_rfl
@[go_sem] theorem Try.udef82 : (Try.prog.underlying 82).isSome = true := by kernel_rfl
@[go_sem] theorem Try.zero82 : zeroOf Try.prog 82 = some [.lit ((Go.Value.pointer none))] := by kernel_rfl
@[go_sem] theorem Try.tsz83 : tszOf Try.prog 83 = some (1, false) := by kernel_rfl
@[go_sem] theorem Try.udef83 : (Try.prog.underlying 83).isSome = true := by kernel_rfl
@[go_sem] theorem Try.zero83 : zeroOf Try.prog 83 = some [.int .i32 0] := by kernel_rfl
@[go_sem] theorem Try.isInt83 : isIntT Try.prog 83 = some .i32 := by kernel_rfl
@[go_sem] theorem Try.tsz84 : tszOf Try.prog 84 = some (1, false) := by kernel_rfl
@[go_sem] theorem Try.udef84 : (Try.prog.underlying 84).isSome = true := by kernel_rfl
@[go_sem] theorem Try.zero84 : zeroOf Try.prog 84 = some [.int .i32 0] := by kernel_rfl
@[go_sem] theorem Try.isInt84 : isIntT Try.prog 84 = some .i32 := by kernel_rfl
@[go_sem] theorem Try.tsz85 : tszOf Try.prog 85 = some (11, true) := by kernel_rfl
@[go_sem] theorem Try.udef85 : (Try.prog.underlying 85).isSome = true := by kernel_rfl
@[go_sem] theorem Try.zero85 : zeroOf Try.prog 85 = some [.int .u64 0, .int .u64 0, .int .u32 0, .int .u8 0, .int .u8 0, .int .u8 0, .int .u8 0, .lit ((Go.Value.nilFunc)), .lit ((Go.Value.pointer none)), .int .i32 0, .int .i32 0] := by kernel_rfl
@[go_sem] theorem Try.pl85 : plOf Try.prog 85 = some [(0, 1), (1, 1), (2, 1), (3, 1), (4, 1), (5, 1), (6, 1), (7, 1), (8, 1), (9, 1), (10, 1)] := by kernel_rfl
@[go_sem] theorem Try.tsz86 : tszOf Try.prog 86 = some (11, true) := by kernel_rfl
@[go_sem] theorem Try.udef86 : (Try.prog.underlying 86).isSome = true := by kernel_rfl
@[go_sem] theorem Try.zero86 : zeroOf Try.prog 86 = some [.int .u64 0, .int .u64 0, .int .u32 0, .int .u8 0, .int .u8 0, .int .u8 0, .int .u8 0, .lit ((Go.Value.nilFunc)), .lit ((Go.Value.pointer none)), .int .i32 0, .int .i32 0] := by kernel_rfl
@[go_sem] theorem Try.pl86 : plOf Try.prog 86 = some [(0, 1), (1, 1), (2, 1), (3, 1), (4, 1), (5, 1), (6, 1), (7, 1), (8, 1), (9, 1), (10, 1)] := by kernel_rfl
@[go_sem] theorem Try.tsz87 : tszOf Try.prog 87 = some (1, false) := by kernel_rfl
@[go_sem] theorem Try.udef87 : (Try.prog.underlying 87).isSome = true := by kernel_rfl
@[go_sem] theorem Try.zero87 : zeroOf Try.prog 87 = some [.lit ((Go.Value.pointer none))] := by kernel_rfl
@[go_sem] theorem Try.isPt3 : isPt Try.prog 3 = false := by kernel_rfl
@[go_sem] theorem Try.isPt9 : isPt Try.prog 9 = false := by kernel_rfl
@[go_sem] theorem Try.isPt22 : isPt Try.prog 22 = false := by kernel_rfl
@[go_sem] theorem Try.isPt24 : isPt Try.prog 24 = false := by kernel_rfl
@[go_sem] theorem Try.isPt32 : isPt Try.prog 32 = false := by kernel_rfl
@[go_sem] theorem Try.isPt34 : isPt Try.prog 34 = false := by kernel_rfl
@[go_sem] theorem Try.isPt37 : isPt Try.prog 37 = false := by kernel_rfl
@[go_sem] theorem Try.isPt38 : isPt Try.prog 38 = false := by kernel_rfl
@[go_sem] theorem Try.isPt40 : isPt Try.prog 40 = false := by kernel_rfl
@[go_sem] theorem Try.isPt56 : isPt Try.prog 56 = false := by kernel_rfl
@[go_sem] theorem Try.isPt65 : isPt Try.prog 65 = false := by kernel_rfl
theorem Try.okF3 : okF Try.prog 3 = true := by kernel_rfl
theorem Try.okF4 : okF Try.prog 4 = true := by kernel_rfl
theorem Try.okF5 : okF Try.prog 5 = true := by kernel_rfl
theorem Try.okF6 : okF Try.prog 6 = true := by kernel_rfl
theorem Try.okF7 : okF Try.prog 7 = true := by kernel_rfl
theorem Try.okF8 : okF Try.prog 8 = true := by kernel_rfl
theorem Try.okF9 : okF Try.prog 9 = true := by kernel_rfl
theorem Try.okF10 : okF Try.prog 10 = true := by kernel_rfl
theorem Try.okF11 : okF Try.prog 11 = true := by kernel_rfl
theorem Try.okF12 : okF Try.prog 12 = true := by kernel_rfl
theorem Try.okF13 : okF Try.prog 13 = true := by kernel_rfl
theorem Try.okF14 : okF Try.prog 14 = true := by kernel_rfl
theorem Try.okF15 : okF Try.prog 15 = true := by kernel_rfl
theorem Try.okF16 : okF Try.prog 16 = true := by kernel_rfl
theorem Try.okF17 : okF Try.prog 17 = true := by kernel_rfl
theorem Try.okF18 : okF Try.prog 18 = true := by kernel_rfl
theorem Try.okF19 : okF Try.prog 19 = true := by kernel_rfl
theorem Try.okF20 : okF Try.prog 20 = true := by kernel_rfl
theorem Try.okF21 : okF Try.prog 21 = true := by kernel_rfl
theorem Try.okF22 : okF Try.prog 22 = true := by kernel_rfl
theorem Try.okF23 : okF Try.prog 23 = true := by kernel_rfl
theorem Try.okF24 : okF Try.prog 24 = true := by kernel_rfl
theorem Try.okF25 : okF Try.prog 25 = true := by kernel_rfl
theorem Try.okF26 : okF Try.prog 26 = true := by kernel_rfl
theorem Try.okF27 : okF Try.prog 27 = true := by kernel_rfl
theorem Try.okF28 : okF Try.prog 28 = true := by kernel_rfl
theorem Try.okF29 : okF Try.prog 29 = true := by kernel_rfl
theorem Try.okF30 : okF Try.prog 30 = true := by kernel_rfl
theorem Try.okF31 : okF Try.prog 31 = true := by kernel_rfl
theorem Try.okF32 : okF Try.prog 32 = true := by kernel_rfl
theorem Try.okF33 : okF Try.prog 33 = true := by kernel_rfl
theorem Try.okF35 : okF Try.prog 35 = true := by kernel_rfl
theorem Try.okF36 : okF Try.prog 36 = true := by kernel_rfl
theorem Try.okF37 : okF Try.prog 37 = true := by kernel_rfl
theorem Try.okF38 : okF Try.prog 38 = true := by kernel_rfl
theorem Try.okF39 : okF Try.prog 39 = true := by kernel_rfl
theorem Try.okF40 : okF Try.prog 40 = true := by kernel_rfl
theorem Try.okF41 : okF Try.prog 41 = true := by kernel_rfl
theorem Try.okF42 : okF Try.prog 42 = true := by kernel_rfl
theorem Try.okF43 : okF Try.prog 43 = true := by kernel_rfl
theorem Try.okF44 : okF Try.prog 44 = true := by kernel_rfl
theorem Try.okF45 : okF Try.prog 45 = true := by kernel_rfl
theorem Try.okF46 : okF Try.prog 46 = true := by kernel_rfl
theorem Try.okF47 : okF Try.prog 47 = true := by kernel_rfl
theorem Try.okF48 : okF Try.prog 48 = true := by kernel_rfl
theorem Try.okF49 : okF Try.prog 49 = true := by kernel_rfl
theorem Try.okF50 : okF Try.prog 50 = true := by kernel_rfl
theorem Try.okF51 : okF Try.prog 51 = true := by kernel_rfl
end Go.Proofs
end
section
namespace Go.Lv

def rows {α : Type} (cs : α → List V) (L : List α) : List V := L.flatMap cs

section
variable {α : Type} {cs : α → List V} {w : Nat}

theorem rows_len (h : ∀ a, (cs a).length = w) (L : List α) : (rows cs L).length = L.length * w := by
 induction L with
 | nil => simp [rows]
 | cons a L ih => simp [rows, h] at ih ⊢; rw [ih, Nat.succ_mul, Nat.add_comm]

theorem rowsOf_append (L K : List α) : rows cs (L ++ K) = rows cs L ++ rows cs K := by simp [rows]
theorem rows_cons (a : α) (L : List α) : rows cs (a :: L) = cs a ++ rows cs L := by simp [rows]
theorem rows_one (a : α) : rows cs [a] = cs a := by simp [rows]

theorem rows_drop (h : ∀ a, (cs a).length = w) (L : List α) (i : Nat) : (rows cs L).drop (i * w) = rows cs (L.drop i) := by
 induction i generalizing L with
 | zero => simp
 | succ i ih =>
   cases L with
   | nil => simp [rows]
   | cons a L =>
     rw [rows_cons, Nat.succ_mul, Nat.add_comm, ← List.drop_drop, List.drop_append, h a, Nat.sub_self, List.drop_zero]
     rw [show (cs a).drop w = [] by simp [h]]
     simpa using ih L

theorem rows_at (h : ∀ a, (cs a).length = w) {L : List α} {i : Nat} (hi : i < L.length) : ((rows cs L).drop (i * w)).take w = cs L[i] := by
 rw [rows_drop h, List.drop_eq_getElem_cons hi, rows_cons, List.take_append, h, Nat.sub_self, List.take_zero, List.append_nil, List.take_of_length_le (by simp [h])]

theorem rows_all {p : V → Bool} (h : ∀ a, (cs a).all p = true) (L : List α) : (rows cs L).all p = true := by
 induction L with
 | nil => rfl
 | cons a L ih => rw [rows_cons, List.all_append, h a, ih]; rfl

theorem map_ren (f : Nat → R) {d : Nat} {l : List V} (h : l.all (noOwn d) = true) : l.map (ren f d) = l := by
 rw [List.map_congr_left (g := id) (fun x hx => ren_noOwn f d x (List.all_eq_true.1 h x hx)), List.map_id]

theorem zrow_all {p : V → Bool} {zs : List V} (hz : zs.all p = true) (hn : 0 < zs.length) (n : Nat) : (zrow n zs).all p = true := by
 rw [List.all_eq_true]
 intro x hx
 simp only [zrow, List.mem_map, List.mem_range] at hx
 obtain ⟨i, _, rfl⟩ := hx
 have hlt := Nat.mod_lt i hn
 rw [List.getD_eq_getElem?_getD, List.getElem?_eq_getElem hlt]
 exact List.all_eq_true.1 hz _ (List.getElem_mem hlt)

theorem zrow_len (n : Nat) (zs : List V) : (zrow n zs).length = n := by simp [zrow]

theorem zrow_drop {zs : List V} (hz : zs.length = w) (n : Nat) : (zrow n zs).drop w = zrow (n - w) zs := by
 apply List.ext_getElem
 · simp [zrow]
 · intro i h1 h2
   simp [zrow] at h1 h2 ⊢
   rw [hz, Nat.add_mod_left]

def filled (cs : α → List V) (w : Nat) (zs : List V) (L : List α) (i : Nat) : List V := rows cs (L.take i) ++ zrow ((L.length - i) * w) zs

theorem filled_len (h : ∀ a, (cs a).length = w) {zs : List V} {L : List α} {i : Nat} (hi : i ≤ L.length) : (filled cs w zs L i).length = L.length * w := by
 simp only [filled, List.length_append, rows_len h, zrow_len, List.length_take, Nat.min_eq_left hi]
 rw [← Nat.add_mul, Nat.add_sub_cancel' hi]

theorem filled_zero {zs : List V} {L : List α} : filled cs w zs L 0 = zrow (L.length * w) zs := by simp [filled, rows]

theorem filled_all (h : ∀ a, (cs a).length = w) {zs : List V} {L : List α} {i : Nat} (hi : L.length ≤ i) : filled cs w zs L i = rows cs L := by
 simp [filled, List.take_of_length_le hi, Nat.sub_eq_zero_of_le hi, zrow]

theorem filled_step (h : ∀ a, (cs a).length = w) {zs : List V} (hz : zs.length = w) {L : List α} {i : Nat} (hi : i < L.length) :
   splice (filled cs w zs L i) (i * w) (cs L[i]) = filled cs w zs L (i + 1) := by
 have hl : (rows cs (L.take i)).length = i * w := by rw [rows_len h, List.length_take, Nat.min_eq_left (by omega)]
 unfold filled splice
 rw [List.take_append, hl, Nat.sub_self, List.take_zero, List.append_nil, List.take_of_length_le (by omega), h, ← List.drop_drop, List.drop_append, hl, Nat.sub_self, List.drop_zero,
   show (rows cs (L.take i)).drop (i * w) = [] by simp [hl], List.nil_append, zrow_drop hz, List.take_succ_eq_append_getElem hi, rowsOf_append, rows_one]
 rw [show (L.length - i) * w - w = (L.length - (i + 1)) * w by rw [← Nat.sub_one_mul]; congr 1]

theorem cutB_rows {n : Nat} {l : List V} (h : l.all (noOwn 2) = true) : cutB n (some l) = some l := by
 simp only [cutB, Option.map_some]
 rw [map_ren _ h]
theorem filled_plain {zs : List V} {L : List α} {i : Nat} (hz : 0 < zs.length) (hz2 : zs.all (noOwn 2) = true) (hp : ∀ a, (cs a).all (noOwn 2) = true) : (filled cs w zs L i).all (noOwn 2) = true := by
 rw [filled, List.all_append, zrow_all hz2 hz, Bool.and_true]
 exact rows_all hp _

theorem wrap_i64 {n : Int} (h0 : -9223372036854775808 ≤ n) (h1 : n ≤ 9223372036854775807) : IntKind.i64.wrap n = n := by
 rw [IntKind.wrap_i64]; omega

def i64R (z : Int) : Prop := -9223372036854775808 ≤ z ∧ z ≤ 9223372036854775807
def strR (s : ByteArray) : Prop := s.size ≤ 9223372036854775807
def lstR (ok : α → Prop) (L : List α) : Prop := L.length ≤ 9223372036854775807 ∧ ∀ x ∈ L, ok x

class FlatP (cs : α → List V) (w : outParam Nat) : Prop where
 len : ∀ a, (cs a).length = w
 plain : ∀ a d, (cs a).all (noOwn d) = true
 cell : ∀ a, (cs a).all isCell = true
 noro : ∀ a, (cs a).all (noRoB 0) = true
class FlatQ (cs : α → List V) (w : outParam Nat) : Prop where
 len : ∀ a, (cs a).length = w
 plain : ∀ a d, (cs a).all (noOwn d) = true
 cell : ∀ a, (cs a).all isCell = true
instance {cs : α → List V} {w : Nat} [h : FlatP cs w] : FlatQ cs w := ⟨h.len, h.plain, h.cell⟩

theorem rows_length [FlatQ cs w] (L : List α) : (rows cs L).length = L.length * w := rows_len FlatQ.len L
theorem map_ren_rows [FlatQ cs w] (f : Nat → R) (d : Nat) (L : List α) : (rows cs L).map (ren f d) = rows cs L := map_ren f (rows_all (fun a => FlatQ.plain a d) L)
theorem rows_cell [FlatQ cs w] (L : List α) : (rows cs L).all isCell = true := rows_all FlatQ.cell L
theorem rows_noRo [FlatP cs w] (L : List α) : (rows cs L).all (noRoB 0) = true := rows_all FlatP.noro L
theorem rows_noOwn [FlatQ cs w] (L : List α) (d : Nat) : (rows cs L).all (noOwn d) = true := rows_all (fun a => FlatQ.plain a d) L
theorem rows_refV [FlatQ cs w] (p : Nat → Bool) (L : List α) (d : Nat) : (rows cs L).all (refV p d) = true := List.all_eq_true.2 fun x hx => refV_noOwn p d x (List.all_eq_true.1 (rows_noOwn (cs := cs) L d) x hx)
theorem noRoH_rows [FlatP cs w] (L : List α) : NoRoH [some (rows cs L)] := NoRoH.of (by simp only [hpNoRo, List.all_cons, List.all_nil, rows_noRo, Bool.and_self])
theorem take_rows [FlatQ cs w] (L : List α) : (rows cs L).take (L.length * w) = rows cs L := List.take_of_length_le (by rw [rows_length]; exact Nat.le_refl _)

theorem le_snap [FlatQ cs w] {h : Hp} {id : Nat} {L : List α} (hid : h[id]? = some (some (rows cs L))) : LeV (ren (snapR h 3) 3 (.osl id 0 L.length w)) (.sl L.length w (rows cs L)) := by
 refine .inl ?_
 simp only [ren, snapR, hid, map_ren_rows, List.drop_zero, take_rows]
theorem le_snap' [FlatQ cs w] {h : Hp} {id n : Nat} {L : List α} (hid : h[id]? = some (some (rows cs L))) (hn : n = L.length) : LeV (ren (snapR h 3) 3 (.osl id 0 n w)) (.sl L.length w (rows cs L)) := by
 subst hn; exact le_snap hid
theorem le_nil {h : Hp} {w : Nat} : LeV (ren (snapR h 3) 3 .nilsl) (.sl 0 w []) := .inr (.inr (.inl ⟨rfl, w, rfl⟩))
theorem LeV.aggR {f : Nat → R} {d : Nat} {cs cs' : List V} (h : LeA (cs.map (ren f d)) cs') : LeV (ren f (d + 1) (.agg cs)) (.agg cs') := LeV.agg h
theorem leE_snap [FlatQ cs w] {h : Hp} {id n n' : Nat} {L : List α} (hid : h[id]? = some (some (rows cs L))) (hn : n = L.length) (hn' : n' = L.length) : LeE (ren (snapR h 3) 2 (.osl id 0 n w)) (.sl n' w (rows cs L)) := by
 subst hn hn'
 refine .inl ?_
 simp only [ren, snapR, hid, map_ren_rows, List.drop_zero, take_rows]
theorem lend_one [FlatQ cs w] {h : Hp} {id : Nat} {fz : Bool} {L : List α} (hid : h[id]? = some (some (rows cs L))) : pickH [id] h fz = [some (rows cs L)] := by
 simp only [pickH, List.map_cons, List.map_nil, pickB, hid, map_ren_rows]
theorem isMb_cells {l : List V} (h : l.all isCell = true) : isMb l = false := by
 match l, h with
 | [], _ => rfl
 | _ :: _ :: _, _ => rfl
 | [x], h => cases x <;> first | rfl | (simp [isCell] at h)
theorem isMb_rows [FlatQ cs w] (L : List α) : isMb (rows cs L) = false := isMb_cells (rows_cell L)
theorem grown_one [FlatQ cs w] {L L' : List α} (h : L.length = L'.length) : grown [some (rows cs L)] [some (rows cs L')] := by
 simp [grown, rows_length, h, isMb_rows]

theorem LeL_same {f : V → V} : ∀ {l : List V}, l.map f = l → LeL (l.map f) l
 | [], _ => trivial
 | a :: l, h => by
   simp only [List.map_cons, List.cons.injEq] at h
   exact ⟨.inl h.1.symm, LeL_same h.2⟩

theorem splice_mid {A M ns : List V} {n j : Nat} (h : A.length = n) : splice (A ++ M) (n + j) ns = A ++ splice M j ns := by
 subst h
 unfold splice
 rw [List.take_append, List.drop_append, List.take_of_length_le (by omega), List.drop_of_length_le (by omega)]
 simp only [Nat.add_sub_cancel_left, List.nil_append, List.append_assoc]
 congr 3
 congr 1
 omega
theorem splice_mid0 {A M ns : List V} {n : Nat} (h : A.length = n) : splice (A ++ M) n ns = A ++ splice M 0 ns := by
 have := splice_mid (M := M) (ns := ns) (j := 0) h
 rwa [Nat.add_zero] at this

theorem apart {L : List α} {i : Nat} (hi : i < L.length) : ∃ A B, L = A ++ L[i] :: B ∧ A.length = i ∧ A = L.take i ∧ B = L.drop (i + 1) := by
 refine ⟨L.take i, L.drop (i + 1), ?_, by simp; omega, rfl, rfl⟩
 rw [← List.drop_eq_getElem_cons hi, List.take_append_drop]

def listedQ (p : α → Bool) (k : α → Int) (L : List α) (i : Nat) : Bool :=
 match L[i]? with
 | none => true
 | some x => p x && match i with
   | 0 => true
   | j + 1 => match L[j]? with
     | none => true
     | some y => decide (k y < k x)

def listedB (p : α → Bool) (k : α → Int) (m : Nat) (L : List α) : Bool := (List.range L.length).all (listedQ p k L) && decide (L.length ≤ m)

theorem range_all_false {q : Nat → Bool} {n i : Nat} (hi : i < n) (h : q i = false) : (List.range n).all q = false := by
 rw [List.all_eq_false]
 exact ⟨i, by simpa using hi, by simp [h]⟩
theorem range_all_succ {q : Nat → Bool} {i : Nat} (h : (List.range i).all q = true) (h1 : q i = true) : (List.range (i + 1)).all q = true := by
 rw [List.range_succ, List.all_append, h]
 simp [h1]
theorem listedB_false {p : α → Bool} {k : α → Int} {m : Nat} {L : List α} {i : Nat} (hi : i < L.length) (h : listedQ p k L i = false) : listedB p k m L = false := by
 rw [listedB, range_all_false hi h]
 rfl
theorem listedQ_zero {p : α → Bool} {k : α → Int} {L : List α} (h0 : 0 < L.length) : listedQ p k L 0 = p L[0] := by simp [listedQ, h0]
theorem listedQ_succ {p : α → Bool} {k : α → Int} {L : List α} {j : Nat} (h : j + 1 < L.length) : listedQ p k L (j + 1) = (p L[j + 1] && decide (k (L[j]'(by omega)) < k L[j + 1])) := by
 have : j < L.length := by omega
 simp [listedQ, h, this]
end

theorem leA {x y : V} (h : LeV x y := by first | exact le_snap rfl | exact .inl rfl | exact le_nil | exact le_snap' rfl (by simp) | exact LeV.aggR (by first | ((repeat' (first | exact True.intro | exact leE_snap rfl (by simp) (by simp) | exact LeE.nil | exact LeE.refl _ | refine And.intro ?_ ?_)); done) | fail)) : LeV x y := h
theorem callT.at {P : Program} {h : Hp} {g : FuncId} {a c args : List V} {K : V → Hp → Prop} {x : Tag K} {as' : List V} {r : V} {hout : Hp} (hs : Ctr P g as' [] r hout) (hle : LeL ((a ++ args ++ c).map (ren (snapR h 3) 3)) as') (hk : K r hout)
   (hro : (a ++ args ++ c).all (noOwn 3) = true ∨ NoRo r ∧ NoRoH hout := by first | exact .inl rfl | exact .inr ⟨noRo_ok 3 rfl, by first | exact NoRoH.nil | exact noRoH_rows _ | exact NoRoH.of (by simp only [hpNoRo, List.all_cons, List.all_nil, rows_noRo, Bool.and_self])⟩)
   (hrf : refOk h 4 (.fn (.func g) a c) = true ∧ args.all (refOk h 3) = true := by first | exact ⟨rfl, rfl⟩ | exact ⟨rfl, by simp [refOk, refV, refB, noOwn, rows_noOwn, rows_refV]⟩ | simp [refOk, refV, refB, noOwn, rows_noOwn, rows_refV]) : callT P h (.fn (.func g) a c) args K x :=
 callT.intro hs hle hro hrf hk
theorem callS.at {P : Program} {t : List V} {h : Hp} {k : Nat} {dst : Option Tmp} {g : FuncId} {a c args : List V} {K : St → Prop} {x : Tag K} {as' : List V} {r : V} {hout : Hp} (hs : Ctr P g as' [] r hout)
   (hle : LeL ((a ++ args ++ c).map (ren (snapR h 3) 3)) as') (hk : K (afterCall ⟨t, h, k⟩ dst r hout))
   (hro : (a ++ args ++ c).all (noOwn 3) = true ∨ NoRo r ∧ NoRoH hout := by first | exact .inl rfl | exact .inr ⟨noRo_ok 3 rfl, by first | exact NoRoH.nil | exact noRoH_rows _ | exact NoRoH.of (by simp only [hpNoRo, List.all_cons, List.all_nil, rows_noRo, Bool.and_self])⟩) : callS P ⟨t, h, k⟩ dst (.fn (.func g) a c) args K x :=
 callS.intro hs hle hro hk
theorem leO {x y : V} (h : LeV x y := by first | exact .inl rfl | exact LeV.aggR (by first | ((repeat' (first | exact True.intro | exact LeE.nil | exact LeE.refl _ | refine And.intro ?_ ?_)); done) | fail)) : LeV x y := h
theorem sideA {a b : Prop} (hb : b) (ha : a := by first | omega | with_reducible rfl | (show drawOk _ = true; kernel_rfl) | (simp only [rows_length, rows_cell, List.length_append, List.length_cons, List.length_nil, List.all_append, List.all_cons, List.all_nil, isCell, Nat.mul_one, Nat.one_mul, Bool.and_self]; first | done | omega)) : a ∧ b := ⟨ha, hb⟩
attribute [go_sem] Nat.le_refl Int.toNat_natCast beq_self_eq_true bne_self_eq_false decide_true decide_false eq_self ne_eq Option.some.injEq not_false_eq_true Option.map_some map_ren_rows
attribute [go_sem] Nat.reduceSub Nat.reduceAdd Nat.reduceMul Nat.reduceLT Nat.reduceLeDiff Nat.reduceEqDiff Nat.reduceDiv Nat.reduceMod Int.reduceToNat Int.reduceLE Int.reduceLT Int.reduceBEq Int.reduceBNe Int.reduceNeg Int.reduceAdd Int.reduceSub Int.reduceMul reduceCtorEq
end Go.Lv
end
section
set_option maxRecDepth 100000
namespace Go.Proofs
open Go.Lv
def inB' (n a b : Int) : Bool := decide (a ≤ n) && decide (n ≤ b)
theorem inB'_iff {n a b : Int} : inB' n a b = true ↔ a ≤ n ∧ n ≤ b := by simp [inB']
theorem in_ok (n a b : Int) : Ctr Try.prog 41 [.int .i64 n, .int .i64 a, .int .i64 b] [] (.bool (inB' n a b)) [] := by
 refine Ctr.intro Try.mixed Try.func41 rfl Try.okF41 ?_
 simp -implicitDefEqProofs -dsimp only [go_sem, Try.ntmps41, Try.results41]
 refine guardT.splitT (fun h1 => ?_) (fun h1 => ?_) <;> simp -implicitDefEqProofs -dsimp only [go_sem, h1]
 · exact WeakR.of_eq (by simp [inB', h1])
 · exact WeakR.of_eq (by simp [inB', h1])
theorem l1In_ok (n a b : Int) : Ctr Try.prog 38 [.int .i64 n, .int .i64 a, .int .i64 b] [] (.bool (inB' n a b)) [] := by
 refine Ctr.intro Try.mixed Try.func38 rfl Try.okF38 ?_
 simp -implicitDefEqProofs -dsimp only [go_sem, Try.ntmps38, Try.results38]
 refine guardT.splitT (fun h1 => ?_) (fun h1 => ?_) <;> simp -implicitDefEqProofs -dsimp only [go_sem, h1]
 · exact WeakR.of_eq (by simp [inB', h1])
 · exact WeakR.of_eq (by simp [inB', h1])
theorem l1Most_ok (a b : Int) : Ctr Try.prog 14 [.int .i64 a, .int .i64 b] [] (.int .i64 (max a b)) [] := by
 refine Ctr.intro Try.mixed Try.func14 rfl Try.okF14 ?_
 simp -implicitDefEqProofs -dsimp only [go_sem, Try.ntmps14, Try.results14]
 refine condT.split (fun h1 => ?_) (fun h1 => ?_) <;> simp -implicitDefEqProofs -dsimp only [go_sem, h1]
 · exact WeakR.of_eq (by simp at h1; congr 1; omega)
 · exact WeakR.of_eq (by simp at h1; congr 1; omega)
theorem listedB_all {α : Type} {p : α → Bool} {k : α → Int} {m : Nat} {L : List α} (h : listedB p k m L = true) : (∀ x ∈ L, p x = true) ∧ L.length ≤ m := by
 simp only [listedB, Bool.and_eq_true, decide_eq_true_eq, List.all_eq_true, List.mem_range] at h
 refine ⟨fun x hx => ?_, h.2⟩
 obtain ⟨i, hi, rfl⟩ := List.getElem_of_mem hx
 have := h.1 i hi
 simp only [listedQ, List.getElem?_eq_getElem hi, Bool.and_eq_true] at this
 exact this.1
theorem nodup_get {α : Type} {L : List α} (h : L.Nodup) {i j : Nat} (hi : i < L.length) (hj : j < L.length) (e : L[i] = L[j]) : i = j := by
 have h2 := List.pairwise_iff_getElem.1 h
 rcases Nat.lt_trichotomy i j with h3 | h3 | h3
 · exact absurd e (h2 i j hi hj h3)
 · exact h3
 · exact absurd e.symm (h2 j i hj hi h3)
end Go.Proofs
end
section
set_option maxRecDepth 100000
namespace Go.Proofs
open Go.Lv
def placeB (x y : Int) : Bool := inB' x 0 999 && inB' y 0 999
theorem isPlace_ok (x y : Int) : Ctr Try.prog 49 [.int .i64 x, .int .i64 y] [] (.bool (placeB x y)) [] := by
 refine Ctr.intro Try.mixed Try.func49 rfl Try.okF49 ?_
 simp -implicitDefEqProofs -dsimp only [go_sem, Try.ntmps49, Try.results49]
 repeat' (first | (refine WeakR.drop' ?_ (by rfl); first | rfl | (simp [placeB, *]; done)) | ((first | refine callT.at (in_ok _ _ _) ⟨leA, leA, leA, trivial⟩ ?_ | refine callS.at (in_ok _ _ _) ⟨leA, leA, leA, trivial⟩ ?_); simp -implicitDefEqProofs -dsimp only [go_sem, *]) | (refine guardT.splitT (fun _ => ?_) (fun _ => ?_) <;> simp -implicitDefEqProofs -dsimp only [go_sem, *]) | (refine guardT.splitF (fun _ => ?_) (fun _ => ?_) <;> simp -implicitDefEqProofs -dsimp only [go_sem, *]) | (refine condT.split (fun _ => ?_) (fun _ => ?_) <;> simp -implicitDefEqProofs -dsimp only [go_sem, *]))
theorem l2Place_ok (x y : Int) : Ctr Try.prog 50 [.int .i64 x, .int .i64 y] [] (.bool (placeB x y)) [] := by
 refine Ctr.intro Try.mixed Try.func50 rfl Try.okF50 ?_
 simp -implicitDefEqProofs -dsimp only [go_sem, Try.ntmps50, Try.results50]
 repeat' (first | (refine WeakR.drop' ?_ (by rfl); first | rfl | (simp [placeB, *]; done)) | ((first | refine callT.at (l1In_ok _ _ _) ⟨leA, leA, leA, trivial⟩ ?_ | refine callS.at (l1In_ok _ _ _) ⟨leA, leA, leA, trivial⟩ ?_); simp -implicitDefEqProofs -dsimp only [go_sem, *]) | (refine guardT.splitT (fun _ => ?_) (fun _ => ?_) <;> simp -implicitDefEqProofs -dsimp only [go_sem, *]) | (refine guardT.splitF (fun _ => ?_) (fun _ => ?_) <;> simp -implicitDefEqProofs -dsimp only [go_sem, *]) | (refine condT.split (fun _ => ?_) (fun _ => ?_) <;> simp -implicitDefEqProofs -dsimp only [go_sem, *]))
end Go.Proofs
end
section
set_option maxRecDepth 100000
namespace Go.Proofs
open Go.Lv
def letB (s : ByteArray) (i : Nat) : Bool := if h : i < s.size then inB' ((s[i]'h).toNat : Int) 97 122 else false
def wordB (s : ByteArray) : Bool := (List.range s.size).all (letB s) && inB' (s.size : Int) 1 10
theorem letB_at {s : ByteArray} {i : Nat} (h : i < s.size) : letB s i = inB' ((s[i]'h).toNat : Int) 97 122 := by simp [letB, h]
theorem wordB_false {s : ByteArray} {i : Nat} (h : i < s.size) (hb : letB s i = false) : wordB s = false := by
 have : (List.range s.size).all (letB s) = false := by
   rw [List.all_eq_false]
   exact ⟨i, List.mem_range.2 h, by simp [hb]⟩
 simp [wordB, this]
theorem isWord_ok (s : ByteArray) (hs : strR s) : Ctr Try.prog 42 [.str s] [] (.bool (wordB s)) [] := by
 simp only [strR] at hs
 refine Ctr.intro Try.mixed Try.func42 rfl Try.okF42 ?_
 simp -implicitDefEqProofs -dsimp only [go_sem, Try.ntmps42, Try.results42]
 refine LoopT.intro (fun i : Nat => i ≤ s.size ∧ (List.range i).all (letB s) = true) (fun i => ⟨[.str s, .undef, .undef, .undef, .undef, .int .i64 s.size, .int .i64 i, .undef, .undef, .undef, .undef, .undef, .undef, .undef, .undef, .undef, .undef, .undef, .undef, .undef, .undef, .undef, .undef], [], 0⟩) (fun i => s.size - i) 0 ⟨Nat.zero_le _, rfl⟩ ?_ (fun i hi => ?_)
 · refine Weak.cut (0) (by simp) (by simp) ?_ ?_
   · simp [LeC, LeV, ren, cutF]
   · rfl
 simp -implicitDefEqProofs -dsimp only [go_sem]
 refine condT.split (fun h1 => ?_) (fun h1 => ?_)
 · simp -implicitDefEqProofs -dsimp only [go_sem, h1]
   have hi' : i < s.size := by simpa using h1
   have hn : ((i : Int)).toNat < s.size := by simpa using hi'
   have fin : letB s i = false → V.bool false = V.bool (wordB s) := fun h => by rw [wordB_false hi' h]
   refine ⟨⟨by omega, hi'⟩, ?_⟩
   refine guardT.splitF (fun h2 => ?_) (fun h2 => ?_) <;> simp -implicitDefEqProofs -dsimp only [go_sem, h2]
   · refine ⟨⟨by omega, hi'⟩, ?_⟩
     try simp -implicitDefEqProofs -dsimp only [go_sem, h2]
     refine condT.split (fun h3 => ?_) (fun h3 => ?_) <;> simp -implicitDefEqProofs -dsimp only [go_sem, h2, h3]
     · exact WeakR.drop' (fin (by rw [letB_at hi']; simp at h2 h3; simp [inB']; omega)) (by rfl)
     · refine ⟨i + 1, ⟨hi', range_all_succ hi.2 (by rw [letB_at hi']; simp at h2 h3; simp [inB']; omega)⟩, ?_, by omega⟩
       refine Weak.cut (0) (by simp) (by simp) ?_ ?_
       · rw [wrap_i64 (by omega) (by omega)]
         simp [LeC, LeV, ren, cutF]
       · rfl
   · exact WeakR.drop' (fin (by rw [letB_at hi']; simp at h2; simp [inB']; omega)) (by rfl)
 · simp -implicitDefEqProofs -dsimp only [go_sem, h1]
   have hi' : i = s.size := by simp at h1; omega
   subst hi'
   (first | refine callT.at (in_ok _ _ _) ⟨leA, leA, leA, trivial⟩ ?_ | refine callS.at (in_ok _ _ _) ⟨leA, leA, leA, trivial⟩ ?_)
   simp -implicitDefEqProofs -dsimp only [go_sem]
   exact WeakR.drop' (by rw [wordB, hi.2]; rfl) (by rfl)
theorem l2Word_ok (s : ByteArray) (hs : strR s) : Ctr Try.prog 39 [.str s] [] (.bool (wordB s)) [] := by
 simp only [strR] at hs
 refine Ctr.intro Try.mixed Try.func39 rfl Try.okF39 ?_
 simp -implicitDefEqProofs -dsimp only [go_sem, Try.ntmps39, Try.results39]
 refine LoopT.intro (fun i : Nat => i ≤ s.size ∧ (List.range i).all (letB s) = true) (fun i => ⟨[.str s, .undef, .undef, .int .i64 i, .undef, .undef, .undef, .undef, .undef, .undef, .undef, .undef, .undef, .undef, .undef, .undef, .undef, .undef, .undef, .undef, .undef, .undef, .undef], [], 0⟩) (fun i => s.size - i) 0 ⟨Nat.zero_le _, rfl⟩ ?_ (fun i hi => ?_)
 · refine Weak.cut (0) (by simp) (by simp) ?_ ?_
   · simp [LeC, LeV, ren, cutF]
   · rfl
 simp -implicitDefEqProofs -dsimp only [go_sem]
 refine condT.split (fun h1 => ?_) (fun h1 => ?_)
 · simp -implicitDefEqProofs -dsimp only [go_sem, h1]
   have hi' : i < s.size := by simpa using h1
   have hn : ((i : Int)).toNat < s.size := by simpa using hi'
   have fin : letB s i = false → V.bool false = V.bool (wordB s) := fun h => by rw [wordB_false hi' h]
   refine ⟨⟨by omega, hi'⟩, ?_⟩
   refine guardT.splitF (fun h2 => ?_) (fun h2 => ?_) <;> simp -implicitDefEqProofs -dsimp only [go_sem, h2]
   · refine ⟨⟨by omega, hi'⟩, ?_⟩
     try simp -implicitDefEqProofs -dsimp only [go_sem, h2]
     refine condT.split (fun h3 => ?_) (fun h3 => ?_) <;> simp -implicitDefEqProofs -dsimp only [go_sem, h2, h3]
     · exact WeakR.drop' (fin (by rw [letB_at hi']; simp at h2 h3; simp [inB']; omega)) (by rfl)
     · refine ⟨i + 1, ⟨hi', range_all_succ hi.2 (by rw [letB_at hi']; simp at h2 h3; simp [inB']; omega)⟩, ?_, by omega⟩
       refine Weak.cut (0) (by simp) (by simp) ?_ ?_
       · rw [wrap_i64 (by omega) (by omega)]
         simp [LeC, LeV, ren, cutF]
       · rfl
   · exact WeakR.drop' (fin (by rw [letB_at hi']; simp at h2; simp [inB']; omega)) (by rfl)
 · simp -implicitDefEqProofs -dsimp only [go_sem, h1]
   have hi' : i = s.size := by simp at h1; omega
   subst hi'
   (first | refine callT.at (l1In_ok _ _ _) ⟨leA, leA, leA, trivial⟩ ?_ | refine callS.at (l1In_ok _ _ _) ⟨leA, leA, leA, trivial⟩ ?_)
   simp -implicitDefEqProofs -dsimp only [go_sem]
   exact WeakR.drop' (by rw [wordB, hi.2]; rfl) (by rfl)
end Go.Proofs
end
section
set_option maxRecDepth 100000
namespace Go.Proofs
open Go.Lv
structure Bend where
 X : Int
 Y : Int
def Bend.cs (r : Bend) : List V := [.int .i64 r.X, .int .i64 r.Y]
def Bend.v (r : Bend) : V := .agg [.int .i64 r.X, .int .i64 r.Y]
theorem Bend.csl (a : Bend) : a.cs.length = 2 := rfl
theorem Bend.csp (a : Bend) : a.cs.all (noOwn 2) = true := rfl
instance : FlatP Bend.cs 2 := ⟨fun _ => rfl, fun _ d => by cases d <;> rfl, fun _ => rfl, fun _ => rfl⟩
def Bend.ok (r : Bend) : Prop := i64R r.X ∧ i64R r.Y
abbrev Bend.rows (L : List Bend) : List V := Go.Lv.rows Bend.cs L
abbrev Bend.sl (L : List Bend) : V := .sl L.length 2 (Go.Lv.rows Bend.cs L)
abbrev Bend.zs : List V := [.int .i64 0, .int .i64 0]
def Bend.mk1 (k : Int) : Bend := ⟨k, k + 1⟩
def Bend.marks (k : Int) (n : Nat) : List Bend := (List.range n).map fun i : Nat => Bend.mk1 (k + 2 * (i : Int))
@[simp] theorem Bend.marks_len (k : Int) (n : Nat) : (Bend.marks k n).length = n := by simp [Bend.marks]
theorem Bend.marks_succ (k : Int) (n : Nat) : Bend.marks k (n + 1) = Bend.marks k n ++ [Bend.mk1 (k + 2 * (n : Int))] := by simp [Bend.marks, List.range_succ]
theorem Bend.marks_get (k : Int) (n : Nat) {i : Nat} (hi : i < (Bend.marks k n).length) : (Bend.marks k n)[i] = Bend.mk1 (k + 2 * (i : Int)) := by simp [Bend.marks]
theorem toBend_ok (r : Bend) : Ctr Try.prog 40 [r.v] [] r.v [] := by
 refine Ctr.intro Try.mixed Try.func40 rfl Try.okF40 ?_
 simp -implicitDefEqProofs -dsimp only [go_sem, Try.ntmps40, Try.results40]
 simp -implicitDefEqProofs -dsimp only [go_sem, Bend.v]
 exact WeakR.drop' rfl rfl
theorem toBendS_ok (L : List Bend) (hl : L.length ≤ 1048576) : Ctr Try.prog 26 [Bend.sl L] [] (.osl 0 0 L.length 2) [some (rows Bend.cs L)] := by
 refine Ctr.intro Try.mixed Try.func26 rfl Try.okF26 ?_
 simp -implicitDefEqProofs -dsimp only [go_sem, Try.ntmps26, Try.results26]
 refine ⟨by omega, by omega, by omega, ?_⟩
 refine LoopT.intro (fun i : Nat => i ≤ L.length) (fun i => ⟨[Bend.sl L, .undef, .undef, .osl 0 0 L.length 2, .int .i64 i, .undef, .undef, .undef, .undef, .undef, .undef, .undef, .undef, .undef, .undef, .undef, .undef, .undef, .undef, .undef, .undef, .undef, .undef], [some (filled Bend.cs 2 Bend.zs L i)], 0⟩) (fun i => L.length - i) 0 (Nat.zero_le _) ?_ (fun i hi => ?_)
 · refine Weak.cut (1) (by simp) (by simp) ?_ ?_
   · simp [LeC, LeV, ren, cutF]
   · rw [filled_zero]
     simp only [cutH, List.take, List.map]
     rw [cutB_rows (zrow_all rfl (by decide) _)]
 simp -implicitDefEqProofs -dsimp only [go_sem]
 refine condT.split (fun h1 => ?_) (fun h1 => ?_)
 · simp -implicitDefEqProofs -dsimp only [go_sem, h1]
   have hi' : i < L.length := by simpa using h1
   rw [rows_at Bend.csl hi']
   refine ⟨by omega, by simp [Bend.csl], ?_⟩
   (first | refine callT.at (toBend_ok L[i]) ⟨.inl rfl, trivial⟩ ?_ | refine callS.at (toBend_ok L[i]) ⟨.inl rfl, trivial⟩ ?_)
   simp -implicitDefEqProofs -dsimp only [go_sem, Bend.v]
   refine ⟨⟨by omega, by omega⟩, by rw [filled_len Bend.csl hi]; omega, i + 1, hi', ?_, by omega⟩
   refine Weak.cut (1) (by simp) (by simp) ?_ ?_
   · rw [wrap_i64 (by omega) (by omega)]
     simp [LeC, LeV, ren, cutF]
   · have := filled_step (zs := Bend.zs) Bend.csl rfl hi'
     simp only [Bend.cs] at this ⊢
     rw [this]
     simp only [cutH, List.take, List.map]
     rw [cutB_rows (filled_plain (by decide) rfl (fun a => by exact Bend.csp a))]
 · simp -implicitDefEqProofs -dsimp only [go_sem, h1]
   have hi' : i = L.length := by simp at h1; omega
   subst hi'
   rw [filled_all Bend.csl (Nat.le_refl _)]
   exact WeakR.refl _ _ _
theorem szBendS_ok (L : List Bend) (n : Int) (hl : L.length ≤ 9223372036854775807) (hn : 0 ≤ n) (hn2 : n ≤ 1048576) : Ctr Try.prog 24 [Bend.sl L, .int .i64 n] [] (.int .i64 (if n < L.length then -1 else n - L.length)) [] := by
 refine Ctr.intro Try.mixed Try.func24 rfl Try.okF24 ?_
 simp -implicitDefEqProofs -dsimp only [go_sem, Try.ntmps24, Try.results24]
 rw [wrap_i64 (by omega) (by omega)]
 refine condT.split (fun h1 => ?_) (fun h1 => ?_) <;> simp -implicitDefEqProofs -dsimp only [go_sem, h1]
 · exact WeakR.of_eq (by simp at h1; rw [if_pos (by omega)])
 · exact WeakR.of_eq (by simp at h1; rw [if_neg (by omega)])
theorem eqBend_ok (r : Bend) : Ctr Try.prog 45 [r.v, r.v] [] (.bool true) [] := by
 refine Ctr.intro Try.mixed Try.func45 rfl Try.okF45 ?_
 simp -implicitDefEqProofs -dsimp only [go_sem, Try.ntmps45, Try.results45]
 simp -implicitDefEqProofs -dsimp only [go_sem, Bend.v, bne_self_eq_false, beq_self_eq_true, Bool.not_true]
 exact WeakR.drop' rfl rfl
theorem eqBendS_ok (L : List Bend) (hl : L.length ≤ 281474976710656) : Ctr Try.prog 36 [Bend.sl L, Bend.sl L] [] (.bool true) [] := by
 refine Ctr.intro Try.mixed Try.func36 rfl Try.okF36 ?_
 simp -implicitDefEqProofs -dsimp only [go_sem, Try.ntmps36, Try.results36]
 refine LoopT.intro (fun i : Nat => i ≤ L.length) (fun i => ⟨[Bend.sl L, Bend.sl L, .undef, .undef, .undef, .int .i64 i, .undef, .undef, .undef, .undef, .undef, .undef, .undef, .undef, .undef, .undef, .undef, .undef, .undef, .undef, .undef, .undef, .undef, .undef, .undef, .undef, .undef], [], 0⟩) (fun i => L.length - i) 0 (Nat.zero_le _) ?_ (fun i hi => ?_)
 · refine Weak.cut (0) (by simp) (by simp) ?_ ?_
   · simp [LeC, LeV, ren, cutF]
   · rfl
 simp -implicitDefEqProofs -dsimp only [go_sem]
 refine condT.split (fun h1 => ?_) (fun h1 => ?_)
 · simp -implicitDefEqProofs -dsimp only [go_sem, h1]
   have hi' : i < L.length := by simpa using h1
   rw [rows_at Bend.csl hi']
   have h5 := Bend.csl L[i]
   refine ⟨by kernel_rfl, ⟨by omega, by omega⟩, by omega, ⟨by omega, by omega⟩, by omega, ?_⟩
   (first | refine callT.at (eqBend_ok L[i]) ⟨.inl rfl, .inl rfl, trivial⟩ ?_ | refine callS.at (eqBend_ok L[i]) ⟨.inl rfl, .inl rfl, trivial⟩ ?_)
   simp -implicitDefEqProofs -dsimp only [go_sem]
   refine ⟨i + 1, hi', ?_, by omega⟩
   refine Weak.cut (0) (by simp) (by simp) ?_ ?_
   · rw [wrap_i64 (by omega) (by omega)]
     simp [LeC, LeV, ren, cutF]
   · rfl
 · simp -implicitDefEqProofs -dsimp only [go_sem, h1]
   exact WeakR.refl _ _ _
theorem markBendS_ok (L : List Bend) (kk : Int) (hl : L.length ≤ 281474976710656) (hk : 0 ≤ kk) (hk2 : kk ≤ 281474976710656) : Ctr Try.prog 22 [.osl 0 0 L.length 2, .int .i64 kk] [some (rows Bend.cs L)] (.int .i64 (kk + 2 * L.length)) [some (rows Bend.cs (Bend.marks kk L.length))] := by
 refine Ctr.intro Try.mixed Try.func22 rfl Try.okF22 ?_
 simp -implicitDefEqProofs -dsimp only [go_sem, Try.ntmps22, Try.results22]
 refine LoopT.intro (fun i : Nat => i ≤ L.length) (fun i => ⟨[.osl 0 0 L.length 2, .int .i64 (kk + 2 * (i : Int)), .undef, .undef, .undef, .int .i64 i, .undef, .undef, .undef, .undef, .undef, .undef, .undef, .undef, .undef, .undef, .undef, .undef, .undef, .undef, .undef, .undef, .undef, .undef, .undef, .undef, .undef], [some (rows Bend.cs (Bend.marks kk i ++ L.drop i))], 1⟩) (fun i => L.length - i) 0 (Nat.zero_le _) ?_ (fun i hi => ?_)
 · refine Weak.cut (1) (by simp) (by simp) ?_ ?_
   · simp [LeC, LeV, ren, cutF]
   · simp only [cutH, List.take, List.map]
     rw [cutB_rows (rows_all Bend.csp _)]
     simp [Bend.marks]
 simp -implicitDefEqProofs -dsimp only [go_sem]
 refine condT.split (fun h1 => ?_) (fun h1 => ?_)
 · simp -implicitDefEqProofs -dsimp only [go_sem, h1]
   have hi' : i < L.length := by simpa using h1
   have hA : (rows Bend.cs (Bend.marks kk i)).length = i * 2 := by rw [rows_len Bend.csl, Bend.marks_len]
   have hB : rows Bend.cs (Bend.marks kk i ++ L.drop i) = rows Bend.cs (Bend.marks kk i) ++ (Bend.cs L[i] ++ rows Bend.cs (L.drop (i + 1))) := by
     rw [rowsOf_append, List.drop_eq_getElem_cons hi', rows_cons]
   rw [hB]
   have hsp : ∀ (M ns : List V) (j : Nat), splice (rows Bend.cs (Bend.marks kk i) ++ M) (i * 2 + j) ns = rows Bend.cs (Bend.marks kk i) ++ splice M j ns := fun M ns j => splice_mid hA
   have hsp0 : ∀ (M ns : List V), splice (rows Bend.cs (Bend.marks kk i) ++ M) (i * 2) ns = rows Bend.cs (Bend.marks kk i) ++ splice M 0 ns := fun M ns => splice_mid0 hA
   (repeat1' (first | simp -implicitDefEqProofs -dsimp only [go_sem, hsp, hsp0, List.length_append, hA, Bend.cs] | simp -dsimp (disch := omega) only [wrap_i64]))
   repeat (with_reducible refine sideA ?_)
   refine ⟨i + 1, hi', ?_, by omega⟩
   refine Weak.cut (1) (by simp) (by simp) ?_ ?_
   · simp [LeC, LeV, ren, cutF]
     omega
   · have e : rows Bend.cs (Bend.marks kk (i + 1) ++ L.drop (i + 1)) = rows Bend.cs (Bend.marks kk i) ++ (Bend.cs (Bend.mk1 (kk + 2 * (i : Int))) ++ rows Bend.cs (L.drop (i + 1))) := by
       rw [Bend.marks_succ, List.append_assoc, rowsOf_append, rowsOf_append, rows_one]
     rw [e]
     simp only [cutH, List.take, List.map]
     rw [cutB_rows (by rw [List.all_append, rows_all Bend.csp]; simp only [List.all_cons, noOwn, rows_all Bend.csp, Bool.and_self])]
     simp [Bend.cs, Bend.mk1, Int.add_assoc]
 · simp -implicitDefEqProofs -dsimp only [go_sem, h1]
   have hi' : i = L.length := by simp at h1; omega
   subst hi'
   rw [List.drop_length, List.append_nil]
   exact WeakR.of_eq (by simp)
theorem heldBendS_ok (n : Nat) (kk : Int) (hl : n ≤ 281474976710656) (hk : 0 ≤ kk) (hk2 : kk ≤ 281474976710656) : Ctr Try.prog 23 [Bend.sl (Bend.marks kk n), .int .i64 kk] [] (.int .i64 (kk + 2 * n)) [] := by
 refine Ctr.intro Try.mixed Try.func23 rfl Try.okF23 ?_
 simp -implicitDefEqProofs -dsimp only [go_sem, Try.ntmps23, Try.results23]
 refine LoopT.intro (fun i : Nat => i ≤ n) (fun i => ⟨[Bend.sl (Bend.marks kk n), .int .i64 (kk + 2 * (i : Int)), .undef, .undef, .undef, .int .i64 i, .undef, .undef, .undef, .undef, .undef, .undef, .undef, .undef, .undef, .undef, .undef, .undef, .undef, .undef, .undef, .undef, .undef, .undef, .undef, .undef, .undef, .undef, .undef, .undef, .undef], [], 0⟩) (fun i => n - i) 0 (Nat.zero_le _) ?_ (fun i hi => ?_)
 · refine Weak.cut (0) (by simp) (by simp) ?_ ?_
   · simp [LeC, LeV, ren, cutF]
   · rfl
 simp -implicitDefEqProofs -dsimp only [go_sem]
 refine condT.split (fun h1 => ?_) (fun h1 => ?_)
 · simp -implicitDefEqProofs -dsimp only [go_sem, h1]
   have hi' : i < n := by simpa using h1
   have hr := rows_at Bend.csl (L := Bend.marks kk n) (i := i) (by rw [Bend.marks_len]; exact hi')
   rw [Bend.marks_get] at hr
   (repeat1' (first | simp -implicitDefEqProofs -dsimp only [go_sem, hr, Bend.marks_len, Bend.cs, Bend.mk1, bne_self_eq_false, beq_self_eq_true] | simp -dsimp (disch := omega) only [wrap_i64]))
   repeat (with_reducible refine sideA ?_)
   refine ⟨i + 1, hi', ?_, by omega⟩
   refine Weak.cut (0) (by simp) (by simp) ?_ ?_
   · simp [LeC, LeV, ren, cutF]
     omega
   · rfl
 · simp -implicitDefEqProofs -dsimp only [go_sem, h1]
   have hi' : i = n := by simp at h1; omega
   subst hi'
   exact WeakR.of_eq (by simp)
end Go.Proofs
end
section
set_option maxRecDepth 100000
namespace Go.Proofs
open Go.Lv
structure Fault where
 Id : Int
 Name : ByteArray
 Bends : List Bend
 Slip : Int
def Fault.cs (r : Fault) : List V := [.int .i64 r.Id, .str r.Name, .sl r.Bends.length 2 (Go.Lv.rows Bend.cs r.Bends), .int .i64 r.Slip]
def Fault.v (r : Fault) : V := .agg [.int .i64 r.Id, .str r.Name, .sl r.Bends.length 2 (Go.Lv.rows Bend.cs r.Bends), .int .i64 r.Slip]
def Fault.o (r : Fault) (i0 : Nat) : V := .agg [.int .i64 r.Id, .str r.Name, .osl i0 0 r.Bends.length 2, .int .i64 r.Slip]
theorem Fault.csl (a : Fault) : a.cs.length = 4 := rfl
def Fault.ok (r : Fault) : Prop := i64R r.Id ∧ strR r.Name ∧ lstR Bend.ok r.Bends ∧ i64R r.Slip
theorem Fault.le {h : Hp} {r : Fault} {i0 : Nat} (h0 : h[i0]? = some (some (rows Bend.cs r.Bends))) : LeV (ren (snapR h 3) 3 (r.o i0)) r.v := by
 refine .inl ?_
 simp only [Fault.o, Fault.v, ren, List.map_cons, List.map_nil, snapR, h0, map_ren_rows, List.drop_zero, take_rows]
theorem toFault_ok (r : Fault) (hl0 : r.Bends.length ≤ 1048576) : Ctr Try.prog 15 [r.v] [] (r.o 0) [some (rows Bend.cs r.Bends)] := by
 refine Ctr.intro Try.mixed Try.func15 rfl Try.okF15 ?_
 simp -implicitDefEqProofs -dsimp only [go_sem, Try.ntmps15, Try.results15]
 simp -implicitDefEqProofs -dsimp only [go_sem, Fault.v]
 (first | refine callT.at (toBendS_ok r.Bends hl0) ⟨.inl rfl, trivial⟩ ?_ | refine callS.at (toBendS_ok r.Bends hl0) ⟨.inl rfl, trivial⟩ ?_)
 simp -implicitDefEqProofs -dsimp only [go_sem]
 refine WeakR.pick [3] (by decide) (fun j hj => by omega) (.inl ?_) ?_
 · rfl
 · simp only [pickH, List.map_cons, List.map_nil, pickB, List.getElem?_cons_zero, List.getElem?_cons_succ, map_ren_rows]
theorem eqFault_ok (r : Fault) (hl0 : r.Bends.length ≤ 281474976710656) : Ctr Try.prog 20 [r.v, r.v] [] (.bool true) [] := by
 refine Ctr.intro Try.mixed Try.func20 rfl Try.okF20 ?_
 simp -implicitDefEqProofs -dsimp only [go_sem, Try.ntmps20, Try.results20]
 simp -implicitDefEqProofs -dsimp only [go_sem, Fault.v]
 (have ct := eqBendS_ok r.Bends hl0; (first | refine callT.at ct ⟨leA, leA, trivial⟩ ?_ | refine callS.at ct ⟨leA, leA, trivial⟩ ?_); clear ct)
 simp -implicitDefEqProofs -dsimp only [go_sem]
 exact WeakR.drop' rfl (by rfl)
end Go.Proofs
end
section
namespace Go.Lv
def idxI {α : Type} (p : α → Bool) (L : List α) : Int := match L.findIdx? p with
 | some i => i
 | none => -1
theorem idxI_found {α : Type} {p : α → Bool} {L : List α} {i : Nat} (h : i < L.length) (h0 : (L.take i).any p = false) (h1 : p L[i] = true) : idxI p L = i := by
 have : L.findIdx? p = some i := by
   rw [List.findIdx?_eq_some_iff_getElem]
   refine ⟨h, h1, fun j hj => ?_⟩
   have := List.any_eq_false.1 h0 L[j] (by rw [List.mem_take_iff_getElem]; exact ⟨j, by omega, rfl⟩)
   simpa using this
 simp [idxI, this]
theorem idxI_none {α : Type} {p : α → Bool} {L : List α} (h : L.any p = false) : idxI p L = -1 := by
 have : L.findIdx? p = none := by
   rw [List.findIdx?_eq_none_iff]
   intro x hx
   have := List.any_eq_false.1 h x hx
   simpa using this
 simp [idxI, this]
theorem idxI_any {α : Type} (p : α → Bool) (L : List α) : decide (0 ≤ idxI p L) = L.any p := by
 unfold idxI
 cases h : L.findIdx? p with
 | none =>
   rw [List.findIdx?_eq_none_iff] at h
   symm
   rw [show decide ((0 : Int) ≤ -1) = false from rfl, List.any_eq_false]
   intro x hx
   simp [h x hx]
 | some i =>
   rw [List.findIdx?_eq_some_iff_getElem] at h
   obtain ⟨hi, h1, _⟩ := h
   symm
   rw [show decide ((0 : Int) ≤ (i : Int)) = true from decide_eq_true (by omega), List.any_eq_true]
   exact ⟨_, List.getElem_mem hi, h1⟩
theorem all_any {α : Type} (p : α → Bool) (L : List α) : (!(L.any fun x => !(p x))) = L.all p := by
 induction L with
 | nil => rfl
 | cons x l ih => simp only [List.any_cons, List.all_cons, Bool.not_or, Bool.not_not, ih]
end Go.Lv
end
section
set_option maxRecDepth 100000
namespace Go.Proofs
open Go.Lv
theorem indexFuncBend_ok (L : List Bend) (p : Bend → Bool) (fv : Nat) (vc : List V) (hvc : ∀ d, vc.all (noOwn d) = true) (hv : ∀ x, Ctr Try.prog fv (Bend.v x :: vc) [] (.bool (p x)) []) (hl : L.length ≤ 281474976710656) :
   Ctr Try.prog 51 [Bend.sl L, .fn (.func fv) [] vc] [] (.int .i64 (idxI p L)) [] := by
 refine Ctr.intro Try.mixed Try.func51 rfl Try.okF51 ?_
 simp -implicitDefEqProofs -dsimp only [go_sem, Try.ntmps51, Try.results51]
 have hvc2 : ∀ f d, vc.map (ren f d) = vc := fun f d => map_ren f (hvc d)
 refine LoopT.intro (fun i : Nat => i ≤ L.length ∧ (L.take i).any p = false) (fun i => ⟨[Bend.sl L, .fn (.func fv) [] vc, .undef, .undef, .undef, .undef, .undef, .int .i64 L.length, .int .i64 i, .undef, .undef, .undef, .undef, .undef, .undef, .undef, .undef, .undef, .undef], [], 0⟩) (fun i => L.length - i) 0 ⟨Nat.zero_le _, rfl⟩ ?_ (fun i hi => ?_)
 · refine Weak.cut (0) (by simp) (by simp) ?_ ?_
   · simp [LeC, LeV, ren, cutF, hvc2]
   · rfl
 simp -implicitDefEqProofs -dsimp only [go_sem]
 refine condT.split (fun h1 => ?_) (fun h1 => ?_)
 · simp -implicitDefEqProofs -dsimp only [go_sem, h1]
   have hi' : i < L.length := by simpa using h1
   have h5 := Bend.csl L[i]
   have hr := rows_at Bend.csl hi'
   (repeat1' (first | simp -implicitDefEqProofs -dsimp only [go_sem, hr, Bend.cs] | simp -dsimp (disch := omega) only [wrap_i64]))
   repeat (with_reducible refine sideA ?_)
   refine callS.intro (hv L[i]) ⟨.inl rfl, LeL_same (hvc2 _ _)⟩ (.inl (by simp only [List.nil_append, List.cons_append, List.all_cons, hvc, Bool.and_true]; rfl)) ?_
   simp -implicitDefEqProofs -dsimp only [go_sem]
   refine condT.split (fun h2 => ?_) (fun h2 => ?_) <;> simp -implicitDefEqProofs -dsimp only [go_sem, h2]
   · exact WeakR.drop' (by rw [idxI_found hi' hi.2 h2]) (by rfl)
   · refine ⟨i + 1, ⟨hi', by rw [List.take_succ_eq_append_getElem hi']; simp only [List.any_append, hi.2, List.any_cons, h2, List.any_nil, Bool.or_self]⟩, ?_, by omega⟩
     refine Weak.cut (0) (by simp) (by simp) ?_ ?_
     · rw [wrap_i64 (by omega) (by omega)]
       simp [LeC, LeV, ren, cutF, hvc2]
     · rfl
 · simp -implicitDefEqProofs -dsimp only [go_sem, h1]
   have hi' : i = L.length := by simp at h1; omega
   subst hi'
   have h2 := hi.2
   rw [List.take_length] at h2
   exact WeakR.drop' (by rw [idxI_none h2]) (by rfl)
theorem containsFuncBend_ok (L : List Bend) (p : Bend → Bool) (fv : Nat) (vc : List V) (hvc : ∀ d, vc.all (noOwn d) = true) (hv : ∀ x, Ctr Try.prog fv (Bend.v x :: vc) [] (.bool (p x)) []) (hl : L.length ≤ 281474976710656) :
   Ctr Try.prog 47 [Bend.sl L, .fn (.func fv) [] vc] [] (.bool (L.any p)) [] := by
 refine Ctr.intro Try.mixed Try.func47 rfl Try.okF47 ?_
 simp -implicitDefEqProofs -dsimp only [go_sem, Try.ntmps47, Try.results47]
 have hvc2 : ∀ f d, vc.map (ren f d) = vc := fun f d => map_ren f (hvc d)
 refine callS.intro (indexFuncBend_ok L p fv vc hvc hv hl) ⟨.inl rfl, .inl (by simp [ren, hvc2]), trivial⟩ (.inl (by simp [noOwn, hvc])) ?_
 simp -implicitDefEqProofs -dsimp only [go_sem]
 exact WeakR.drop' (by rw [idxI_any]) (by rfl)
theorem allBend_ok (L : List Bend) (p : Bend → Bool) (fv : Nat) (hv : ∀ x, Ctr Try.prog fv [Bend.v x] [] (.bool (p x)) []) (hl : L.length ≤ 281474976710656) :
   Ctr Try.prog 43 [Bend.sl L, .fn (.func fv) [] []] [] (.bool (L.all p)) [] := by
 have hc : ∀ x, Ctr Try.prog 48 (Bend.v x :: [.pt [.fn (.func fv) [] []]]) [] (.bool (!(p x))) [] := by
   intro x
   refine Ctr.intro Try.mixed Try.func48 rfl Try.okF48 ?_
   simp -implicitDefEqProofs -dsimp only [go_sem, Try.ntmps48, Try.results48]
   simp -implicitDefEqProofs -dsimp only [go_sem, Bend.v]
   (first | refine callT.at (hv x) ⟨leA, trivial⟩ ?_ | refine callS.at (hv x) ⟨leA, trivial⟩ ?_)
   simp -implicitDefEqProofs -dsimp only [go_sem]
   exact WeakR.drop' rfl (by rfl)
 refine Ctr.intro Try.mixed Try.func43 rfl Try.okF43 ?_
 simp -implicitDefEqProofs -dsimp only [go_sem, Try.ntmps43, Try.results43]
 (first | refine callT.at (containsFuncBend_ok L (fun x => !(p x)) _ [.pt [.fn (.func fv) [] []]] (fun d => by cases d <;> rfl) hc hl) ⟨leA, leA, trivial⟩ ?_ | refine callS.at (containsFuncBend_ok L (fun x => !(p x)) _ [.pt [.fn (.func fv) [] []]] (fun d => by cases d <;> rfl) hc hl) ⟨leA, leA, trivial⟩ ?_)
 simp -implicitDefEqProofs -dsimp only [go_sem]
 exact WeakR.drop' (by rw [all_any]) (by rfl)
end Go.Proofs
end
section
set_option maxRecDepth 100000
namespace Go.Proofs
open Go.Lv
def bendB (b : Bend) : Bool := placeB b.X b.Y
def bendEq (a b : Bend) : Bool := (a.X == b.X) && (a.Y == b.Y)
def segB (a b : Bend) : Bool := bendB a && bendB b && !(bendEq a b)
theorem isBend_ok (b : Bend) : Ctr Try.prog 44 [b.v] [] (.bool (bendB b)) [] := by
 refine Ctr.intro Try.mixed Try.func44 rfl Try.okF44 ?_
 simp -implicitDefEqProofs -dsimp only [go_sem, Try.ntmps44, Try.results44]
 simp -implicitDefEqProofs -dsimp only [go_sem, Bend.v]
 (first | refine callT.at (isPlace_ok _ _) ⟨leA, leA, trivial⟩ ?_ | refine callS.at (isPlace_ok _ _) ⟨leA, leA, trivial⟩ ?_)
 simp -implicitDefEqProofs -dsimp only [go_sem]
 exact WeakR.drop' rfl (by rfl)
theorem l18Bend_ok (b : Bend) : Ctr Try.prog 46 [b.v] [] (.bool (bendB b)) [] := by
 refine Ctr.intro Try.mixed Try.func46 rfl Try.okF46 ?_
 simp -implicitDefEqProofs -dsimp only [go_sem, Try.ntmps46, Try.results46]
 simp -implicitDefEqProofs -dsimp only [go_sem, Bend.v]
 (first | refine callT.at (l2Place_ok _ _) ⟨leA, leA, trivial⟩ ?_ | refine callS.at (l2Place_ok _ _) ⟨leA, leA, trivial⟩ ?_)
 simp -implicitDefEqProofs -dsimp only [go_sem]
 exact WeakR.drop' rfl (by rfl)
theorem l18Segment_ok (a b : Bend) : Ctr Try.prog 37 [a.v, b.v] [] (.bool (segB a b)) [] := by
 refine Ctr.intro Try.mixed Try.func37 rfl Try.okF37 ?_
 simp -implicitDefEqProofs -dsimp only [go_sem, Try.ntmps37, Try.results37]
 simp -implicitDefEqProofs -dsimp only [go_sem, Bend.v]
 repeat' (first | (refine WeakR.drop' ?_ (by rfl); first | rfl | (simp [segB, bendEq, *]; done)) | ((first | refine callT.at (l18Bend_ok a) ⟨leA, trivial⟩ ?_ | refine callS.at (l18Bend_ok a) ⟨leA, trivial⟩ ?_); simp -implicitDefEqProofs -dsimp only [go_sem, *]) | ((first | refine callT.at (l18Bend_ok b) ⟨leA, trivial⟩ ?_ | refine callS.at (l18Bend_ok b) ⟨leA, trivial⟩ ?_); simp -implicitDefEqProofs -dsimp only [go_sem, *]) | (refine guardT.splitT (fun _ => ?_) (fun _ => ?_) <;> simp -implicitDefEqProofs -dsimp only [go_sem, *]) | (refine guardT.splitF (fun _ => ?_) (fun _ => ?_) <;> simp -implicitDefEqProofs -dsimp only [go_sem, *]) | (refine condT.split (fun _ => ?_) (fun _ => ?_) <;> simp -implicitDefEqProofs -dsimp only [go_sem, *]))
end Go.Proofs
end
section
set_option maxRecDepth 100000
namespace Go.Proofs
open Go.Lv
def adjQ (L : List Bend) (i : Nat) : Bool := if h : i + 1 < L.length then !(bendEq L[i + 1] L[i]) else true
def adj (L : List Bend) : Bool := (List.range L.length).all (adjQ L)
theorem adj_of {L : List Bend} {j : Nat} (h : (List.range j).all (adjQ L) = true) (h2 : L.length ≤ j + 1) : adj L = true := by
 rw [adj, List.all_eq_true]
 intro k hk
 by_cases hj : k < j
 · exact List.all_eq_true.1 h k (List.mem_range.2 hj)
 · rw [adjQ, dif_neg (by omega)]
theorem adj_false {L : List Bend} {j : Nat} (h : j + 1 < L.length) (h2 : bendEq L[j + 1] L[j] = true) : adj L = false := by
 rw [adj, List.all_eq_false]
 exact ⟨j, List.mem_range.2 (by omega), by simp [adjQ, h, h2]⟩
def faultB (f : Fault) : Bool := adj f.Bends && (inB' f.Id 1 99 && (wordB f.Name && (inB' f.Bends.length 2 8 && (f.Bends.all bendB && inB' f.Slip 0 1000))))
theorem iIsFault_ok (f : Fault) (hn : strR f.Name) (hl : f.Bends.length ≤ 281474976710656) : Ctr Try.prog 30 [f.v] [] (.bool (faultB f)) [] := by
 refine Ctr.intro Try.mixed Try.func30 rfl Try.okF30 ?_
 simp -implicitDefEqProofs -dsimp only [go_sem, Try.ntmps30, Try.results30]
 simp -implicitDefEqProofs -dsimp only [go_sem, Fault.v]
 refine LoopT.intro (fun j : Nat => j ≤ f.Bends.length ∧ (List.range j).all (adjQ f.Bends) = true) (fun j => ⟨[.undef, .ptr 0 0, .undef, .int .i64 ((j + 1 : Nat) : Int), .undef, .undef, .undef, .undef, .undef, .undef, .undef, .undef, .undef, .undef, .undef, .undef, .undef, .undef, .undef, .undef, .undef, .undef, .undef, .undef, .undef, .undef, .undef, .undef, .undef, .undef, .undef, .undef, .undef, .undef, .undef, .undef, .undef, .undef, .undef, .undef, .undef, .undef, .undef, .undef, .undef, .undef, .undef], [some f.cs], 0⟩) (fun j => f.Bends.length - j) 0 ⟨Nat.zero_le _, rfl⟩ ?_ (fun j hi => ?_)
 · refine Weak.cut (1) (by simp) (by simp) ?_ ?_
   · simp [LeC, LeV, ren, cutF]
   · simp [cutH, cutB, ren, map_ren_rows, Fault.cs]
 simp -implicitDefEqProofs -dsimp only [go_sem, Fault.cs]
 refine condT.split (fun h1 => ?_) (fun h1 => ?_)
 · simp -implicitDefEqProofs -dsimp only [go_sem, h1, Fault.cs]
   have hi' : j + 1 < f.Bends.length := by have := of_decide_eq_true h1; omega
   have hj : j < f.Bends.length := by omega
   have hw1 : IntKind.i64.wrap (((j + 1 : Nat) : Int) - 1) = (j : Int) := by rw [wrap_i64 (by omega) (by omega)]; omega
   have hr := rows_at Bend.csl hi'
   have hr2 := rows_at Bend.csl hj
   (repeat ((repeat1' (first | simp -implicitDefEqProofs -dsimp only [go_sem, hr, hr2, hw1, Bend.cs, Fault.cs] | simp -dsimp (disch := omega) only [wrap_i64])); repeat (with_reducible refine sideA ?_)))
   refine condT.split (fun h2 => ?_) (fun h2 => ?_) <;> simp -implicitDefEqProofs -dsimp only [go_sem, h2]
   · exact WeakR.drop' (by rw [faultB, adj_false hi' h2]; rfl) (by rfl)
   · refine ⟨j + 1, ⟨by omega, range_all_succ hi.2 (by simp only [adjQ, hi', dite_true]; rw [show bendEq f.Bends[j + 1] f.Bends[j] = false from h2]; rfl)⟩, ?_, by omega⟩
     refine Weak.cut (1) (by simp) (by simp) ?_ ?_
     · rw [wrap_i64 (by omega) (by omega)]
       simp [LeC, LeV, ren, cutF]
     · simp [cutH, cutB, ren, map_ren_rows, Fault.cs]
 · simp -implicitDefEqProofs -dsimp only [go_sem, h1, Fault.cs]
   have ha : adj f.Bends = true := adj_of hi.2 (by simp at h1; omega)
   repeat' (first | (refine WeakR.drop' ?_ (by rfl); first | rfl | (simp [faultB, ha, *]; done)) | ((first | refine callT.at (in_ok _ _ _) ⟨leA, leA, leA, trivial⟩ ?_ | refine callS.at (in_ok _ _ _) ⟨leA, leA, leA, trivial⟩ ?_); simp -implicitDefEqProofs -dsimp only [go_sem, *]) | ((have ct := isWord_ok f.Name hn; (first | refine callT.at ct ⟨leA, trivial⟩ ?_ | refine callS.at ct ⟨leA, trivial⟩ ?_); clear ct); simp -implicitDefEqProofs -dsimp only [go_sem, *]) | ((first | refine callT.at (allBend_ok f.Bends bendB _ isBend_ok hl) ⟨leA, leA, trivial⟩ ?_ | refine callS.at (allBend_ok f.Bends bendB _ isBend_ok hl) ⟨leA, leA, trivial⟩ ?_); simp -implicitDefEqProofs -dsimp only [go_sem, *]) | (refine guardT.splitT (fun _ => ?_) (fun _ => ?_) <;> simp -implicitDefEqProofs -dsimp only [go_sem, *]) | (refine guardT.splitF (fun _ => ?_) (fun _ => ?_) <;> simp -implicitDefEqProofs -dsimp only [go_sem, *]) | (refine condT.split (fun _ => ?_) (fun _ => ?_) <;> simp -implicitDefEqProofs -dsimp only [go_sem, *]))
end Go.Proofs
end
section
set_option maxRecDepth 100000
namespace Go.Proofs
open Go.Lv
def segQ (L : List Bend) (i : Nat) : Bool := if h : i + 1 < L.length then segB L[i] L[i + 1] else true
def segs (L : List Bend) : Bool := (List.range L.length).all (segQ L)
theorem segs_of {L : List Bend} {j : Nat} (h : (List.range j).all (segQ L) = true) (h2 : L.length ≤ j + 1) : segs L = true := by
 rw [segs, List.all_eq_true]
 intro k hk
 by_cases hj : k < j
 · exact List.all_eq_true.1 h k (List.mem_range.2 hj)
 · rw [segQ, dif_neg (by omega)]
theorem segs_false {L : List Bend} {j : Nat} (h : j + 1 < L.length) (h2 : segB L[j] L[j + 1] = false) : segs L = false := by
 rw [segs, List.all_eq_false]
 exact ⟨j, List.mem_range.2 (by omega), by simp [segQ, h, h2]⟩
theorem bendEq_comm (a b : Bend) : bendEq a b = bendEq b a := by
 simp only [bendEq, BEq.comm (a := a.X), BEq.comm (a := a.Y)]
theorem segs_eq {L : List Bend} (h : 2 ≤ L.length) : segs L = (adj L && L.all bendB) := by
 cases hs : segs L
 · symm
   rw [segs, List.all_eq_false] at hs
   obtain ⟨i, hi, hq⟩ := hs
   have hi1 : i + 1 < L.length := by
     by_cases hc : i + 1 < L.length
     · exact hc
     · rw [segQ, dif_neg hc] at hq; exact absurd rfl hq
   rw [segQ, dif_pos hi1] at hq
   have hq' : segB L[i] L[i + 1] = false := by simpa using hq
   cases hb : L.all bendB
   · simp
   · have g1 := List.all_eq_true.1 hb L[i] (List.getElem_mem _)
     have g2 := List.all_eq_true.1 hb L[i + 1] (List.getElem_mem _)
     have : bendEq L[i + 1] L[i] = true := by
       rw [bendEq_comm]
       simpa [segB, g1, g2] using hq'
     rw [adj_false hi1 this]; rfl
 · have hall : ∀ i, (h : i + 1 < L.length) → segB L[i] L[i + 1] = true := fun i h => by
     have := List.all_eq_true.1 hs i (List.mem_range.2 (by omega))
     rw [segQ, dif_pos h] at this
     exact this
   have hb : L.all bendB = true := by
     rw [List.all_eq_true]
     intro x hx
     obtain ⟨i, hi, rfl⟩ := List.getElem_of_mem hx
     by_cases hc : i + 1 < L.length
     · have := hall i hc
       simp only [segB, Bool.and_eq_true] at this
       exact this.1.1
     · have := hall (i - 1) (by omega)
       simp only [segB, Bool.and_eq_true] at this
       have e : L[i - 1 + 1]'(by omega) = L[i] := by congr 1; omega
       rw [← e]
       exact this.1.2
   have ha : adj L = true := by
     rw [adj, List.all_eq_true]
     intro i _
     by_cases hc : i + 1 < L.length
     · have := hall i hc
       simp only [segB, Bool.and_eq_true] at this
       rw [adjQ, dif_pos hc, bendEq_comm]
       exact this.2
     · rw [adjQ, dif_neg hc]
   rw [ha, hb]; rfl
theorem faultB_segs (f : Fault) : faultB f = (segs f.Bends && (inB' f.Id 1 99 && (wordB f.Name && (inB' f.Bends.length 2 8 && inB' f.Slip 0 1000)))) := by
 cases h : inB' (f.Bends.length : Int) 2 8
 · simp [faultB, h]
 · have h2 : 2 ≤ f.Bends.length := by have := (inB'_iff.1 h).1; omega
   rw [segs_eq h2, faultB, h]
   cases adj f.Bends <;> cases f.Bends.all bendB <;> simp
theorem l18One_ok (f : Fault) (hn : strR f.Name) (hl : f.Bends.length ≤ 281474976710656) : Ctr Try.prog 25 [f.v] [] (.bool (faultB f)) [] := by
 refine Ctr.intro Try.mixed Try.func25 rfl Try.okF25 ?_
 simp -implicitDefEqProofs -dsimp only [go_sem, Try.ntmps25, Try.results25]
 simp -implicitDefEqProofs -dsimp only [go_sem, Fault.v]
 refine LoopT.intro (fun j : Nat => j ≤ f.Bends.length ∧ (List.range j).all (segQ f.Bends) = true) (fun j => ⟨[.undef, .ptr 0 0, .undef, .int .i64 ((j + 1 : Nat) : Int), .undef, .undef, .undef, .undef, .undef, .undef, .undef, .undef, .undef, .undef, .undef, .undef, .undef, .undef, .undef, .undef, .undef, .undef, .undef, .undef, .undef, .undef, .undef, .undef, .undef, .undef, .undef, .undef, .undef, .undef, .undef, .undef, .undef, .undef, .undef, .undef, .undef, .undef, .undef], [some f.cs], 0⟩) (fun j => f.Bends.length - j) 0 ⟨Nat.zero_le _, rfl⟩ ?_ (fun j hi => ?_)
 · refine Weak.cut (1) (by simp) (by simp) ?_ ?_
   · simp [LeC, LeV, ren, cutF]
   · simp [cutH, cutB, ren, map_ren_rows, Fault.cs]
 simp -implicitDefEqProofs -dsimp only [go_sem, Fault.cs]
 refine condT.split (fun h1 => ?_) (fun h1 => ?_)
 · simp -implicitDefEqProofs -dsimp only [go_sem, h1, Fault.cs]
   have hi' : j + 1 < f.Bends.length := by have := of_decide_eq_true h1; omega
   have hj : j < f.Bends.length := by omega
   have hw1 : IntKind.i64.wrap (((j + 1 : Nat) : Int) - 1) = (j : Int) := by rw [wrap_i64 (by omega) (by omega)]; omega
   have hr := rows_at Bend.csl hi'
   have hr2 := rows_at Bend.csl hj
   (repeat ((repeat1' (first | simp -implicitDefEqProofs -dsimp only [go_sem, hr, hr2, hw1, Bend.cs, Fault.cs] | simp -dsimp (disch := omega) only [wrap_i64])); repeat (with_reducible refine sideA ?_)))
   (have ct := l18Segment_ok f.Bends[j] f.Bends[j + 1]; (first | refine callT.at ct ⟨leA, leA, trivial⟩ ?_ | refine callS.at ct ⟨leA, leA, trivial⟩ ?_); clear ct)
   simp -implicitDefEqProofs -dsimp only [go_sem]
   refine condT.split (fun h2 => ?_) (fun h2 => ?_) <;> simp -implicitDefEqProofs -dsimp only [go_sem, h2]
   · exact WeakR.drop' (by rw [faultB_segs, segs_false hi' (by simpa using h2)]; rfl) (by rfl)
   · refine ⟨j + 1, ⟨by omega, range_all_succ hi.2 (by simp only [segQ, hi', dite_true]; simpa using h2)⟩, ?_, by omega⟩
     refine Weak.cut (1) (by simp) (by simp) ?_ ?_
     · rw [wrap_i64 (by omega) (by omega)]
       simp [LeC, LeV, ren, cutF]
     · simp [cutH, cutB, ren, map_ren_rows, Fault.cs]
 · simp -implicitDefEqProofs -dsimp only [go_sem, h1, Fault.cs]
   have ha : segs f.Bends = true := segs_of hi.2 (by simp at h1; omega)
   have hf := faultB_segs f
   repeat' (first | (refine WeakR.drop' ?_ (by rfl); first | rfl | (simp [hf, ha, *]; done)) | ((first | refine callT.at (l1In_ok _ _ _) ⟨leA, leA, leA, trivial⟩ ?_ | refine callS.at (l1In_ok _ _ _) ⟨leA, leA, leA, trivial⟩ ?_); simp -implicitDefEqProofs -dsimp only [go_sem, *]) | ((have ct := l2Word_ok f.Name hn; (first | refine callT.at ct ⟨leA, trivial⟩ ?_ | refine callS.at ct ⟨leA, trivial⟩ ?_); clear ct); simp -implicitDefEqProofs -dsimp only [go_sem, *]) | (refine guardT.splitT (fun _ => ?_) (fun _ => ?_) <;> simp -implicitDefEqProofs -dsimp only [go_sem, *]) | (refine guardT.splitF (fun _ => ?_) (fun _ => ?_) <;> simp -implicitDefEqProofs -dsimp only [go_sem, *]) | (refine condT.split (fun _ => ?_) (fun _ => ?_) <;> simp -implicitDefEqProofs -dsimp only [go_sem, *]))
end Go.Proofs
end
section
set_option maxRecDepth 100000
namespace Go.Proofs
open Go.Lv
theorem copyOfBend_ok (L : List Bend) (hl : L.length ≤ 16777216) : Ctr Try.prog 35 [Bend.sl L] [] (.osl 0 0 L.length 2) [some (rows Bend.cs L)] := by
 refine Ctr.intro Try.mixed Try.func35 rfl Try.okF35 ?_
 simp -implicitDefEqProofs -dsimp only [go_sem, Try.ntmps35, Try.results35]
 repeat (with_reducible refine sideA ?_)
 exact WeakR.refl _ _ _
theorem copiedFault_ok (f : Fault) (hl : f.Bends.length ≤ 16777216) : Ctr Try.prog 19 [f.v] [] (f.o 0) [some (rows Bend.cs f.Bends)] := by
 refine Ctr.intro Try.mixed Try.func19 rfl Try.okF19 ?_
 simp -implicitDefEqProofs -dsimp only [go_sem, Try.ntmps19, Try.results19]
 simp -implicitDefEqProofs -dsimp only [go_sem, Fault.v]
 repeat (with_reducible refine sideA ?_)
 (have ct := copyOfBend_ok f.Bends hl; (first | refine callT.at ct ⟨leA, trivial⟩ ?_ | refine callS.at ct ⟨leA, trivial⟩ ?_); clear ct)
 simp -implicitDefEqProofs -dsimp only [go_sem]
 repeat (with_reducible refine sideA ?_)
 refine WeakR.pick [2] (by decide) (fun j hj => by omega) (.inl ?_) ?_
 · rfl
 · simp only [pickH, List.map_cons, List.map_nil, pickB, List.getElem?_cons_zero, List.getElem?_cons_succ, map_ren_rows]
end Go.Proofs
end
section
set_option maxRecDepth 100000
namespace Go.Proofs
open Go.Lv
theorem faultB_ok {f : Fault} (h : faultB f = true) : 2 ≤ f.Bends.length ∧ f.Bends.length ≤ 8 := by
 simp [faultB, inB'] at h; omega
end Go.Proofs
end
section
set_option maxRecDepth 100000
set_option maxHeartbeats 1000000
namespace Go.Lv
def strSet (ks : List ByteArray) : List (Value × Value) := ks.map fun k => (.string k, .bool true)
theorem bytesEq (a b : ByteArray) : (a == b) = decide (a = b) := by
 by_cases e : a = b
 · subst e; simp only [decide_true]; exact (Go.MapKept.bytes_beq a a).2 rfl
 · rw [decide_eq_false e]
   cases h : (a == b)
   · rfl
   · exact absurd ((Go.MapKept.bytes_beq a b).1 h) e
theorem str_inj {x y : ByteArray} : x.toList = y.toList ↔ x = y := by
 rw [ByteArray.toList_eq, ByteArray.toList_eq]
 exact ⟨fun h => ByteArray.ext (Array.toList_inj.mp h), fun h => by rw [h]⟩
theorem strSet_has {k : ByteArray} : ∀ {ks : List ByteArray} (i : Nat), k ∈ ks → ∃ j, mpFind .string (.string k) (strSet ks) i = some (some (j, .bool true))
 | x :: ks, i, h => by
   by_cases e : k = x
   · subst e
     exact ⟨i, by simp [strSet, mpFind, Instr.sameNow, bytesEq]⟩
   · obtain ⟨j, hj⟩ := strSet_has (i + 1) ((List.mem_cons.1 h).resolve_left e)
     have e' : (k == x) = false := by simp [bytesEq, e]
     exact ⟨j, by simpa [strSet, mpFind, Instr.sameNow, e'] using hj⟩
theorem strSet_not {k : ByteArray} : ∀ {ks : List ByteArray} (i : Nat), k ∉ ks → mpFind .string (.string k) (strSet ks) i = some none
 | [], i, _ => rfl
 | x :: ks, i, h => by
   simp at h
   have := strSet_not (i + 1) h.2
   have e' : (k == x) = false := by simp [bytesEq, h.1]
   simpa [strSet, mpFind, Instr.sameNow, e'] using this
theorem strSet_put {k : ByteArray} {ks : List ByteArray} : mpPut (.string k) (.bool true) none (strSet ks) = strSet (ks ++ [k]) := by simp [mpPut, strSet]
end Go.Lv
namespace Go.Proofs
open Go.Lv
instance : FlatQ Fault.cs 4 := ⟨fun _ => rfl, fun a d => by cases d <;> rfl, fun _ => rfl⟩
abbrev Fault.sl (L : List Fault) : V := .sl L.length 4 (rows Fault.cs L)
theorem areListedFault_ok (L : List Fault) (p : Fault → Bool) (key : Fault → Int) (most : Int) (fv fk : Nat) (vc kc : List V) (hvc : ∀ d, vc.all (noOwn d) = true) (hkc : ∀ d, kc.all (noOwn d) = true) (hv : ∀ x ∈ L, Ctr Try.prog fv (Fault.v x :: vc) [] (.bool (p x)) []) (hkey : ∀ x, Ctr Try.prog fk (Fault.v x :: kc) [] (.int .i64 (key x)) []) (m : Nat) (hm : most = m) (hl : L.length ≤ 281474976710656) :
   Ctr Try.prog 29 [Fault.sl L, .int .i64 most, .fn (.func fv) [] vc, .fn (.func fk) [] kc] [] (.bool (listedB p key m L)) [] := by
 subst hm
 refine Ctr.intro Try.mixed Try.func29 rfl Try.okF29 ?_
 simp -implicitDefEqProofs -dsimp only [go_sem, Try.ntmps29, Try.results29]
 have hvc2 : ∀ f d, vc.map (ren f d) = vc := fun f d => map_ren f (hvc d)
 have hkc2 : ∀ f d, kc.map (ren f d) = kc := fun f d => map_ren f (hkc d)
 refine LoopT.intro (fun i : Nat => i ≤ L.length ∧ (List.range i).all (listedQ p key L) = true) (fun i => ⟨[Fault.sl L, .int .i64 m, .fn (.func fv) [] vc, .fn (.func fk) [] kc, .undef, .undef, .undef, .undef, .undef, .undef, .undef, Fault.sl L, .int .i64 L.length, .int .i64 i, .undef, .undef, .undef, .undef, .undef, .undef, .undef, .undef, .undef, .undef, .undef, .undef, .undef, .undef, .undef, .undef, .undef, .undef, .undef, .undef, .undef, .undef, .undef, .undef, .undef, .undef, .undef, .undef, .undef, .undef], [], 0⟩) (fun i => L.length - i) 0 ⟨Nat.zero_le _, rfl⟩ ?_ (fun i hi => ?_)
 · refine Weak.cut (0) (by simp) (by simp) ?_ ?_
   · simp [LeC, LeV, ren, cutF, hvc2, hkc2]
   · rfl
 simp -implicitDefEqProofs -dsimp only [go_sem]
 refine condT.split (fun h1 => ?_) (fun h1 => ?_)
 · simp -implicitDefEqProofs -dsimp only [go_sem, h1]
   have hi' : i < L.length := by simpa using h1
   have h5 := Fault.csl L[i]
   have hr := rows_at Fault.csl hi'
   (repeat1' (first | simp -implicitDefEqProofs -dsimp only [go_sem, hr, Fault.cs] | simp -dsimp (disch := omega) only [wrap_i64]))
   repeat (with_reducible refine sideA ?_)
   refine callT.intro (hv L[i] (List.getElem_mem hi')) ⟨.inl rfl, LeL_same (hvc2 _ _)⟩ (.inl (by simp only [List.nil_append, List.cons_append, List.all_cons, hvc, Bool.and_true]; rfl)) ⟨refOk_fn (hvc 3), rfl⟩ ?_
   simp -implicitDefEqProofs -dsimp only [go_sem]
   refine guardT.splitF (fun h2 => ?_) (fun h2 => ?_) <;> simp -implicitDefEqProofs -dsimp only [go_sem, h2]
   · have hw : p L[i] = true := by simpa using h2
     refine guardT.splitT (fun h3 => ?_) (fun h3 => ?_) <;> simp -implicitDefEqProofs -dsimp only [go_sem, h3]
     · obtain ⟨j, rfl⟩ : ∃ j, i = j + 1 := ⟨i - 1, by simp at h3; omega⟩
       have hj : j < L.length := by omega
       refine callT.intro (hkey L[j + 1]) ⟨.inl rfl, LeL_same (hkc2 _ _)⟩ (.inl (by simp only [List.nil_append, List.cons_append, List.all_cons, hkc, Bool.and_true]; rfl)) ⟨refOk_fn (hkc 3), rfl⟩ ?_
       have hw1 : IntKind.i64.wrap (((j + 1 : Nat) : Int) - 1) = (j : Int) := by rw [wrap_i64 (by omega) (by omega)]; omega
       have hr2 := rows_at Fault.csl hj
       (repeat1' (first | simp -implicitDefEqProofs -dsimp only [go_sem, hw1, hr2, Fault.cs] | simp -dsimp (disch := omega) only [wrap_i64]))
       repeat (with_reducible refine sideA ?_)
       refine callT.intro (hkey L[j]) ⟨.inl rfl, LeL_same (hkc2 _ _)⟩ (.inl (by simp only [List.nil_append, List.cons_append, List.all_cons, hkc, Bool.and_true]; rfl)) ⟨refOk_fn (hkc 3), rfl⟩ ?_
       (repeat1' (first | simp -implicitDefEqProofs -dsimp only [go_sem] | simp -dsimp (disch := omega) only [wrap_i64]))
       refine condT.split (fun h4 => ?_) (fun h4 => ?_) <;> simp -implicitDefEqProofs -dsimp only [go_sem, h4]
       · refine WeakR.drop' ?_ rfl
         have hq : listedQ p key L (j + 1) = false := by
           rw [listedQ_succ hi', hw]
           simp at h4 ⊢
           omega
         rw [listedB_false hi' hq]
       · refine ⟨j + 1 + 1, ⟨hi', range_all_succ hi.2 (by rw [listedQ_succ hi', hw]; simp at h4 ⊢; omega)⟩, ?_, by omega⟩
         refine Weak.cut (0) (by simp) (by simp) ?_ ?_
         · rw [wrap_i64 (by omega) (by omega)]
           simp [LeC, LeV, ren, cutF, hvc2, hkc2]
         · rfl
     · have h0 : i = 0 := by simp at h3; omega
       refine ⟨i + 1, ⟨hi', range_all_succ hi.2 (by subst h0; rw [listedQ_zero hi', hw])⟩, ?_, by omega⟩
       refine Weak.cut (0) (by simp) (by simp) ?_ ?_
       · rw [wrap_i64 (by omega) (by omega)]
         simp [LeC, LeV, ren, cutF, hvc2, hkc2]
       · rfl
   · have hw : p L[i] = false := by simpa using h2
     refine WeakR.drop' ?_ rfl
     have hq : listedQ p key L i = false := by simp [listedQ, hi', hw]
     rw [listedB_false hi' hq]
 · simp -implicitDefEqProofs -dsimp only [go_sem, h1]
   refine WeakR.drop' ?_ rfl
   have : i = L.length := by simp at h1; omega
   subst this
   rw [listedB, hi.2]
   simp
   try omega
theorem differFault_ok (L : List Fault) (key : Fault → ByteArray) (fk : Nat) (hkey : ∀ x, Ctr Try.prog fk [Fault.v x] [] (.str (key x)) []) (hl : L.length ≤ 281474976710656) :
   Ctr Try.prog 32 [Fault.sl L, .fn (.func fk) [] []] [] (.bool (decide (L.map key).Nodup)) [] := by
 refine Ctr.intro Try.mixed Try.func32 rfl Try.okF32 ?_
 simp -implicitDefEqProofs -dsimp only [go_sem, Try.ntmps32, Try.results32]
 refine LoopT.intro (fun i : Nat => i ≤ L.length ∧ ((L.take i).map key).Nodup) (fun i => ⟨[.undef, .fn (.func fk) [] [], .undef, .undef, .undef, .mp 0, .undef, .undef, .undef, Fault.sl L, .int .i64 L.length, .int .i64 i, .undef, .undef, .undef, .undef, .undef, .undef, .undef, .undef, .undef, .undef, .undef, .undef, .undef], [some [.mb (strSet ((L.take i).map key))]], 0⟩) (fun i => L.length - i) 0 ⟨Nat.zero_le _, by simp⟩ ?_ (fun i hi => ?_)
 · refine Weak.cut (1) (by simp) (by simp) ?_ ?_
   · simp [LeC, LeV, ren, cutF]
   · simp [cutH, cutB, ren, strSet]
 simp -implicitDefEqProofs -dsimp only [go_sem]
 refine condT.split (fun h1 => ?_) (fun h1 => ?_)
 · simp -implicitDefEqProofs -dsimp only [go_sem, h1]
   have hi' : i < L.length := by simpa using h1
   have h5 := Fault.csl L[i]
   have hr := rows_at Fault.csl hi'
   have ht : (L.take (i + 1)).map key = (L.take i).map key ++ [key L[i]] := by rw [List.take_succ_eq_append_getElem hi', List.map_append]; rfl
   (repeat1' (first | simp -implicitDefEqProofs -dsimp only [go_sem, hr, Fault.cs] | simp -dsimp (disch := omega) only [wrap_i64]))
   repeat (with_reducible refine sideA ?_)
   (first | refine callT.at (hkey L[i]) ⟨.inl rfl, trivial⟩ ?_ | refine callS.at (hkey L[i]) ⟨.inl rfl, trivial⟩ ?_)
   simp -implicitDefEqProofs -dsimp only [go_sem]
   by_cases hm : key L[i] ∈ (L.take i).map key
   · obtain ⟨j, hj⟩ := strSet_has 0 hm
     simp -implicitDefEqProofs -dsimp only [go_sem, hj]
     refine WeakR.drop' ?_ (by rfl)
     have : ¬ (L.map key).Nodup := by
       intro hn
       have h2 : ((L.take (i + 1)).map key).Nodup := (List.map_take ▸ hn.sublist (List.take_sublist _ _))
       rw [ht] at h2
       have := (List.nodup_append.1 h2).2.2 _ hm (key L[i]) (by simp)
       exact this rfl
     rw [decide_eq_false this]
   · have hj := strSet_not 0 hm
     simp -implicitDefEqProofs -dsimp only [go_sem, hj]
     (first | refine callT.at (hkey L[i]) ⟨.inl rfl, trivial⟩ ?_ | refine callS.at (hkey L[i]) ⟨.inl rfl, trivial⟩ ?_)
     simp -implicitDefEqProofs -dsimp only [go_sem, hj, strSet_put]
     refine ⟨i + 1, ⟨hi', ?_⟩, ?_, by omega⟩
     · rw [ht, List.nodup_append]
       exact ⟨hi.2, by simp, fun a ha b hb => by simp at hb; subst hb; rintro rfl; exact hm ha⟩
     refine Weak.cut (1) (by simp) (by simp) ?_ ?_
     · rw [wrap_i64 (by omega) (by omega)]
       simp [LeC, LeV, ren, cutF]
     · rw [ht]
       simp [cutH, cutB, ren]
 · simp -implicitDefEqProofs -dsimp only [go_sem, h1]
   have hi' : i = L.length := by simp at h1; omega
   subst hi'
   have h2 := hi.2
   rw [List.take_length] at h2
   exact WeakR.drop' (by rw [decide_eq_true h2]) (by rfl)
theorem indexFuncFault_ok (L : List Fault) (p : Fault → Bool) (fv : Nat) (vc : List V) (hvc : ∀ d, vc.all (noOwn d) = true) (hv : ∀ x, Ctr Try.prog fv (Fault.v x :: vc) [] (.bool (p x)) []) (hl : L.length ≤ 281474976710656) :
   Ctr Try.prog 27 [Fault.sl L, .fn (.func fv) [] vc] [] (.int .i64 (idxI p L)) [] := by
 refine Ctr.intro Try.mixed Try.func27 rfl Try.okF27 ?_
 simp -implicitDefEqProofs -dsimp only [go_sem, Try.ntmps27, Try.results27]
 have hvc2 : ∀ f d, vc.map (ren f d) = vc := fun f d => map_ren f (hvc d)
 refine LoopT.intro (fun i : Nat => i ≤ L.length ∧ (L.take i).any p = false) (fun i => ⟨[Fault.sl L, .fn (.func fv) [] vc, .undef, .undef, .undef, .undef, .undef, .int .i64 L.length, .int .i64 i, .undef, .undef, .undef, .undef, .undef, .undef, .undef, .undef, .undef, .undef], [], 0⟩) (fun i => L.length - i) 0 ⟨Nat.zero_le _, rfl⟩ ?_ (fun i hi => ?_)
 · refine Weak.cut (0) (by simp) (by simp) ?_ ?_
   · simp [LeC, LeV, ren, cutF, hvc2]
   · rfl
 simp -implicitDefEqProofs -dsimp only [go_sem]
 refine condT.split (fun h1 => ?_) (fun h1 => ?_)
 · simp -implicitDefEqProofs -dsimp only [go_sem, h1]
   have hi' : i < L.length := by simpa using h1
   have h5 := Fault.csl L[i]
   have hr := rows_at Fault.csl hi'
   (repeat1' (first | simp -implicitDefEqProofs -dsimp only [go_sem, hr, Fault.cs] | simp -dsimp (disch := omega) only [wrap_i64]))
   repeat (with_reducible refine sideA ?_)
   refine callS.intro (hv L[i]) ⟨.inl rfl, LeL_same (hvc2 _ _)⟩ (.inl (by simp only [List.nil_append, List.cons_append, List.all_cons, hvc, Bool.and_true]; rfl)) ?_
   simp -implicitDefEqProofs -dsimp only [go_sem]
   refine condT.split (fun h2 => ?_) (fun h2 => ?_) <;> simp -implicitDefEqProofs -dsimp only [go_sem, h2]
   · exact WeakR.drop' (by rw [idxI_found hi' hi.2 h2]) (by rfl)
   · refine ⟨i + 1, ⟨hi', by rw [List.take_succ_eq_append_getElem hi']; simp only [List.any_append, hi.2, List.any_cons, h2, List.any_nil, Bool.or_self]⟩, ?_, by omega⟩
     refine Weak.cut (0) (by simp) (by simp) ?_ ?_
     · rw [wrap_i64 (by omega) (by omega)]
       simp [LeC, LeV, ren, cutF, hvc2]
     · rfl
 · simp -implicitDefEqProofs -dsimp only [go_sem, h1]
   have hi' : i = L.length := by simp at h1; omega
   subst hi'
   have h2 := hi.2
   rw [List.take_length] at h2
   exact WeakR.drop' (by rw [idxI_none h2]) (by rfl)
end Go.Proofs
end
section
set_option maxRecDepth 100000
set_option maxHeartbeats 2000000
namespace Go.Proofs
open Go.Lv
def faultsB (L : List Fault) : Bool := listedB faultB Fault.Id 6 L && decide (L.map Fault.Name).Nodup
def flsOk (L : List Fault) : Prop := ∀ x ∈ L, strR x.Name ∧ x.Bends.length ≤ 1048576
theorem faultId_ok (f : Fault) : Ctr Try.prog 31 [f.v] [] (.int .i64 f.Id) [] := by
 refine Ctr.intro Try.mixed Try.func31 rfl Try.okF31 ?_
 simp -implicitDefEqProofs -dsimp only [go_sem, Try.ntmps31, Try.results31]
 (repeat ((repeat1' (first | simp -implicitDefEqProofs -dsimp only [go_sem, Fault.v] | simp -dsimp (disch := omega) only [wrap_i64])); repeat (with_reducible refine sideA ?_)))
 exact WeakR.drop' rfl (by rfl)
theorem faultName_ok (f : Fault) : Ctr Try.prog 33 [f.v] [] (.str f.Name) [] := by
 refine Ctr.intro Try.mixed Try.func33 rfl Try.okF33 ?_
 simp -implicitDefEqProofs -dsimp only [go_sem, Try.ntmps33, Try.results33]
 (repeat ((repeat1' (first | simp -implicitDefEqProofs -dsimp only [go_sem, Fault.v] | simp -dsimp (disch := omega) only [wrap_i64])); repeat (with_reducible refine sideA ?_)))
 exact WeakR.drop' rfl (by rfl)
theorem iAreFaults_ok (L : List Fault) (hok : flsOk L) (hl : L.length ≤ 16777216) : Ctr Try.prog 17 [Fault.sl L] [] (.bool (faultsB L)) [] := by
 have hv := fun x (hx : x ∈ L) => iIsFault_ok x (hok x hx).1 (by have := (hok x hx).2; omega)
 refine Ctr.intro Try.mixed Try.func17 rfl Try.okF17 ?_
 simp -implicitDefEqProofs -dsimp only [go_sem, Try.ntmps17, Try.results17]
 (repeat ((repeat1' (first | simp -implicitDefEqProofs -dsimp only [go_sem] | simp -dsimp (disch := omega) only [wrap_i64])); repeat (with_reducible refine sideA ?_)))
 (first | refine callT.at (areListedFault_ok L faultB Fault.Id 6 _ _ [] [] (fun d => rfl) (fun d => rfl) hv faultId_ok 6 rfl (by omega)) ⟨leA, leA, leA, leA, trivial⟩ ?_ | refine callS.at (areListedFault_ok L faultB Fault.Id 6 _ _ [] [] (fun d => rfl) (fun d => rfl) hv faultId_ok 6 rfl (by omega)) ⟨leA, leA, leA, leA, trivial⟩ ?_)
 (repeat ((repeat1' (first | simp -implicitDefEqProofs -dsimp only [go_sem] | simp -dsimp (disch := omega) only [wrap_i64])); repeat (with_reducible refine sideA ?_)))
 refine guardT.splitT (fun h1 => ?_) (fun h1 => ?_)
 · (repeat ((repeat1' (first | simp -implicitDefEqProofs -dsimp only [go_sem, h1] | simp -dsimp (disch := omega) only [wrap_i64])); repeat (with_reducible refine sideA ?_)))
   (first | refine callT.at (differFault_ok L Fault.Name _ faultName_ok (by omega)) ⟨leA, leA, trivial⟩ ?_ | refine callS.at (differFault_ok L Fault.Name _ faultName_ok (by omega)) ⟨leA, leA, trivial⟩ ?_)
   (repeat ((repeat1' (first | simp -implicitDefEqProofs -dsimp only [go_sem] | simp -dsimp (disch := omega) only [wrap_i64])); repeat (with_reducible refine sideA ?_)))
   exact WeakR.drop' (by simp [faultsB, h1]) (by rfl)
 · (repeat ((repeat1' (first | simp -implicitDefEqProofs -dsimp only [go_sem, h1] | simp -dsimp (disch := omega) only [wrap_i64])); repeat (with_reducible refine sideA ?_)))
   exact WeakR.drop' (by simp [faultsB, h1]) (by rfl)
theorem fls_get {L : List Fault} (hok : flsOk L) {i : Nat} (hi : i < L.length) : strR L[i].Name ∧ L[i].Bends.length ≤ 281474976710656 := by
 have := hok L[i] (List.getElem_mem hi)
 exact ⟨this.1, by omega⟩
theorem fls_dup {L : List Fault} {i k : Nat} (hi : i < L.length) (hk : k < i) (e : L[k].Name = L[i].Name) : ¬ (L.map Fault.Name).Nodup := by
 intro hn
 have := nodup_get hn (i := k) (j := i) (by simp; omega) (by simp; omega) (by simpa using e)
 omega
theorem l18Good_ok (L : List Fault) (hok : flsOk L) (hl : L.length ≤ 16777216) : Ctr Try.prog 13 [Fault.sl L] [] (.bool (faultsB L)) [] := by
 refine Ctr.intro Try.mixed Try.func13 rfl Try.okF13 ?_
 simp -implicitDefEqProofs -dsimp only [go_sem, Try.ntmps13, Try.results13]
 refine LoopT.intro (fun i : Nat => i ≤ L.length ∧ i ≤ 7 ∧ (List.range i).all (listedQ faultB Fault.Id L) = true ∧ ((L.take i).map Fault.Name).Nodup) (fun i => ⟨[Fault.sl L, .undef, .undef, .int .i64 i, .undef, .undef, .undef, .undef, .undef, .undef, .undef, .undef, .undef, .undef, .undef, .undef, .undef, .undef, .undef, .undef, .undef, .undef, .undef, .undef, .undef, .undef, .undef, .undef, .undef, .undef, .undef, .undef, .undef, .undef, .undef, .undef, .undef, .undef, .undef, .undef, .undef, .undef, .undef, .undef, .undef, .undef, .undef, .undef, .undef, .undef, .undef, .undef, .undef, .undef, .undef, .undef, .undef, .undef], [], 0⟩) (fun i => L.length - i) 0 ⟨Nat.zero_le _, by omega, rfl, by simp⟩ ?_ (fun i hi => ?_)
 · refine Weak.cut (0) (by simp) (by simp) ?_ ?_
   · simp [LeC, LeV, ren, cutF]
   · rfl
 obtain ⟨hi0, hi7, hiq, hin⟩ := hi
 simp -implicitDefEqProofs -dsimp only [go_sem]
 refine guardT.splitT (fun h1 => ?_) (fun h1 => ?_) <;> simp -implicitDefEqProofs -dsimp only [go_sem, h1]
 · have hi' : i < L.length := by simpa using h1
   refine condT.split (fun h2 => ?_) (fun h2 => ?_) <;> simp -implicitDefEqProofs -dsimp only [go_sem, h2]
   · have hi6 : i ≤ 6 := by simp at h2; omega
     have h5 := Fault.csl L[i]
     have hr := rows_at Fault.csl hi'
     obtain ⟨o1, o2⟩ := fls_get hok hi'
     (repeat ((repeat1' (first | simp -implicitDefEqProofs -dsimp only [go_sem, hr, Fault.cs] | simp -dsimp (disch := omega) only [wrap_i64])); repeat (with_reducible refine sideA ?_)))
     (first | refine callT.at (l18One_ok L[i] o1 o2) ⟨.inl rfl, trivial⟩ ?_ | refine callS.at (l18One_ok L[i] o1 o2) ⟨.inl rfl, trivial⟩ ?_)
     (repeat ((repeat1' (first | simp -implicitDefEqProofs -dsimp only [go_sem] | simp -dsimp (disch := omega) only [wrap_i64])); repeat (with_reducible refine sideA ?_)))
     refine guardT.splitF (fun g1 => ?_) (fun g1 => ?_) <;> (repeat ((repeat1' (first | simp -implicitDefEqProofs -dsimp only [go_sem, g1] | simp -dsimp (disch := omega) only [wrap_i64])); repeat (with_reducible refine sideA ?_)))
     · have hw : faultB L[i] = true := by simpa using g1
       refine guardT.splitT (fun g2 => ?_) (fun g2 => ?_) <;> (repeat ((repeat1' (first | simp -implicitDefEqProofs -dsimp only [go_sem, g2] | simp -dsimp (disch := omega) only [wrap_i64])); repeat (with_reducible refine sideA ?_)))
       · have hj : i - 1 < L.length := by omega
         have hi1 : 0 < i := by simp at g2; omega
         have hw1 : (i : Int) - 1 = ((i - 1 : Nat) : Int) := by omega
         have hr2 := rows_at Fault.csl hj
         have hls := listedQ_succ (p := faultB) (k := Fault.Id) (L := L) (j := i - 1) (by omega)
         simp only [show i - 1 + 1 = i by omega] at hls
         (repeat ((repeat1' (first | simp -implicitDefEqProofs -dsimp only [go_sem, hw1, hr, hr2, Fault.cs] | simp -dsimp (disch := omega) only [wrap_i64])); repeat (with_reducible refine sideA ?_)))
         refine condT.split (fun g3 => ?_) (fun g3 => ?_) <;> (repeat ((repeat1' (first | simp -implicitDefEqProofs -dsimp only [go_sem, g3] | simp -dsimp (disch := omega) only [wrap_i64])); repeat (with_reducible refine sideA ?_)))
         · refine WeakR.drop' ?_ (by rfl)
           have hq : listedQ faultB Fault.Id L i = false := by
             rw [hls, hw]; simp at g3 ⊢; omega
           rw [faultsB, listedB_false hi' hq]
           rfl
         · have hq : listedQ faultB Fault.Id L i = true := by
             rw [hls, hw]; simp at g3 ⊢; omega
           refine LoopT.intro (fun k : Nat => k ≤ i ∧ L[i].Name ∉ (L.take k).map Fault.Name) (fun k => ⟨[Fault.sl L, .undef, .undef, .int .i64 i, .int .i64 k, .undef, .undef, .undef, .undef, .undef, .undef, .undef, .undef, .undef, .undef, .undef, .undef, .undef, .undef, .undef, .undef, .undef, .undef, .undef, .undef, .undef, .undef, .undef, .undef, .undef, .undef, .undef, .undef, .undef, .undef, .undef, .undef, .undef, .undef, .undef, .undef, .undef, .undef, .undef, .undef, .undef, .undef, .undef, .undef, .undef, .undef, .undef, .undef, .undef, .undef, .undef, .undef, .undef], [], 0⟩) (fun k => i - k) 0 ⟨Nat.zero_le _, by simp⟩ ?_ (fun k hk => ?_)
           · refine Weak.cut (0) (by simp) (by simp) ?_ ?_
             · simp [LeC, LeV, ren, cutF]
             · rfl
           obtain ⟨hk0, hkn⟩ := hk
           simp -implicitDefEqProofs -dsimp only [go_sem]
           refine condT.split (fun g4 => ?_) (fun g4 => ?_) <;> simp -implicitDefEqProofs -dsimp only [go_sem, g4]
           · have hki : k < i := by simpa using g4
             have hkL : k < L.length := by omega
             have hr3 := rows_at Fault.csl hkL
             have e1 : (L.take (k + 1)).map Fault.Name = (L.take k).map Fault.Name ++ [L[k].Name] := by rw [List.take_succ_eq_append_getElem hkL, List.map_append]; rfl
             (repeat ((repeat1' (first | simp -implicitDefEqProofs -dsimp only [go_sem, hr, hr3, Fault.cs] | simp -dsimp (disch := omega) only [wrap_i64])); repeat (with_reducible refine sideA ?_)))
             refine condT.split (fun g5 => ?_) (fun g5 => ?_) <;> (repeat ((repeat1' (first | simp -implicitDefEqProofs -dsimp only [go_sem, g5] | simp -dsimp (disch := omega) only [wrap_i64])); repeat (with_reducible refine sideA ?_)))
             · refine WeakR.drop' ?_ (by rfl)
               have := fls_dup hi' hki (str_inj.1 (by simpa using g5))
               rw [faultsB, decide_eq_false this, Bool.and_false]
             · refine ⟨k + 1, ⟨by omega, ?_⟩, ?_, by omega⟩
               · rw [e1]
                 simp at g5 ⊢
                 refine ⟨by simpa using hkn, fun e => g5 (str_inj.2 e.symm)⟩
               · refine Weak.cut (0) (by simp) (by simp) ?_ ?_
                 · simp [LeC, LeV, ren, cutF]
                   try omega
                 · rfl
           · have hki : k = i := by simp at g4; omega
             subst hki
             have e1 : (L.take (k + 1)).map Fault.Name = (L.take k).map Fault.Name ++ [L[k].Name] := by rw [List.take_succ_eq_append_getElem hi', List.map_append]; rfl
             (repeat ((repeat1' (first | simp -implicitDefEqProofs -dsimp only [go_sem] | simp -dsimp (disch := omega) only [wrap_i64])); repeat (with_reducible refine sideA ?_)))
             refine ⟨k + 1, ⟨by omega, by omega, range_all_succ hiq hq, ?_⟩, ?_, by omega⟩
             · rw [e1, List.nodup_append]
               exact ⟨hin, by simp, fun a ha b hb => by simp at hb; subst hb; rintro rfl; exact hkn ha⟩
             · refine Weak.cut (0) (by simp) (by simp) ?_ ?_
               · simp [LeC, LeV, ren, cutF]
                 try omega
               · rfl
       · have h0 : i = 0 := by simp at g2; omega
         have hq : listedQ faultB Fault.Id L i = true := by subst h0; rw [listedQ_zero hi', hw]
         refine LoopT.intro (fun k : Nat => k ≤ i ∧ L[i].Name ∉ (L.take k).map Fault.Name) (fun k => ⟨[Fault.sl L, .undef, .undef, .int .i64 i, .int .i64 k, .undef, .undef, .undef, .undef, .undef, .undef, .undef, .undef, .undef, .undef, .undef, .undef, .undef, .undef, .undef, .undef, .undef, .undef, .undef, .undef, .undef, .undef, .undef, .undef, .undef, .undef, .undef, .undef, .undef, .undef, .undef, .undef, .undef, .undef, .undef, .undef, .undef, .undef, .undef, .undef, .undef, .undef, .undef, .undef, .undef, .undef, .undef, .undef, .undef, .undef, .undef, .undef, .undef], [], 0⟩) (fun k => i - k) 0 ⟨Nat.zero_le _, by simp⟩ ?_ (fun k hk => ?_)
         · refine Weak.cut (0) (by simp) (by simp) ?_ ?_
           · simp [LeC, LeV, ren, cutF]
           · rfl
         obtain ⟨hk0, hkn⟩ := hk
         simp -implicitDefEqProofs -dsimp only [go_sem]
         refine condT.split (fun g4 => ?_) (fun g4 => ?_) <;> simp -implicitDefEqProofs -dsimp only [go_sem, g4]
         · have hki : k < i := by simpa using g4
           have hkL : k < L.length := by omega
           have hr3 := rows_at Fault.csl hkL
           have e1 : (L.take (k + 1)).map Fault.Name = (L.take k).map Fault.Name ++ [L[k].Name] := by rw [List.take_succ_eq_append_getElem hkL, List.map_append]; rfl
           (repeat ((repeat1' (first | simp -implicitDefEqProofs -dsimp only [go_sem, hr, hr3, Fault.cs] | simp -dsimp (disch := omega) only [wrap_i64])); repeat (with_reducible refine sideA ?_)))
           refine condT.split (fun g5 => ?_) (fun g5 => ?_) <;> (repeat ((repeat1' (first | simp -implicitDefEqProofs -dsimp only [go_sem, g5] | simp -dsimp (disch := omega) only [wrap_i64])); repeat (with_reducible refine sideA ?_)))
           · refine WeakR.drop' ?_ (by rfl)
             have := fls_dup hi' hki (str_inj.1 (by simpa using g5))
             rw [faultsB, decide_eq_false this, Bool.and_false]
           · refine ⟨k + 1, ⟨by omega, ?_⟩, ?_, by omega⟩
             · rw [e1]
               simp at g5 ⊢
               refine ⟨by simpa using hkn, fun e => g5 (str_inj.2 e.symm)⟩
             · refine Weak.cut (0) (by simp) (by simp) ?_ ?_
               · simp [LeC, LeV, ren, cutF]
                 try omega
               · rfl
         · have hki : k = i := by simp at g4; omega
           subst hki
           have e1 : (L.take (k + 1)).map Fault.Name = (L.take k).map Fault.Name ++ [L[k].Name] := by rw [List.take_succ_eq_append_getElem hi', List.map_append]; rfl
           (repeat ((repeat1' (first | simp -implicitDefEqProofs -dsimp only [go_sem] | simp -dsimp (disch := omega) only [wrap_i64])); repeat (with_reducible refine sideA ?_)))
           refine ⟨k + 1, ⟨by omega, by omega, range_all_succ hiq hq, ?_⟩, ?_, by omega⟩
           · rw [e1, List.nodup_append]
             exact ⟨hin, by simp, fun a ha b hb => by simp at hb; subst hb; rintro rfl; exact hkn ha⟩
           · refine Weak.cut (0) (by simp) (by simp) ?_ ?_
             · simp [LeC, LeV, ren, cutF]
               try omega
             · rfl
     · have hw : faultB L[i] = false := by simpa using g1
       refine WeakR.drop' ?_ (by rfl)
       have hq : listedQ faultB Fault.Id L i = false := by simp [listedQ, hi', hw]
       rw [faultsB, listedB_false hi' hq]
       rfl
   · have hi6 : i = 7 := by simp at h2; omega
     refine WeakR.drop' ?_ (by rfl)
     rw [decide_eq_false (show ¬ ((L.length : Int) ≤ 6) by omega), faultsB, listedB, decide_eq_false (show ¬ (L.length ≤ 6) by omega)]
     simp
 · have hi' : i = L.length := by simp at h1; omega
   subst hi'
   refine WeakR.drop' ?_ (by rfl)
   rw [List.take_length] at hin
   rw [faultsB, decide_eq_true hin, listedB, hiq]
   simp
   omega
end Go.Proofs
end
section
set_option maxRecDepth 100000
namespace Go.Proofs
open Go.Lv
structure Arrival where
 Id : Int
 X : Int
 Y : Int
 Tick : Int
 Error : Int
def Arrival.cs (r : Arrival) : List V := [.int .i64 r.Id, .int .i64 r.X, .int .i64 r.Y, .int .i64 r.Tick, .int .i64 r.Error]
def Arrival.v (r : Arrival) : V := .agg [.int .i64 r.Id, .int .i64 r.X, .int .i64 r.Y, .int .i64 r.Tick, .int .i64 r.Error]
theorem Arrival.csl (a : Arrival) : a.cs.length = 5 := rfl
theorem Arrival.csp (a : Arrival) : a.cs.all (noOwn 2) = true := rfl
instance : FlatP Arrival.cs 5 := ⟨fun _ => rfl, fun _ d => by cases d <;> rfl, fun _ => rfl, fun _ => rfl⟩
def Arrival.ok (r : Arrival) : Prop := i64R r.Id ∧ i64R r.X ∧ i64R r.Y ∧ i64R r.Tick ∧ i64R r.Error
abbrev Arrival.rows (L : List Arrival) : List V := Go.Lv.rows Arrival.cs L
abbrev Arrival.sl (L : List Arrival) : V := .sl L.length 5 (Go.Lv.rows Arrival.cs L)
abbrev Arrival.zs : List V := [.int .i64 0, .int .i64 0, .int .i64 0, .int .i64 0, .int .i64 0]
def Arrival.mk1 (k : Int) : Arrival := ⟨k, k + 1, k + 1 + 1, k + 1 + 1 + 1, k + 1 + 1 + 1 + 1⟩
def Arrival.marks (k : Int) (n : Nat) : List Arrival := (List.range n).map fun i : Nat => Arrival.mk1 (k + 5 * (i : Int))
@[simp] theorem Arrival.marks_len (k : Int) (n : Nat) : (Arrival.marks k n).length = n := by simp [Arrival.marks]
theorem Arrival.marks_succ (k : Int) (n : Nat) : Arrival.marks k (n + 1) = Arrival.marks k n ++ [Arrival.mk1 (k + 5 * (n : Int))] := by simp [Arrival.marks, List.range_succ]
theorem Arrival.marks_get (k : Int) (n : Nat) {i : Nat} (hi : i < (Arrival.marks k n).length) : (Arrival.marks k n)[i] = Arrival.mk1 (k + 5 * (i : Int)) := by simp [Arrival.marks]
end Go.Proofs
end
section
set_option maxRecDepth 100000
namespace Go.Proofs
open Go.Lv
structure Origin where
 X : Int
 Y : Int
 Tick : Int
def Origin.cs (r : Origin) : List V := [.int .i64 r.X, .int .i64 r.Y, .int .i64 r.Tick]
def Origin.v (r : Origin) : V := .agg [.int .i64 r.X, .int .i64 r.Y, .int .i64 r.Tick]
theorem Origin.csl (a : Origin) : a.cs.length = 3 := rfl
theorem Origin.csp (a : Origin) : a.cs.all (noOwn 2) = true := rfl
instance : FlatP Origin.cs 3 := ⟨fun _ => rfl, fun _ d => by cases d <;> rfl, fun _ => rfl, fun _ => rfl⟩
def Origin.ok (r : Origin) : Prop := i64R r.X ∧ i64R r.Y ∧ i64R r.Tick
abbrev Origin.rows (L : List Origin) : List V := Go.Lv.rows Origin.cs L
abbrev Origin.sl (L : List Origin) : V := .sl L.length 3 (Go.Lv.rows Origin.cs L)
abbrev Origin.zs : List V := [.int .i64 0, .int .i64 0, .int .i64 0]
def Origin.mk1 (k : Int) : Origin := ⟨k, k + 1, k + 1 + 1⟩
def Origin.marks (k : Int) (n : Nat) : List Origin := (List.range n).map fun i : Nat => Origin.mk1 (k + 3 * (i : Int))
@[simp] theorem Origin.marks_len (k : Int) (n : Nat) : (Origin.marks k n).length = n := by simp [Origin.marks]
theorem Origin.marks_succ (k : Int) (n : Nat) : Origin.marks k (n + 1) = Origin.marks k n ++ [Origin.mk1 (k + 3 * (n : Int))] := by simp [Origin.marks, List.range_succ]
theorem Origin.marks_get (k : Int) (n : Nat) {i : Nat} (hi : i < (Origin.marks k n).length) : (Origin.marks k n)[i] = Origin.mk1 (k + 3 * (i : Int)) := by simp [Origin.marks]
end Go.Proofs
end
section
set_option maxRecDepth 100000
namespace Go.Proofs
open Go.Lv
theorem Ctr.raw {P : Program} {f : FuncId} {args : List V} {hin : Hp} {r : V} {hout : Hp} (hok : okF P f = true)
   (h : ∀ (w : World) (vs : Array Value) (m : Nat → Nat) (av : Nat → Prop), Inv w m hin av ⟨args, hin, hin.length⟩ { tmps := vs, defers := [] } w m → vs.size = args.length →
     Calls P f vs w fun e w' => ∃ v m' s a, e = .returned v ∧ s.h = hout ∧ Inv w m hin av s a w' m' ∧ RV w' m' hout (avm av m' hout) true v r) : Ctr P f args hin r hout := by
 refine ⟨hok, fun w vs m av hH hav hgl hs ha => ?_⟩
 have hav' : ∀ b, avm av m hin b → av b := fun b hb => by
   rcases hb with hb | ⟨id, cs, h1, rfl⟩
   · exact hb
   · exact hH.avd id cs h1
 have hstep : ∀ {o : Bool} {v : Value} {x : V}, RV w m hin av o v x → RV w m hin (avm av m hin) o v x :=
   fun {o v x} hx => RV.step (w := w) (w' := w) (m := m) (m' := m) (h := hin) (h' := hin) (av := av) (av' := avm av m hin) (fun b off v hb hc => ⟨fun h => hb (hav' b h), hc⟩) (fun id c hid => ⟨c, hid, Nat.le_refl _, rfl, Nat.le_refl _, rfl⟩) hx
 have I : Inv w m hin av ⟨args, hin, hin.length⟩ { tmps := vs, defers := [] } w m := by
   refine ⟨⟨hH.inj, fun id cs h => .inr ⟨id, cs, h, rfl⟩, fun id cs h => ?_⟩, hs, fun i hi => hstep (ha i hi), rfl, Ext.refl _ _, fun id cs h => .inl ⟨id_lt h, cs, h, Nat.le_refl _, .inl rfl⟩, hav, fun b ⟨id, cs, h1, h2⟩ => h2 ▸ hH.avd id cs h1, hgl, rfl, Nat.le_refl _⟩
   exact (hH.blk id cs h).step rfl (fun v x => hstep)
 refine (h w vs m av I hs).mono ?_
 rintro e w' ⟨v, m', s, a, rfl, rfl, I', hv⟩
 exact ⟨v, m', rfl, I'.ext, I'.rh, hv, I'.ids⟩
end Go.Proofs
end
