/-
  A part of the proof: texts put together by a program of the prover. Conditions: none.
-/
import Derived.Test.YtgnnoacaghelhaaZEventsFoundLaw3
import Derived.Test.YtgnnoacaghelhaaProg
import Derived.KernelRfl
set_option linter.unusedSimpArgs false
set_option linter.unusedVariables false
section
namespace Go.Proofs
open Go.Lv

theorem Try.mixed : Try.prog.follows .mixedOrders = true := by kernel_rfl
@[go_sem] theorem Try.tsz1 : tszOf Try.prog 1 = some (1, false) := by kernel_rfl
@[go_sem] theorem Try.udef1 : (Try.prog.underlying 1).isSome = true := by kernel_rfl
@[go_sem] theorem Try.zero1 : zeroOf Try.prog 1 = some [.lit ((Go.Value.nilFunc))] := by kernel_rfl
@[go_sem] theorem Try.tsz2 : tszOf Try.prog 2 = some (1, false) := by kernel_rfl
@[go_sem] theorem Try.udef2 : (Try.prog.underlying 2).isSome = true := by kernel_rfl
@[go_sem] theorem Try.zero2 : zeroOf Try.prog 2 = some [.int .i64 0] := by kernel_rfl
@[go_sem] theorem Try.isInt2 : isIntT Try.prog 2 = some .i64 := by kernel_rfl
@[go_sem] theorem Try.tsz3 : tszOf Try.prog 3 = some (1, false) := by kernel_rfl
@[go_sem] theorem Try.udef3 : (Try.prog.underlying 3).isSome = true := by kernel_rfl
@[go_sem] theorem Try.zero3 : zeroOf Try.prog 3 = some [.int .i64 0] := by kernel_rfl
@[go_sem] theorem Try.isInt3 : isIntT Try.prog 3 = some .i64 := by kernel_rfl
@[go_sem] theorem Try.tsz4 : tszOf Try.prog 4 = some (1, false) := by kernel_rfl
@[go_sem] theorem Try.udef4 : (Try.prog.underlying 4).isSome = true := by kernel_rfl
@[go_sem] theorem Try.zero4 : zeroOf Try.prog 4 = some [.bool false] := by kernel_rfl
@[go_sem] theorem Try.isBool4 : isBoolT Try.prog 4 = true := by kernel_rfl
@[go_sem] theorem Try.tsz5 : tszOf Try.prog 5 = some (1, false) := by kernel_rfl
theorem Try.cz5 : Try.prog.cellsOf 5 = 1 := by kernel_rfl
@[go_sem] theorem Try.udef5 : (Try.prog.underlying 5).isSome = true := by kernel_rfl
@[go_sem] theorem Try.zero5 : zeroOf Try.prog 5 = some [.int .u8 0] := by kernel_rfl
@[go_sem] theorem Try.isInt5 : isIntT Try.prog 5 = some .u8 := by kernel_rfl
@[go_sem] theorem Try.tsz6 : tszOf Try.prog 6 = some (1, false) := by kernel_rfl
@[go_sem] theorem Try.udef6 : (Try.prog.underlying 6).isSome = true := by kernel_rfl
@[go_sem] theorem Try.zero6 : zeroOf Try.prog 6 = some [.int .u8 0] := by kernel_rfl
@[go_sem] theorem Try.isInt6 : isIntT Try.prog 6 = some .u8 := by kernel_rfl
@[go_sem] theorem Try.tsz7 : tszOf Try.prog 7 = some (4, true) := by kernel_rfl
@[go_sem] theorem Try.udef7 : (Try.prog.underlying 7).isSome = true := by kernel_rfl
@[go_sem] theorem Try.zero7 : zeroOf Try.prog 7 = some [.int .i64 0, .int .i64 0, .bool false, .int .u8 0] := by kernel_rfl
@[go_sem] theorem Try.pl7 : plOf Try.prog 7 = some [(0, 1), (1, 1), (2, 1), (3, 1)] := by kernel_rfl
@[go_sem] theorem Try.tsz8 : tszOf Try.prog 8 = some (4, true) := by kernel_rfl
@[go_sem] theorem Try.udef8 : (Try.prog.underlying 8).isSome = true := by kernel_rfl
@[go_sem] theorem Try.zero8 : zeroOf Try.prog 8 = some [.int .i64 0, .int .i64 0, .bool false, .int .u8 0] := by kernel_rfl
@[go_sem] theorem Try.pl8 : plOf Try.prog 8 = some [(0, 1), (1, 1), (2, 1), (3, 1)] := by kernel_rfl
@[go_sem] theorem Try.tsz9 : tszOf Try.prog 9 = some (1, false) := by kernel_rfl
@[go_sem] theorem Try.udef9 : (Try.prog.underlying 9).isSome = true := by kernel_rfl
@[go_sem] theorem Try.zero9 : zeroOf Try.prog 9 = some [.str ByteArray.empty] := by kernel_rfl
@[go_sem] theorem Try.isU8S9 : isU8S Try.prog 9 = false := by kernel_rfl
@[go_sem] theorem Try.isIntN9 : isIntT Try.prog 9 = none := by kernel_rfl
@[go_sem] theorem Try.isStr9 : isStr Try.prog 9 = true := by kernel_rfl
@[go_sem] theorem Try.tsz10 : tszOf Try.prog 10 = some (1, false) := by kernel_rfl
@[go_sem] theorem Try.udef10 : (Try.prog.underlying 10).isSome = true := by kernel_rfl
@[go_sem] theorem Try.zero10 : zeroOf Try.prog 10 = some [.str ByteArray.empty] := by kernel_rfl
@[go_sem] theorem Try.isU8S10 : isU8S Try.prog 10 = false := by kernel_rfl
@[go_sem] theorem Try.isIntN10 : isIntT Try.prog 10 = none := by kernel_rfl
@[go_sem] theorem Try.isStr10 : isStr Try.prog 10 = true := by kernel_rfl
@[go_sem] theorem Try.tsz11 : tszOf Try.prog 11 = some (1, false) := by kernel_rfl
@[go_sem] theorem Try.udef11 : (Try.prog.underlying 11).isSome = true := by kernel_rfl
@[go_sem] theorem Try.zero11 : zeroOf Try.prog 11 = some [.str ByteArray.empty] := by kernel_rfl
@[go_sem] theorem Try.isU8S11 : isU8S Try.prog 11 = false := by kernel_rfl
@[go_sem] theorem Try.isIntN11 : isIntT Try.prog 11 = none := by kernel_rfl
@[go_sem] theorem Try.isStr11 : isStr Try.prog 11 = true := by kernel_rfl
@[go_sem] theorem Try.tsz12 : tszOf Try.prog 12 = some (1, false) := by kernel_rfl
@[go_sem] theorem Try.udef12 : (Try.prog.underlying 12).isSome = true := by kernel_rfl
@[go_sem] theorem Try.zero12 : zeroOf Try.prog 12 = some [.int .u64 0] := by kernel_rfl
@[go_sem] theorem Try.isInt12 : isIntT Try.prog 12 = some .u64 := by kernel_rfl
@[go_sem] theorem Try.tsz13 : tszOf Try.prog 13 = some (2, true) := by kernel_rfl
@[go_sem] theorem Try.udef13 : (Try.prog.underlying 13).isSome = true := by kernel_rfl
@[go_sem] theorem Try.zero13 : zeroOf Try.prog 13 = some [.str ByteArray.empty, .int .u64 0] := by kernel_rfl
@[go_sem] theorem Try.pl13 : plOf Try.prog 13 = some [(0, 1), (1, 1)] := by kernel_rfl
@[go_sem] theorem Try.tsz14 : tszOf Try.prog 14 = some (2, true) := by kernel_rfl
@[go_sem] theorem Try.udef14 : (Try.prog.underlying 14).isSome = true := by kernel_rfl
@[go_sem] theorem Try.zero14 : zeroOf Try.prog 14 = some [.str ByteArray.empty, .int .u64 0] := by kernel_rfl
@[go_sem] theorem Try.pl14 : plOf Try.prog 14 = some [(0, 1), (1, 1)] := by kernel_rfl
@[go_sem] theorem Try.tsz15 : tszOf Try.prog 15 = some (1, false) := by kernel_rfl
@[go_sem] theorem Try.udef15 : (Try.prog.underlying 15).isSome = true := by kernel_rfl
@[go_sem] theorem Try.zero15 : zeroOf Try.prog 15 = some [.lit ((Go.Value.pointer none))] := by kernel_rfl
@[go_sem] theorem Try.tsz16 : tszOf Try.prog 16 = some (1, false) := by kernel_rfl
@[go_sem] theorem Try.udef16 : (Try.prog.underlying 16).isSome = true := by kernel_rfl
@[go_sem] theorem Try.zero16 : zeroOf Try.prog 16 = some [.lit ((Go.Value.pointer none))] := by kernel_rfl
@[go_sem] theorem Try.tsz17 : tszOf Try.prog 17 = some (1, false) := by kernel_rfl
@[go_sem] theorem Try.udef17 : (Try.prog.underlying 17).isSome = true := by kernel_rfl
@[go_sem] theorem Try.zero17 : zeroOf Try.prog 17 = some [.lit ((Go.Value.pointer none))] := by kernel_rfl
@[go_sem] theorem Try.tsz18 : tszOf Try.prog 18 = some (1, true) := by kernel_rfl
@[go_sem] theorem Try.udef18 : (Try.prog.underlying 18).isSome = true := by kernel_rfl
@[go_sem] theorem Try.zero18 : zeroOf Try.prog 18 = some [.lit ((Go.Value.pointer none))] := by kernel_rfl
@[go_sem] theorem Try.pl18 : plOf Try.prog 18 = some [(0, 1)] := by kernel_rfl
@[go_sem] theorem Try.tsz19 : tszOf Try.prog 19 = some (1, true) := by kernel_rfl
@[go_sem] theorem Try.udef19 : (Try.prog.underlying 19).isSome = true := by kernel_rfl
@[go_sem] theorem Try.zero19 : zeroOf Try.prog 19 = some [.lit ((Go.Value.pointer none))] := by kernel_rfl
@[go_sem] theorem Try.pl19 : plOf Try.prog 19 = some [(0, 1)] := by kernel_rfl
@[go_sem] theorem Try.tsz20 : tszOf Try.prog 20 = some (1, false) := by kernel_rfl
@[go_sem] theorem Try.udef20 : (Try.prog.underlying 20).isSome = true := by kernel_rfl
@[go_sem] theorem Try.zero20 : zeroOf Try.prog 20 = some [.lit ((Go.Value.nilIface))] := by kernel_rfl
@[go_sem] theorem Try.tsz21 : tszOf Try.prog 21 = some (1, false) := by kernel_rfl
@[go_sem] theorem Try.udef21 : (Try.prog.underlying 21).isSome = true := by kernel_rfl
@[go_sem] theorem Try.zero21 : zeroOf Try.prog 21 = some [.int .i32 0] := by kernel_rfl
@[go_sem] theorem Try.isInt21 : isIntT Try.prog 21 = some .i32 := by kernel_rfl
@[go_sem] theorem Try.tsz22 : tszOf Try.prog 22 = some (1, false) := by kernel_rfl
@[go_sem] theorem Try.udef22 : (Try.prog.underlying 22).isSome = true := by kernel_rfl
@[go_sem] theorem Try.zero22 : zeroOf Try.prog 22 = some [.nilsl] := by kernel_rfl
@[go_sem] theorem Try.el22 : elOf Try.prog 22 = some (5, 1, 1) := by kernel_rfl
@[go_sem] theorem Try.isSl22 : isSl Try.prog 22 = true := by kernel_rfl
@[go_sem] theorem Try.isU8S22 : isU8S Try.prog 22 = true := by kernel_rfl
@[go_sem] theorem Try.tsz23 : tszOf Try.prog 23 = some (1, false) := by kernel_rfl
@[go_sem] theorem Try.udef23 : (Try.prog.underlying 23).isSome = true := by kernel_rfl
@[go_sem] theorem Try.zero23 : zeroOf Try.prog 23 = some [.lit ((Go.Value.nilFunc))] := by kernel_rfl
@[go_sem] theorem Try.tsz24 : tszOf Try.prog 24 = some (1, false) := by kernel_rfl
@[go_sem] theorem Try.udef24 : (Try.prog.underlying 24).isSome = true := by kernel_rfl
@[go_sem] theorem Try.zero24 : zeroOf Try.prog 24 = some [.nilsl] := by kernel_rfl
@[go_sem] theorem Try.el24 : elOf Try.prog 24 = some (86, 5, 40) := by kernel_rfl
@[go_sem] theorem Try.isSl24 : isSl Try.prog 24 = true := by kernel_rfl
@[go_sem] theorem Try.tsz26 : tszOf Try.prog 26 = some (1, false) := by kernel_rfl
@[go_sem] theorem Try.udef26 : (Try.prog.underlying 26).isSome = true := by kernel_rfl
@[go_sem] theorem Try.zero26 : zeroOf Try.prog 26 = some [.lit ((Go.Value.nilFunc))] := by kernel_rfl
@[go_sem] theorem Try.tsz27 : tszOf Try.prog 27 = some (1, false) := by kernel_rfl
@[go_sem] theorem Try.udef27 : (Try.prog.underlying 27).isSome = true := by kernel_rfl
@[go_sem] theorem Try.zero27 : zeroOf Try.prog 27 = some [.nilsl] := by kernel_rfl
@[go_sem] theorem Try.el27 : elOf Try.prog 27 = some (32, 3, 24) := by kernel_rfl
@[go_sem] theorem Try.isSl27 : isSl Try.prog 27 = true := by kernel_rfl
@[go_sem] theorem Try.tsz29 : tszOf Try.prog 29 = some (1, false) := by kernel_rfl
@[go_sem] theorem Try.udef29 : (Try.prog.underlying 29).isSome = true := by kernel_rfl
@[go_sem] theorem Try.zero29 : zeroOf Try.prog 29 = some [.lit ((Go.Value.nilFunc))] := by kernel_rfl
@[go_sem] theorem Try.tsz30 : tszOf Try.prog 30 = some (1, false) := by kernel_rfl
@[go_sem] theorem Try.udef30 : (Try.prog.underlying 30).isSome = true := by kernel_rfl
@[go_sem] theorem Try.zero30 : zeroOf Try.prog 30 = some [.lit ((Go.Value.nilFunc))] := by kernel_rfl
@[go_sem] theorem Try.tsz31 : tszOf Try.prog 31 = some (3, true) := by kernel_rfl
@[go_sem] theorem Try.udef31 : (Try.prog.underlying 31).isSome = true := by kernel_rfl
@[go_sem] theorem Try.zero31 : zeroOf Try.prog 31 = some [.int .i64 0, .int .i64 0, .int .i64 0] := by kernel_rfl
@[go_sem] theorem Try.pl31 : plOf Try.prog 31 = some [(0, 1), (1, 1), (2, 1)] := by kernel_rfl
@[go_sem] theorem Try.tsz32 : tszOf Try.prog 32 = some (3, true) := by kernel_rfl
@[go_sem] theorem Try.udef32 : (Try.prog.underlying 32).isSome = true := by kernel_rfl
@[go_sem] theorem Try.zero32 : zeroOf Try.prog 32 = some [.int .i64 0, .int .i64 0, .int .i64 0] := by kernel_rfl
@[go_sem] theorem Try.flatEq32 : flatEq Try.prog 32 = some [.int .i64, .int .i64, .int .i64] := by kernel_rfl
@[go_sem] theorem Try.pl32 : plOf Try.prog 32 = some [(0, 1), (1, 1), (2, 1)] := by kernel_rfl
@[go_sem] theorem Try.fd32_0 : fdOf Try.prog 32 0 = some (0, 1, false) := by kernel_rfl
@[go_sem] theorem Try.fd32_1 : fdOf Try.prog 32 1 = some (1, 1, false) := by kernel_rfl
@[go_sem] theorem Try.fd32_2 : fdOf Try.prog 32 2 = some (2, 1, false) := by kernel_rfl
@[go_sem] theorem Try.tsz34 : tszOf Try.prog 34 = some (1, false) := by kernel_rfl
@[go_sem] theorem Try.udef34 : (Try.prog.underlying 34).isSome = true := by kernel_rfl
@[go_sem] theorem Try.zero34 : zeroOf Try.prog 34 = some [.lit ((Go.Value.nilFunc))] := by kernel_rfl
@[go_sem] theorem Try.tsz36 : tszOf Try.prog 36 = some (1, false) := by kernel_rfl
@[go_sem] theorem Try.udef36 : (Try.prog.underlying 36).isSome = true := by kernel_rfl
@[go_sem] theorem Try.zero36 : zeroOf Try.prog 36 = some [.lit ((Go.Value.nilFunc))] := by kernel_rfl
@[go_sem] theorem Try.tsz38 : tszOf Try.prog 38 = some (1, false) := by kernel_rfl
@[go_sem] theorem Try.udef38 : (Try.prog.underlying 38).isSome = true := by kernel_rfl
@[go_sem] theorem Try.zero38 : zeroOf Try.prog 38 = some [.lit ((Go.Value.nilFunc))] := by kernel_rfl
@[go_sem] theorem Try.tsz40 : tszOf Try.prog 40 = some (1, false) := by kernel_rfl
@[go_sem] theorem Try.udef40 : (Try.prog.underlying 40).isSome = true := by kernel_rfl
@[go_sem] theorem Try.zero40 : zeroOf Try.prog 40 = some [.lit ((Go.Value.nilFunc))] := by kernel_rfl
@[go_sem] theorem Try.tsz42 : tszOf Try.prog 42 = some (1, false) := by kernel_rfl
@[go_sem] theorem Try.udef42 : (Try.prog.underlying 42).isSome = true := by kernel_rfl
@[go_sem] theorem Try.zero42 : zeroOf Try.prog 42 = some [.lit ((Go.Value.nilFunc))] := by kernel_rfl
@[go_sem] theorem Try.tsz43 : tszOf Try.prog 43 = some (1, false) := by kernel_rfl
@[go_sem] theorem Try.udef43 : (Try.prog.underlying 43).isSome = true := by kernel_rfl
@[go_sem] theorem Try.zero43 : zeroOf Try.prog 43 = some [.nilsl] := by kernel_rfl
@[go_sem] theorem Try.el43 : elOf Try.prog 43 = some (76, 5, 40) := by kernel_rfl
@[go_sem] theorem Try.isSl43 : isSl Try.prog 43 = true := by kernel_rfl
@[go_sem] theorem Try.tsz44 : tszOf Try.prog 44 = some (1, false) := by kernel_rfl
@[go_sem] theorem Try.udef44 : (Try.prog.underlying 44).isSome = true := by kernel_rfl
@[go_sem] theorem Try.zero44 : zeroOf Try.prog 44 = some [.lit ((Go.Value.nilFunc))] := by kernel_rfl
@[go_sem] theorem Try.tsz45 : tszOf Try.prog 45 = some (1, false) := by kernel_rfl
@[go_sem] theorem Try.udef45 : (Try.prog.underlying 45).isSome = true := by kernel_rfl
@[go_sem] theorem Try.zero45 : zeroOf Try.prog 45 = some [.nilsl] := by kernel_rfl
@[go_sem] theorem Try.el45 : elOf Try.prog 45 = some (74, 5, 40) := by kernel_rfl
@[go_sem] theorem Try.isSl45 : isSl Try.prog 45 = true := by kernel_rfl
@[go_sem] theorem Try.tsz47 : tszOf Try.prog 47 = some (1, false) := by kernel_rfl
@[go_sem] theorem Try.udef47 : (Try.prog.underlying 47).isSome = true := by kernel_rfl
@[go_sem] theorem Try.zero47 : zeroOf Try.prog 47 = some [.lit ((Go.Value.nilFunc))] := by kernel_rfl
@[go_sem] theorem Try.tsz48 : tszOf Try.prog 48 = some (1, false) := by kernel_rfl
@[go_sem] theorem Try.udef48 : (Try.prog.underlying 48).isSome = true := by kernel_rfl
@[go_sem] theorem Try.zero48 : zeroOf Try.prog 48 = some [.lit ((Go.Value.nilFunc))] := by kernel_rfl
@[go_sem] theorem Try.tsz49 : tszOf Try.prog 49 = some (1, false) := by kernel_rfl
@[go_sem] theorem Try.udef49 : (Try.prog.underlying 49).isSome = true := by kernel_rfl
@[go_sem] theorem Try.zero49 : zeroOf Try.prog 49 = some [.lit ((Go.Value.nilFunc))] := by kernel_rfl
@[go_sem] theorem Try.tsz50 : tszOf Try.prog 50 = some (1, false) := by kernel_rfl
@[go_sem] theorem Try.udef50 : (Try.prog.underlying 50).isSome = true := by kernel_rfl
@[go_sem] theorem Try.zero50 : zeroOf Try.prog 50 = some [.lit ((Go.Value.nilFunc))] := by kernel_rfl
@[go_sem] theorem Try.tsz51 : tszOf Try.prog 51 = some (1, false) := by kernel_rfl
@[go_sem] theorem Try.udef51 : (Try.prog.underlying 51).isSome = true := by kernel_rfl
@[go_sem] theorem Try.zero51 : zeroOf Try.prog 51 = some [.lit ((Go.Value.nilFunc))] := by kernel_rfl
@[go_sem] theorem Try.tsz52 : tszOf Try.prog 52 = some (1, false) := by kernel_rfl
@[go_sem] theorem Try.udef52 : (Try.prog.underlying 52).isSome = true := by kernel_rfl
@[go_sem] theorem Try.zero52 : zeroOf Try.prog 52 = some [.lit ((Go.Value.pointer none))] := by kernel_rfl
@[go_sem] theorem Try.tsz53 : tszOf Try.prog 53 = some (1, false) := by kernel_rfl
@[go_sem] theorem Try.udef53 : (Try.prog.underlying 53).isSome = true := by kernel_rfl
@[go_sem] theorem Try.zero53 : zeroOf Try.prog 53 = some [.int .u64 0] := by kernel_rfl
@[go_sem] theorem Try.isInt53 : isIntT Try.prog 53 = some .u64 := by kernel_rfl
@[go_sem] theorem Try.tsz54 : tszOf Try.prog 54 = some (3, true) := by kernel_rfl
@[go_sem] theorem Try.udef54 : (Try.prog.underlying 54).isSome = true := by kernel_rfl
@[go_sem] theorem Try.zero54 : zeroOf Try.prog 54 = some [.nilsl, .int .i64 0, .int .u64 0] := by kernel_rfl
@[go_sem] theorem Try.pl54 : plOf Try.prog 54 = some [(0, 1), (1, 1), (2, 1)] := by kernel_rfl
@[go_sem] theorem Try.tsz55 : tszOf Try.prog 55 = some (3, true) := by kernel_rfl
@[go_sem] theorem Try.udef55 : (Try.prog.underlying 55).isSome = true := by kernel_rfl
@[go_sem] theorem Try.zero55 : zeroOf Try.prog 55 = some [.nilsl, .int .i64 0, .int .u64 0] := by kernel_rfl
@[go_sem] theorem Try.pl55 : plOf Try.prog 55 = some [(0, 1), (1, 1), (2, 1)] := by kernel_rfl
@[go_sem] theorem Try.fd55_0 : fdOf Try.prog 55 0 = some (0, 1, false) := by kernel_rfl
@[go_sem] theorem Try.fd55_1 : fdOf Try.prog 55 1 = some (1, 1, false) := by kernel_rfl
@[go_sem] theorem Try.fd55_2 : fdOf Try.prog 55 2 = some (2, 1, false) := by kernel_rfl
@[go_sem] theorem Try.tsz56 : tszOf Try.prog 56 = some (1, false) := by kernel_rfl
@[go_sem] theorem Try.udef56 : (Try.prog.underlying 56).isSome = true := by kernel_rfl
@[go_sem] theorem Try.zero56 : zeroOf Try.prog 56 = some [.lit ((Go.Value.nilFunc))] := by kernel_rfl
@[go_sem] theorem Try.tsz57 : tszOf Try.prog 57 = some (1, false) := by kernel_rfl
@[go_sem] theorem Try.udef57 : (Try.prog.underlying 57).isSome = true := by kernel_rfl
@[go_sem] theorem Try.zero57 : zeroOf Try.prog 57 = some [.lit ((Go.Value.nilFunc))] := by kernel_rfl
@[go_sem] theorem Try.tsz58 : tszOf Try.prog 58 = some (1, false) := by kernel_rfl
@[go_sem] theorem Try.udef58 : (Try.prog.underlying 58).isSome = true := by kernel_rfl
@[go_sem] theorem Try.zero58 : zeroOf Try.prog 58 = some [.lit ((Go.Value.nilFunc))] := by kernel_rfl
@[go_sem] theorem Try.tsz59 : tszOf Try.prog 59 = some (1, false) := by kernel_rfl
@[go_sem] theorem Try.udef59 : (Try.prog.underlying 59).isSome = true := by kernel_rfl
@[go_sem] theorem Try.zero59 : zeroOf Try.prog 59 = some [.nilsl] := by kernel_rfl
@[go_sem] theorem Try.el59 : elOf Try.prog 59 = some (3, 1, 8) := by kernel_rfl
@[go_sem] theorem Try.isSl59 : isSl Try.prog 59 = true := by kernel_rfl
@[go_sem] theorem Try.tsz60 : tszOf Try.prog 60 = some (1, false) := by kernel_rfl
@[go_sem] theorem Try.udef60 : (Try.prog.underlying 60).isSome = true := by kernel_rfl
@[go_sem] theorem Try.zero60 : zeroOf Try.prog 60 = some [.lit ((Go.Value.nilFunc))] := by kernel_rfl
@[go_sem] theorem Try.tsz61 : tszOf Try.prog 61 = some (1, false) := by kernel_rfl
@[go_sem] theorem Try.udef61 : (Try.prog.underlying 61).isSome = true := by kernel_rfl
@[go_sem] theorem Try.zero61 : zeroOf Try.prog 61 = some [.lit ((Go.Value.nilFunc))] := by kernel_rfl
@[go_sem] theorem Try.tsz62 : tszOf Try.prog 62 = some (1, false) := by kernel_rfl
@[go_sem] theorem Try.udef62 : (Try.prog.underlying 62).isSome = true := by kernel_rfl
@[go_sem] theorem Try.zero62 : zeroOf Try.prog 62 = some [.lit ((Go.Value.nilFunc))] := by kernel_rfl
@[go_sem] theorem Try.tsz64 : tszOf Try.prog 64 = some (1, false) := by kernel_rfl
@[go_sem] theorem Try.udef64 : (Try.prog.underlying 64).isSome = true := by kernel_rfl
@[go_sem] theorem Try.zero64 : zeroOf Try.prog 64 = some [.lit ((Go.Value.nilFunc))] := by kernel_rfl
@[go_sem] theorem Try.tsz65 : tszOf Try.prog 65 = some (1, false) := by kernel_rfl
@[go_sem] theorem Try.udef65 : (Try.prog.underlying 65).isSome = true := by kernel_rfl
@[go_sem] theorem Try.zero65 : zeroOf Try.prog 65 = some [.lit ((Go.Value.nilFunc))] := by kernel_rfl
@[go_sem] theorem Try.tsz66 : tszOf Try.prog 66 = some (1, false) := by kernel_rfl
@[go_sem] theorem Try.udef66 : (Try.prog.underlying 66).isSome = true := by kernel_rfl
@[go_sem] theorem Try.zero66 : zeroOf Try.prog 66 = some [.lit ((Go.Value.nilFunc))] := by kernel_rfl
@[go_sem] theorem Try.tsz67 : tszOf Try.prog 67 = some (1, false) := by kernel_rfl
@[go_sem] theorem Try.udef67 : (Try.prog.underlying 67).isSome = true := by kernel_rfl
@[go_sem] theorem Try.zero67 : zeroOf Try.prog 67 = some [.lit ((Go.Value.nilFunc))] := by kernel_rfl
@[go_sem] theorem Try.tsz68 : tszOf Try.prog 68 = some (1, false) := by kernel_rfl
@[go_sem] theorem Try.udef68 : (Try.prog.underlying 68).isSome = true := by kernel_rfl
@[go_sem] theorem Try.zero68 : zeroOf Try.prog 68 = some [.lit ((Go.Value.nilFunc))] := by kernel_rfl
@[go_sem] theorem Try.tsz69 : tszOf Try.prog 69 = some (1, false) := by kernel_rfl
@[go_sem] theorem Try.udef69 : (Try.prog.underlying 69).isSome = true := by kernel_rfl
@[go_sem] theorem Try.zero69 : zeroOf Try.prog 69 = some [.lit ((Go.Value.nilFunc))] := by kernel_rfl
@[go_sem] theorem Try.tsz71 : tszOf Try.prog 71 = some (1, false) := by kernel_rfl
@[go_sem] theorem Try.udef71 : (Try.prog.underlying 71).isSome = true := by kernel_rfl
@[go_sem] theorem Try.zero71 : zeroOf Try.prog 71 = some [.lit ((Go.Value.nilFunc))] := by kernel_rfl
@[go_sem] theorem Try.tsz72 : tszOf Try.prog 72 = some (1, false) := by kernel_rfl
@[go_sem] theorem Try.udef72 : (Try.prog.underlying 72).isSome = true := by kernel_rfl
@[go_sem] theorem Try.zero72 : zeroOf Try.prog 72 = some [.lit ((Go.Value.nilFunc))] := by kernel_rfl
@[go_sem] theorem Try.tsz73 : tszOf Try.prog 73 = some (5, true) := by kernel_rfl
@[go_sem] theorem Try.udef73 : (Try.prog.underlying 73).isSome = true := by kernel_rfl
@[go_sem] theorem Try.zero73 : zeroOf Try.prog 73 = some [.int .i64 0, .int .i64 0, .int .i64 0, .int .i64 0, .int .i64 0] := by kernel_rfl
@[go_sem] theorem Try.pl73 : plOf Try.prog 73 = some [(0, 1), (1, 1), (2, 1), (3, 1), (4, 1)] := by kernel_rfl
@[go_sem] theorem Try.tsz74 : tszOf Try.prog 74 = some (5, true) := by kernel_rfl
@[go_sem] theorem Try.udef74 : (Try.prog.underlying 74).isSome = true := by kernel_rfl
@[go_sem] theorem Try.zero74 : zeroOf Try.prog 74 = some [.int .i64 0, .int .i64 0, .int .i64 0, .int .i64 0, .int .i64 0] := by kernel_rfl
@[go_sem] theorem Try.flatEq74 : flatEq Try.prog 74 = some [.int .i64, .int .i64, .int .i64, .int .i64, .int .i64] := by kernel_rfl
@[go_sem] theorem Try.pl74 : plOf Try.prog 74 = some [(0, 1), (1, 1), (2, 1), (3, 1), (4, 1)] := by kernel_rfl
@[go_sem] theorem Try.fd74_0 : fdOf Try.prog 74 0 = some (0, 1, false) := by kernel_rfl
@[go_sem] theorem Try.fd74_1 : fdOf Try.prog 74 1 = some (1, 1, false) := by kernel_rfl
@[go_sem] theorem Try.fd74_2 : fdOf Try.prog 74 2 = some (2, 1, false) := by kernel_rfl
@[go_sem] theorem Try.fd74_3 : fdOf Try.prog 74 3 = some (3, 1, false) := by kernel_rfl
@[go_sem] theorem Try.fd74_4 : fdOf Try.prog 74 4 = some (4, 1, false) := by kernel_rfl
@[go_sem] theorem Try.tsz75 : tszOf Try.prog 75 = some (1, false) := by kernel_rfl
@[go_sem] theorem Try.udef75 : (Try.prog.underlying 75).isSome = true := by kernel_rfl
@[go_sem] theorem Try.zero75 : zeroOf Try.prog 75 = some [.lit ((Go.Value.nilFunc))] := by kernel_rfl
@[go_sem] theorem Try.tsz76 : tszOf Try.prog 76 = some (5, true) := by kernel_rfl
@[go_sem] theorem Try.udef76 : (Try.prog.underlying 76).isSome = true := by kernel_rfl
@[go_sem] theorem Try.zero76 : zeroOf Try.prog 76 = some [.int .i64 0, .int .i64 0, .int .i64 0, .int .i64 0, .int .i64 0] := by kernel_rfl
@[go_sem] theorem Try.flatEq76 : flatEq Try.prog 76 = some [.int .i64, .int .i64, .int .i64, .int .i64, .int .i64] := by kernel_rfl
@[go_sem] theorem Try.pl76 : plOf Try.prog 76 = some [(0, 1), (1, 1), (2, 1), (3, 1), (4, 1)] := by kernel_rfl
@[go_sem] theorem Try.fd76_0 : fdOf Try.prog 76 0 = some (0, 1, false) := by kernel_rfl
@[go_sem] theorem Try.fd76_1 : fdOf Try.prog 76 1 = some (1, 1, false) := by kernel_rfl
@[go_sem] theorem Try.fd76_2 : fdOf Try.prog 76 2 = some (2, 1, false) := by kernel_rfl
@[go_sem] theorem Try.fd76_3 : fdOf Try.prog 76 3 = some (3, 1, false) := by kernel_rfl
@[go_sem] theorem Try.fd76_4 : fdOf Try.prog 76 4 = some (4, 1, false) := by kernel_rfl
@[go_sem] theorem Try.tsz77 : tszOf Try.prog 77 = some (1, false) := by kernel_rfl
@[go_sem] theorem Try.udef77 : (Try.prog.underlying 77).isSome = true := by kernel_rfl
@[go_sem] theorem Try.zero77 : zeroOf Try.prog 77 = some [.lit ((Go.Value.nilFunc))] := by kernel_rfl
@[go_sem] theorem Try.tsz78 : tszOf Try.prog 78 = some (1, false) := by kernel_rfl
@[go_sem] theorem Try.udef78 : (Try.prog.underlying 78).isSome = true := by kernel_rfl
@[go_sem] theorem Try.zero78 : zeroOf Try.prog 78 = some [.lit ((Go.Value.nilFunc))] := by kernel_rfl
@[go_sem] theorem Try.tsz79 : tszOf Try.prog 79 = some (1, false) := by kernel_rfl
@[go_sem] theorem Try.udef79 : (Try.prog.underlying 79).isSome = true := by kernel_rfl
@[go_sem] theorem Try.zero79 : zeroOf Try.prog 79 = some [.lit ((Go.Value.nilFunc))] := by kernel_rfl
@[go_sem] theorem Try.tsz80 : tszOf Try.prog 80 = some (1, false) := by kernel_rfl
@[go_sem] theorem Try.udef80 : (Try.prog.underlying 80).isSome = true := by kernel_rfl
@[go_sem] theorem Try.zero80 : zeroOf Try.prog 80 = some [.lit ((Go.Value.nilFunc))] := by kernel_rfl
@[go_sem] theorem Try.tsz81 : tszOf Try.prog 81 = some (1, false) := by kernel_rfl
@[go_sem] theorem Try.udef81 : (Try.prog.underlying 81).isSome = true := by kernel_rfl
@[go_sem] theorem Try.zero81 : zeroOf Try.prog 81 = some [.lit ((Go.Value.nilFunc))] := by kernel_rfl
@[go_sem] theorem Try.tsz82 : tszOf Try.prog 82 = some (1, false) := by kernel_rfl
@[go_sem] theorem Try.udef82 : (Try.prog.underlying 82).isSome = true := by kernel_rfl
@[go_sem] theorem Try.zero82 : zeroOf Try.prog 82 = some [.lit ((Go.Value.nilFunc))] := by kernel_rfl
@[go_sem] theorem Try.tsz83 : tszOf Try.prog 83 = some (1, false) := by kernel_rfl
@[go_sem] theorem Try.udef83 : (Try.prog.underlying 83).isSome = true := by kernel_rfl
@[go_sem] theorem Try.zero83 : zeroOf Try.prog 83 = some [.lit ((Go.Value.nilFunc))] := by kernel_rfl
@[go_sem] theorem Try.tsz84 : tszOf Try.prog 84 = some (1, false) := by kernel_rfl
@[go_sem] theorem Try.udef84 : (Try.prog.underlying 84).isSome = true := by kernel_rfl
@[go_sem] theorem Try.zero84 : zeroOf Try.prog 84 = some [.lit ((Go.Value.nilFunc))] := by kernel_rfl
@[go_sem] theorem Try.tsz85 : tszOf Try.prog 85 = some (5, true) := by kernel_rfl
@[go_sem] theorem Try.udef85 : (Try.prog.underlying 85).isSome = true := by kernel_rfl
@[go_sem] theorem Try.zero85 : zeroOf Try.prog 85 = some [.int .i64 0, .int .i64 0, .int .i64 0, .int .i64 0, .int .i64 0] := by kernel_rfl
@[go_sem] theorem Try.pl85 : plOf Try.prog 85 = some [(0, 1), (1, 1), (2, 1), (3, 1), (4, 1)] := by kernel_rfl
@[go_sem] theorem Try.tsz86 : tszOf Try.prog 86 = some (5, true) := by kernel_rfl
@[go_sem] theorem Try.udef86 : (Try.prog.underlying 86).isSome = true := by kernel_rfl
@[go_sem] theorem Try.zero86 : zeroOf Try.prog 86 = some [.int .i64 0, .int .i64 0, .int .i64 0, .int .i64 0, .int .i64 0] := by kernel_rfl
@[go_sem] theorem Try.flatEq86 : flatEq Try.prog 86 = some [.int .i64, .int .i64, .int .i64, .int .i64, .int .i64] := by kernel_rfl
@[go_sem] theorem Try.pl86 : plOf Try.prog 86 = some [(0, 1), (1, 1), (2, 1), (3, 1), (4, 1)] := by kernel_rfl
@[go_sem] theorem Try.fd86_0 : fdOf Try.prog 86 0 = some (0, 1, false) := by kernel_rfl
@[go_sem] theorem Try.fd86_1 : fdOf Try.prog 86 1 = some (1, 1, false) := by kernel_rfl
@[go_sem] theorem Try.fd86_2 : fdOf Try.prog 86 2 = some (2, 1, false) := by kernel_rfl
@[go_sem] theorem Try.fd86_3 : fdOf Try.prog 86 3 = some (3, 1, false) := by kernel_rfl
@[go_sem] theorem Try.fd86_4 : fdOf Try.prog 86 4 = some (4, 1, false) := by kernel_rfl
@[go_sem] theorem Try.tsz87 : tszOf Try.prog 87 = some (1, false) := by kernel_rfl
@[go_sem] theorem Try.udef87 : (Try.prog.underlying 87).isSome = true := by kernel_rfl
@[go_sem] theorem Try.zero87 : zeroOf Try.prog 87 = some [.lit ((Go.Value.nilFunc))] := by kernel_rfl
@[go_sem] theorem Try.tsz88 : tszOf Try.prog 88 = some (1, false) := by kernel_rfl
@[go_sem] theorem Try.udef88 : (Try.prog.underlying 88).isSome = true := by kernel_rfl
@[go_sem] theorem Try.zero88 : zeroOf Try.prog 88 = some [.lit ((Go.Value.nilFunc))] := by kernel_rfl
@[go_sem] theorem Try.tsz89 : tszOf Try.prog 89 = some (1, false) := by kernel_rfl
@[go_sem] theorem Try.udef89 : (Try.prog.underlying 89).isSome = true := by kernel_rfl
@[go_sem] theorem Try.zero89 : zeroOf Try.prog 89 = some [.lit ((Go.Value.nilFunc))] := by kernel_rfl
@[go_sem] theorem Try.tsz90 : tszOf Try.prog 90 = some (1, false) := by kernel_rfl
@[go_sem] theorem Try.udef90 : (Try.prog.underlying 90).isSome = true := by kernel_rfl
@[go_sem] theorem Try.zero90 : zeroOf Try.prog 90 = some [.lit ((Go.Value.nilFunc))] := by kernel_rfl
@[go_sem] theorem Try.tsz91 : tszOf Try.prog 91 = some (1, false) := by kernel_rfl
@[go_sem] theorem Try.udef91 : (Try.prog.underlying 91).isSome = true := by kernel_rfl
@[go_sem] theorem Try.zero91 : zeroOf Try.prog 91 = some [.lit ((Go.Value.nilFunc))] := by kernel_rfl
@[go_sem] theorem Try.tsz92 : tszOf Try.prog 92 = some (1, false) := by kernel_rfl
@[go_sem] theorem Try.udef92 : (Try.prog.underlying 92).isSome = true := by kernel_rfl
@[go_sem] theorem Try.zero92 : zeroOf Try.prog 92 = some [.lit ((Go.Value.nilFunc))] := by kernel_rfl
@[go_sem] theorem Try.tsz93 : tszOf Try.prog 93 = some (1, false) := by kernel_rfl
@[go_sem] theorem Try.udef93 : (Try.prog.underlying 93).isSome = true := by kernel_rfl
@[go_sem] theorem Try.zero93 : zeroOf Try.prog 93 = some [.lit ((Go.Value.nilFunc))] := by kernel_rfl
@[go_sem] theorem Try.tsz94 : tszOf Try.prog 94 = some (1, false) := by kernel_rfl
@[go_sem] theorem Try.udef94 : (Try.prog.underlying 94).isSome = true := by kernel_rfl
@[go_sem] theorem Try.zero94 : zeroOf Try.prog 94 = some [.lit ((Go.Value.nilFunc))] := by kernel_rfl
@[go_sem] theorem Try.tsz95 : tszOf Try.prog 95 = some (1, false) := by kernel_rfl
@[go_sem] theorem Try.udef95 : (Try.prog.underlying 95).isSome = true := by kernel_rfl
@[go_sem] theorem Try.zero95 : zeroOf Try.prog 95 = some [.lit ((Go.Value.nilFunc))] := by kernel_rfl
@[go_sem] theorem Try.tsz96 : tszOf Try.prog 96 = some (1, false) := by kernel_rfl
@[go_sem] theorem Try.udef96 : (Try.prog.underlying 96).isSome = true := by kernel_rfl
@[go_sem] theorem Try.zero96 : zeroOf Try.prog 96 = some [.lit ((Go.Value.nilFunc))] := by kernel_rfl
@[go_sem] theorem Try.tsz97 : tszOf Try.prog 97 = some (1, false) := by kernel_rfl
@[go_sem] theorem Try.udef97 : (Try.prog.underlying 97).isSome = true := by kernel_rfl
@[go_sem] theorem Try.zero97 : zeroOf Try.prog 97 = some [.lit ((Go.Value.nilFunc))] := by kernel_rfl
@[go_sem] theorem Try.tsz98 : tszOf Try.prog 98 = some (1, false) := by kernel_rfl
@[go_sem] theorem Try.udef98 : (Try.prog.underlying 98).isSome = true := by kernel_rfl
@[go_sem] theorem Try.zero98 : zeroOf Try.prog 98 = some [.lit ((Go.Value.nilFunc))] := by kernel_rfl
@[go_sem] theorem Try.tsz99 : tszOf Try.prog 99 = some (1, false) := by kernel_rfl
@[go_sem] theorem Try.udef99 : (Try.prog.underlying 99).isSome = true := by kernel_rfl
@[go_sem] theorem Try.zero99 : zeroOf Try.prog 99 = some [.lit ((Go.Value.nilFunc))] := by kernel_rfl
@[go_sem] theorem Try.tsz100 : tszOf Try.prog 100 = some (1, false) := by kernel_rfl
@[go_sem] theorem Try.udef100 : (Try.prog.underlying 100).isSome = true := by kernel_rfl
@[go_sem] theorem Try.zero100 : zeroOf Try.prog 100 = some [.lit ((Go.Value.nilFunc))] := by kernel_rfl
@[go_sem] theorem Try.tsz101 : tszOf Try.prog 101 = some (1, false) := by kernel_rfl
@[go_sem] theorem Try.udef101 : (Try.prog.underlying 101).isSome = true := by kernel_rfl
@[go_sem] theorem Try.zero101 : zeroOf Try.prog 101 = some [.int .u64 0] := by kernel_rfl
@[go_sem] theorem Try.isInt101 : isIntT Try.prog 101 = some .u64 := by kernel_rfl
@[go_sem] theorem Try.tsz102 : tszOf Try.prog 102 = some (1, false) := by kernel_rfl
@[go_sem] theorem Try.udef102 : (Try.prog.underlying 102).isSome = true := by kernel_rfl
@[go_sem] theorem Try.zero102 : zeroOf Try.prog 102 = some [.lit ((Go.Value.nilFunc))] := by kernel_rfl
@[go_sem] theorem Try.tsz103 : tszOf Try.prog 103 = some (1, false) := by kernel_rfl
@[go_sem] theorem Try.udef103 : (Try.prog.underlying 103).isSome = true := by kernel_rfl
@[go_sem] theorem Try.zero103 : zeroOf Try.prog 103 = some [.lit ((Go.Value.nilFunc))] := by kernel_rfl
@[go_sem] theorem Try.tsz104 : tszOf Try.prog 104 = some (1, false) := by kernel_rfl
@[go_sem] theorem Try.udef104 : (Try.prog.underlying 104).isSome = true := by kernel_rfl
@[go_sem] theorem Try.zero104 : zeroOf Try.prog 104 = some [.int .i64 0] := by kernel_rfl
@[go_sem] theorem Try.isInt104 : isIntT Try.prog 104 = some .i64 := by kernel_rfl
@[go_sem] theorem Try.tsz106 : tszOf Try.prog 106 = some (1, false) := by kernel_rfl
@[go_sem] theorem Try.udef106 : (Try.prog.underlying 106).isSome = true := by kernel_rfl
@[go_sem] theorem Try.zero106 : zeroOf Try.prog 106 = some [.lit ((Go.Value.nilFunc))] := by kernel_rfl
@[go_sem] theorem Try.tsz107 : tszOf Try.prog 107 = some (1, false) := by kernel_rfl
@[go_sem] theorem Try.udef107 : (Try.prog.underlying 107).isSome = true := by kernel_rfl
@[go_sem] theorem Try.zero107 : zeroOf Try.prog 107 = some [.lit ((Go.Value.nilFunc))] := by kernel_rfl
@[go_sem] theorem Try.tsz108 : tszOf Try.prog 108 = some (1, false) := by kernel_rfl
@[go_sem] theorem Try.udef108 : (Try.prog.underlying 108).isSome = true := by kernel_rfl
@[go_sem] theorem Try.zero108 : zeroOf Try.prog 108 = some [.lit ((Go.Value.nilFunc))] := by kernel_rfl
@[go_sem] theorem Try.tsz109 : tszOf Try.prog 109 = some (1, false) := by kernel_rfl
@[go_sem] theorem Try.udef109 : (Try.prog.underlying 109).isSome = true := by kernel_rfl
@[go_sem] theorem Try.zero109 : zeroOf Try.prog 109 = some [.lit ((Go.Value.nilFunc))] := by kernel_rfl
@[go_sem] theorem Try.tsz110 : tszOf Try.prog 110 = some (1, false) := by kernel_rfl
@[go_sem] theorem Try.udef110 : (Try.prog.underlying 110).isSome = true := by kernel_rfl
@[go_sem] theorem Try.zero110 : zeroOf Try.prog 110 = some [.lit ((Go.Value.nilFunc))] := by kernel_rfl
@[go_sem] theorem Try.tsz111 : tszOf Try.prog 111 = some (1, false) := by kernel_rfl
@[go_sem] theorem Try.udef111 : (Try.prog.underlying 111).isSome = true := by kernel_rfl
@[go_sem] theorem Try.zero111 : zeroOf Try.prog 111 = some [.int .u32 0] := by kernel_rfl
@[go_sem] theorem Try.isInt111 : isIntT Try.prog 111 = some .u32 := by kernel_rfl
@[go_sem] theorem Try.tsz112 : tszOf Try.prog 112 = some (1, false) := by kernel_rfl
@[go_sem] theorem Try.udef112 : (Try.prog.underlying 112).isSome = true := by kernel_rfl
@[go_sem] theorem Try.zero112 : zeroOf Try.prog 112 = some [.lit ((Go.Value.nilFunc))] := by kernel_rfl
@[go_sem] theorem Try.tsz113 : tszOf Try.prog 113 = some (1, false) := by kernel_rfl
@[go_sem] theorem Try.udef113 : (Try.prog.underlying 113).isSome = true := by kernel_rfl
@[go_sem] theorem Try.zero113 : zeroOf Try.prog 113 = some [.int .u64 0] := by kernel_rfl
@[go_sem] theorem Try.isInt113 : isIntT Try.prog 113 = some .u64 := by kernel_rfl
@[go_sem] theorem Try.tsz114 : tszOf Try.prog 114 = some (1, false) := by kernel_rfl
@[go_sem] theorem Try.udef114 : (Try.prog.underlying 114).isSome = true := by kernel_rfl
@[go_sem] theorem Try.zero114 : zeroOf Try.prog 114 = some [.lit ((Go.Value.nilFunc))] := by kernel_rfl
@[go_sem] theorem Try.tsz115 : tszOf Try.prog 115 = some (1, false) := by kernel_rfl
@[go_sem] theorem Try.udef115 : (Try.prog.underlying 115).isSome = true := by kernel_rfl
@[go_sem] theorem Try.zero115 : zeroOf Try.prog 115 = some [.lit ((Go.Value.nilFunc))] := by kernel_rfl
@[go_sem] theorem Try.tsz116 : tszOf Try.prog 116 = some (1, false) := by kernel_rfl
@[go_sem] theorem Try.udef116 : (Try.prog.underlying 116).isSome = true := by kernel_rfl
@[go_sem] theorem Try.zero116 : zeroOf Try.prog 116 = some [.lit ((Go.Value.nilFunc))] := by kernel_rfl
@[go_sem] theorem Try.tsz117 : tszOf Try.prog 117 = some (1, false) := by kernel_rfl
@[go_sem] theorem Try.udef117 : (Try.prog.underlying 117).isSome = true := by kernel_rfl
@[go_sem] theorem Try.zero117 : zeroOf Try.prog 117 = some [.lit ((Go.Value.pointer none))] := by kernel_rfl
@[go_sem] theorem Try.tsz118 : tszOf Try.prog 118 = some (1, false) := by kernel_rfl
@[go_sem] theorem Try.udef118 : (Try.prog.underlying 118).isSome = true := by kernel_rfl
@[go_sem] theorem Try.zero118 : zeroOf Try.prog 118 = some [.lit ((Go.Value.nilFunc))] := by kernel_rfl
@[go_sem] theorem Try.tsz119 : tszOf Try.prog 119 = some (1, false) := by kernel_rfl
@[go_sem] theorem Try.udef119 : (Try.prog.underlying 119).isSome = true := by kernel_rfl
@[go_sem] theorem Try.zero119 : zeroOf Try.prog 119 = some [.lit ((Go.Value.pointer none))] := by kernel_rfl
@[go_sem] theorem Try.tsz120 : tszOf Try.prog 120 = some (1, false) := by kernel_rfl
@[go_sem] theorem Try.udef120 : (Try.prog.underlying 120).isSome = true := by kernel_rfl
@[go_sem] theorem Try.zero120 : zeroOf Try.prog 120 = some [.lit ((Go.Value.nilFunc))] := by kernel_rfl
@[go_sem] theorem Try.tsz121 : tszOf Try.prog 121 = some (1, false) := by kernel_rfl
@[go_sem] theorem Try.udef121 : (Try.prog.underlying 121).isSome = true := by kernel_rfl
@[go_sem] theorem Try.zero121 : zeroOf Try.prog 121 = some [.lit ((Go.Value.nilFunc))] := by kernel_rfl
@[go_sem] theorem Try.tsz122 : tszOf Try.prog 122 = some (4, true) := by kernel_rfl
@[go_sem] theorem Try.udef122 : (Try.prog.underlying 122).isSome = true := by kernel_rfl
@[go_sem] theorem Try.zero122 : zeroOf Try.prog 122 = some [.lit ((Go.Value.pointer none)), .lit ((Go.Value.pointer none)), .lit ((Go.Value.pointer none)), .str ByteArray.empty] := by kernel_rfl
@[go_sem] theorem Try.pl122 : plOf Try.prog 122 = some [(0, 1), (1, 1), (2, 1), (3, 1)] := by kernel_rfl
@[go_sem] theorem Try.tsz123 : tszOf Try.prog 123 = some (4, true) := by kernel_rfl
@[go_sem] theorem Try.udef123 : (Try.prog.underlying 123).isSome = true := by kernel_rfl
@[go_sem] theorem Try.zero123 : zeroOf Try.prog 123 = some [.lit ((Go.Value.pointer none)), .lit ((Go.Value.pointer none)), .lit ((Go.Value.pointer none)), .str ByteArray.empty] := by kernel_rfl
@[go_sem] theorem Try.pl123 : plOf Try.prog 123 = some [(0, 1), (1, 1), (2, 1), (3, 1)] := by kernel_rfl
@[go_sem] theorem Try.tsz124 : tszOf Try.prog 124 = some (0, true) := by kernel_rfl
@[go_sem] theorem Try.udef124 : (Try.prog.underlying 124).isSome = true := by kernel_rfl
@[go_sem] theorem Try.zero124 : zeroOf Try.prog 124 = some [] := by kernel_rfl
@[go_sem] theorem Try.ar124 : arOf Try.prog 124 = some (0, 1, false) := by kernel_rfl
@[go_sem] theorem Try.pl124 : plOf Try.prog 124 = some [] := by kernel_rfl
@[go_sem] theorem Try.tsz125 : tszOf Try.prog 125 = some (0, true) := by kernel_rfl
@[go_sem] theorem Try.udef125 : (Try.prog.underlying 125).isSome = true := by kernel_rfl
@[go_sem] theorem Try.zero125 : zeroOf Try.prog 125 = some [] := by kernel_rfl
@[go_sem] theorem Try.pl125 : plOf Try.prog 125 = some [(0, 0)] := by kernel_rfl
@[go_sem] theorem Try.tsz126 : tszOf Try.prog 126 = some (0, true) := by kernel_rfl
@[go_sem] theorem Try.udef126 : (Try.prog.underlying 126).isSome = true := by kernel_rfl
@[go_sem] theorem Try.zero126 : zeroOf Try.prog 126 = some [] := by kernel_rfl
@[go_sem] theorem Try.pl126 : plOf Try.prog 126 = some [(0, 0)] := by kernel_rfl
@[go_sem] theorem Try.tsz127 : tszOf Try.prog 127 = some (1, false) := by kernel_rfl
@[go_sem] theorem Try.udef127 : (Try.prog.underlying 127).isSome = true := by kernel_rfl
@[go_sem] theorem Try.zero127 : zeroOf Try.prog 127 = some [.int .u8 0] := by kernel_rfl
@[go_sem] theorem Try.isInt127 : isIntT Try.prog 127 = some .u8 := by kernel_rfl
@[go_sem] theorem Try.tsz128 : tszOf Try.prog 128 = some (1, false) := by kernel_rfl
@[go_sem] theorem Try.udef128 : (Try.prog.underlying 128).isSome = true := by kernel_rfl
@[go_sem] theorem Try.zero128 : zeroOf Try.prog 128 = some [.int .u8 0] := by kernel_rfl
@[go_sem] theorem Try.isInt128 : isIntT Try.prog 128 = some .u8 := by kernel_rfl
@[go_sem] theorem Try.tsz129 : tszOf Try.prog 129 = some (1, false) := by kernel_rfl
@[go_sem] theorem Try.udef129 : (Try.prog.underlying 129).isSome = true := by kernel_rfl
@[go_sem] theorem Try.zero129 : zeroOf Try.prog 129 = some [.lit ((Go.Value.nilFunc))] := by kernel_rfl
@[go_sem] theorem Try.tsz130 : tszOf Try.prog 130 = some (1, false) := by kernel_rfl
@[go_sem] theorem Try.udef130 : (Try.prog.underlying 130).isSome = true := by kernel_rfl
@[go_sem] theorem Try.zero130 : zeroOf Try.prog 130 = some [.lit ((Go.Value.pointer none))] := by kernel_rfl
@[go_sem] theorem Try.tsz131 : tszOf Try.prog 131 = some (1, false) := by kernel_rfl
@[go_sem] theorem Try.udef131 : (Try.prog.underlying 131).isSome = true := by kernel_rfl
@[go_sem] theorem Try.zero131 : zeroOf Try.prog 131 = some [.int .i32 0] := by kernel_rfl
@[go_sem] theorem Try.isInt131 : isIntT Try.prog 131 = some .i32 := by kernel_rfl
@[go_sem] theorem Try.tsz132 : tszOf Try.prog 132 = some (1, false) := by kernel_rfl
@[go_sem] theorem Try.udef132 : (Try.prog.underlying 132).isSome = true := by kernel_rfl
@[go_sem] theorem Try.zero132 : zeroOf Try.prog 132 = some [.int .i32 0] := by kernel_rfl
@[go_sem] theorem Try.isInt132 : isIntT Try.prog 132 = some .i32 := by kernel_rfl
@[go_sem] theorem Try.tsz133 : tszOf Try.prog 133 = some (11, true) := by kernel_rfl
@[go_sem] theorem Try.udef133 : (Try.prog.underlying 133).isSome = true := by kernel_rfl
@[go_sem] theorem Try.zero133 : zeroOf Try.prog 133 = some [.int .u64 0, .int .u64 0, .int .u32 0, .int .u8 0, .int .u8 0, .int .u8 0, .int .u8 0, .lit ((Go.Value.nilFunc)), .lit ((Go.Value.pointer none)), .int .i32 0, .int .i32 0] := by kernel_rfl
@[go_sem] theorem Try.pl133 : plOf Try.prog 133 = some [(0, 1), (1, 1), (2, 1), (3, 1), (4, 1), (5, 1), (6, 1), (7, 1), (8, 1), (9, 1), (10, 1)] := by kernel_rfl
@[go_sem] theorem Try.tsz134 : tszOf Try.prog 134 = some (11, true) := by kernel_rfl
@[go_sem] theorem Try.udef134 : (Try.prog.underlying 134).isSome = true := by kernel_rfl
@[go_sem] theorem Try.zero134 : zeroOf Try.prog 134 = some [.int .u64 0, .int .u64 0, .int .u32 0, .int .u8 0, .int .u8 0, .int .u8 0, .int .u8 0, .lit ((Go.Value.nilFunc)), .lit ((Go.Value.pointer none)), .int .i32 0, .int .i32 0] := by kernel_rfl
@[go_sem] theorem Try.pl134 : plOf Try.prog 134 = some [(0, 1), (1, 1), (2, 1), (3, 1), (4, 1), (5, 1), (6, 1), (7, 1), (8, 1), (9, 1), (10, 1)] := by kernel_rfl
@[go_sem] theorem Try.tsz135 : tszOf Try.prog 135 = some (1, false) := by kernel_rfl
@[go_sem] theorem Try.udef135 : (Try.prog.underlying 135).isSome = true := by kernel_rfl
@[go_sem] theorem Try.zero135 : zeroOf Try.prog 135 = some [.lit ((Go.Value.pointer none))] := by kernel_rfl
@[go_sem] theorem Try.isPt3 : isPt Try.prog 3 = false := by kernel_rfl
@[go_sem] theorem Try.isPt22 : isPt Try.prog 22 = false := by kernel_rfl
@[go_sem] theorem Try.isPt24 : isPt Try.prog 24 = false := by kernel_rfl
@[go_sem] theorem Try.isPt27 : isPt Try.prog 27 = false := by kernel_rfl
@[go_sem] theorem Try.isPt32 : isPt Try.prog 32 = false := by kernel_rfl
@[go_sem] theorem Try.isPt43 : isPt Try.prog 43 = false := by kernel_rfl
@[go_sem] theorem Try.isPt45 : isPt Try.prog 45 = false := by kernel_rfl
@[go_sem] theorem Try.isPt52 : isPt Try.prog 52 = true := by kernel_rfl
@[go_sem] theorem Try.isPt53 : isPt Try.prog 53 = false := by kernel_rfl
@[go_sem] theorem Try.isPt74 : isPt Try.prog 74 = false := by kernel_rfl
@[go_sem] theorem Try.isPt76 : isPt Try.prog 76 = false := by kernel_rfl
@[go_sem] theorem Try.isPt86 : isPt Try.prog 86 = false := by kernel_rfl
@[go_sem] theorem Try.isPt101 : isPt Try.prog 101 = false := by kernel_rfl
@[go_sem] theorem Try.isPt111 : isPt Try.prog 111 = false := by kernel_rfl
@[go_sem] theorem Try.isPt113 : isPt Try.prog 113 = false := by kernel_rfl
theorem Try.okF3 : okF Try.prog 3 = true := by kernel_rfl
theorem Try.okF5 : okF Try.prog 5 = true := by kernel_rfl
theorem Try.okF6 : okF Try.prog 6 = true := by kernel_rfl
theorem Try.okF7 : okF Try.prog 7 = true := by kernel_rfl
theorem Try.okF8 : okF Try.prog 8 = true := by kernel_rfl
theorem Try.okF9 : okF Try.prog 9 = true := by kernel_rfl
theorem Try.okF10 : okF Try.prog 10 = true := by kernel_rfl
theorem Try.okF11 : okF Try.prog 11 = true := by kernel_rfl
theorem Try.okF12 : okF Try.prog 12 = true := by kernel_rfl
theorem Try.okF13 : okF Try.prog 13 = true := by kernel_rfl
theorem Try.okF14 : okF Try.prog 14 = true := by kernel_rfl
theorem Try.okF15 : okF Try.prog 15 = true := by kernel_rfl
theorem Try.okF16 : okF Try.prog 16 = true := by kernel_rfl
theorem Try.okF17 : okF Try.prog 17 = true := by kernel_rfl
theorem Try.okF25 : okF Try.prog 25 = true := by kernel_rfl
theorem Try.okF26 : okF Try.prog 26 = true := by kernel_rfl
theorem Try.okF27 : okF Try.prog 27 = true := by kernel_rfl
theorem Try.okF28 : okF Try.prog 28 = true := by kernel_rfl
theorem Try.okF29 : okF Try.prog 29 = true := by kernel_rfl
theorem Try.okF30 : okF Try.prog 30 = true := by kernel_rfl
theorem Try.okF31 : okF Try.prog 31 = true := by kernel_rfl
theorem Try.okF32 : okF Try.prog 32 = true := by kernel_rfl
theorem Try.okF33 : okF Try.prog 33 = true := by kernel_rfl
theorem Try.okF34 : okF Try.prog 34 = true := by kernel_rfl
theorem Try.okF35 : okF Try.prog 35 = true := by kernel_rfl
theorem Try.okF36 : okF Try.prog 36 = true := by kernel_rfl
theorem Try.okF37 : okF Try.prog 37 = true := by kernel_rfl
theorem Try.okF38 : okF Try.prog 38 = true := by kernel_rfl
theorem Try.okF39 : okF Try.prog 39 = true := by kernel_rfl
theorem Try.okF40 : okF Try.prog 40 = true := by kernel_rfl
theorem Try.okF41 : okF Try.prog 41 = true := by kernel_rfl
theorem Try.okF42 : okF Try.prog 42 = true := by kernel_rfl
theorem Try.okF43 : okF Try.prog 43 = true := by kernel_rfl
theorem Try.okF44 : okF Try.prog 44 = true := by kernel_rfl
theorem Try.okF56 : okF Try.prog 56 = true := by kernel_rfl
theorem Try.okF57 : okF Try.prog 57 = true := by kernel_rfl
theorem Try.okF58 : okF Try.prog 58 = true := by kernel_rfl
theorem Try.okF59 : okF Try.prog 59 = true := by kernel_rfl
theorem Try.okF60 : okF Try.prog 60 = true := by kernel_rfl
theorem Try.okF61 : okF Try.prog 61 = true := by kernel_rfl
theorem Try.okF62 : okF Try.prog 62 = true := by kernel_rfl
theorem Try.okF63 : okF Try.prog 63 = true := by kernel_rfl
theorem Try.okF64 : okF Try.prog 64 = true := by kernel_rfl
theorem Try.okF65 : okF Try.prog 65 = true := by kernel_rfl
theorem Try.okF66 : okF Try.prog 66 = true := by kernel_rfl
theorem Try.okF67 : okF Try.prog 67 = true := by kernel_rfl
theorem Try.okF68 : okF Try.prog 68 = true := by kernel_rfl
theorem Try.okF69 : okF Try.prog 69 = true := by kernel_rfl
theorem Try.okF70 : okF Try.prog 70 = true := by kernel_rfl
theorem Try.okF71 : okF Try.prog 71 = true := by kernel_rfl
theorem Try.okF72 : okF Try.prog 72 = true := by kernel_rfl
theorem Try.okF73 : okF Try.prog 73 = true := by kernel_rfl
theorem Try.okF74 : okF Try.prog 74 = true := by kernel_rfl
theorem Try.okF82 : okF Try.prog 82 = true := by kernel_rfl
theorem Try.okF83 : okF Try.prog 83 = true := by kernel_rfl
theorem Try.okF84 : okF Try.prog 84 = true := by kernel_rfl
theorem Try.okF85 : okF Try.prog 85 = true := by kernel_rfl
end Go.Proofs
end
section
namespace Go.Lv

def rows {α : Type} (cs : α → List V) (L : List α) : List V := L.flatMap cs

section
variable {α : Type} {cs : α → List V} {w : Nat}

theorem rows_len (h : ∀ a, (cs a).length = w) (L : List α) : (rows cs L).length = L.length * w := by
 induction L with
 | nil => simp [rows]
 | cons a L ih => simp [rows, h] at ih ⊢; rw [ih, Nat.succ_mul, Nat.add_comm]

theorem rowsOf_append (L K : List α) : rows cs (L ++ K) = rows cs L ++ rows cs K := by simp [rows]
theorem rows_nil : rows cs ([] : List α) = [] := rfl
theorem rows_cons (a : α) (L : List α) : rows cs (a :: L) = cs a ++ rows cs L := by simp [rows]
theorem rows_one (a : α) : rows cs [a] = cs a := by simp [rows]

theorem rows_drop (h : ∀ a, (cs a).length = w) (L : List α) (i : Nat) : (rows cs L).drop (i * w) = rows cs (L.drop i) := by
 induction i generalizing L with
 | zero => simp
 | succ i ih =>
   cases L with
   | nil => simp [rows]
   | cons a L =>
     rw [rows_cons, Nat.succ_mul, Nat.add_comm, ← List.drop_drop, List.drop_append, h a, Nat.sub_self, List.drop_zero]
     rw [show (cs a).drop w = [] by simp [h]]
     simpa using ih L

theorem rows_at (h : ∀ a, (cs a).length = w) {L : List α} {i : Nat} (hi : i < L.length) : ((rows cs L).drop (i * w)).take w = cs L[i] := by
 rw [rows_drop h, List.drop_eq_getElem_cons hi, rows_cons, List.take_append, h, Nat.sub_self, List.take_zero, List.append_nil, List.take_of_length_le (by simp [h])]

theorem rows_all {p : V → Bool} (h : ∀ a, (cs a).all p = true) (L : List α) : (rows cs L).all p = true := by
 induction L with
 | nil => rfl
 | cons a L ih => rw [rows_cons, List.all_append, h a, ih]; rfl

theorem map_ren (f : Nat → R) {d : Nat} {l : List V} (h : l.all (noOwn d) = true) : l.map (ren f d) = l := by
 rw [List.map_congr_left (g := id) (fun x hx => ren_noOwn f d x (List.all_eq_true.1 h x hx)), List.map_id]

theorem wrap_i64 {n : Int} (h0 : -9223372036854775808 ≤ n) (h1 : n ≤ 9223372036854775807) : IntKind.i64.wrap n = n := by
 rw [IntKind.wrap_i64]; omega

def i64R (z : Int) : Prop := -9223372036854775808 ≤ z ∧ z ≤ 9223372036854775807
def lstR (ok : α → Prop) (L : List α) : Prop := L.length ≤ 9223372036854775807 ∧ ∀ x ∈ L, ok x

class FlatP (cs : α → List V) (w : outParam Nat) : Prop where
 len : ∀ a, (cs a).length = w
 plain : ∀ a d, (cs a).all (noOwn d) = true
 cell : ∀ a, (cs a).all isCell = true
 noro : ∀ a, (cs a).all (noRoB 0) = true

theorem rows_length [FlatP cs w] (L : List α) : (rows cs L).length = L.length * w := rows_len FlatP.len L
theorem map_ren_rows [FlatP cs w] (f : Nat → R) (d : Nat) (L : List α) : (rows cs L).map (ren f d) = rows cs L := map_ren f (rows_all (fun a => FlatP.plain a d) L)
theorem rows_cell [FlatP cs w] (L : List α) : (rows cs L).all isCell = true := rows_all FlatP.cell L
theorem rows_noRo [FlatP cs w] (L : List α) : (rows cs L).all (noRoB 0) = true := rows_all FlatP.noro L
theorem rows_noOwn [FlatP cs w] (L : List α) (d : Nat) : (rows cs L).all (noOwn d) = true := rows_all (fun a => FlatP.plain a d) L
theorem rows_refV [FlatP cs w] (p : Nat → Bool) (L : List α) (d : Nat) : (rows cs L).all (refV p d) = true := List.all_eq_true.2 fun x hx => refV_noOwn p d x (List.all_eq_true.1 (rows_noOwn (cs := cs) L d) x hx)
theorem noRoH_rows [FlatP cs w] (L : List α) : NoRoH [some (rows cs L)] := NoRoH.of (by simp only [hpNoRo, List.all_cons, List.all_nil, rows_noRo, Bool.and_self])
theorem take_rows [FlatP cs w] (L : List α) : (rows cs L).take (L.length * w) = rows cs L := List.take_of_length_le (by rw [rows_length]; exact Nat.le_refl _)

theorem le_snap [FlatP cs w] {h : Hp} {id : Nat} {L : List α} (hid : h[id]? = some (some (rows cs L))) : LeV (ren (snapR h 3) 3 (.osl id 0 L.length w)) (.sl L.length w (rows cs L)) := by
 refine .inl ?_
 simp only [ren, snapR, hid, map_ren_rows, List.drop_zero, take_rows]
theorem le_snap' [FlatP cs w] {h : Hp} {id n : Nat} {L : List α} (hid : h[id]? = some (some (rows cs L))) (hn : n = L.length) : LeV (ren (snapR h 3) 3 (.osl id 0 n w)) (.sl L.length w (rows cs L)) := by
 subst hn; exact le_snap hid
theorem le_nil {h : Hp} {w : Nat} : LeV (ren (snapR h 3) 3 .nilsl) (.sl 0 w []) := .inr (.inr (.inl ⟨rfl, w, rfl⟩))
theorem LeV.aggR {f : Nat → R} {d : Nat} {cs cs' : List V} (h : LeA (cs.map (ren f d)) cs') : LeV (ren f (d + 1) (.agg cs)) (.agg cs') := LeV.agg h
theorem leE_snap [FlatP cs w] {h : Hp} {id n n' : Nat} {L : List α} (hid : h[id]? = some (some (rows cs L))) (hn : n = L.length) (hn' : n' = L.length) : LeE (ren (snapR h 3) 2 (.osl id 0 n w)) (.sl n' w (rows cs L)) := by
 subst hn hn'
 refine .inl ?_
 simp only [ren, snapR, hid, map_ren_rows, List.drop_zero, take_rows]
def optO (w : Nat) (R : Option (List α)) : V := match R with
 | some M => .tup [.osl 0 0 M.length w, .bool true]
 | none => .tup [.osl 0 0 0 w, .bool false]
def optOh (cs : α → List V) (R : Option (List α)) : Hp := match R with
 | some M => [some (rows cs M)]
 | none => [some []]
def optN (w : Nat) (R : Option (List α)) : V := match R with
 | some M => .tup [.osl 0 0 M.length w, .bool true]
 | none => .tup [.nilsl, .bool false]
def optNh (cs : α → List V) (R : Option (List α)) : Hp := match R with
 | some M => [some (rows cs M)]
 | none => []
theorem rows_snoc (L : List α) (a : α) : rows cs L ++ cs a = rows cs (L ++ [a]) := by rw [rowsOf_append, rows_one]

theorem LeL_same {f : V → V} : ∀ {l : List V}, l.map f = l → LeL (l.map f) l
 | [], _ => trivial
 | a :: l, h => by
   simp only [List.map_cons, List.cons.injEq] at h
   exact ⟨.inl h.1.symm, LeL_same h.2⟩

theorem apart {L : List α} {i : Nat} (hi : i < L.length) : ∃ A B, L = A ++ L[i] :: B ∧ A.length = i ∧ A = L.take i ∧ B = L.drop (i + 1) := by
 refine ⟨L.take i, L.drop (i + 1), ?_, by simp; omega, rfl, rfl⟩
 rw [← List.drop_eq_getElem_cons hi, List.take_append_drop]

def listedQ (p : α → Bool) (k : α → Int) (L : List α) (i : Nat) : Bool :=
 match L[i]? with
 | none => true
 | some x => p x && match i with
   | 0 => true
   | j + 1 => match L[j]? with
     | none => true
     | some y => decide (k y < k x)

def listedB (p : α → Bool) (k : α → Int) (m : Nat) (L : List α) : Bool := (List.range L.length).all (listedQ p k L) && decide (L.length ≤ m)

theorem range_all_false {q : Nat → Bool} {n i : Nat} (hi : i < n) (h : q i = false) : (List.range n).all q = false := by
 rw [List.all_eq_false]
 exact ⟨i, by simpa using hi, by simp [h]⟩
theorem range_all_succ {q : Nat → Bool} {i : Nat} (h : (List.range i).all q = true) (h1 : q i = true) : (List.range (i + 1)).all q = true := by
 rw [List.range_succ, List.all_append, h]
 simp [h1]
theorem listedB_false {p : α → Bool} {k : α → Int} {m : Nat} {L : List α} {i : Nat} (hi : i < L.length) (h : listedQ p k L i = false) : listedB p k m L = false := by
 rw [listedB, range_all_false hi h]
 rfl
theorem listedQ_zero {p : α → Bool} {k : α → Int} {L : List α} (h0 : 0 < L.length) : listedQ p k L 0 = p L[0] := by simp [listedQ, h0]
theorem listedQ_succ {p : α → Bool} {k : α → Int} {L : List α} {j : Nat} (h : j + 1 < L.length) : listedQ p k L (j + 1) = (p L[j + 1] && decide (k (L[j]'(by omega)) < k L[j + 1])) := by
 have : j < L.length := by omega
 simp [listedQ, h, this]
end

theorem leA {x y : V} (h : LeV x y := by first | exact le_snap rfl | exact .inl rfl | exact le_nil | exact le_snap' rfl (by simp) | exact LeV.aggR (by first | ((repeat' (first | exact True.intro | exact leE_snap rfl (by simp) (by simp) | exact LeE.nil | exact LeE.refl _ | refine And.intro ?_ ?_)); done) | fail)) : LeV x y := h
theorem callT.at {P : Program} {h : Hp} {g : FuncId} {a c args : List V} {K : V → Hp → Prop} {x : Tag K} {as' : List V} {r : V} {hout : Hp} (hs : Ctr P g as' [] r hout) (hle : LeL ((a ++ args ++ c).map (ren (snapR h 3) 3)) as') (hk : K r hout)
   (hro : (a ++ args ++ c).all (noOwn 3) = true ∨ NoRo r ∧ NoRoH hout := by first | exact .inl rfl | exact .inr ⟨noRo_ok 3 rfl, by first | exact NoRoH.nil | exact noRoH_rows _ | exact NoRoH.of (by simp only [hpNoRo, List.all_cons, List.all_nil, rows_noRo, Bool.and_self])⟩)
   (hrf : refOk h 4 (.fn (.func g) a c) = true ∧ args.all (refOk h 3) = true := by first | exact ⟨rfl, rfl⟩ | exact ⟨rfl, by simp [refOk, refV, refB, noOwn, rows_noOwn, rows_refV]⟩ | simp [refOk, refV, refB, noOwn, rows_noOwn, rows_refV]) : callT P h (.fn (.func g) a c) args K x :=
 callT.intro hs hle hro hrf hk
theorem callS.at {P : Program} {t : List V} {h : Hp} {k : Nat} {dst : Option Tmp} {g : FuncId} {a c args : List V} {K : St → Prop} {x : Tag K} {as' : List V} {r : V} {hout : Hp} (hs : Ctr P g as' [] r hout)
   (hle : LeL ((a ++ args ++ c).map (ren (snapR h 3) 3)) as') (hk : K (afterCall ⟨t, h, k⟩ dst r hout))
   (hro : (a ++ args ++ c).all (noOwn 3) = true ∨ NoRo r ∧ NoRoH hout := by first | exact .inl rfl | exact .inr ⟨noRo_ok 3 rfl, by first | exact NoRoH.nil | exact noRoH_rows _ | exact NoRoH.of (by simp only [hpNoRo, List.all_cons, List.all_nil, rows_noRo, Bool.and_self])⟩) : callS P ⟨t, h, k⟩ dst (.fn (.func g) a c) args K x :=
 callS.intro hs hle hro hk
theorem leO {x y : V} (h : LeV x y := by first | exact .inl rfl | exact LeV.aggR (by first | ((repeat' (first | exact True.intro | exact LeE.nil | exact LeE.refl _ | refine And.intro ?_ ?_)); done) | fail)) : LeV x y := h
theorem sideA {a b : Prop} (hb : b) (ha : a := by first | omega | with_reducible rfl | (show drawOk _ = true; kernel_rfl) | (simp only [rows_length, rows_cell, List.length_append, List.length_cons, List.length_nil, List.all_append, List.all_cons, List.all_nil, isCell, Nat.mul_one, Nat.one_mul, Bool.and_self]; first | done | omega)) : a ∧ b := ⟨ha, hb⟩
attribute [go_sem] Nat.le_refl Int.toNat_natCast beq_self_eq_true bne_self_eq_false decide_true decide_false eq_self ne_eq Option.some.injEq not_false_eq_true Option.map_some map_ren_rows
theorem Weak.pk {t t2 : List V} {h h2 : Hp} {k : Nat} (sel : List Nat) (ht : LeG (ren (pickF sel h true) 3) t t2) (hh : pickH sel h true = h2) (hn : sel.Nodup := by decide) (hk : ∀ j, j < k → sel[j]? = some j := by (intro j hj; cases j <;> simp_all)) : Weak ⟨t, h, k⟩ ⟨t2, h2, k⟩ := Weak.pick sel hn hk ht hh
attribute [go_sem] Nat.reduceSub Nat.reduceAdd Nat.reduceMul Nat.reduceLT Nat.reduceLeDiff Nat.reduceEqDiff Nat.reduceDiv Nat.reduceMod Int.reduceToNat Int.reduceLE Int.reduceLT Int.reduceBEq Int.reduceBNe Int.reduceNeg Int.reduceAdd Int.reduceSub Int.reduceMul reduceCtorEq
end Go.Lv
end
section
set_option maxRecDepth 100000
namespace Go.Proofs
open Go.Lv
def inB' (n a b : Int) : Bool := decide (a ≤ n) && decide (n ≤ b)
theorem inB'_iff {n a b : Int} : inB' n a b = true ↔ a ≤ n ∧ n ≤ b := by simp [inB']
theorem in_ok (n a b : Int) : Ctr Try.prog 30 [.int .i64 n, .int .i64 a, .int .i64 b] [] (.bool (inB' n a b)) [] := by
 refine Ctr.intro Try.mixed Try.func30 rfl Try.okF30 ?_
 simp -implicitDefEqProofs -dsimp only [go_sem, Try.ntmps30, Try.results30]
 refine guardT.splitT (fun h1 => ?_) (fun h1 => ?_) <;> simp -implicitDefEqProofs -dsimp only [go_sem, h1]
 · exact WeakR.of_eq (by simp [inB', h1])
 · exact WeakR.of_eq (by simp [inB', h1])
theorem l1In_ok (n a b : Int) : Ctr Try.prog 34 [.int .i64 n, .int .i64 a, .int .i64 b] [] (.bool (inB' n a b)) [] := by
 refine Ctr.intro Try.mixed Try.func34 rfl Try.okF34 ?_
 simp -implicitDefEqProofs -dsimp only [go_sem, Try.ntmps34, Try.results34]
 refine guardT.splitT (fun h1 => ?_) (fun h1 => ?_) <;> simp -implicitDefEqProofs -dsimp only [go_sem, h1]
 · exact WeakR.of_eq (by simp [inB', h1])
 · exact WeakR.of_eq (by simp [inB', h1])
theorem l1Most_ok (a b : Int) : Ctr Try.prog 57 [.int .i64 a, .int .i64 b] [] (.int .i64 (max a b)) [] := by
 refine Ctr.intro Try.mixed Try.func57 rfl Try.okF57 ?_
 simp -implicitDefEqProofs -dsimp only [go_sem, Try.ntmps57, Try.results57]
 refine condT.split (fun h1 => ?_) (fun h1 => ?_) <;> simp -implicitDefEqProofs -dsimp only [go_sem, h1]
 · exact WeakR.of_eq (by simp at h1; congr 1; omega)
 · exact WeakR.of_eq (by simp at h1; congr 1; omega)
theorem l1Least_ok (a b : Int) : Ctr Try.prog 60 [.int .i64 a, .int .i64 b] [] (.int .i64 (min a b)) [] := by
 refine Ctr.intro Try.mixed Try.func60 rfl Try.okF60 ?_
 simp -implicitDefEqProofs -dsimp only [go_sem, Try.ntmps60, Try.results60]
 refine condT.split (fun h1 => ?_) (fun h1 => ?_) <;> simp -implicitDefEqProofs -dsimp only [go_sem, h1]
 · exact WeakR.of_eq (by simp at h1; congr 1; omega)
 · exact WeakR.of_eq (by simp at h1; congr 1; omega)
theorem listedB_all {α : Type} {p : α → Bool} {k : α → Int} {m : Nat} {L : List α} (h : listedB p k m L = true) : (∀ x ∈ L, p x = true) ∧ L.length ≤ m := by
 simp only [listedB, Bool.and_eq_true, decide_eq_true_eq, List.all_eq_true, List.mem_range] at h
 refine ⟨fun x hx => ?_, h.2⟩
 obtain ⟨i, hi, rfl⟩ := List.getElem_of_mem hx
 have := h.1 i hi
 simp only [listedQ, List.getElem?_eq_getElem hi, Bool.and_eq_true] at this
 exact this.1
theorem listedB_lt {α : Type} {p : α → Bool} {k : α → Int} {m : Nat} {L : List α} (h : listedB p k m L = true) : (L.map k).Pairwise (· < ·) := by
 simp only [listedB, Bool.and_eq_true, List.all_eq_true, List.mem_range] at h
 have adj : ∀ j, (hj : j + 1 < L.length) → k (L[j]'(by omega)) < k L[j + 1] := by
   intro j hj
   have := h.1 (j + 1) hj
   rw [listedQ_succ hj] at this
   simp at this
   exact this.2
 rw [List.pairwise_iff_getElem]
 intro i j hi hj hij
 simp only [List.length_map] at hi hj
 simp only [List.getElem_map]
 induction j with
 | zero => omega
 | succ j ih =>
   have h1 := adj j hj
   rcases Nat.lt_succ_iff_lt_or_eq.1 hij with h2 | h2
   · have := ih (by simpa using (by omega : j < L.length)) h2 (by omega)
     omega
   · subst h2; exact h1
end Go.Proofs
end
section
set_option maxRecDepth 100000
namespace Go.Proofs
open Go.Lv
def placeB (x y : Int) : Bool := inB' x 0 999 && inB' y 0 999
theorem placeB_iff {x y : Int} : placeB x y = true ↔ (0 ≤ x ∧ x ≤ 999) ∧ 0 ≤ y ∧ y ≤ 999 := by simp [placeB, inB']
theorem mul_self_nonneg' (x : Int) : 0 ≤ x * x := by
 rcases Int.le_total 0 x with h | h
 · exact Int.mul_nonneg h h
 · exact Int.mul_nonneg_of_nonpos_of_nonpos h h
theorem sq_le {x : Int} {b : Int} (h : -b ≤ x ∧ x ≤ b) : x * x ≤ b * b := by
 have h1 := Int.mul_nonneg (show 0 ≤ b - x by omega) (show 0 ≤ b + x by omega)
 have e : (b - x) * (b + x) = b * b - x * x := by rw [Int.sub_mul, Int.mul_add, Int.mul_add, Int.mul_comm x b]; omega
 omega
theorem isTick_ok (n : Int) : Ctr Try.prog 69 [.int .i64 n] [] (.bool (inB' n 0 1000000)) [] := by
 refine Ctr.intro Try.mixed Try.func69 rfl Try.okF69 ?_
 simp -implicitDefEqProofs -dsimp only [go_sem, Try.ntmps69, Try.results69]
 repeat' (first | (refine WeakR.drop' ?_ (by rfl); first | rfl | (simp [placeB, *]; done)) | ((first | refine callT.at (in_ok _ _ _) ⟨leA, leA, leA, trivial⟩ ?_ | refine callS.at (in_ok _ _ _) ⟨leA, leA, leA, trivial⟩ ?_); simp -implicitDefEqProofs -dsimp only [go_sem, *]) | (refine guardT.splitT (fun _ => ?_) (fun _ => ?_) <;> simp -implicitDefEqProofs -dsimp only [go_sem, *]) | (refine guardT.splitF (fun _ => ?_) (fun _ => ?_) <;> simp -implicitDefEqProofs -dsimp only [go_sem, *]) | (refine condT.split (fun _ => ?_) (fun _ => ?_) <;> simp -implicitDefEqProofs -dsimp only [go_sem, *]))
theorem l2Tick_ok (n : Int) : Ctr Try.prog 85 [.int .i64 n] [] (.bool (inB' n 0 1000000)) [] := by
 refine Ctr.intro Try.mixed Try.func85 rfl Try.okF85 ?_
 simp -implicitDefEqProofs -dsimp only [go_sem, Try.ntmps85, Try.results85]
 repeat' (first | (refine WeakR.drop' ?_ (by rfl); first | rfl | (simp [placeB, *]; done)) | ((first | refine callT.at (l1In_ok _ _ _) ⟨leA, leA, leA, trivial⟩ ?_ | refine callS.at (l1In_ok _ _ _) ⟨leA, leA, leA, trivial⟩ ?_); simp -implicitDefEqProofs -dsimp only [go_sem, *]) | (refine guardT.splitT (fun _ => ?_) (fun _ => ?_) <;> simp -implicitDefEqProofs -dsimp only [go_sem, *]) | (refine guardT.splitF (fun _ => ?_) (fun _ => ?_) <;> simp -implicitDefEqProofs -dsimp only [go_sem, *]) | (refine condT.split (fun _ => ?_) (fun _ => ?_) <;> simp -implicitDefEqProofs -dsimp only [go_sem, *]))
theorem isPlace_ok (x y : Int) : Ctr Try.prog 40 [.int .i64 x, .int .i64 y] [] (.bool (placeB x y)) [] := by
 refine Ctr.intro Try.mixed Try.func40 rfl Try.okF40 ?_
 simp -implicitDefEqProofs -dsimp only [go_sem, Try.ntmps40, Try.results40]
 repeat' (first | (refine WeakR.drop' ?_ (by rfl); first | rfl | (simp [placeB, *]; done)) | ((first | refine callT.at (in_ok _ _ _) ⟨leA, leA, leA, trivial⟩ ?_ | refine callS.at (in_ok _ _ _) ⟨leA, leA, leA, trivial⟩ ?_); simp -implicitDefEqProofs -dsimp only [go_sem, *]) | (refine guardT.splitT (fun _ => ?_) (fun _ => ?_) <;> simp -implicitDefEqProofs -dsimp only [go_sem, *]) | (refine guardT.splitF (fun _ => ?_) (fun _ => ?_) <;> simp -implicitDefEqProofs -dsimp only [go_sem, *]) | (refine condT.split (fun _ => ?_) (fun _ => ?_) <;> simp -implicitDefEqProofs -dsimp only [go_sem, *]))
theorem l2Place_ok (x y : Int) : Ctr Try.prog 43 [.int .i64 x, .int .i64 y] [] (.bool (placeB x y)) [] := by
 refine Ctr.intro Try.mixed Try.func43 rfl Try.okF43 ?_
 simp -implicitDefEqProofs -dsimp only [go_sem, Try.ntmps43, Try.results43]
 repeat' (first | (refine WeakR.drop' ?_ (by rfl); first | rfl | (simp [placeB, *]; done)) | ((first | refine callT.at (l1In_ok _ _ _) ⟨leA, leA, leA, trivial⟩ ?_ | refine callS.at (l1In_ok _ _ _) ⟨leA, leA, leA, trivial⟩ ?_); simp -implicitDefEqProofs -dsimp only [go_sem, *]) | (refine guardT.splitT (fun _ => ?_) (fun _ => ?_) <;> simp -implicitDefEqProofs -dsimp only [go_sem, *]) | (refine guardT.splitF (fun _ => ?_) (fun _ => ?_) <;> simp -implicitDefEqProofs -dsimp only [go_sem, *]) | (refine condT.split (fun _ => ?_) (fun _ => ?_) <;> simp -implicitDefEqProofs -dsimp only [go_sem, *]))
theorem isStep_ok (n : Int) : Ctr Try.prog 29 [.int .i64 n] [] (.bool (inB' n 50 500)) [] := by
 refine Ctr.intro Try.mixed Try.func29 rfl Try.okF29 ?_
 simp -implicitDefEqProofs -dsimp only [go_sem, Try.ntmps29, Try.results29]
 repeat' (first | (refine WeakR.drop' ?_ (by rfl); first | rfl | (simp [placeB, *]; done)) | ((first | refine callT.at (in_ok _ _ _) ⟨leA, leA, leA, trivial⟩ ?_ | refine callS.at (in_ok _ _ _) ⟨leA, leA, leA, trivial⟩ ?_); simp -implicitDefEqProofs -dsimp only [go_sem, *]) | (refine guardT.splitT (fun _ => ?_) (fun _ => ?_) <;> simp -implicitDefEqProofs -dsimp only [go_sem, *]) | (refine guardT.splitF (fun _ => ?_) (fun _ => ?_) <;> simp -implicitDefEqProofs -dsimp only [go_sem, *]) | (refine condT.split (fun _ => ?_) (fun _ => ?_) <;> simp -implicitDefEqProofs -dsimp only [go_sem, *]))
theorem square_ok (x y : Int) (hx : -1000000 ≤ x ∧ x ≤ 1000000) (hy : -1000000 ≤ y ∧ y ≤ 1000000) : Ctr Try.prog 84 [.int .i64 x, .int .i64 y] [] (.int .i64 (x * x + y * y)) [] := by
 refine Ctr.intro Try.mixed Try.func84 rfl Try.okF84 ?_
 simp -implicitDefEqProofs -dsimp only [go_sem, Try.ntmps84, Try.results84]
 have h1 : 0 ≤ x * x ∧ x * x ≤ 1000000000000 := ⟨mul_self_nonneg' x, sq_le hx⟩
 have h2 : 0 ≤ y * y ∧ y * y ≤ 1000000000000 := ⟨mul_self_nonneg' y, sq_le hy⟩
 rw [wrap_i64 (n := x * x) (by omega) (by omega), wrap_i64 (n := y * y) (by omega) (by omega), wrap_i64 (by omega) (by omega)]
 exact WeakR.refl _ _ _
end Go.Proofs
end
section
set_option maxRecDepth 100000
namespace Go.Proofs
open Go.Lv
structure Arrival where
 Id : Int
 X : Int
 Y : Int
 Tick : Int
 Error : Int
def Arrival.cs (r : Arrival) : List V := [.int .i64 r.Id, .int .i64 r.X, .int .i64 r.Y, .int .i64 r.Tick, .int .i64 r.Error]
def Arrival.v (r : Arrival) : V := .agg [.int .i64 r.Id, .int .i64 r.X, .int .i64 r.Y, .int .i64 r.Tick, .int .i64 r.Error]
theorem Arrival.csl (a : Arrival) : a.cs.length = 5 := rfl
instance : FlatP Arrival.cs 5 := ⟨fun _ => rfl, fun _ d => by cases d <;> rfl, fun _ => rfl, fun _ => rfl⟩
def Arrival.ok (r : Arrival) : Prop := i64R r.Id ∧ i64R r.X ∧ i64R r.Y ∧ i64R r.Tick ∧ i64R r.Error
abbrev Arrival.rows (L : List Arrival) : List V := Go.Lv.rows Arrival.cs L
abbrev Arrival.sl (L : List Arrival) : V := .sl L.length 5 (Go.Lv.rows Arrival.cs L)
abbrev Arrival.zs : List V := [.int .i64 0, .int .i64 0, .int .i64 0, .int .i64 0, .int .i64 0]
def Arrival.mk1 (k : Int) : Arrival := ⟨k, k + 1, k + 1 + 1, k + 1 + 1 + 1, k + 1 + 1 + 1 + 1⟩
def Arrival.marks (k : Int) (n : Nat) : List Arrival := (List.range n).map fun i : Nat => Arrival.mk1 (k + 5 * (i : Int))
@[simp] theorem Arrival.marks_len (k : Int) (n : Nat) : (Arrival.marks k n).length = n := by simp [Arrival.marks]
theorem areListedArrival_ok (L : List Arrival) (p : Arrival → Bool) (key : Arrival → Int) (most : Int) (fv fk : Nat) (vc kc : List V) (hvc : ∀ d, vc.all (noOwn d) = true) (hkc : ∀ d, kc.all (noOwn d) = true) (hv : ∀ x, Ctr Try.prog fv (Arrival.v x :: vc) [] (.bool (p x)) []) (hkey : ∀ x, Ctr Try.prog fk (Arrival.v x :: kc) [] (.int .i64 (key x)) []) (m : Nat) (hm : most = m) (hl : L.length ≤ 281474976710656) :
   Ctr Try.prog 62 [Arrival.sl L, .int .i64 most, .fn (.func fv) [] vc, .fn (.func fk) [] kc] [] (.bool (listedB p key m L)) [] := by
 subst hm
 refine Ctr.intro Try.mixed Try.func62 rfl Try.okF62 ?_
 simp -implicitDefEqProofs -dsimp only [go_sem, Try.ntmps62, Try.results62]
 have hvc2 : ∀ f d, vc.map (ren f d) = vc := fun f d => map_ren f (hvc d)
 have hkc2 : ∀ f d, kc.map (ren f d) = kc := fun f d => map_ren f (hkc d)
 refine LoopT.intro (fun i : Nat => i ≤ L.length ∧ (List.range i).all (listedQ p key L) = true) (fun i => ⟨[Arrival.sl L, .int .i64 m, .fn (.func fv) [] vc, .fn (.func fk) [] kc, .undef, .undef, .undef, .undef, .undef, .undef, .undef, Arrival.sl L, .int .i64 L.length, .int .i64 i, .undef, .undef, .undef, .undef, .undef, .undef, .undef, .undef, .undef, .undef, .undef, .undef, .undef, .undef, .undef, .undef, .undef, .undef, .undef, .undef, .undef, .undef, .undef, .undef, .undef, .undef, .undef, .undef, .undef, .undef], [], 0⟩) (fun i => L.length - i) 0 ⟨Nat.zero_le _, rfl⟩ ?_ (fun i hi => ?_)
 · refine Weak.cut (0) (by simp) (by simp) ?_ ?_
   · simp [LeC, LeV, ren, cutF, hvc2, hkc2]
   · rfl
 simp -implicitDefEqProofs -dsimp only [go_sem]
 refine condT.split (fun h1 => ?_) (fun h1 => ?_)
 · simp -implicitDefEqProofs -dsimp only [go_sem, h1]
   have hi' : i < L.length := by simpa using h1
   have h5 := Arrival.csl L[i]
   have hr := rows_at Arrival.csl hi'
   (repeat1' (first | simp -implicitDefEqProofs -dsimp only [go_sem, hr, Arrival.cs] | simp -dsimp (disch := omega) only [wrap_i64]))
   repeat (with_reducible refine sideA ?_)
   refine callT.intro (hv L[i]) ⟨.inl rfl, LeL_same (hvc2 _ _)⟩ (.inl (by simp only [List.nil_append, List.cons_append, List.all_cons, hvc, Bool.and_true]; rfl)) ⟨refOk_fn (hvc 3), rfl⟩ ?_
   simp -implicitDefEqProofs -dsimp only [go_sem]
   refine guardT.splitF (fun h2 => ?_) (fun h2 => ?_) <;> simp -implicitDefEqProofs -dsimp only [go_sem, h2]
   · have hw : p L[i] = true := by simpa using h2
     refine guardT.splitT (fun h3 => ?_) (fun h3 => ?_) <;> simp -implicitDefEqProofs -dsimp only [go_sem, h3]
     · obtain ⟨j, rfl⟩ : ∃ j, i = j + 1 := ⟨i - 1, by simp at h3; omega⟩
       have hj : j < L.length := by omega
       refine callT.intro (hkey L[j + 1]) ⟨.inl rfl, LeL_same (hkc2 _ _)⟩ (.inl (by simp only [List.nil_append, List.cons_append, List.all_cons, hkc, Bool.and_true]; rfl)) ⟨refOk_fn (hkc 3), rfl⟩ ?_
       have hw1 : IntKind.i64.wrap (((j + 1 : Nat) : Int) - 1) = (j : Int) := by rw [wrap_i64 (by omega) (by omega)]; omega
       have hr2 := rows_at Arrival.csl hj
       (repeat1' (first | simp -implicitDefEqProofs -dsimp only [go_sem, hw1, hr2, Arrival.cs] | simp -dsimp (disch := omega) only [wrap_i64]))
       repeat (with_reducible refine sideA ?_)
       refine callT.intro (hkey L[j]) ⟨.inl rfl, LeL_same (hkc2 _ _)⟩ (.inl (by simp only [List.nil_append, List.cons_append, List.all_cons, hkc, Bool.and_true]; rfl)) ⟨refOk_fn (hkc 3), rfl⟩ ?_
       (repeat1' (first | simp -implicitDefEqProofs -dsimp only [go_sem] | simp -dsimp (disch := omega) only [wrap_i64]))
       refine condT.split (fun h4 => ?_) (fun h4 => ?_) <;> simp -implicitDefEqProofs -dsimp only [go_sem, h4]
       · refine WeakR.drop' ?_ rfl
         have hq : listedQ p key L (j + 1) = false := by
           rw [listedQ_succ hi', hw]
           simp at h4 ⊢
           omega
         rw [listedB_false hi' hq]
       · refine ⟨j + 1 + 1, ⟨hi', range_all_succ hi.2 (by rw [listedQ_succ hi', hw]; simp at h4 ⊢; omega)⟩, ?_, by omega⟩
         refine Weak.cut (0) (by simp) (by simp) ?_ ?_
         · rw [wrap_i64 (by omega) (by omega)]
           simp [LeC, LeV, ren, cutF, hvc2, hkc2]
         · rfl
     · have h0 : i = 0 := by simp at h3; omega
       refine ⟨i + 1, ⟨hi', range_all_succ hi.2 (by subst h0; rw [listedQ_zero hi', hw])⟩, ?_, by omega⟩
       refine Weak.cut (0) (by simp) (by simp) ?_ ?_
       · rw [wrap_i64 (by omega) (by omega)]
         simp [LeC, LeV, ren, cutF, hvc2, hkc2]
       · rfl
   · have hw : p L[i] = false := by simpa using h2
     refine WeakR.drop' ?_ rfl
     have hq : listedQ p key L i = false := by simp [listedQ, hi', hw]
     rw [listedB_false hi' hq]
 · simp -implicitDefEqProofs -dsimp only [go_sem, h1]
   refine WeakR.drop' ?_ rfl
   have : i = L.length := by simp at h1; omega
   subst this
   rw [listedB, hi.2]
   simp
   try omega
end Go.Proofs
end
section
set_option maxRecDepth 100000
namespace Go.Proofs
open Go.Lv
structure Origin where
 X : Int
 Y : Int
 Tick : Int
def Origin.cs (r : Origin) : List V := [.int .i64 r.X, .int .i64 r.Y, .int .i64 r.Tick]
def Origin.v (r : Origin) : V := .agg [.int .i64 r.X, .int .i64 r.Y, .int .i64 r.Tick]
theorem Origin.csl (a : Origin) : a.cs.length = 3 := rfl
instance : FlatP Origin.cs 3 := ⟨fun _ => rfl, fun _ d => by cases d <;> rfl, fun _ => rfl, fun _ => rfl⟩
def Origin.ok (r : Origin) : Prop := i64R r.X ∧ i64R r.Y ∧ i64R r.Tick
abbrev Origin.rows (L : List Origin) : List V := Go.Lv.rows Origin.cs L
abbrev Origin.sl (L : List Origin) : V := .sl L.length 3 (Go.Lv.rows Origin.cs L)
abbrev Origin.zs : List V := [.int .i64 0, .int .i64 0, .int .i64 0]
def Origin.mk1 (k : Int) : Origin := ⟨k, k + 1, k + 1 + 1⟩
def Origin.marks (k : Int) (n : Nat) : List Origin := (List.range n).map fun i : Nat => Origin.mk1 (k + 3 * (i : Int))
@[simp] theorem Origin.marks_len (k : Int) (n : Nat) : (Origin.marks k n).length = n := by simp [Origin.marks]
end Go.Proofs
end
section
namespace Go.Proofs
open Go.Lv
def isq : Nat → Nat
 | 0 => 0
 | n + 1 => if (isq n + 1) * (isq n + 1) ≤ n + 1 then isq n + 1 else isq n
theorem isq_spec : ∀ n, isq n * isq n ≤ n ∧ n < (isq n + 1) * (isq n + 1)
 | 0 => by simp [isq]
 | n + 1 => by
   have ih := isq_spec n
   unfold isq
   split
   · rename_i h
     refine ⟨h, ?_⟩
     have e : (isq n + 1 + 1) * (isq n + 1 + 1) = (isq n + 1) * (isq n + 1) + 2 * (isq n + 1) + 1 := by
       simp only [Nat.add_mul, Nat.mul_add]; omega
     omega
   · rename_i h
     omega
theorem isq_le {n m : Nat} : m ≤ isq n ↔ m * m ≤ n := by
 have h := isq_spec n
 constructor
 · intro g; exact Nat.le_trans (Nat.mul_self_le_mul_self g) h.1
 · intro g
   by_cases c : m ≤ isq n
   · exact c
   · have := Nat.mul_self_le_mul_self (show isq n + 1 ≤ m by omega)
     omega
def sqD (a : Arrival) (x y : Int) : Int := 400 * ((a.X - x) * (a.X - x) + (a.Y - y) * (a.Y - y))
theorem sqD_nonneg (a : Arrival) (x y : Int) : 0 ≤ sqD a x y := by
 have h1 := mul_self_nonneg' (a.X - x)
 have h2 := mul_self_nonneg' (a.Y - y)
 unfold sqD; omega
theorem sqD_le {a : Arrival} {x y : Int} (hx : 0 ≤ x ∧ x ≤ 999) (hy : 0 ≤ y ∧ y ≤ 999) (ax : 0 ≤ a.X ∧ a.X ≤ 999) (ay : 0 ≤ a.Y ∧ a.Y ≤ 999) : sqD a x y ≤ 798400800 := by
 have h1 := sq_le (x := a.X - x) (b := 999) (by omega)
 have h2 := sq_le (x := a.Y - y) (b := 999) (by omega)
 unfold sqD; omega
def rootD (a : Arrival) (x y : Int) : Nat := isq (sqD a x y).toNat
theorem rootD_le {a : Arrival} {x y : Int} (hx : 0 ≤ x ∧ x ≤ 999) (hy : 0 ≤ y ∧ y ≤ 999) (ax : 0 ≤ a.X ∧ a.X ≤ 999) (ay : 0 ≤ a.Y ∧ a.Y ≤ 999) : rootD a x y ≤ 28300 := by
 have h := sqD_le hx hy ax ay
 have h2 := sqD_nonneg a x y
 have h1 := (isq_spec (sqD a x y).toNat).1
 by_cases c : rootD a x y ≤ 28300
 · exact c
 · have := Nat.mul_self_le_mul_self (show 28301 ≤ isq (sqD a x y).toNat by unfold rootD at c; omega)
   omega
def exactD (a : Arrival) (x y : Int) : Bool := decide ((rootD a x y : Int) * (rootD a x y : Int) = sqD a x y)
def upD (a : Arrival) (x y : Int) : Int := if exactD a x y = true then (rootD a x y : Int) else (rootD a x y : Int) + 1
def lowD (a : Arrival) (x y : Int) : Int := max 0 (a.Tick - a.Error - rootD a x y)
def highD (a : Arrival) (x y : Int) : Int := min 1000000 (a.Tick + a.Error - upD a x y)
def fitB (a : Arrival) (o : Origin) : Bool := inB' o.Tick (lowD a o.X o.Y) (highD a o.X o.Y)
theorem int_sq_le {s : Int} (hs : 0 ≤ s) {d : Int} (hd : 0 ≤ d) : d * d ≤ s ↔ d ≤ (isq s.toNat : Int) := by
 obtain ⟨n, rfl⟩ := Int.eq_ofNat_of_zero_le hs
 obtain ⟨m, rfl⟩ := Int.eq_ofNat_of_zero_le hd
 have h := isq_le (n := n) (m := m)
 have e : ((m * m : Nat) : Int) = (m : Int) * (m : Int) := Int.natCast_mul m m
 simp only [Int.toNat_natCast]
 omega
theorem sqD_up {a : Arrival} {x y d : Int} (hd : 0 ≤ d) : sqD a x y ≤ d * d ↔ upD a x y ≤ d := by
 have hs := sqD_nonneg a x y
 have h1 := int_sq_le hs hd
 have h0 := int_sq_le hs (d := (rootD a x y : Int)) (by omega)
 have hr : (rootD a x y : Int) * (rootD a x y : Int) ≤ sqD a x y := h0.2 (Int.le_refl _)
 have hr1 : ((isq (sqD a x y).toNat : Nat) : Int) = (rootD a x y : Int) := rfl
 rw [hr1] at h1
 unfold upD exactD
 by_cases e : (rootD a x y : Int) * (rootD a x y : Int) = sqD a x y
 · rw [if_pos (by simpa using e)]
   constructor
   · intro g
     by_cases c : (rootD a x y : Int) ≤ d
     · exact c
     · exfalso
       obtain ⟨m, rfl⟩ := Int.eq_ofNat_of_zero_le hd
       have := Nat.mul_self_lt_mul_self (show m < rootD a x y by omega)
       have e1 : ((m * m : Nat) : Int) = (m : Int) * (m : Int) := Int.natCast_mul m m
       have e2 : ((rootD a x y * rootD a x y : Nat) : Int) = (rootD a x y : Int) * (rootD a x y : Int) := Int.natCast_mul _ _
       omega
   · intro g
     rw [← e]
     obtain ⟨m, rfl⟩ := Int.eq_ofNat_of_zero_le hd
     have := Nat.mul_self_le_mul_self (show rootD a x y ≤ m by omega)
     have e1 : ((m * m : Nat) : Int) = (m : Int) * (m : Int) := Int.natCast_mul m m
     have e2 : ((rootD a x y * rootD a x y : Nat) : Int) = (rootD a x y : Int) * (rootD a x y : Int) := Int.natCast_mul _ _
     omega
 · rw [if_neg (by simpa using e)]
   constructor
   · intro g
     by_cases c : d * d ≤ sqD a x y
     · have ee : d * d = sqD a x y := by omega
       have c1 := h1.1 c
       exfalso
       obtain ⟨m, rfl⟩ := Int.eq_ofNat_of_zero_le hd
       have := Nat.mul_self_le_mul_self (show m ≤ rootD a x y by omega)
       have e1 : ((m * m : Nat) : Int) = (m : Int) * (m : Int) := Int.natCast_mul m m
       have e2 : ((rootD a x y * rootD a x y : Nat) : Int) = (rootD a x y : Int) * (rootD a x y : Int) := Int.natCast_mul _ _
       omega
     · have : ¬ d ≤ (rootD a x y : Int) := fun k => c (h1.2 k)
       omega
   · intro g
     have : ¬ d * d ≤ sqD a x y := fun k => by have := h1.1 k; omega
     omega
theorem fitB_spec {a : Arrival} {o : Origin} (ht : 0 ≤ o.Tick ∧ o.Tick ≤ 1000000) :
   (decide (0 ≤ a.Tick + a.Error - o.Tick) && (decide (sqD a o.X o.Y ≤ (a.Tick + a.Error - o.Tick) * (a.Tick + a.Error - o.Tick)) && (decide (a.Tick - a.Error - o.Tick ≤ 0) || decide ((a.Tick - a.Error - o.Tick) * (a.Tick - a.Error - o.Tick) ≤ sqD a o.X o.Y)))) = fitB a o := by
 have hs := sqD_nonneg a o.X o.Y
 have hu0 : 0 ≤ upD a o.X o.Y := by unfold upD; split <;> omega
 rw [Bool.eq_iff_iff]
 simp only [Bool.and_eq_true, Bool.or_eq_true, decide_eq_true_eq]
 unfold fitB lowD highD
 rw [inB'_iff]
 constructor
 · rintro ⟨h1, h2, h3⟩
   have g := (sqD_up h1).1 h2
   have k : a.Tick - a.Error - o.Tick ≤ (rootD a o.X o.Y : Int) := by
     rcases h3 with h3 | h3
     · omega
     · by_cases c : 0 ≤ a.Tick - a.Error - o.Tick
       · exact (int_sq_le hs c).1 h3
       · omega
   omega
 · rintro ⟨h1, h2⟩
   have h0 : 0 ≤ a.Tick + a.Error - o.Tick := by omega
   refine ⟨h0, (sqD_up h0).2 (by omega), ?_⟩
   by_cases c : a.Tick - a.Error - o.Tick ≤ 0
   · exact .inl c
   · exact .inr ((int_sq_le hs (by omega)).2 (by show _ ≤ (rootD a o.X o.Y : Int); omega))
end Go.Proofs
end
section
set_option maxRecDepth 100000
set_option maxHeartbeats 1000000
namespace Go.Proofs
open Go.Lv
def arrB (a : Arrival) : Bool := inB' a.Id 1 99 && placeB a.X a.Y && inB' a.Tick 0 1000000 && inB' a.Error 0 1000
theorem arrB_iff {a : Arrival} : arrB a = true ↔ (1 ≤ a.Id ∧ a.Id ≤ 99) ∧ ((0 ≤ a.X ∧ a.X ≤ 999) ∧ 0 ≤ a.Y ∧ a.Y ≤ 999) ∧ (0 ≤ a.Tick ∧ a.Tick ≤ 1000000) ∧ 0 ≤ a.Error ∧ a.Error ≤ 1000 := by simp [arrB, inB', placeB, and_assoc]
def arrsB (L : List Arrival) : Bool := listedB arrB Arrival.Id 8 L
theorem isArrival_ok (a : Arrival) : Ctr Try.prog 63 [a.v] [] (.bool (arrB a)) [] := by
 refine Ctr.intro Try.mixed Try.func63 rfl Try.okF63 ?_
 simp -implicitDefEqProofs -dsimp only [go_sem, Nat.reduceSub, Nat.reduceAdd, Nat.reduceMul, Nat.reduceLT, Nat.reduceLeDiff, Nat.reduceEqDiff, Nat.reduceDiv, Nat.reduceMod, Int.reduceToNat, Int.reduceLE, Int.reduceLT, Int.reduceBEq, Int.reduceBNe, Int.reduceNeg, Int.reduceAdd, Int.reduceSub, Int.reduceMul, reduceCtorEq, Try.ntmps63, Try.results63]
 simp -implicitDefEqProofs -dsimp only [go_sem, Nat.reduceSub, Nat.reduceAdd, Nat.reduceMul, Nat.reduceLT, Nat.reduceLeDiff, Nat.reduceEqDiff, Nat.reduceDiv, Nat.reduceMod, Int.reduceToNat, Int.reduceLE, Int.reduceLT, Int.reduceBEq, Int.reduceBNe, Int.reduceNeg, Int.reduceAdd, Int.reduceSub, Int.reduceMul, reduceCtorEq, Arrival.v]
 repeat' (first | (refine WeakR.drop' ?_ (by rfl); first | rfl | (simp [arrB, *]; done)) | ((first | refine callT.at (in_ok _ _ _) ⟨leA, leA, leA, trivial⟩ ?_ | refine callS.at (in_ok _ _ _) ⟨leA, leA, leA, trivial⟩ ?_); simp -implicitDefEqProofs -dsimp only [go_sem, Nat.reduceSub, Nat.reduceAdd, Nat.reduceMul, Nat.reduceLT, Nat.reduceLeDiff, Nat.reduceEqDiff, Nat.reduceDiv, Nat.reduceMod, Int.reduceToNat, Int.reduceLE, Int.reduceLT, Int.reduceBEq, Int.reduceBNe, Int.reduceNeg, Int.reduceAdd, Int.reduceSub, Int.reduceMul, reduceCtorEq, *]) | ((first | refine callT.at (isPlace_ok _ _) ⟨leA, leA, trivial⟩ ?_ | refine callS.at (isPlace_ok _ _) ⟨leA, leA, trivial⟩ ?_); simp -implicitDefEqProofs -dsimp only [go_sem, Nat.reduceSub, Nat.reduceAdd, Nat.reduceMul, Nat.reduceLT, Nat.reduceLeDiff, Nat.reduceEqDiff, Nat.reduceDiv, Nat.reduceMod, Int.reduceToNat, Int.reduceLE, Int.reduceLT, Int.reduceBEq, Int.reduceBNe, Int.reduceNeg, Int.reduceAdd, Int.reduceSub, Int.reduceMul, reduceCtorEq, *]) | ((first | refine callT.at (isTick_ok _) ⟨leA, trivial⟩ ?_ | refine callS.at (isTick_ok _) ⟨leA, trivial⟩ ?_); simp -implicitDefEqProofs -dsimp only [go_sem, Nat.reduceSub, Nat.reduceAdd, Nat.reduceMul, Nat.reduceLT, Nat.reduceLeDiff, Nat.reduceEqDiff, Nat.reduceDiv, Nat.reduceMod, Int.reduceToNat, Int.reduceLE, Int.reduceLT, Int.reduceBEq, Int.reduceBNe, Int.reduceNeg, Int.reduceAdd, Int.reduceSub, Int.reduceMul, reduceCtorEq, *]) | (refine guardT.splitT (fun _ => ?_) (fun _ => ?_) <;> simp -implicitDefEqProofs -dsimp only [go_sem, Nat.reduceSub, Nat.reduceAdd, Nat.reduceMul, Nat.reduceLT, Nat.reduceLeDiff, Nat.reduceEqDiff, Nat.reduceDiv, Nat.reduceMod, Int.reduceToNat, Int.reduceLE, Int.reduceLT, Int.reduceBEq, Int.reduceBNe, Int.reduceNeg, Int.reduceAdd, Int.reduceSub, Int.reduceMul, reduceCtorEq, *]) | (refine guardT.splitF (fun _ => ?_) (fun _ => ?_) <;> simp -implicitDefEqProofs -dsimp only [go_sem, Nat.reduceSub, Nat.reduceAdd, Nat.reduceMul, Nat.reduceLT, Nat.reduceLeDiff, Nat.reduceEqDiff, Nat.reduceDiv, Nat.reduceMod, Int.reduceToNat, Int.reduceLE, Int.reduceLT, Int.reduceBEq, Int.reduceBNe, Int.reduceNeg, Int.reduceAdd, Int.reduceSub, Int.reduceMul, reduceCtorEq, *]) | (refine condT.split (fun _ => ?_) (fun _ => ?_) <;> simp -implicitDefEqProofs -dsimp only [go_sem, Nat.reduceSub, Nat.reduceAdd, Nat.reduceMul, Nat.reduceLT, Nat.reduceLeDiff, Nat.reduceEqDiff, Nat.reduceDiv, Nat.reduceMod, Int.reduceToNat, Int.reduceLE, Int.reduceLT, Int.reduceBEq, Int.reduceBNe, Int.reduceNeg, Int.reduceAdd, Int.reduceSub, Int.reduceMul, reduceCtorEq, *]))
theorem arrId_ok (a : Arrival) : Ctr Try.prog 64 [a.v] [] (.int .i64 a.Id) [] := by
 refine Ctr.intro Try.mixed Try.func64 rfl Try.okF64 ?_
 simp -implicitDefEqProofs -dsimp only [go_sem, Nat.reduceSub, Nat.reduceAdd, Nat.reduceMul, Nat.reduceLT, Nat.reduceLeDiff, Nat.reduceEqDiff, Nat.reduceDiv, Nat.reduceMod, Int.reduceToNat, Int.reduceLE, Int.reduceLT, Int.reduceBEq, Int.reduceBNe, Int.reduceNeg, Int.reduceAdd, Int.reduceSub, Int.reduceMul, reduceCtorEq, Try.ntmps64, Try.results64]
 simp -implicitDefEqProofs -dsimp only [go_sem, Nat.reduceSub, Nat.reduceAdd, Nat.reduceMul, Nat.reduceLT, Nat.reduceLeDiff, Nat.reduceEqDiff, Nat.reduceDiv, Nat.reduceMod, Int.reduceToNat, Int.reduceLE, Int.reduceLT, Int.reduceBEq, Int.reduceBNe, Int.reduceNeg, Int.reduceAdd, Int.reduceSub, Int.reduceMul, reduceCtorEq, Arrival.v]
 exact WeakR.drop' rfl (by rfl)
theorem iAreArrivals_ok (L : List Arrival) (hl : L.length ≤ 281474976710656) : Ctr Try.prog 28 [Arrival.sl L] [] (.bool (arrsB L)) [] := by
 refine Ctr.intro Try.mixed Try.func28 rfl Try.okF28 ?_
 simp -implicitDefEqProofs -dsimp only [go_sem, Nat.reduceSub, Nat.reduceAdd, Nat.reduceMul, Nat.reduceLT, Nat.reduceLeDiff, Nat.reduceEqDiff, Nat.reduceDiv, Nat.reduceMod, Int.reduceToNat, Int.reduceLE, Int.reduceLT, Int.reduceBEq, Int.reduceBNe, Int.reduceNeg, Int.reduceAdd, Int.reduceSub, Int.reduceMul, reduceCtorEq, Try.ntmps28, Try.results28]
 (first | refine callT.at (areListedArrival_ok L arrB Arrival.Id 8 _ _ [] [] (fun _ => rfl) (fun _ => rfl) isArrival_ok arrId_ok 8 rfl hl) ⟨leA, leA, leA, leA, trivial⟩ ?_ | refine callS.at (areListedArrival_ok L arrB Arrival.Id 8 _ _ [] [] (fun _ => rfl) (fun _ => rfl) isArrival_ok arrId_ok 8 rfl hl) ⟨leA, leA, leA, leA, trivial⟩ ?_)
 simp -implicitDefEqProofs -dsimp only [go_sem, Nat.reduceSub, Nat.reduceAdd, Nat.reduceMul, Nat.reduceLT, Nat.reduceLeDiff, Nat.reduceEqDiff, Nat.reduceDiv, Nat.reduceMod, Int.reduceToNat, Int.reduceLE, Int.reduceLT, Int.reduceBEq, Int.reduceBNe, Int.reduceNeg, Int.reduceAdd, Int.reduceSub, Int.reduceMul, reduceCtorEq]
 exact WeakR.drop' rfl (by rfl)
theorem l10One_ok (a : Arrival) : Ctr Try.prog 72 [a.v] [] (.bool (arrB a)) [] := by
 refine Ctr.intro Try.mixed Try.func72 rfl Try.okF72 ?_
 simp -implicitDefEqProofs -dsimp only [go_sem, Nat.reduceSub, Nat.reduceAdd, Nat.reduceMul, Nat.reduceLT, Nat.reduceLeDiff, Nat.reduceEqDiff, Nat.reduceDiv, Nat.reduceMod, Int.reduceToNat, Int.reduceLE, Int.reduceLT, Int.reduceBEq, Int.reduceBNe, Int.reduceNeg, Int.reduceAdd, Int.reduceSub, Int.reduceMul, reduceCtorEq, Try.ntmps72, Try.results72]
 simp -implicitDefEqProofs -dsimp only [go_sem, Nat.reduceSub, Nat.reduceAdd, Nat.reduceMul, Nat.reduceLT, Nat.reduceLeDiff, Nat.reduceEqDiff, Nat.reduceDiv, Nat.reduceMod, Int.reduceToNat, Int.reduceLE, Int.reduceLT, Int.reduceBEq, Int.reduceBNe, Int.reduceNeg, Int.reduceAdd, Int.reduceSub, Int.reduceMul, reduceCtorEq, Arrival.v]
 repeat' (first | (refine WeakR.drop' ?_ (by rfl); first | rfl | (simp [arrB, *]; done)) | ((first | refine callT.at (l1In_ok _ _ _) ⟨leA, leA, leA, trivial⟩ ?_ | refine callS.at (l1In_ok _ _ _) ⟨leA, leA, leA, trivial⟩ ?_); simp -implicitDefEqProofs -dsimp only [go_sem, Nat.reduceSub, Nat.reduceAdd, Nat.reduceMul, Nat.reduceLT, Nat.reduceLeDiff, Nat.reduceEqDiff, Nat.reduceDiv, Nat.reduceMod, Int.reduceToNat, Int.reduceLE, Int.reduceLT, Int.reduceBEq, Int.reduceBNe, Int.reduceNeg, Int.reduceAdd, Int.reduceSub, Int.reduceMul, reduceCtorEq, *]) | ((first | refine callT.at (l2Place_ok _ _) ⟨leA, leA, trivial⟩ ?_ | refine callS.at (l2Place_ok _ _) ⟨leA, leA, trivial⟩ ?_); simp -implicitDefEqProofs -dsimp only [go_sem, Nat.reduceSub, Nat.reduceAdd, Nat.reduceMul, Nat.reduceLT, Nat.reduceLeDiff, Nat.reduceEqDiff, Nat.reduceDiv, Nat.reduceMod, Int.reduceToNat, Int.reduceLE, Int.reduceLT, Int.reduceBEq, Int.reduceBNe, Int.reduceNeg, Int.reduceAdd, Int.reduceSub, Int.reduceMul, reduceCtorEq, *]) | ((first | refine callT.at (l2Tick_ok _) ⟨leA, trivial⟩ ?_ | refine callS.at (l2Tick_ok _) ⟨leA, trivial⟩ ?_); simp -implicitDefEqProofs -dsimp only [go_sem, Nat.reduceSub, Nat.reduceAdd, Nat.reduceMul, Nat.reduceLT, Nat.reduceLeDiff, Nat.reduceEqDiff, Nat.reduceDiv, Nat.reduceMod, Int.reduceToNat, Int.reduceLE, Int.reduceLT, Int.reduceBEq, Int.reduceBNe, Int.reduceNeg, Int.reduceAdd, Int.reduceSub, Int.reduceMul, reduceCtorEq, *]) | (refine guardT.splitT (fun _ => ?_) (fun _ => ?_) <;> simp -implicitDefEqProofs -dsimp only [go_sem, Nat.reduceSub, Nat.reduceAdd, Nat.reduceMul, Nat.reduceLT, Nat.reduceLeDiff, Nat.reduceEqDiff, Nat.reduceDiv, Nat.reduceMod, Int.reduceToNat, Int.reduceLE, Int.reduceLT, Int.reduceBEq, Int.reduceBNe, Int.reduceNeg, Int.reduceAdd, Int.reduceSub, Int.reduceMul, reduceCtorEq, *]) | (refine guardT.splitF (fun _ => ?_) (fun _ => ?_) <;> simp -implicitDefEqProofs -dsimp only [go_sem, Nat.reduceSub, Nat.reduceAdd, Nat.reduceMul, Nat.reduceLT, Nat.reduceLeDiff, Nat.reduceEqDiff, Nat.reduceDiv, Nat.reduceMod, Int.reduceToNat, Int.reduceLE, Int.reduceLT, Int.reduceBEq, Int.reduceBNe, Int.reduceNeg, Int.reduceAdd, Int.reduceSub, Int.reduceMul, reduceCtorEq, *]) | (refine condT.split (fun _ => ?_) (fun _ => ?_) <;> simp -implicitDefEqProofs -dsimp only [go_sem, Nat.reduceSub, Nat.reduceAdd, Nat.reduceMul, Nat.reduceLT, Nat.reduceLeDiff, Nat.reduceEqDiff, Nat.reduceDiv, Nat.reduceMod, Int.reduceToNat, Int.reduceLE, Int.reduceLT, Int.reduceBEq, Int.reduceBNe, Int.reduceNeg, Int.reduceAdd, Int.reduceSub, Int.reduceMul, reduceCtorEq, *]))
theorem l10Good_ok (L : List Arrival) (hl : L.length ≤ 281474976710656) : Ctr Try.prog 42 [Arrival.sl L] [] (.bool (arrsB L)) [] := by
 refine Ctr.intro Try.mixed Try.func42 rfl Try.okF42 ?_
 simp -implicitDefEqProofs -dsimp only [go_sem, Nat.reduceSub, Nat.reduceAdd, Nat.reduceMul, Nat.reduceLT, Nat.reduceLeDiff, Nat.reduceEqDiff, Nat.reduceDiv, Nat.reduceMod, Int.reduceToNat, Int.reduceLE, Int.reduceLT, Int.reduceBEq, Int.reduceBNe, Int.reduceNeg, Int.reduceAdd, Int.reduceSub, Int.reduceMul, reduceCtorEq, Try.ntmps42, Try.results42]
 refine LoopT.intro (fun i : Nat => i ≤ (L).length ∧ (List.range i).all (listedQ (arrB) Arrival.Id (L)) = true) (fun i => ⟨[Arrival.sl L, .undef, .undef, .int .i64 i, .undef, .undef, .undef, .undef, .undef, .undef, .undef, .undef, .undef, .undef, .undef, .undef, .undef, .undef, .undef, .undef, .undef, .undef, .undef, .undef, .undef, .undef, .undef, .undef, .undef, .undef, .undef, .undef, .undef, .undef, .undef, .undef, .undef], [], 0⟩) (fun i => (L).length - i) 0 ⟨Nat.zero_le _, rfl⟩ ?_ (fun i hi => ?_)
 · refine Weak.cut (0) (by simp) (by simp) ?_ ?_
   · simp [LeC, LeV, ren, cutF]
   · first | rfl | simp [cutH, cutB, ren, map_ren_rows]
 simp -implicitDefEqProofs -dsimp only [go_sem, Nat.reduceSub, Nat.reduceAdd, Nat.reduceMul, Nat.reduceLT, Nat.reduceLeDiff, Nat.reduceEqDiff, Nat.reduceDiv, Nat.reduceMod, Int.reduceToNat, Int.reduceLE, Int.reduceLT, Int.reduceBEq, Int.reduceBNe, Int.reduceNeg, Int.reduceAdd, Int.reduceSub, Int.reduceMul, reduceCtorEq]
 refine condT.split (fun h1 => ?_) (fun h1 => ?_)
 rotate_left
 · simp -implicitDefEqProofs -dsimp only [go_sem, Nat.reduceSub, Nat.reduceAdd, Nat.reduceMul, Nat.reduceLT, Nat.reduceLeDiff, Nat.reduceEqDiff, Nat.reduceDiv, Nat.reduceMod, Int.reduceToNat, Int.reduceLE, Int.reduceLT, Int.reduceBEq, Int.reduceBNe, Int.reduceNeg, Int.reduceAdd, Int.reduceSub, Int.reduceMul, reduceCtorEq, h1]
   have hi' : i = (L).length := by simp at h1; omega
   subst hi'
   refine WeakR.drop' ?_ (by rfl)
   congr 1
   rw [arrsB, listedB, hi.2]
   simp
   omega
 · simp -implicitDefEqProofs -dsimp only [go_sem, Nat.reduceSub, Nat.reduceAdd, Nat.reduceMul, Nat.reduceLT, Nat.reduceLeDiff, Nat.reduceEqDiff, Nat.reduceDiv, Nat.reduceMod, Int.reduceToNat, Int.reduceLE, Int.reduceLT, Int.reduceBEq, Int.reduceBNe, Int.reduceNeg, Int.reduceAdd, Int.reduceSub, Int.reduceMul, reduceCtorEq, h1]
   have hi' : i < (L).length := by simpa using h1
   have h5 := Arrival.csl (L)[i]
   have hr := rows_at Arrival.csl hi'
   have hbad : listedQ (arrB) Arrival.Id (L) i = false → _ := fun hq => (show V.bool false = V.bool (arrsB L) by rw [arrsB, listedB_false hi' hq])
   cases i with
   | zero =>
     have hz : ((0 : Nat) : Int) = 0 := rfl
     have hr0 := hr
     rw [Nat.zero_mul, List.drop_zero] at hr0
     (repeat ((repeat1' (first | simp -implicitDefEqProofs -dsimp only [go_sem, Nat.reduceSub, Nat.reduceAdd, Nat.reduceMul, Nat.reduceLT, Nat.reduceLeDiff, Nat.reduceEqDiff, Nat.reduceDiv, Nat.reduceMod, Int.reduceToNat, Int.reduceLE, Int.reduceLT, Int.reduceBEq, Int.reduceBNe, Int.reduceNeg, Int.reduceAdd, Int.reduceSub, Int.reduceMul, reduceCtorEq, hr, hr0, hz, Arrival.cs] | simp -dsimp (disch := omega) only [wrap_i64])); repeat (with_reducible refine sideA ?_)))
     repeat' (first | (refine WeakR.drop' (hbad ?_) (by rfl); (rw [listedQ_zero hi']; (try simp only [Bool.not_eq_false', Bool.not_eq_true', decide_eq_false_iff_not, decide_eq_true_eq] at *); simp [*]; try omega; done)) | ((first | refine callT.at (l10One_ok (L[0])) ⟨leA, trivial⟩ ?_ | refine callS.at (l10One_ok (L[0])) ⟨leA, trivial⟩ ?_); simp -implicitDefEqProofs -dsimp only [go_sem, Nat.reduceSub, Nat.reduceAdd, Nat.reduceMul, Nat.reduceLT, Nat.reduceLeDiff, Nat.reduceEqDiff, Nat.reduceDiv, Nat.reduceMod, Int.reduceToNat, Int.reduceLE, Int.reduceLT, Int.reduceBEq, Int.reduceBNe, Int.reduceNeg, Int.reduceAdd, Int.reduceSub, Int.reduceMul, reduceCtorEq, *]) | (refine guardT.splitT (fun _ => ?_) (fun _ => ?_) <;> simp -implicitDefEqProofs -dsimp only [go_sem, Nat.reduceSub, Nat.reduceAdd, Nat.reduceMul, Nat.reduceLT, Nat.reduceLeDiff, Nat.reduceEqDiff, Nat.reduceDiv, Nat.reduceMod, Int.reduceToNat, Int.reduceLE, Int.reduceLT, Int.reduceBEq, Int.reduceBNe, Int.reduceNeg, Int.reduceAdd, Int.reduceSub, Int.reduceMul, reduceCtorEq, *]) | (refine guardT.splitF (fun _ => ?_) (fun _ => ?_) <;> simp -implicitDefEqProofs -dsimp only [go_sem, Nat.reduceSub, Nat.reduceAdd, Nat.reduceMul, Nat.reduceLT, Nat.reduceLeDiff, Nat.reduceEqDiff, Nat.reduceDiv, Nat.reduceMod, Int.reduceToNat, Int.reduceLE, Int.reduceLT, Int.reduceBEq, Int.reduceBNe, Int.reduceNeg, Int.reduceAdd, Int.reduceSub, Int.reduceMul, reduceCtorEq, *]) | (refine condT.split (fun _ => ?_) (fun _ => ?_) <;> simp -implicitDefEqProofs -dsimp only [go_sem, Nat.reduceSub, Nat.reduceAdd, Nat.reduceMul, Nat.reduceLT, Nat.reduceLeDiff, Nat.reduceEqDiff, Nat.reduceDiv, Nat.reduceMod, Int.reduceToNat, Int.reduceLE, Int.reduceLT, Int.reduceBEq, Int.reduceBNe, Int.reduceNeg, Int.reduceAdd, Int.reduceSub, Int.reduceMul, reduceCtorEq, *]) | (with_reducible refine And.intro (by first | omega | (show drawOk _ = true; kernel_rfl)) ?_; (repeat ((repeat1' (first | simp -implicitDefEqProofs -dsimp only [go_sem, Nat.reduceSub, Nat.reduceAdd, Nat.reduceMul, Nat.reduceLT, Nat.reduceLeDiff, Nat.reduceEqDiff, Nat.reduceDiv, Nat.reduceMod, Int.reduceToNat, Int.reduceLE, Int.reduceLT, Int.reduceBEq, Int.reduceBNe, Int.reduceNeg, Int.reduceAdd, Int.reduceSub, Int.reduceMul, reduceCtorEq, *, Arrival.cs] | simp -dsimp (disch := omega) only [wrap_i64])); repeat (with_reducible refine sideA ?_)))) | (refine ⟨0 + 1, ⟨hi', range_all_succ hi.2 (by rw [listedQ_zero hi']; (try simp only [Bool.not_eq_false', Bool.not_eq_true', decide_eq_false_iff_not, decide_eq_true_eq] at *); simp [*]; try omega)⟩, ?_, by omega⟩; refine Weak.cut (0) (by simp) (by simp) ?_ ?_; (· (try (repeat1' (first | simp -implicitDefEqProofs -dsimp only [go_sem, Nat.reduceSub, Nat.reduceAdd, Nat.reduceMul, Nat.reduceLT, Nat.reduceLeDiff, Nat.reduceEqDiff, Nat.reduceDiv, Nat.reduceMod, Int.reduceToNat, Int.reduceLE, Int.reduceLT, Int.reduceBEq, Int.reduceBNe, Int.reduceNeg, Int.reduceAdd, Int.reduceSub, Int.reduceMul, reduceCtorEq] | simp -dsimp (disch := omega) only [wrap_i64])); simp [LeC, LeV, ren, cutF]; try omega)); (· (first | rfl | simp [cutH, cutB, ren, map_ren_rows]))))
   | succ j =>
     have hj : j < (L).length := by omega
     have hw1 : IntKind.i64.wrap (((j + 1 : Nat) : Int) - 1) = (j : Int) := by rw [wrap_i64 (by omega) (by omega)]; omega
     have hg : decide ((0 : Int) < ((j + 1 : Nat) : Int)) = true := decide_eq_true (by omega)
     have hr2 := rows_at Arrival.csl hj
     (repeat ((repeat1' (first | simp -implicitDefEqProofs -dsimp only [go_sem, Nat.reduceSub, Nat.reduceAdd, Nat.reduceMul, Nat.reduceLT, Nat.reduceLeDiff, Nat.reduceEqDiff, Nat.reduceDiv, Nat.reduceMod, Int.reduceToNat, Int.reduceLE, Int.reduceLT, Int.reduceBEq, Int.reduceBNe, Int.reduceNeg, Int.reduceAdd, Int.reduceSub, Int.reduceMul, reduceCtorEq, hr, hg, hw1, hr2, Arrival.cs] | simp -dsimp (disch := omega) only [wrap_i64])); repeat (with_reducible refine sideA ?_)))
     repeat' (first | (refine WeakR.drop' (hbad ?_) (by rfl); (rw [listedQ_succ hi']; (try simp only [Bool.not_eq_false', Bool.not_eq_true', decide_eq_false_iff_not, decide_eq_true_eq] at *); simp [*]; try omega; done)) | ((first | refine callT.at (l10One_ok (L[j + 1])) ⟨leA, trivial⟩ ?_ | refine callS.at (l10One_ok (L[j + 1])) ⟨leA, trivial⟩ ?_); simp -implicitDefEqProofs -dsimp only [go_sem, Nat.reduceSub, Nat.reduceAdd, Nat.reduceMul, Nat.reduceLT, Nat.reduceLeDiff, Nat.reduceEqDiff, Nat.reduceDiv, Nat.reduceMod, Int.reduceToNat, Int.reduceLE, Int.reduceLT, Int.reduceBEq, Int.reduceBNe, Int.reduceNeg, Int.reduceAdd, Int.reduceSub, Int.reduceMul, reduceCtorEq, *]) | (refine guardT.splitT (fun _ => ?_) (fun _ => ?_) <;> simp -implicitDefEqProofs -dsimp only [go_sem, Nat.reduceSub, Nat.reduceAdd, Nat.reduceMul, Nat.reduceLT, Nat.reduceLeDiff, Nat.reduceEqDiff, Nat.reduceDiv, Nat.reduceMod, Int.reduceToNat, Int.reduceLE, Int.reduceLT, Int.reduceBEq, Int.reduceBNe, Int.reduceNeg, Int.reduceAdd, Int.reduceSub, Int.reduceMul, reduceCtorEq, *]) | (refine guardT.splitF (fun _ => ?_) (fun _ => ?_) <;> simp -implicitDefEqProofs -dsimp only [go_sem, Nat.reduceSub, Nat.reduceAdd, Nat.reduceMul, Nat.reduceLT, Nat.reduceLeDiff, Nat.reduceEqDiff, Nat.reduceDiv, Nat.reduceMod, Int.reduceToNat, Int.reduceLE, Int.reduceLT, Int.reduceBEq, Int.reduceBNe, Int.reduceNeg, Int.reduceAdd, Int.reduceSub, Int.reduceMul, reduceCtorEq, *]) | (refine condT.split (fun _ => ?_) (fun _ => ?_) <;> simp -implicitDefEqProofs -dsimp only [go_sem, Nat.reduceSub, Nat.reduceAdd, Nat.reduceMul, Nat.reduceLT, Nat.reduceLeDiff, Nat.reduceEqDiff, Nat.reduceDiv, Nat.reduceMod, Int.reduceToNat, Int.reduceLE, Int.reduceLT, Int.reduceBEq, Int.reduceBNe, Int.reduceNeg, Int.reduceAdd, Int.reduceSub, Int.reduceMul, reduceCtorEq, *]) | (with_reducible refine And.intro (by first | omega | (show drawOk _ = true; kernel_rfl)) ?_; (repeat ((repeat1' (first | simp -implicitDefEqProofs -dsimp only [go_sem, Nat.reduceSub, Nat.reduceAdd, Nat.reduceMul, Nat.reduceLT, Nat.reduceLeDiff, Nat.reduceEqDiff, Nat.reduceDiv, Nat.reduceMod, Int.reduceToNat, Int.reduceLE, Int.reduceLT, Int.reduceBEq, Int.reduceBNe, Int.reduceNeg, Int.reduceAdd, Int.reduceSub, Int.reduceMul, reduceCtorEq, *, Arrival.cs] | simp -dsimp (disch := omega) only [wrap_i64])); repeat (with_reducible refine sideA ?_)))) | (refine ⟨j + 1 + 1, ⟨hi', range_all_succ hi.2 (by rw [listedQ_succ hi']; (try simp only [Bool.not_eq_false', Bool.not_eq_true', decide_eq_false_iff_not, decide_eq_true_eq] at *); simp [*]; try omega)⟩, ?_, by omega⟩; refine Weak.cut (0) (by simp) (by simp) ?_ ?_; (· (try (repeat1' (first | simp -implicitDefEqProofs -dsimp only [go_sem, Nat.reduceSub, Nat.reduceAdd, Nat.reduceMul, Nat.reduceLT, Nat.reduceLeDiff, Nat.reduceEqDiff, Nat.reduceDiv, Nat.reduceMod, Int.reduceToNat, Int.reduceLE, Int.reduceLT, Int.reduceBEq, Int.reduceBNe, Int.reduceNeg, Int.reduceAdd, Int.reduceSub, Int.reduceMul, reduceCtorEq] | simp -dsimp (disch := omega) only [wrap_i64])); simp [LeC, LeV, ren, cutF]; try omega)); (· (first | rfl | simp [cutH, cutB, ren, map_ren_rows]))))
theorem root_ok (n : Int) (h0 : 0 ≤ n) (h1 : n ≤ 1000000000) : Ctr Try.prog 83 [.int .i64 n] [] (.tup [.int .i64 (isq n.toNat), .bool (decide ((isq n.toNat : Int) * (isq n.toNat : Int) = n))]) [] := by
 have hs := isq_spec n.toNat
 generalize isq n.toNat = r at *
 have e1 : ((r * r : Nat) : Int) = (r : Int) * (r : Int) := Int.natCast_mul r r
 have hr : r ≤ 40000 := by
   by_cases c : r ≤ 40000
   · exact c
   · have := Nat.mul_self_le_mul_self (show 40001 ≤ r by omega)
     omega
 have lo : ∀ m : Int, 0 ≤ m → (m * m ≤ n ↔ m ≤ r) := by
   intro m hm
   obtain ⟨k, rfl⟩ := Int.eq_ofNat_of_zero_le hm
   have e2 : ((k * k : Nat) : Int) = (k : Int) * (k : Int) := Int.natCast_mul k k
   constructor
   · intro g
     by_cases c : k ≤ r
     · omega
     · have := Nat.mul_self_le_mul_self (show r + 1 ≤ k by omega)
       omega
   · intro g
     have := Nat.mul_self_le_mul_self (show k ≤ r by omega)
     omega
 refine Ctr.intro Try.mixed Try.func83 rfl Try.okF83 ?_
 simp -implicitDefEqProofs -dsimp only [go_sem, Nat.reduceSub, Nat.reduceAdd, Nat.reduceMul, Nat.reduceLT, Nat.reduceLeDiff, Nat.reduceEqDiff, Nat.reduceDiv, Nat.reduceMod, Int.reduceToNat, Int.reduceLE, Int.reduceLT, Int.reduceBEq, Int.reduceBNe, Int.reduceNeg, Int.reduceAdd, Int.reduceSub, Int.reduceMul, reduceCtorEq, Try.ntmps83, Try.results83]
 rw [wrap_i64 (by omega) (by omega)]
 refine LoopT.intro (fun s : Int × Int => 0 ≤ s.1 ∧ s.1 ≤ r ∧ (r : Int) < s.2 ∧ s.2 ≤ n + 1) (fun s => ⟨[.int .i64 n, .undef, .undef, .undef, .int .i64 s.1, .int .i64 s.2, .undef, .undef, .undef, .undef, .undef, .undef, .undef, .undef, .undef, .undef, .undef, .undef, .undef, .undef, .undef, .undef, .undef, .undef, .undef, .undef, .undef, .undef, .undef, .undef], [], 0⟩) (fun s => (s.2 - s.1).toNat) (0, n + 1) ⟨by omega, by omega, ?_, by omega⟩ ?_ (fun s hi => ?_)
 · show (r : Int) < n + 1
   by_cases c : r = 0
   · omega
   · have := Nat.mul_le_mul_left r (show 1 ≤ r by omega)
     omega
 · refine Weak.cut (0) (by simp) (by simp) ?_ ?_
   · simp [LeC, LeV, ren, cutF]
   · rfl
 obtain ⟨low, high⟩ := s
 simp only at hi ⊢
 (repeat1' (first | simp -implicitDefEqProofs -dsimp only [go_sem, Nat.reduceSub, Nat.reduceAdd, Nat.reduceMul, Nat.reduceLT, Nat.reduceLeDiff, Nat.reduceEqDiff, Nat.reduceDiv, Nat.reduceMod, Int.reduceToNat, Int.reduceLE, Int.reduceLT, Int.reduceBEq, Int.reduceBNe, Int.reduceNeg, Int.reduceAdd, Int.reduceSub, Int.reduceMul, reduceCtorEq] | simp -dsimp (disch := omega) only [wrap_i64]))
 refine condT.split (fun g1 => ?_) (fun g1 => ?_)
 · have g1' := of_decide_eq_true g1
   have ht : (low + high).tdiv 2 = (low + high) / 2 := Int.tdiv_eq_ediv_of_nonneg (by omega)
   have hm1 : 0 < (low + high) / 2 := by omega
   obtain ⟨m, hm⟩ : ∃ m, m = (low + high) / 2 := ⟨_, rfl⟩
   have hb : low < m ∧ m < high := by omega
   have hmw : IntKind.i64.wrap ((IntKind.i64.wrap (low + high)).tdiv 2) = m := by rw [wrap_i64 (n := low + high) (by omega) (by omega), ht, wrap_i64 (by omega) (by omega), hm]
   (repeat1' (first | simp -implicitDefEqProofs -dsimp only [go_sem, Nat.reduceSub, Nat.reduceAdd, Nat.reduceMul, Nat.reduceLT, Nat.reduceLeDiff, Nat.reduceEqDiff, Nat.reduceDiv, Nat.reduceMod, Int.reduceToNat, Int.reduceLE, Int.reduceLT, Int.reduceBEq, Int.reduceBNe, Int.reduceNeg, Int.reduceAdd, Int.reduceSub, Int.reduceMul, reduceCtorEq, g1, ht, ← hm] | simp -dsimp (disch := omega) only [wrap_i64]))
   repeat (with_reducible refine sideA ?_)
   have hd : n.tdiv m = n / m := Int.tdiv_eq_ediv_of_nonneg h0
   have hd0 : 0 ≤ n / m := Int.ediv_nonneg h0 (by omega)
   have hd1 : n / m ≤ n := Int.ediv_le_self _ h0
   have hq : m ≤ n / m ↔ m * m ≤ n := Int.le_ediv_iff_mul_le (by omega)
   rw [hd, wrap_i64 (by omega) (by omega)]
   refine condT.split (fun g2 => ?_) (fun g2 => ?_) <;> simp -implicitDefEqProofs -dsimp only [go_sem, Nat.reduceSub, Nat.reduceAdd, Nat.reduceMul, Nat.reduceLT, Nat.reduceLeDiff, Nat.reduceEqDiff, Nat.reduceDiv, Nat.reduceMod, Int.reduceToNat, Int.reduceLE, Int.reduceLT, Int.reduceBEq, Int.reduceBNe, Int.reduceNeg, Int.reduceAdd, Int.reduceSub, Int.reduceMul, reduceCtorEq, g2]
   · have g2' := (lo m (by omega)).1 (hq.1 (of_decide_eq_true g2))
     refine ⟨(m, high), ⟨by omega, g2', hi.2.2.1, hi.2.2.2⟩, ?_, by simp only; omega⟩
     refine Weak.cut (0) (by simp) (by simp) ?_ ?_
     · simp [LeC, LeV, ren, cutF, hmw]
     · rfl
   · have g2' : ¬ m ≤ r := fun k => (of_decide_eq_false g2) (hq.2 ((lo m (by omega)).2 k))
     refine ⟨(low, m), ⟨hi.1, hi.2.1, by simp only; omega, by simp only; omega⟩, ?_, by simp only; omega⟩
     refine Weak.cut (0) (by simp) (by simp) ?_ ?_
     · simp [LeC, LeV, ren, cutF, hmw]
     · rfl
 · have g1' := of_decide_eq_false g1
   have : low = r := by omega
   subst this
   have hm0 := mul_self_nonneg' (r : Int)
   have hm1 := sq_le (x := (r : Int)) (b := 40000) (by omega)
   (repeat1' (first | simp -implicitDefEqProofs -dsimp only [go_sem, Nat.reduceSub, Nat.reduceAdd, Nat.reduceMul, Nat.reduceLT, Nat.reduceLeDiff, Nat.reduceEqDiff, Nat.reduceDiv, Nat.reduceMod, Int.reduceToNat, Int.reduceLE, Int.reduceLT, Int.reduceBEq, Int.reduceBNe, Int.reduceNeg, Int.reduceAdd, Int.reduceSub, Int.reduceMul, reduceCtorEq, g1] | simp -dsimp (disch := omega) only [wrap_i64]))
   exact WeakR.drop' rfl (by rfl)
end Go.Proofs
end
section
set_option maxRecDepth 100000
set_option maxHeartbeats 1000000
namespace Go.Proofs
open Go.Lv
theorem ite_gt_max (a b : Int) : (if b > a then b else a) = max a b := by
 split <;> omega
theorem ite_lt_min (a b : Int) : (if b < a then b else a) = min a b := by
 split <;> omega
theorem filterArrivalM_ok (L : List Arrival) (p : Arrival → Bool) (fv : Nat) (vc : List V) (hvc : ∀ d, vc.all (noOwn d) = true) (hv : ∀ x ∈ L, Ctr Try.prog fv (Arrival.v x :: vc) [] (.bool (p x)) []) (hl : L.length ≤ 16777216) :
   Ctr Try.prog 65 [Arrival.sl L, .fn (.func fv) [] vc] [] (.osl 0 0 (L.filter p).length 5) [some (rows Arrival.cs (L.filter p))] := by
 refine Ctr.intro Try.mixed Try.func65 rfl Try.okF65 ?_
 simp -implicitDefEqProofs -dsimp only [go_sem, Try.ntmps65, Try.results65]
 have hvc2 : ∀ f d, vc.map (ren f d) = vc := fun f d => map_ren f (hvc d)
 have hstep : ∀ {i : Nat} (hi : i < L.length), (L.take (i + 1)).filter p = (L.take i).filter p ++ if p L[i] then [L[i]] else [] := fun {i} hi => by
   rw [List.take_succ_eq_append_getElem hi, List.filter_append]
   congr 1
   cases h : p L[i] <;> simp [h]
 refine LoopT.intro (fun i : Nat => i ≤ L.length) (fun i => ⟨[.undef, .fn (.func fv) [] vc, .undef, .undef, .undef, .osl 0 0 ((L.take i).filter p).length 5, .undef, .undef, .undef, Arrival.sl L, .int .i64 L.length, .int .i64 i, .undef, .undef, .undef, .undef, .undef, .undef, .undef, .undef, .undef, .undef, .undef, .undef], [some (rows Arrival.cs ((L.take i).filter p))], 0⟩) (fun i => L.length - i) 0 (Nat.zero_le _) ?_ (fun i hi => ?_)
 · refine Weak.cut (1) (by simp) (by simp) ?_ ?_
   · simp [LeC, LeV, ren, cutF, hvc2]
   · simp [cutH, cutB, rows]
 simp -implicitDefEqProofs -dsimp only [go_sem]
 refine condT.split (fun h1 => ?_) (fun h1 => ?_)
 · simp -implicitDefEqProofs -dsimp only [go_sem, h1]
   have hi' : i < L.length := by simpa using h1
   have hf : ((L.take i).filter p).length ≤ i := Nat.le_trans (List.length_filter_le _ _) (by simp; omega)
   have h5 := Arrival.csl L[i]
   have hr := rows_at Arrival.csl hi'
   (repeat1' (first | simp -implicitDefEqProofs -dsimp only [go_sem, hr, Arrival.cs] | simp -dsimp (disch := omega) only [wrap_i64]))
   repeat (with_reducible refine sideA ?_)
   refine callS.intro (hv L[i] (List.getElem_mem hi')) ⟨.inl rfl, LeL_same (hvc2 _ _)⟩ (.inl (by simp only [List.nil_append, List.cons_append, List.all_cons, hvc, Bool.and_true]; rfl)) ?_
   simp -implicitDefEqProofs -dsimp only [go_sem]
   refine condT.split (fun h2 => ?_) (fun h2 => ?_) <;> simp -implicitDefEqProofs -dsimp only [go_sem, h2]
   · try (repeat1' (first | simp -implicitDefEqProofs -dsimp only [go_sem, rows_length, Nat.mul_one, rows_cell, List.length_append, List.length_cons, List.length_nil] | simp -dsimp (disch := omega) only [wrap_i64]))
     repeat (with_reducible refine sideA ?_)
     refine ⟨i + 1, hi', ?_, by omega⟩
     refine Weak.cut (1) (by simp) (by simp) ?_ ?_
     · rw [hstep hi', h2]
       simp [LeC, LeV, ren, cutF, hvc2]
     · rw [hstep hi', h2, if_pos rfl, ← rows_snoc]
       simp [cutH, cutB, map_ren_rows, killC, ren, Arrival.cs]
   · refine ⟨i + 1, hi', ?_, by omega⟩
     refine Weak.cut (1) (by simp) (by simp) ?_ ?_
     · rw [hstep hi', h2, wrap_i64 (by omega) (by omega)]
       simp [LeC, LeV, ren, cutF, hvc2]
     · rw [hstep hi', h2]
       simp [cutH, cutB, map_ren_rows]
 · simp -implicitDefEqProofs -dsimp only [go_sem, h1]
   have hi' : i = L.length := by simp at h1; omega
   subst hi'
   rw [List.take_length]
   exact WeakR.refl _ _ _
def validL (L : List Arrival) : Prop := ∀ a ∈ L, arrB a = true
theorem validL.filter {L : List Arrival} (h : validL L) (p : Arrival → Bool) : validL (L.filter p) := fun a ha => h a (List.mem_filter.1 ha).1
theorem ticks_ok (a : Arrival) (x y : Int) (ha : arrB a = true) (hp : placeB x y = true) : Ctr Try.prog 71 [a.v, .int .i64 x, .int .i64 y] [] (.tup [.int .i64 (lowD a x y), .int .i64 (highD a x y)]) [] := by
 have h := arrB_iff.1 ha
 have p := placeB_iff.1 hp
 have hs := sqD_nonneg a x y
 have hs2 := sqD_le p.1 p.2 h.2.1.1 h.2.1.2
 have hr := rootD_le p.1 p.2 h.2.1.1 h.2.1.2
 refine Ctr.intro Try.mixed Try.func71 rfl Try.okF71 ?_
 simp -implicitDefEqProofs -dsimp only [go_sem, Try.ntmps71, Try.results71]
 (repeat1' (first | simp -implicitDefEqProofs -dsimp only [go_sem, Arrival.v] | simp -dsimp (disch := omega) only [wrap_i64]))
 (first | refine callT.at (square_ok (a.X - x) (a.Y - y) (by omega) (by omega)) ⟨leA, leA, trivial⟩ ?_ | refine callS.at (square_ok (a.X - x) (a.Y - y) (by omega) (by omega)) ⟨leA, leA, trivial⟩ ?_)
 have e : IntKind.i64.wrap (400 * ((a.X - x) * (a.X - x) + (a.Y - y) * (a.Y - y))) = sqD a x y := by
   unfold sqD at hs hs2 ⊢
   exact wrap_i64 (by omega) (by omega)
 simp -implicitDefEqProofs -dsimp only [go_sem, e]
 (first | refine callT.at (root_ok (sqD a x y) hs (by omega)) ⟨leA, trivial⟩ ?_ | refine callS.at (root_ok (sqD a x y) hs (by omega)) ⟨leA, trivial⟩ ?_)
 have e2 : (isq (sqD a x y).toNat) = rootD a x y := rfl
 rw [e2]
 have e3 : decide ((rootD a x y : Int) * (rootD a x y : Int) = sqD a x y) = exactD a x y := rfl
 rw [e3]
 (repeat ((repeat1' (first | simp -implicitDefEqProofs -dsimp only [go_sem] | simp -dsimp (disch := omega) only [wrap_i64])); repeat (with_reducible refine sideA ?_)))
 refine condT.split (fun g => ?_) (fun g => ?_) <;> (repeat ((repeat1' (first | simp -implicitDefEqProofs -dsimp only [go_sem, g, ite_gt_max, ite_lt_min] | simp -dsimp (disch := omega) only [wrap_i64])); repeat (with_reducible refine sideA ?_)))
 · exact WeakR.drop' (by simp at g; simp [lowD, highD, upD, g]; omega) (by rfl)
 · exact WeakR.drop' (by simp at g; simp [lowD, highD, upD, g]) (by rfl)
theorem fits_ok (a : Arrival) (o : Origin) (ha : arrB a = true) (hp : placeB o.X o.Y = true) : Ctr Try.prog 67 [a.v, o.v] [] (.bool (fitB a o)) [] := by
 refine Ctr.intro Try.mixed Try.func67 rfl Try.okF67 ?_
 simp -implicitDefEqProofs -dsimp only [go_sem, Try.ntmps67, Try.results67]
 simp -implicitDefEqProofs -dsimp only [go_sem, Arrival.v, Origin.v]
 (first | refine callT.at (ticks_ok a o.X o.Y ha hp) ⟨leA, leA, leA, trivial⟩ ?_ | refine callS.at (ticks_ok a o.X o.Y ha hp) ⟨leA, leA, leA, trivial⟩ ?_)
 simp -implicitDefEqProofs -dsimp only [go_sem]
 (first | refine callT.at (in_ok o.Tick (lowD a o.X o.Y) (highD a o.X o.Y)) ⟨leA, leA, leA, trivial⟩ ?_ | refine callS.at (in_ok o.Tick (lowD a o.X o.Y) (highD a o.X o.Y)) ⟨leA, leA, leA, trivial⟩ ?_)
 simp -implicitDefEqProofs -dsimp only [go_sem]
 exact WeakR.drop' rfl (by rfl)
theorem voterIs_ok (a : Arrival) (o : Origin) (ha : arrB a = true) (hp : placeB o.X o.Y = true) : Ctr Try.prog 70 [a.v, .pt o.cs] [] (.bool (fitB a o)) [] := by
 refine Ctr.intro Try.mixed Try.func70 rfl Try.okF70 ?_
 simp -implicitDefEqProofs -dsimp only [go_sem, Try.ntmps70, Try.results70]
 simp -implicitDefEqProofs -dsimp only [go_sem, Arrival.v, Origin.cs]
 (first | refine callT.at (fits_ok a o ha hp) ⟨leA, leA, trivial⟩ ?_ | refine callS.at (fits_ok a o ha hp) ⟨leA, leA, trivial⟩ ?_)
 simp -implicitDefEqProofs -dsimp only [go_sem]
 exact WeakR.drop' rfl (by rfl)
theorem voters_ok (L : List Arrival) (o : Origin) (hL : validL L) (hp : placeB o.X o.Y = true) (hl : L.length ≤ 16777216) : Ctr Try.prog 38 [Arrival.sl L, o.v] [] (.osl 0 0 (L.filter fun a => fitB a o).length 5) [some (rows Arrival.cs (L.filter fun a => fitB a o))] := by
 refine Ctr.intro Try.mixed Try.func38 rfl Try.okF38 ?_
 simp -implicitDefEqProofs -dsimp only [go_sem, Try.ntmps38, Try.results38]
 simp -implicitDefEqProofs -dsimp only [go_sem, Origin.v]
 (first | refine callT.at (filterArrivalM_ok L (fun a => fitB a o) _ [.pt o.cs] (fun d => by cases d <;> rfl) (fun x hx => voterIs_ok x o (hL x hx) hp) hl) ⟨leA, leA, trivial⟩ ?_ | refine callS.at (filterArrivalM_ok L (fun a => fitB a o) _ [.pt o.cs] (fun d => by cases d <;> rfl) (fun x hx => voterIs_ok x o (hL x hx) hp) hl) ⟨leA, leA, trivial⟩ ?_)
 simp -implicitDefEqProofs -dsimp only [go_sem]
 refine WeakR.pick [1] (by decide) (fun j hj => by omega) (.inl ?_) ?_
 · first | rfl | (simp [ren, pickF, posOf]; done)
 · simp only [pickH, List.map_cons, List.map_nil, pickB, List.getElem?_cons_zero, List.getElem?_cons_succ, map_ren_rows]
end Go.Proofs
end
section
set_option maxRecDepth 100000
namespace Go.Proofs
open Go.Lv
def IntS.cs (x : Int) : List V := [.int .i64 x]
instance : FlatP IntS.cs 1 := ⟨fun _ => rfl, fun _ d => by cases d <;> rfl, fun _ => rfl, fun _ => rfl⟩
theorem IntS.csl (a : Int) : (IntS.cs a).length = 1 := rfl
abbrev IntS.ok (x : Int) : Prop := i64R x
abbrev IntS.sl (L : List Int) : V := .sl L.length 1 (Go.Lv.rows IntS.cs L)
abbrev IntS.zs : List V := [.int .i64 0]
def IntS.marks (k : Int) (n : Nat) : List Int := (List.range n).map fun i : Nat => k + (i : Int)
@[simp] theorem IntS.marks_len (k : Int) (n : Nat) : (IntS.marks k n).length = n := by simp [IntS.marks]
abbrev IntS.v (x : Int) : V := .int .i64 x
end Go.Proofs
end
section
set_option maxRecDepth 100000
set_option maxHeartbeats 1000000
namespace Go.Proofs
open Go.Lv
theorem l10Root_ok (n : Int) (h0 : 0 ≤ n) (h1 : n ≤ 1000000000) : Ctr Try.prog 58 [.int .i64 n] [] (.int .i64 (isq n.toNat)) [] := by
 have hs := isq_spec n.toNat
 generalize isq n.toNat = r at *
 have e1 : ((r * r : Nat) : Int) = (r : Int) * (r : Int) := Int.natCast_mul r r
 have hr : r ≤ 40000 := by
   by_cases c : r ≤ 40000
   · exact c
   · have := Nat.mul_self_le_mul_self (show 40001 ≤ r by omega)
     omega
 have lo : ∀ m : Int, 0 ≤ m → (m * m ≤ n ↔ m ≤ r) := by
   intro m hm
   obtain ⟨k, rfl⟩ := Int.eq_ofNat_of_zero_le hm
   have e2 : ((k * k : Nat) : Int) = (k : Int) * (k : Int) := Int.natCast_mul k k
   constructor
   · intro g
     by_cases c : k ≤ r
     · omega
     · have := Nat.mul_self_le_mul_self (show r + 1 ≤ k by omega)
       omega
   · intro g
     have := Nat.mul_self_le_mul_self (show k ≤ r by omega)
     omega
 refine Ctr.intro Try.mixed Try.func58 rfl Try.okF58 ?_
 simp -implicitDefEqProofs -dsimp only [go_sem, Try.ntmps58, Try.results58]
 refine LoopT.intro (fun s : Int × Int => 0 ≤ s.1 ∧ s.1 ≤ r ∧ (r : Int) ≤ s.2 ∧ s.2 ≤ 40000) (fun s => ⟨[.int .i64 n, .undef, .undef, .int .i64 s.1, .int .i64 s.2, .undef, .undef, .undef, .undef, .undef, .undef, .undef, .undef, .undef, .undef, .undef, .undef, .undef, .undef, .undef, .undef, .undef, .undef], [], 0⟩) (fun s => (s.2 - s.1).toNat) (0, 40000) ⟨by omega, by omega, by omega, by omega⟩ ?_ (fun s hi => ?_)
 · refine Weak.cut (0) (by simp) (by simp) ?_ ?_
   · simp [LeC, LeV, ren, cutF]
   · rfl
 obtain ⟨low, high⟩ := s
 simp only at hi ⊢
 (repeat1' (first | simp -implicitDefEqProofs -dsimp only [go_sem] | simp -dsimp (disch := omega) only [wrap_i64]))
 refine condT.split (fun g1 => ?_) (fun g1 => ?_)
 · have g1' := of_decide_eq_true g1
   have ht : (low + high + 1).tdiv 2 = (low + high + 1) / 2 := Int.tdiv_eq_ediv_of_nonneg (by omega)
   obtain ⟨m, hm⟩ : ∃ m, m = (low + high + 1) / 2 := ⟨_, rfl⟩
   have hb : low < m ∧ m ≤ high := by omega
   have hmm := sq_le (x := m) (b := 40000) (by omega)
   have hm0 := mul_self_nonneg' m
   have hmw : IntKind.i64.wrap ((IntKind.i64.wrap (IntKind.i64.wrap (low + high) + 1)).tdiv 2) = m := by rw [wrap_i64 (n := low + high) (by omega) (by omega), wrap_i64 (n := low + high + 1) (by omega) (by omega), ht, wrap_i64 (by omega) (by omega), hm]
   (repeat1' (first | simp -implicitDefEqProofs -dsimp only [go_sem, g1, ht, ← hm] | simp -dsimp (disch := omega) only [wrap_i64]))
   repeat (with_reducible refine sideA ?_)
   refine condT.split (fun g2 => ?_) (fun g2 => ?_) <;> (repeat1' (first | simp -implicitDefEqProofs -dsimp only [go_sem, g2] | simp -dsimp (disch := omega) only [wrap_i64]))
   · have g2' := (lo m (by omega)).1 (of_decide_eq_true g2)
     refine ⟨(m, high), ⟨by omega, g2', hi.2.2.1, hi.2.2.2⟩, ?_, by simp only; omega⟩
     refine Weak.cut (0) (by simp) (by simp) ?_ ?_
     · (simp [LeC, LeV, ren, cutF, hmw]; try (rw [ht]; exact hm))
     · rfl
   · have g2' : ¬ m ≤ r := fun k => (of_decide_eq_false g2) ((lo m (by omega)).2 k)
     refine ⟨(low, m - 1), ⟨hi.1, hi.2.1, by simp only; omega, by simp only; omega⟩, ?_, by simp only; omega⟩
     refine Weak.cut (0) (by simp) (by simp) ?_ ?_
     · (simp [LeC, LeV, ren, cutF, hmw]; try (rw [ht]; exact hm))
     · rfl
 · have g1' := of_decide_eq_false g1
   have : low = r := by omega
   subst this
   (repeat1' (first | simp -implicitDefEqProofs -dsimp only [go_sem, g1] | simp -dsimp (disch := omega) only [wrap_i64]))
   exact WeakR.drop' rfl (by rfl)
theorem l10Square_ok (a : Arrival) (x y : Int) (ha : arrB a = true) (hp : placeB x y = true) : Ctr Try.prog 59 [.int .i64 a.X, .int .i64 a.Y, .int .i64 x, .int .i64 y] [] (.int .i64 (sqD a x y)) [] := by
 have h := arrB_iff.1 ha
 have p := placeB_iff.1 hp
 have h1 := sq_le (x := a.X - x) (b := 999) (by omega)
 have h2 := sq_le (x := a.Y - y) (b := 999) (by omega)
 have h3 := mul_self_nonneg' (a.X - x)
 have h4 := mul_self_nonneg' (a.Y - y)
 refine Ctr.intro Try.mixed Try.func59 rfl Try.okF59 ?_
 simp -implicitDefEqProofs -dsimp only [go_sem, Try.ntmps59, Try.results59]
 (repeat1' (first | simp -implicitDefEqProofs -dsimp only [go_sem] | simp -dsimp (disch := omega) only [wrap_i64]))
 exact WeakR.drop' rfl (by rfl)
theorem fits_fin {a : Arrival} {o : Origin} (ht : 0 ≤ o.Tick ∧ o.Tick ≤ 1000000) : ∀ b : Bool, (decide (0 ≤ a.Tick + a.Error - o.Tick) && (decide (sqD a o.X o.Y ≤ (a.Tick + a.Error - o.Tick) * (a.Tick + a.Error - o.Tick)) && (decide (a.Tick - a.Error - o.Tick ≤ 0) || decide ((a.Tick - a.Error - o.Tick) * (a.Tick - a.Error - o.Tick) ≤ sqD a o.X o.Y)))) = b → V.bool b = V.bool (fitB a o) := fun b e => by rw [← e, fitB_spec ht]
theorem l10Fits_ok (a : Arrival) (o : Origin) (ha : arrB a = true) (hp : placeB o.X o.Y = true) (ht : 0 ≤ o.Tick ∧ o.Tick ≤ 1000000) : Ctr Try.prog 68 [a.v, o.v] [] (.bool (fitB a o)) [] := by
 have h := arrB_iff.1 ha
 have hm0 := mul_self_nonneg' (a.Tick + a.Error - o.Tick)
 have hm1 := sq_le (x := a.Tick + a.Error - o.Tick) (b := 1001000) (by omega)
 have hm2 := mul_self_nonneg' (a.Tick - a.Error - o.Tick)
 have hm3 := sq_le (x := a.Tick - a.Error - o.Tick) (b := 1001000) (by omega)
 refine Ctr.intro Try.mixed Try.func68 rfl Try.okF68 ?_
 simp -implicitDefEqProofs -dsimp only [go_sem, Try.ntmps68, Try.results68]
 simp -implicitDefEqProofs -dsimp only [go_sem, Arrival.v, Origin.v]
 (first | refine callT.at (l10Square_ok a o.X o.Y ha hp) ⟨leA, leA, leA, leA, trivial⟩ ?_ | refine callS.at (l10Square_ok a o.X o.Y ha hp) ⟨leA, leA, leA, leA, trivial⟩ ?_)
 (repeat1' (first | simp -implicitDefEqProofs -dsimp only [go_sem] | simp -dsimp (disch := omega) only [wrap_i64]))
 repeat (with_reducible refine sideA ?_)
 repeat' (first | (with_reducible (refine guardT.splitT (fun _ => ?_) (fun _ => ?_)) <;> (repeat1' (first | simp -implicitDefEqProofs -dsimp only [go_sem, *] | simp -dsimp (disch := omega) only [wrap_i64]))) | (with_reducible (refine guardT.splitF (fun _ => ?_) (fun _ => ?_)) <;> (repeat1' (first | simp -implicitDefEqProofs -dsimp only [go_sem, *] | simp -dsimp (disch := omega) only [wrap_i64]))) | (refine WeakR.drop' (fits_fin ht _ ?_) (by rfl); (simp only [*, Bool.true_and, Bool.false_and, Bool.false_or, Bool.true_or]; done)))
theorem l10Voters_ok (L : List Arrival) (o : Origin) (hL : validL L) (hp : placeB o.X o.Y = true) (ht : 0 ≤ o.Tick ∧ o.Tick ≤ 1000000) (hl : L.length ≤ 16777216) : Ctr Try.prog 74 [Arrival.sl L, o.v] [] (.osl 0 0 (L.filter fun a => fitB a o).length 1) [some (rows IntS.cs ((L.filter fun a => fitB a o).map Arrival.Id))] := by
 refine Ctr.intro Try.mixed Try.func74 rfl Try.okF74 ?_
 simp -implicitDefEqProofs -dsimp only [go_sem, Try.ntmps74, Try.results74]
 simp -implicitDefEqProofs -dsimp only [go_sem, Origin.v]
 have hstep : ∀ {i : Nat} (hi : i < L.length), (L.take (i + 1)).filter (fun a => fitB a o) = (L.take i).filter (fun a => fitB a o) ++ if fitB L[i] o then [L[i]] else [] := fun {i} hi => by
   rw [List.take_succ_eq_append_getElem hi, List.filter_append]
   congr 1
   cases h : fitB L[i] o <;> simp [h]
 refine LoopT.intro (fun i : Nat => i ≤ L.length) (fun i => ⟨[Arrival.sl L, .undef, .undef, .ptr 0 0, .undef, .osl 1 0 ((L.take i).filter fun a => fitB a o).length 1, .int .i64 i, .undef, .undef, .undef, .undef, .undef, .undef, .undef, .undef, .undef, .undef, .undef, .undef, .undef, .undef, .undef, .undef, .undef, .undef, .undef, .undef, .undef, .undef], [some o.cs, some (rows IntS.cs (((L.take i).filter fun a => fitB a o).map Arrival.Id))], 0⟩) (fun i => L.length - i) 0 (Nat.zero_le _) ?_ (fun i hi => ?_)
 · refine Weak.cut (2) (by simp) (by simp) ?_ ?_
   · simp [LeC, LeV, ren, cutF]
   · simp [cutH, cutB, rows, Origin.cs, ren]
 simp -implicitDefEqProofs -dsimp only [go_sem, Origin.cs]
 refine condT.split (fun h1 => ?_) (fun h1 => ?_)
 · simp -implicitDefEqProofs -dsimp only [go_sem, h1]
   have hi' : i < L.length := by simpa using h1
   have hf : ((L.take i).filter (fun a => fitB a o)).length ≤ i := Nat.le_trans (List.length_filter_le _ _) (by simp; omega)
   have h5 := Arrival.csl L[i]
   have hr := rows_at Arrival.csl hi'
   (repeat ((repeat1' (first | simp -implicitDefEqProofs -dsimp only [go_sem, hr, Arrival.cs, Origin.cs] | simp -dsimp (disch := omega) only [wrap_i64])); repeat (with_reducible refine sideA ?_)))
   (first | refine callT.at (l10Fits_ok L[i] o (hL _ (List.getElem_mem hi')) hp ht) ⟨leA, leA, trivial⟩ ?_ | refine callS.at (l10Fits_ok L[i] o (hL _ (List.getElem_mem hi')) hp ht) ⟨leA, leA, trivial⟩ ?_)
   simp -implicitDefEqProofs -dsimp only [go_sem]
   refine condT.split (fun h2 => ?_) (fun h2 => ?_) <;> simp -implicitDefEqProofs -dsimp only [go_sem, h2]
   · (repeat ((repeat1' (first | simp -implicitDefEqProofs -dsimp only [go_sem, hr, Arrival.cs, rows_length, rows_cell, List.length_map, Nat.mul_one] | simp -dsimp (disch := omega) only [wrap_i64])); repeat (with_reducible refine sideA ?_)))
     refine ⟨i + 1, hi', ?_, by omega⟩
     refine Weak.cut (2) (by simp) (by simp) ?_ ?_
     · rw [hstep hi', h2]
       simp [LeC, LeV, ren, cutF]
     · rw [hstep hi', h2, if_pos rfl, List.map_append, List.map_singleton, ← rows_snoc]
       simp [cutH, cutB, ren, cutF, map_ren_rows, killC, Origin.cs, IntS.cs]
   · try (repeat1' (first | simp -implicitDefEqProofs -dsimp only [go_sem] | simp -dsimp (disch := omega) only [wrap_i64]))
     refine ⟨i + 1, hi', ?_, by omega⟩
     refine Weak.cut (2) (by simp) (by simp) ?_ ?_
     · rw [hstep hi', h2]
       simp [LeC, LeV, ren, cutF]
     · rw [hstep hi', h2]
       simp [cutH, cutB, map_ren_rows, Origin.cs, ren]
 · simp -implicitDefEqProofs -dsimp only [go_sem, h1]
   have hi' : i = L.length := by simp at h1; omega
   subst hi'
   rw [List.take_length]
   refine WeakR.pick [1] (by decide) (fun j hj => by omega) (.inl ?_) ?_
   · first | rfl | (simp [ren, pickF, posOf]; done)
   · simp only [pickH, List.map_cons, List.map_nil, pickB, List.getElem?_cons_zero, List.getElem?_cons_succ, map_ren_rows]
theorem l10Ticks_ok (a : Arrival) (x y : Int) (ha : arrB a = true) (hp : placeB x y = true) : Ctr Try.prog 73 [a.v, .int .i64 x, .int .i64 y] [] (.tup [.int .i64 (lowD a x y), .int .i64 (highD a x y)]) [] := by
 have h := arrB_iff.1 ha
 have p := placeB_iff.1 hp
 have hs := sqD_nonneg a x y
 have hs2 := sqD_le p.1 p.2 h.2.1.1 h.2.1.2
 have hr := rootD_le p.1 p.2 h.2.1.1 h.2.1.2
 have hq : (rootD a x y : Int) * (rootD a x y : Int) ≤ sqD a x y := (int_sq_le hs (d := (rootD a x y : Int)) (by omega)).2 (Int.le_refl _)
 have hq0 := mul_self_nonneg' (rootD a x y : Int)
 have e2 : (isq (sqD a x y).toNat) = rootD a x y := rfl
 refine Ctr.intro Try.mixed Try.func73 rfl Try.okF73 ?_
 simp -implicitDefEqProofs -dsimp only [go_sem, Try.ntmps73, Try.results73]
 simp -implicitDefEqProofs -dsimp only [go_sem, Arrival.v]
 (first | refine callT.at (l10Square_ok a x y ha hp) ⟨leA, leA, leA, leA, trivial⟩ ?_ | refine callS.at (l10Square_ok a x y ha hp) ⟨leA, leA, leA, leA, trivial⟩ ?_)
 simp -implicitDefEqProofs -dsimp only [go_sem]
 (first | refine callT.at (l10Root_ok (sqD a x y) hs (by omega)) ⟨leA, trivial⟩ ?_ | refine callS.at (l10Root_ok (sqD a x y) hs (by omega)) ⟨leA, trivial⟩ ?_)
 rw [e2]
 (repeat1' (first | simp -implicitDefEqProofs -dsimp only [go_sem] | simp -dsimp (disch := omega) only [wrap_i64]))
 refine condT.split (fun g => ?_) (fun g => ?_) <;> (repeat1' (first | simp -implicitDefEqProofs -dsimp only [go_sem, g] | simp -dsimp (disch := omega) only [wrap_i64]))
 · have g' := of_decide_eq_true g
   have hex : exactD a x y = false := by simp [exactD]; omega
   repeat (first | ((first | refine callT.at (l1Most_ok _ _) ⟨leA, leA, trivial⟩ ?_ | refine callS.at (l1Most_ok _ _) ⟨leA, leA, trivial⟩ ?_); simp -implicitDefEqProofs -dsimp only [go_sem]) | ((first | refine callT.at (l1Least_ok _ _) ⟨leA, leA, trivial⟩ ?_ | refine callS.at (l1Least_ok _ _) ⟨leA, leA, trivial⟩ ?_); simp -implicitDefEqProofs -dsimp only [go_sem]) | (with_reducible refine And.intro (by first | omega | (show drawOk _ = true; kernel_rfl)) ?_; try (repeat1' (first | simp -implicitDefEqProofs -dsimp only [go_sem] | simp -dsimp (disch := omega) only [wrap_i64]))))
   try (repeat1' (first | simp -implicitDefEqProofs -dsimp only [go_sem] | simp -dsimp (disch := omega) only [wrap_i64]))
   exact WeakR.drop' (by simp [lowD, highD, upD, hex]) (by rfl)
 · have g' := of_decide_eq_false g
   have hex : exactD a x y = true := by simp [exactD]; omega
   repeat (first | ((first | refine callT.at (l1Most_ok _ _) ⟨leA, leA, trivial⟩ ?_ | refine callS.at (l1Most_ok _ _) ⟨leA, leA, trivial⟩ ?_); simp -implicitDefEqProofs -dsimp only [go_sem]) | ((first | refine callT.at (l1Least_ok _ _) ⟨leA, leA, trivial⟩ ?_ | refine callS.at (l1Least_ok _ _) ⟨leA, leA, trivial⟩ ?_); simp -implicitDefEqProofs -dsimp only [go_sem]) | (with_reducible refine And.intro (by first | omega | (show drawOk _ = true; kernel_rfl)) ?_; try (repeat1' (first | simp -implicitDefEqProofs -dsimp only [go_sem] | simp -dsimp (disch := omega) only [wrap_i64]))))
   try (repeat1' (first | simp -implicitDefEqProofs -dsimp only [go_sem] | simp -dsimp (disch := omega) only [wrap_i64]))
   exact WeakR.drop' (by simp [lowD, highD, upD, hex]) (by rfl)
end Go.Proofs
end
section
set_option maxRecDepth 100000
set_option maxHeartbeats 1000000
namespace Go.Proofs
open Go.Lv
def votesN (L : List Arrival) (x y t : Int) : Int := ((L.filter fun a => fitB a ⟨x, y, t⟩).length : Int)
def mostStep (L : List Arrival) (x y : Int) (s : Int × Int) (a : Arrival) : Int × Int :=
 if highD a x y < lowD a x y then s
 else if s.1 < votesN L x y (lowD a x y) ∨ (votesN L x y (lowD a x y) = s.1 ∧ lowD a x y < s.2) then (votesN L x y (lowD a x y), lowD a x y) else s
def mostTo (L : List Arrival) (x y : Int) (i : Nat) : Int × Int := (L.take i).foldl (mostStep L x y) (0, 0)
def mostA (L : List Arrival) (x y : Int) : Int × Int := mostTo L x y L.length
theorem mostTo_succ {L : List Arrival} {x y : Int} {i : Nat} (hi : i < L.length) : mostTo L x y (i + 1) = mostStep L x y (mostTo L x y i) L[i] := by
 rw [mostTo, List.take_succ_eq_append_getElem hi, List.foldl_append]; rfl
theorem low_bd {a : Arrival} {x y : Int} (h : ¬ highD a x y < lowD a x y) : 0 ≤ lowD a x y ∧ lowD a x y ≤ 1000000 := by
 unfold lowD highD at *; omega
theorem votesN_le (L : List Arrival) (x y t : Int) : 0 ≤ votesN L x y t ∧ votesN L x y t ≤ L.length := by
 have := List.length_filter_le (fun a => fitB a ⟨x, y, t⟩) L
 unfold votesN; omega
theorem mostTo_bd (L : List Arrival) (x y : Int) : ∀ i, i ≤ L.length → (0 ≤ (mostTo L x y i).1 ∧ (mostTo L x y i).1 ≤ L.length) ∧ 0 ≤ (mostTo L x y i).2 ∧ (mostTo L x y i).2 ≤ 1000000
 | 0, _ => by simp [mostTo]
 | i + 1, hi => by
   have ih := mostTo_bd L x y i (by omega)
   rw [mostTo_succ (by omega)]
   unfold mostStep
   have hv := votesN_le L x y (lowD (L[i]'(by omega)) x y)
   split
   · exact ih
   · rename_i h
     have := low_bd h
     split
     · exact ⟨hv, this⟩
     · exact ih
theorem mostVotes_ok (L : List Arrival) (x y : Int) (hL : validL L) (hp : placeB x y = true) (hl : L.length ≤ 16777216) : Ctr Try.prog 41 [Arrival.sl L, .int .i64 x, .int .i64 y] [] (.tup [.int .i64 (mostA L x y).1, .int .i64 (mostA L x y).2]) [] := by
 refine Ctr.intro Try.mixed Try.func41 rfl Try.okF41 ?_
 simp -implicitDefEqProofs -dsimp only [go_sem, Try.ntmps41, Try.results41]
 refine LoopT.intro (fun i : Nat => i ≤ L.length) (fun i => ⟨[Arrival.sl L, .int .i64 x, .int .i64 y, .undef, .undef, .undef, .undef, .undef, .int .i64 (mostTo L x y i).1, .int .i64 (mostTo L x y i).2, .undef, .undef, .undef, .undef, .undef, Arrival.sl L, .int .i64 L.length, .int .i64 i, .undef, .undef, .undef, .undef, .undef, .undef, .undef, .undef, .undef, .undef, .undef, .undef, .undef, .undef, .undef, .undef, .undef, .undef, .undef, .undef, .undef, .undef, .undef, .undef, .undef, .undef, .undef, .undef, .undef, .undef, .undef, .undef, .undef, .undef, .undef, .undef, .undef, .undef], [], 0⟩) (fun i => L.length - i) 0 (Nat.zero_le _) ?_ (fun i hi => ?_)
 · refine Weak.cut (0) (by simp) (by simp) ?_ ?_
   · simp [LeC, LeV, ren, cutF, mostTo]
   · rfl
 simp -implicitDefEqProofs -dsimp only [go_sem]
 refine condT.split (fun h1 => ?_) (fun h1 => ?_)
 · simp -implicitDefEqProofs -dsimp only [go_sem, h1]
   have hi' : i < L.length := by simpa using h1
   have h5 := Arrival.csl L[i]
   have hr := rows_at Arrival.csl hi'
   (repeat ((repeat1' (first | simp -implicitDefEqProofs -dsimp only [go_sem, hr, Arrival.cs] | simp -dsimp (disch := omega) only [wrap_i64])); repeat (with_reducible refine sideA ?_)))
   (first | refine callT.at (ticks_ok L[i] x y (hL _ (List.getElem_mem hi')) hp) ⟨leA, leA, leA, trivial⟩ ?_ | refine callS.at (ticks_ok L[i] x y (hL _ (List.getElem_mem hi')) hp) ⟨leA, leA, leA, trivial⟩ ?_)
   simp -implicitDefEqProofs -dsimp only [go_sem]
   have hs := mostTo_succ (x := x) (y := y) hi'
   unfold mostStep at hs
   refine condT.split (fun h2 => ?_) (fun h2 => ?_) <;> simp -implicitDefEqProofs -dsimp only [go_sem, h2]
   · rw [if_pos (of_decide_eq_true h2)] at hs
     try (repeat1' (first | simp -implicitDefEqProofs -dsimp only [go_sem] | simp -dsimp (disch := omega) only [wrap_i64]))
     refine ⟨i + 1, hi', ?_, by omega⟩
     refine Weak.cut (0) (by simp) (by simp) ?_ ?_
     · rw [hs]; simp [LeC, LeV, ren, cutF]
     · rfl
   · have h2' := of_decide_eq_false h2
     have hb := low_bd h2'
     rw [if_neg h2'] at hs
     (first | refine callT.at (voters_ok L ⟨x, y, lowD L[i] x y⟩ hL hp hl) ⟨leA, leA, trivial⟩ ?_ | refine callS.at (voters_ok L ⟨x, y, lowD L[i] x y⟩ hL hp hl) ⟨leA, leA, trivial⟩ ?_)
     simp -implicitDefEqProofs -dsimp only [go_sem]
     have hv : ((L.filter fun a => fitB a ⟨x, y, lowD L[i] x y⟩).length : Int) = votesN L x y (lowD L[i] x y) := rfl
     rw [hv]
     refine guardT.splitF (fun h3 => ?_) (fun h3 => ?_) <;> simp -implicitDefEqProofs -dsimp only [go_sem, h3]
     · refine guardT.splitT (fun h4 => ?_) (fun h4 => ?_) <;> simp -implicitDefEqProofs -dsimp only [go_sem, h4]
       · refine condT.split (fun h5 => ?_) (fun h5 => ?_) <;> simp -implicitDefEqProofs -dsimp only [go_sem, h5]
         · rw [if_pos (.inr ⟨by simpa using h4, of_decide_eq_true h5⟩)] at hs
           try (repeat1' (first | simp -implicitDefEqProofs -dsimp only [go_sem] | simp -dsimp (disch := omega) only [wrap_i64]))
           refine ⟨i + 1, hi', ?_, by omega⟩
           refine Weak.cut (0) (by simp) (by simp) ?_ ?_
           · rw [hs]; simp [LeC, LeV, ren, cutF]
           · rfl
         · rw [if_neg (by rintro (k | k); exact (of_decide_eq_false h3) k; exact (of_decide_eq_false h5) k.2)] at hs
           try (repeat1' (first | simp -implicitDefEqProofs -dsimp only [go_sem] | simp -dsimp (disch := omega) only [wrap_i64]))
           refine ⟨i + 1, hi', ?_, by omega⟩
           refine Weak.cut (0) (by simp) (by simp) ?_ ?_
           · rw [hs]; simp [LeC, LeV, ren, cutF]
           · rfl
       · rw [if_neg (by rintro (k | k); exact (of_decide_eq_false h3) k; simp at h4; exact h4 k.1)] at hs
         try (repeat1' (first | simp -implicitDefEqProofs -dsimp only [go_sem] | simp -dsimp (disch := omega) only [wrap_i64]))
         refine ⟨i + 1, hi', ?_, by omega⟩
         refine Weak.cut (0) (by simp) (by simp) ?_ ?_
         · rw [hs]; simp [LeC, LeV, ren, cutF]
         · rfl
     · rw [if_pos (.inl (of_decide_eq_true h3))] at hs
       try (repeat1' (first | simp -implicitDefEqProofs -dsimp only [go_sem] | simp -dsimp (disch := omega) only [wrap_i64]))
       refine ⟨i + 1, hi', ?_, by omega⟩
       refine Weak.cut (0) (by simp) (by simp) ?_ ?_
       · rw [hs]; simp [LeC, LeV, ren, cutF]
       · rfl
 · simp -implicitDefEqProofs -dsimp only [go_sem, h1]
   have hi' : i = L.length := by simp at h1; omega
   subst hi'
   exact WeakR.drop' rfl (by rfl)
theorem l10Most_ok (L : List Arrival) (x y : Int) (hL : validL L) (hp : placeB x y = true) (hl : L.length ≤ 16777216) : Ctr Try.prog 44 [Arrival.sl L, .int .i64 x, .int .i64 y] [] (.tup [.int .i64 (mostA L x y).1, .int .i64 (mostA L x y).2]) [] := by
 refine Ctr.intro Try.mixed Try.func44 rfl Try.okF44 ?_
 simp -implicitDefEqProofs -dsimp only [go_sem, Try.ntmps44, Try.results44]
 refine LoopT.intro (fun i : Nat => i ≤ L.length) (fun i => ⟨[Arrival.sl L, .int .i64 x, .int .i64 y, .undef, .undef, .undef, .undef, .undef, .int .i64 (mostTo L x y i).1, .int .i64 (mostTo L x y i).2, .int .i64 i, .undef, .undef, .undef, .undef, .undef, .undef, .undef, .undef, .undef, .undef, .undef, .undef, .undef, .undef, .undef, .undef, .undef, .undef, .undef, .undef, .undef, .undef, .undef, .undef, .undef, .undef, .undef, .undef, .undef, .undef, .undef, .undef, .undef, .undef, .undef, .undef, .undef, .undef, .undef, .undef, .undef, .undef, .undef, .undef, .undef, .undef], [], 0⟩) (fun i => L.length - i) 0 (Nat.zero_le _) ?_ (fun i hi => ?_)
 · refine Weak.cut (0) (by simp) (by simp) ?_ ?_
   · simp [LeC, LeV, ren, cutF, mostTo]
   · rfl
 simp -implicitDefEqProofs -dsimp only [go_sem]
 refine condT.split (fun h1 => ?_) (fun h1 => ?_)
 · simp -implicitDefEqProofs -dsimp only [go_sem, h1]
   have hi' : i < L.length := by simpa using h1
   have h5 := Arrival.csl L[i]
   have hr := rows_at Arrival.csl hi'
   (repeat ((repeat1' (first | simp -implicitDefEqProofs -dsimp only [go_sem, hr, Arrival.cs] | simp -dsimp (disch := omega) only [wrap_i64])); repeat (with_reducible refine sideA ?_)))
   (first | refine callT.at (l10Ticks_ok L[i] x y (hL _ (List.getElem_mem hi')) hp) ⟨leA, leA, leA, trivial⟩ ?_ | refine callS.at (l10Ticks_ok L[i] x y (hL _ (List.getElem_mem hi')) hp) ⟨leA, leA, leA, trivial⟩ ?_)
   simp -implicitDefEqProofs -dsimp only [go_sem]
   have hs := mostTo_succ (x := x) (y := y) hi'
   unfold mostStep at hs
   refine condT.split (fun h2 => ?_) (fun h2 => ?_) <;> simp -implicitDefEqProofs -dsimp only [go_sem, h2]
   · rw [if_pos (of_decide_eq_true h2)] at hs
     try (repeat1' (first | simp -implicitDefEqProofs -dsimp only [go_sem] | simp -dsimp (disch := omega) only [wrap_i64]))
     refine ⟨i + 1, hi', ?_, by omega⟩
     refine Weak.cut (0) (by simp) (by simp) ?_ ?_
     · rw [hs]; simp [LeC, LeV, ren, cutF]
     · rfl
   · have h2' := of_decide_eq_false h2
     have hb := low_bd h2'
     rw [if_neg h2'] at hs
     (first | refine callT.at (l10Voters_ok L ⟨x, y, lowD L[i] x y⟩ hL hp hb hl) ⟨leA, leA, trivial⟩ ?_ | refine callS.at (l10Voters_ok L ⟨x, y, lowD L[i] x y⟩ hL hp hb hl) ⟨leA, leA, trivial⟩ ?_)
     simp -implicitDefEqProofs -dsimp only [go_sem]
     have hv : ((L.filter fun a => fitB a ⟨x, y, lowD L[i] x y⟩).length : Int) = votesN L x y (lowD L[i] x y) := rfl
     rw [hv]
     refine guardT.splitF (fun h3 => ?_) (fun h3 => ?_) <;> simp -implicitDefEqProofs -dsimp only [go_sem, h3]
     · refine guardT.splitT (fun h4 => ?_) (fun h4 => ?_) <;> simp -implicitDefEqProofs -dsimp only [go_sem, h4]
       · refine condT.split (fun h5 => ?_) (fun h5 => ?_) <;> simp -implicitDefEqProofs -dsimp only [go_sem, h5]
         · rw [if_pos (.inr ⟨by simpa using h4, of_decide_eq_true h5⟩)] at hs
           try (repeat1' (first | simp -implicitDefEqProofs -dsimp only [go_sem] | simp -dsimp (disch := omega) only [wrap_i64]))
           refine ⟨i + 1, hi', ?_, by omega⟩
           refine Weak.cut (0) (by simp) (by simp) ?_ ?_
           · rw [hs]; simp [LeC, LeV, ren, cutF]
           · rfl
         · rw [if_neg (by rintro (k | k); exact (of_decide_eq_false h3) k; exact (of_decide_eq_false h5) k.2)] at hs
           try (repeat1' (first | simp -implicitDefEqProofs -dsimp only [go_sem] | simp -dsimp (disch := omega) only [wrap_i64]))
           refine ⟨i + 1, hi', ?_, by omega⟩
           refine Weak.cut (0) (by simp) (by simp) ?_ ?_
           · rw [hs]; simp [LeC, LeV, ren, cutF]
           · rfl
       · rw [if_neg (by rintro (k | k); exact (of_decide_eq_false h3) k; simp at h4; exact h4 k.1)] at hs
         try (repeat1' (first | simp -implicitDefEqProofs -dsimp only [go_sem] | simp -dsimp (disch := omega) only [wrap_i64]))
         refine ⟨i + 1, hi', ?_, by omega⟩
         refine Weak.cut (0) (by simp) (by simp) ?_ ?_
         · rw [hs]; simp [LeC, LeV, ren, cutF]
         · rfl
     · rw [if_pos (.inl (of_decide_eq_true h3))] at hs
       try (repeat1' (first | simp -implicitDefEqProofs -dsimp only [go_sem] | simp -dsimp (disch := omega) only [wrap_i64]))
       refine ⟨i + 1, hi', ?_, by omega⟩
       refine Weak.cut (0) (by simp) (by simp) ?_ ?_
       · rw [hs]; simp [LeC, LeV, ren, cutF]
       · rfl
 · simp -implicitDefEqProofs -dsimp only [go_sem, h1]
   have hi' : i = L.length := by simp at h1; omega
   subst hi'
   exact WeakR.drop' rfl (by rfl)
def bestStep (L : List Arrival) (x y : Int) (s : Origin × Int) : Origin × Int := if s.2 < (mostA L x y).1 then (⟨x, y, (mostA L x y).2⟩, (mostA L x y).1) else s
def bestY (L : List Arrival) (step : Int) (i : Nat) (s : Origin × Int) : Nat → Origin × Int
 | 0 => s
 | j + 1 => bestStep L (i * step) (j * step) (bestY L step i s j)
def gridN (step : Int) : Nat := (999 / step + 1).toNat
def bestX (L : List Arrival) (step : Int) : Nat → Origin × Int
 | 0 => (⟨0, 0, 0⟩, 0)
 | i + 1 => bestY L step i (bestX L step i) (gridN step)
def bestA (L : List Arrival) (step : Int) : Origin × Int := bestX L step (gridN step)
theorem grid_lt {step : Int} (hs : 50 ≤ step ∧ step ≤ 500) {i : Nat} : (i : Int) * step ≤ 999 ↔ i < gridN step := by
 have h1 : (i : Int) * step ≤ 999 ↔ (i : Int) ≤ 999 / step := (Int.le_ediv_iff_mul_le (by omega)).symm
 have h2 : 0 ≤ 999 / step := Int.ediv_nonneg (by omega) (by omega)
 rw [h1]
 unfold gridN
 omega
theorem grid_nn {step : Int} (hs : 50 ≤ step ∧ step ≤ 500) (i : Nat) : 0 ≤ (i : Int) * step := Int.mul_nonneg (by omega) (by omega)
theorem grid_succ {step : Int} (i : Nat) : (i : Int) * step + step = ((i + 1 : Nat) : Int) * step := by
 have : ((i + 1 : Nat) : Int) = (i : Int) + 1 := by omega
 rw [this, Int.add_mul, Int.one_mul]
theorem best_inv {L : List Arrival} {step : Int} (P : Origin × Int → Prop) (h0 : P (⟨0, 0, 0⟩, 0)) (hS : ∀ (i j : Nat) s, i < gridN step → j < gridN step → P s → P (bestStep L (i * step) (j * step) s)) : P (bestA L step) := by
 have hy : ∀ (i : Nat) s, i < gridN step → P s → ∀ j, j ≤ gridN step → P (bestY L step i s j) := by
   intro i s hi hs j
   induction j with
   | zero => intro _; exact hs
   | succ j ih => intro hj; exact hS i j _ hi (by omega) (ih (by omega))
 have hx : ∀ i, i ≤ gridN step → P (bestX L step i) := by
   intro i
   induction i with
   | zero => intro _; exact h0
   | succ i ih => intro hi; exact hy i _ (by omega) (ih (by omega)) _ (Nat.le_refl _)
 exact hx _ (Nat.le_refl _)
end Go.Proofs
end
section
set_option maxRecDepth 100000
set_option maxHeartbeats 1000000
namespace Go.Proofs
open Go.Lv
theorem iBest_ok (L : List Arrival) (step : Int) (hL : validL L) (hs : 50 ≤ step ∧ step ≤ 500) (hl : L.length ≤ 16777216) : Ctr Try.prog 31 [Arrival.sl L, .int .i64 step] [] (.tup [(bestA L step).1.v, .int .i64 (bestA L step).2]) [] := by
 refine Ctr.intro Try.mixed Try.func31 rfl Try.okF31 ?_
 simp -implicitDefEqProofs -dsimp only [go_sem, Try.ntmps31, Try.results31]
 repeat (with_reducible refine sideA ?_)
 refine LoopT.intro (fun i : Nat => i ≤ gridN step) (fun i => ⟨[Arrival.sl L, .int .i64 step, .undef, .undef, .ptr 0 0, .undef, .ptr 1 0, .int .i64 (bestX L step i).2, .int .i64 ((i : Int) * step), .undef, .undef, .undef, .undef, .undef, .undef, .undef, .undef, .undef, .undef, .undef, .undef, .undef, .undef, .undef, .undef, .undef, .undef, .undef, .undef, .undef, .undef, .undef, .undef, .undef, .undef, .undef, .undef, .undef, .undef, .undef], [some [.int .i64 0, .int .i64 0, .int .i64 0], some (bestX L step i).1.cs], 0⟩) (fun i => gridN step - i) 0 (Nat.zero_le _) ?_ (fun i hi => ?_)
 · refine Weak.cut (2) (by simp) (by simp) ?_ ?_
   · simp [LeC, LeV, ren, cutF, bestX]
   · simp [cutH, cutB, ren, bestX, Origin.cs]
 have hgi := grid_lt hs (i := i)
 have hni := grid_nn hs i
 simp -implicitDefEqProofs -dsimp only [go_sem]
 refine condT.split (fun h1 => ?_) (fun h1 => ?_)
 · simp -implicitDefEqProofs -dsimp only [go_sem, h1]
   have h1' := of_decide_eq_true h1
   have hi' : i < gridN step := hgi.1 h1'
   refine LoopT.intro (fun j : Nat => j ≤ gridN step) (fun j => ⟨[Arrival.sl L, .int .i64 step, .undef, .undef, .ptr 0 0, .undef, .ptr 1 0, .int .i64 (bestY L step i (bestX L step i) j).2, .int .i64 ((i : Int) * step), .int .i64 ((j : Int) * step), .undef, .undef, .undef, .undef, .undef, .undef, .undef, .undef, .undef, .undef, .undef, .undef, .undef, .undef, .undef, .undef, .undef, .undef, .undef, .undef, .undef, .undef, .undef, .undef, .undef, .undef, .undef, .undef, .undef, .undef], [some [.int .i64 0, .int .i64 0, .int .i64 0], some (bestY L step i (bestX L step i) j).1.cs], 0⟩) (fun j => gridN step - j) 0 (Nat.zero_le _) ?_ (fun j hj => ?_)
   · refine Weak.cut (2) (by simp) (by simp) ?_ ?_
     · simp [LeC, LeV, ren, cutF, bestY]
     · simp [cutH, cutB, ren, bestY, Origin.cs]
   have hgj := grid_lt hs (i := j)
   have hnj := grid_nn hs j
   simp -implicitDefEqProofs -dsimp only [go_sem]
   refine condT.split (fun h2 => ?_) (fun h2 => ?_)
   · simp -implicitDefEqProofs -dsimp only [go_sem, h2]
     have h2' := of_decide_eq_true h2
     have hj' : j < gridN step := hgj.1 h2'
     have hp : placeB ((i : Int) * step) ((j : Int) * step) = true := placeB_iff.2 ⟨⟨hni, h1'⟩, hnj, h2'⟩
     have hst : bestY L step i (bestX L step i) (j + 1) = bestStep L (i * step) (j * step) (bestY L step i (bestX L step i) j) := rfl
     unfold bestStep at hst
     (first | refine callT.at (mostVotes_ok L _ _ hL hp hl) ⟨leA, leA, leA, trivial⟩ ?_ | refine callS.at (mostVotes_ok L _ _ hL hp hl) ⟨leA, leA, leA, trivial⟩ ?_)
     simp -implicitDefEqProofs -dsimp only [go_sem]
     refine condT.split (fun h3 => ?_) (fun h3 => ?_) <;> simp -implicitDefEqProofs -dsimp only [go_sem, h3]
     · rw [if_pos (of_decide_eq_true h3)] at hst
       (repeat ((repeat1' (first | simp -implicitDefEqProofs -dsimp only [go_sem, Origin.cs] | simp -dsimp (disch := omega) only [wrap_i64])); repeat (with_reducible refine sideA ?_)))
       refine ⟨j + 1, hj', ?_, by omega⟩
       refine Weak.cut (2) (by simp) (by simp) ?_ ?_
       · rw [hst, ← grid_succ j]
         simp [LeC, LeV, ren, cutF]
       · rw [hst]
         simp [cutH, cutB, ren, Origin.cs]
     · rw [if_neg (of_decide_eq_false h3)] at hst
       try (repeat1' (first | simp -implicitDefEqProofs -dsimp only [go_sem] | simp -dsimp (disch := omega) only [wrap_i64]))
       refine ⟨j + 1, hj', ?_, by omega⟩
       refine Weak.cut (2) (by simp) (by simp) ?_ ?_
       · rw [hst, ← grid_succ j]
         simp [LeC, LeV, ren, cutF]
       · rw [hst]
         simp [cutH, cutB, ren, Origin.cs]
   · simp -implicitDefEqProofs -dsimp only [go_sem, h2]
     have h2' := of_decide_eq_false h2
     have hj' : j = gridN step := by
       have : ¬ j < gridN step := fun k => h2' (hgj.2 k)
       omega
     subst hj'
     try (repeat1' (first | simp -implicitDefEqProofs -dsimp only [go_sem] | simp -dsimp (disch := omega) only [wrap_i64]))
     refine ⟨i + 1, hi', ?_, by omega⟩
     refine Weak.cut (2) (by simp) (by simp) ?_ ?_
     · rw [← grid_succ i, bestX]
       simp [LeC, LeV, ren, cutF]
     · rw [bestX]
       simp [cutH, cutB, ren, Origin.cs]
 · simp -implicitDefEqProofs -dsimp only [go_sem, h1]
   have h1' := of_decide_eq_false h1
   have hi' : i = gridN step := by
     have : ¬ i < gridN step := fun k => h1' (hgi.2 k)
     omega
   subst hi'
   (repeat ((repeat1' (first | simp -implicitDefEqProofs -dsimp only [go_sem, Origin.cs] | simp -dsimp (disch := omega) only [wrap_i64])); repeat (with_reducible refine sideA ?_)))
   exact WeakR.drop' rfl (by rfl)
theorem sBest_ok (L : List Arrival) (step : Int) (hL : validL L) (hs : 50 ≤ step ∧ step ≤ 500) (hl : L.length ≤ 16777216) : Ctr Try.prog 35 [Arrival.sl L, .int .i64 step] [] (.tup [(bestA L step).1.v, .int .i64 (bestA L step).2]) [] := by
 refine Ctr.intro Try.mixed Try.func35 rfl Try.okF35 ?_
 simp -implicitDefEqProofs -dsimp only [go_sem, Try.ntmps35, Try.results35]
 repeat (with_reducible refine sideA ?_)
 refine LoopT.intro (fun i : Nat => i ≤ gridN step) (fun i => ⟨[Arrival.sl L, .int .i64 step, .undef, .undef, .ptr 0 0, .undef, .ptr 1 0, .int .i64 (bestX L step i).2, .int .i64 ((i : Int) * step), .undef, .undef, .undef, .undef, .undef, .undef, .undef, .undef, .undef, .undef, .undef, .undef, .undef, .undef, .undef, .undef, .undef, .undef, .undef, .undef, .undef, .undef, .undef, .undef, .undef, .undef, .undef, .undef, .undef, .undef, .undef], [some [.int .i64 0, .int .i64 0, .int .i64 0], some (bestX L step i).1.cs], 0⟩) (fun i => gridN step - i) 0 (Nat.zero_le _) ?_ (fun i hi => ?_)
 · refine Weak.cut (2) (by simp) (by simp) ?_ ?_
   · simp [LeC, LeV, ren, cutF, bestX]
   · simp [cutH, cutB, ren, bestX, Origin.cs]
 have hgi := grid_lt hs (i := i)
 have hni := grid_nn hs i
 simp -implicitDefEqProofs -dsimp only [go_sem]
 refine condT.split (fun h1 => ?_) (fun h1 => ?_)
 · simp -implicitDefEqProofs -dsimp only [go_sem, h1]
   have h1' := of_decide_eq_true h1
   have hi' : i < gridN step := hgi.1 h1'
   refine LoopT.intro (fun j : Nat => j ≤ gridN step) (fun j => ⟨[Arrival.sl L, .int .i64 step, .undef, .undef, .ptr 0 0, .undef, .ptr 1 0, .int .i64 (bestY L step i (bestX L step i) j).2, .int .i64 ((i : Int) * step), .int .i64 ((j : Int) * step), .undef, .undef, .undef, .undef, .undef, .undef, .undef, .undef, .undef, .undef, .undef, .undef, .undef, .undef, .undef, .undef, .undef, .undef, .undef, .undef, .undef, .undef, .undef, .undef, .undef, .undef, .undef, .undef, .undef, .undef], [some [.int .i64 0, .int .i64 0, .int .i64 0], some (bestY L step i (bestX L step i) j).1.cs], 0⟩) (fun j => gridN step - j) 0 (Nat.zero_le _) ?_ (fun j hj => ?_)
   · refine Weak.cut (2) (by simp) (by simp) ?_ ?_
     · simp [LeC, LeV, ren, cutF, bestY]
     · simp [cutH, cutB, ren, bestY, Origin.cs]
   have hgj := grid_lt hs (i := j)
   have hnj := grid_nn hs j
   simp -implicitDefEqProofs -dsimp only [go_sem]
   refine condT.split (fun h2 => ?_) (fun h2 => ?_)
   · simp -implicitDefEqProofs -dsimp only [go_sem, h2]
     have h2' := of_decide_eq_true h2
     have hj' : j < gridN step := hgj.1 h2'
     have hp : placeB ((i : Int) * step) ((j : Int) * step) = true := placeB_iff.2 ⟨⟨hni, h1'⟩, hnj, h2'⟩
     have hst : bestY L step i (bestX L step i) (j + 1) = bestStep L (i * step) (j * step) (bestY L step i (bestX L step i) j) := rfl
     unfold bestStep at hst
     (first | refine callT.at (l10Most_ok L _ _ hL hp hl) ⟨leA, leA, leA, trivial⟩ ?_ | refine callS.at (l10Most_ok L _ _ hL hp hl) ⟨leA, leA, leA, trivial⟩ ?_)
     simp -implicitDefEqProofs -dsimp only [go_sem]
     refine condT.split (fun h3 => ?_) (fun h3 => ?_) <;> simp -implicitDefEqProofs -dsimp only [go_sem, h3]
     · rw [if_pos (of_decide_eq_true h3)] at hst
       (repeat ((repeat1' (first | simp -implicitDefEqProofs -dsimp only [go_sem, Origin.cs] | simp -dsimp (disch := omega) only [wrap_i64])); repeat (with_reducible refine sideA ?_)))
       refine ⟨j + 1, hj', ?_, by omega⟩
       refine Weak.cut (2) (by simp) (by simp) ?_ ?_
       · rw [hst, ← grid_succ j]
         simp [LeC, LeV, ren, cutF]
       · rw [hst]
         simp [cutH, cutB, ren, Origin.cs]
     · rw [if_neg (of_decide_eq_false h3)] at hst
       try (repeat1' (first | simp -implicitDefEqProofs -dsimp only [go_sem] | simp -dsimp (disch := omega) only [wrap_i64]))
       refine ⟨j + 1, hj', ?_, by omega⟩
       refine Weak.cut (2) (by simp) (by simp) ?_ ?_
       · rw [hst, ← grid_succ j]
         simp [LeC, LeV, ren, cutF]
       · rw [hst]
         simp [cutH, cutB, ren, Origin.cs]
   · simp -implicitDefEqProofs -dsimp only [go_sem, h2]
     have h2' := of_decide_eq_false h2
     have hj' : j = gridN step := by
       have : ¬ j < gridN step := fun k => h2' (hgj.2 k)
       omega
     subst hj'
     try (repeat1' (first | simp -implicitDefEqProofs -dsimp only [go_sem] | simp -dsimp (disch := omega) only [wrap_i64]))
     refine ⟨i + 1, hi', ?_, by omega⟩
     refine Weak.cut (2) (by simp) (by simp) ?_ ?_
     · rw [← grid_succ i, bestX]
       simp [LeC, LeV, ren, cutF]
     · rw [bestX]
       simp [cutH, cutB, ren, Origin.cs]
 · simp -implicitDefEqProofs -dsimp only [go_sem, h1]
   have h1' := of_decide_eq_false h1
   have hi' : i = gridN step := by
     have : ¬ i < gridN step := fun k => h1' (hgi.2 k)
     omega
   subst hi'
   (repeat ((repeat1' (first | simp -implicitDefEqProofs -dsimp only [go_sem, Origin.cs] | simp -dsimp (disch := omega) only [wrap_i64])); repeat (with_reducible refine sideA ?_)))
   exact WeakR.drop' rfl (by rfl)

def stepsB (step : Int) : Bool := inB' step 50 500
def gridR (L : List Arrival) (step : Int) : List V := if arrsB L = true ∧ stepsB step = true ∧ 0 < (bestA L step).2 then [(bestA L step).1.v, .int .i64 (bestA L step).2, .bool true] else [.agg [.int .i64 0, .int .i64 0, .int .i64 0], .int .i64 0, .bool false]
theorem arrsB_all {L : List Arrival} (h : arrsB L = true) : validL L ∧ L.length ≤ 8 := listedB_all h
theorem best_zero {L : List Arrival} {step : Int} : 0 ≤ (bestA L step).2 ∧ ((bestA L step).2 = 0 → (bestA L step).1 = ⟨0, 0, 0⟩) := by
 refine best_inv (fun s => 0 ≤ s.2 ∧ (s.2 = 0 → s.1 = ⟨0, 0, 0⟩)) ⟨Int.le_refl _, fun _ => rfl⟩ (fun i j s _ _ h => ?_)
 unfold bestStep
 split
 · rename_i g
   refine ⟨by simp only; omega, fun e => ?_⟩
   simp only at e; omega
 · exact h
theorem gridR_no {L : List Arrival} {step : Int} (h : ¬ (arrsB L = true ∧ stepsB step = true ∧ 0 < (bestA L step).2)) : gridR L step = [.agg [.int .i64 0, .int .i64 0, .int .i64 0], .int .i64 0, .bool false] := if_neg h
theorem gridR_yes {L : List Arrival} {step : Int} (h : arrsB L = true ∧ stepsB step = true ∧ 0 < (bestA L step).2) : gridR L step = [(bestA L step).1.v, .int .i64 (bestA L step).2, .bool true] := if_pos h
theorem iBestOnGrid_ok (L : List Arrival) (step : Int) (hl : L.length ≤ 16777216) : Ctr Try.prog 10 [Arrival.sl L, .int .i64 step] [] (.tup (gridR L step)) [] := by
 refine Ctr.intro Try.mixed Try.func10 rfl Try.okF10 ?_
 simp -implicitDefEqProofs -dsimp only [go_sem, Try.ntmps10, Try.results10]
 repeat (with_reducible refine sideA ?_)
 (first | refine callT.at (iAreArrivals_ok L (by omega)) ⟨leA, trivial⟩ ?_ | refine callS.at (iAreArrivals_ok L (by omega)) ⟨leA, trivial⟩ ?_)
 simp -implicitDefEqProofs -dsimp only [go_sem]
 refine guardT.splitF (fun h1 => ?_) (fun h1 => ?_) <;> simp -implicitDefEqProofs -dsimp only [go_sem, h1]
 rotate_left
 · exact WeakR.drop' (by rw [gridR_no (by simp at h1; simp [h1])]) (by rfl)
 (first | refine callT.at (isStep_ok step) ⟨leA, trivial⟩ ?_ | refine callS.at (isStep_ok step) ⟨leA, trivial⟩ ?_)
 simp -implicitDefEqProofs -dsimp only [go_sem]
 refine condT.split (fun h2 => ?_) (fun h2 => ?_) <;> simp -implicitDefEqProofs -dsimp only [go_sem, h2]
 · exact WeakR.drop' (by rw [gridR_no (by simp at h2; simp [stepsB, h2])]) (by rfl)
 have hv : arrsB L = true := by simpa using h1
 have hst : inB' step 50 500 = true := by simpa using h2
 obtain ⟨g1, g2⟩ := arrsB_all hv
 (first | refine callT.at (iBest_ok L step g1 (inB'_iff.1 hst) hl) ⟨leA, leA, trivial⟩ ?_ | refine callS.at (iBest_ok L step g1 (inB'_iff.1 hst) hl) ⟨leA, leA, trivial⟩ ?_)
 (repeat ((repeat1' (first | simp -implicitDefEqProofs -dsimp only [go_sem, Origin.v] | simp -dsimp (disch := omega) only [wrap_i64])); repeat (with_reducible refine sideA ?_)))
 have hz := best_zero (L := L) (step := step)
 refine condT.split (fun h3 => ?_) (fun h3 => ?_) <;> (repeat ((repeat1' (first | simp -implicitDefEqProofs -dsimp only [go_sem, h3] | simp -dsimp (disch := omega) only [wrap_i64])); repeat (with_reducible refine sideA ?_)))
 · exact WeakR.drop' (by rw [gridR_no (by simp at h3; rintro ⟨_, _, k⟩; omega)]) (by rfl)
 · exact WeakR.drop' (by rw [gridR_yes ⟨hv, hst, by simp at h3; omega⟩]; rfl) (by rfl)
theorem l10Step_ok (L : List Arrival) (step : Int) (hl : L.length ≤ 16777216) : Ctr Try.prog 33 [Arrival.sl L, .int .i64 step] [] (.bool (arrsB L && stepsB step)) [] := by
 refine Ctr.intro Try.mixed Try.func33 rfl Try.okF33 ?_
 simp -implicitDefEqProofs -dsimp only [go_sem, Try.ntmps33, Try.results33]
 (first | refine callT.at (l10Good_ok L (by omega)) ⟨leA, trivial⟩ ?_ | refine callS.at (l10Good_ok L (by omega)) ⟨leA, trivial⟩ ?_)
 simp -implicitDefEqProofs -dsimp only [go_sem]
 refine guardT.splitT (fun h1 => ?_) (fun h1 => ?_) <;> simp -implicitDefEqProofs -dsimp only [go_sem, h1]
 · (first | refine callT.at (l1In_ok step 50 500) ⟨leA, leA, leA, trivial⟩ ?_ | refine callS.at (l1In_ok step 50 500) ⟨leA, leA, leA, trivial⟩ ?_)
   simp -implicitDefEqProofs -dsimp only [go_sem]
   exact WeakR.drop' (by simp [stepsB]) (by rfl)
 · exact WeakR.drop' (by simp) (by rfl)
theorem sBestOnGrid_ok (L : List Arrival) (step : Int) (hl : L.length ≤ 16777216) : Ctr Try.prog 13 [Arrival.sl L, .int .i64 step] [] (.tup (gridR L step)) [] := by
 refine Ctr.intro Try.mixed Try.func13 rfl Try.okF13 ?_
 simp -implicitDefEqProofs -dsimp only [go_sem, Try.ntmps13, Try.results13]
 repeat (with_reducible refine sideA ?_)
 (first | refine callT.at (l10Step_ok L step hl) ⟨leA, leA, trivial⟩ ?_ | refine callS.at (l10Step_ok L step hl) ⟨leA, leA, trivial⟩ ?_)
 simp -implicitDefEqProofs -dsimp only [go_sem]
 refine condT.split (fun h1 => ?_) (fun h1 => ?_) <;> (repeat ((repeat1' (first | simp -implicitDefEqProofs -dsimp only [go_sem, h1] | simp -dsimp (disch := omega) only [wrap_i64])); repeat (with_reducible refine sideA ?_)))
 · exact WeakR.drop' (by rw [gridR_no (by simp at h1; rintro ⟨a, b, _⟩; rw [a, b] at h1; simp at h1)]) (by rfl)
 obtain ⟨hv, hst⟩ : arrsB L = true ∧ stepsB step = true := by simpa using h1
 obtain ⟨g1, g2⟩ := arrsB_all hv
 (first | refine callT.at (sBest_ok L step g1 (inB'_iff.1 hst) hl) ⟨leA, leA, trivial⟩ ?_ | refine callS.at (sBest_ok L step g1 (inB'_iff.1 hst) hl) ⟨leA, leA, trivial⟩ ?_)
 (repeat ((repeat1' (first | simp -implicitDefEqProofs -dsimp only [go_sem, Origin.v] | simp -dsimp (disch := omega) only [wrap_i64])); repeat (with_reducible refine sideA ?_)))
 have hz := best_zero (L := L) (step := step)
 by_cases h3 : 0 < (bestA L step).2
 · exact WeakR.drop' (by rw [gridR_yes ⟨hv, hst, h3⟩]; simp [h3]; rfl) (by rfl)
 · have h4 : (bestA L step).2 = 0 := by omega
   have h5 := hz.2 h4
   exact WeakR.drop' (by rw [gridR_no (fun k => h3 k.2.2)]; simp [h4, h5]) (by rfl)
end Go.Proofs
end
section
set_option maxRecDepth 100000
set_option maxHeartbeats 1000000
namespace Go.Proofs
open Go.Lv
def restOf (L : List Arrival) (o : Origin) : List Arrival := L.filter fun a => !(fitB a o)
theorem most_inv {L : List Arrival} {x y : Int} (P : Int × Int → Prop) (h0 : P (0, 0)) (hS : ∀ s a, a ∈ L → P s → P (mostStep L x y s a)) : ∀ i, i ≤ L.length → P (mostTo L x y i)
 | 0, _ => h0
 | i + 1, hi => by
   rw [mostTo_succ (by omega)]
   exact hS _ _ (List.getElem_mem _) (most_inv P h0 hS i (by omega))
theorem mostA_votes (L : List Arrival) (x y : Int) : 0 < (mostA L x y).1 → (mostA L x y).1 = votesN L x y (mostA L x y).2 := by
 refine most_inv (P := fun s => 0 < s.1 → s.1 = votesN L x y s.2) (by simp) (fun s a _ h => ?_) L.length (Nat.le_refl _)
 unfold mostStep
 split
 · exact h
 · split
   · intro _; rfl
   · exact h
theorem bestA_votes {L : List Arrival} {step : Int} (hs : 50 ≤ step ∧ step ≤ 500) : 0 < (bestA L step).2 → (bestA L step).2 = votesN L (bestA L step).1.X (bestA L step).1.Y (bestA L step).1.Tick ∧ placeB (bestA L step).1.X (bestA L step).1.Y = true ∧ 0 ≤ (bestA L step).1.Tick ∧ (bestA L step).1.Tick ≤ 1000000 := by
 refine best_inv (P := fun s => 0 < s.2 → s.2 = votesN L s.1.X s.1.Y s.1.Tick ∧ placeB s.1.X s.1.Y = true ∧ 0 ≤ s.1.Tick ∧ s.1.Tick ≤ 1000000) (fun h => by simp at h) (fun i j s hi hj h => ?_)
 unfold bestStep
 split
 · intro h3
   have hb := mostTo_bd L (i * step) (j * step) L.length (Nat.le_refl _)
   exact ⟨mostA_votes L _ _ h3, placeB_iff.2 ⟨⟨grid_nn hs i, (grid_lt hs).2 hi⟩, grid_nn hs j, (grid_lt hs).2 hj⟩, hb.2⟩
 · exact h
theorem filter_not_len {α : Type} (p : α → Bool) (L : List α) : (L.filter fun a => !(p a)).length + (L.filter p).length = L.length := by
 induction L with
 | nil => rfl
 | cons a L ih =>
   simp only [List.filter_cons]
   cases h : p a <;> simp <;> omega
theorem rest_lt {L : List Arrival} {step : Int} (hs : 50 ≤ step ∧ step ≤ 500) (h : 0 < (bestA L step).2) : (restOf L (bestA L step).1).length < L.length := by
 have h1 := (bestA_votes hs h).1
 have h2 := filter_not_len (fun a => fitB a (bestA L step).1) L
 have h3 : votesN L (bestA L step).1.X (bestA L step).1.Y (bestA L step).1.Tick = ((L.filter fun a => fitB a (bestA L step).1).length : Int) := rfl
 unfold restOf
 omega
def roundS (step least : Int) : Nat → List Arrival × List Origin → List Arrival × List Origin
 | 0, s => s
 | n + 1, s => if (bestA s.1 step).2 < least then s else roundS step least n (restOf s.1 (bestA s.1 step).1, s.2 ++ [(bestA s.1 step).1])
def foundA (L : List Arrival) (step least : Int) : List Origin := (roundS step least (L.length + 1) (L, [])).2
theorem round_stop {step least : Int} {n : Nat} {s : List Arrival × List Origin} (h : (bestA s.1 step).2 < least) : roundS step least n s = s := by
 cases n with
 | zero => rfl
 | succ n => rw [roundS, if_pos h]
theorem round_go {step least : Int} {n : Nat} {s : List Arrival × List Origin} (h : ¬ (bestA s.1 step).2 < least) : roundS step least (n + 1) s = roundS step least n (restOf s.1 (bestA s.1 step).1, s.2 ++ [(bestA s.1 step).1]) := by
 rw [roundS, if_neg h]
def foundR (L : List Arrival) (step least : Int) : Option (List Origin) := if arrsB L = true ∧ stepsB step = true ∧ inB' least 1 8 = true then some (foundA L step least) else none
theorem found_len {step least : Int} (hs : 50 ≤ step ∧ step ≤ 500) (hl : 1 ≤ least) : ∀ (n : Nat) (s : List Arrival × List Origin), (roundS step least n s).2.length ≤ s.2.length + s.1.length
 | 0, s => Nat.le_add_right _ _
 | n + 1, s => by
   rw [roundS]
   split
   · exact Nat.le_add_right _ _
   · rename_i h
     have := found_len hs hl n (restOf s.1 (bestA s.1 step).1, s.2 ++ [(bestA s.1 step).1])
     have h2 := rest_lt (L := s.1) hs (by omega)
     simp only [List.length_append, List.length_singleton] at this
     omega
theorem strayIs_ok (a : Arrival) (o : Origin) (ha : arrB a = true) (hp : placeB o.X o.Y = true) : Ctr Try.prog 66 [a.v, .pt o.cs] [] (.bool (!(fitB a o))) [] := by
 refine Ctr.intro Try.mixed Try.func66 rfl Try.okF66 ?_
 simp -implicitDefEqProofs -dsimp only [go_sem, Try.ntmps66, Try.results66]
 simp -implicitDefEqProofs -dsimp only [go_sem, Arrival.v, Origin.cs]
 (first | refine callT.at (fits_ok a o ha hp) ⟨leA, leA, trivial⟩ ?_ | refine callS.at (fits_ok a o ha hp) ⟨leA, leA, trivial⟩ ?_)
 simp -implicitDefEqProofs -dsimp only [go_sem]
 exact WeakR.drop' rfl (by rfl)
theorem without_ok (L : List Arrival) (o : Origin) (hL : validL L) (hp : placeB o.X o.Y = true) (hl : L.length ≤ 16777216) : Ctr Try.prog 32 [Arrival.sl L, o.v] [] (.osl 0 0 (restOf L o).length 5) [some (rows Arrival.cs (restOf L o))] := by
 unfold restOf
 refine Ctr.intro Try.mixed Try.func32 rfl Try.okF32 ?_
 simp -implicitDefEqProofs -dsimp only [go_sem, Try.ntmps32, Try.results32]
 simp -implicitDefEqProofs -dsimp only [go_sem, Origin.v]
 (first | refine callT.at (filterArrivalM_ok L (fun a => !(fitB a o)) _ [.pt o.cs] (fun d => by cases d <;> rfl) (fun x hx => strayIs_ok x o (hL x hx) hp) hl) ⟨leA, leA, trivial⟩ ?_ | refine callS.at (filterArrivalM_ok L (fun a => !(fitB a o)) _ [.pt o.cs] (fun d => by cases d <;> rfl) (fun x hx => strayIs_ok x o (hL x hx) hp) hl) ⟨leA, leA, trivial⟩ ?_)
 simp -implicitDefEqProofs -dsimp only [go_sem]
 refine WeakR.pick [1] (by decide) (fun j hj => by omega) (.inl ?_) ?_
 · first | rfl | (simp [ren, pickF, posOf]; done)
 · simp only [pickH, List.map_cons, List.map_nil, pickB, List.getElem?_cons_zero, List.getElem?_cons_succ, map_ren_rows]
theorem foundR_yes {L : List Arrival} {step least : Int} (h : arrsB L = true ∧ stepsB step = true ∧ inB' least 1 8 = true) : foundR L step least = some (foundA L step least) := if_pos h
theorem foundR_no {L : List Arrival} {step least : Int} (h : ¬ (arrsB L = true ∧ stepsB step = true ∧ inB' least 1 8 = true)) : foundR L step least = none := if_neg h
theorem iEventsFound_ok (L : List Arrival) (step least : Int) (hl : L.length ≤ 16777216) : Ctr Try.prog 7 [Arrival.sl L, .int .i64 step, .int .i64 least] [] (optN 3 (foundR L step least)) (optNh Origin.cs (foundR L step least)) := by
 refine Ctr.intro Try.mixed Try.func7 rfl Try.okF7 ?_
 simp -implicitDefEqProofs -dsimp only [go_sem, Try.ntmps7, Try.results7]
 (first | refine callT.at (iAreArrivals_ok L (by omega)) ⟨leA, trivial⟩ ?_ | refine callS.at (iAreArrivals_ok L (by omega)) ⟨leA, trivial⟩ ?_)
 simp -implicitDefEqProofs -dsimp only [go_sem]
 refine guardT.splitF (fun h1 => ?_) (fun h1 => ?_) <;> simp -implicitDefEqProofs -dsimp only [go_sem, h1]
 rotate_left
 · rw [foundR_no (by simp at h1; simp [h1])]
   exact WeakR.drop' rfl (by rfl)
 (first | refine callT.at (isStep_ok step) ⟨leA, trivial⟩ ?_ | refine callS.at (isStep_ok step) ⟨leA, trivial⟩ ?_)
 simp -implicitDefEqProofs -dsimp only [go_sem]
 refine guardT.splitF (fun h2 => ?_) (fun h2 => ?_) <;> simp -implicitDefEqProofs -dsimp only [go_sem, h2]
 rotate_left
 · rw [foundR_no (by simp at h2; simp [stepsB, h2])]
   exact WeakR.drop' rfl (by rfl)
 (first | refine callT.at (in_ok least 1 8) ⟨leA, leA, leA, trivial⟩ ?_ | refine callS.at (in_ok least 1 8) ⟨leA, leA, leA, trivial⟩ ?_)
 simp -implicitDefEqProofs -dsimp only [go_sem]
 refine condT.split (fun h3 => ?_) (fun h3 => ?_) <;> (repeat ((repeat1' (first | simp -implicitDefEqProofs -dsimp only [go_sem, h3] | simp -dsimp (disch := omega) only [wrap_i64])); repeat (with_reducible refine sideA ?_)))
 · rw [foundR_no (by simp at h3; simp [h3])]
   exact WeakR.drop' rfl (by rfl)
 have hv : arrsB L = true := by simpa using h1
 have hst : inB' step 50 500 = true := by simpa using h2
 have hle : inB' least 1 8 = true := by simpa using h3
 rw [foundR_yes ⟨hv, hst, hle⟩]
 clear h1 h2 h3
 obtain ⟨g1, g2⟩ := arrsB_all hv
 have hst' := inB'_iff.1 hst
 have hle' := inB'_iff.1 hle
 refine LoopT.intro (fun x : Nat × List Arrival × List Origin => validL x.2.1 ∧ x.2.1.length < x.1 ∧ roundS step least x.1 x.2 = roundS step least (L.length + 1) (L, []) ∧ x.2.2.length + x.2.1.length ≤ L.length) (fun x => ⟨[Arrival.sl x.2.1, .int .i64 step, .int .i64 least, .undef, .undef, .undef, .undef, .undef, .osl 0 0 x.2.2.length 3, .undef, .undef, .undef, .undef, .undef, .undef, .undef, .undef, .undef, .undef, .undef, .undef, .undef, .undef, .undef, .undef, .undef, .undef, .undef, .undef, .undef, .undef, .undef, .undef, .undef, .undef, .undef, .undef, .undef, .undef, .undef, .undef, .undef], [some (rows Origin.cs x.2.2)], 0⟩) (fun x => x.1) (L.length + 1, L, []) ⟨g1, Nat.lt_succ_self _, rfl, by simp⟩ ?_ (fun x hx => ?_)
 · refine Weak.cut (1) (by simp) (by simp) ?_ ?_
   · simp [LeC, LeV, ren, cutF]
   · simp [cutH, cutB, rows]
 obtain ⟨n, L', O⟩ := x
 obtain ⟨q1, q2, q3, q4⟩ := hx
 simp only at q1 q2 q3 q4 ⊢
 obtain ⟨n, rfl⟩ : ∃ m, n = m + 1 := ⟨n - 1, by omega⟩
 have hv := bestA_votes (L := L') hst'
 have hlt := rest_lt (L := L') hst'
 simp -implicitDefEqProofs -dsimp only [go_sem]
 (first | refine callT.at (iBest_ok L' step q1 hst' (by omega)) ⟨leA, leA, trivial⟩ ?_ | refine callS.at (iBest_ok L' step q1 hst' (by omega)) ⟨leA, leA, trivial⟩ ?_)
 (repeat ((repeat1' (first | simp -implicitDefEqProofs -dsimp only [go_sem, Origin.v] | simp -dsimp (disch := omega) only [wrap_i64])); repeat (with_reducible refine sideA ?_)))
 refine condT.split (fun h3 => ?_) (fun h3 => ?_)
 · (repeat ((repeat1' (first | simp -implicitDefEqProofs -dsimp only [go_sem, h3] | simp -dsimp (disch := omega) only [wrap_i64])); repeat (with_reducible refine sideA ?_)))
   rw [round_stop (of_decide_eq_true h3)] at q3
   have e : foundA L step least = O := by rw [foundA, ← q3]
   rw [e]
   refine WeakR.pick [0] (by decide) (fun j hj => by omega) (.inl ?_) ?_
   · rfl
   · simp only [pickH, List.map_cons, List.map_nil, pickB, List.getElem?_cons_zero, map_ren_rows, optNh]
 · have h3' := of_decide_eq_false h3
   obtain ⟨_, v2, v3, v4⟩ := hv (by omega)
   have hlt' := hlt (by omega)
   rw [round_go h3'] at q3
   (repeat ((repeat1' (first | simp -implicitDefEqProofs -dsimp only [go_sem, h3, rows_length, rows_cell, Nat.mul_one] | simp -dsimp (disch := omega) only [wrap_i64])); repeat (with_reducible refine sideA ?_)))
   (first | refine callT.at (without_ok L' (bestA L' step).1 q1 v2 (by omega)) ⟨leA, leA, trivial⟩ ?_ | refine callS.at (without_ok L' (bestA L' step).1 q1 v2 (by omega)) ⟨leA, leA, trivial⟩ ?_)
   try (repeat1' (first | simp -implicitDefEqProofs -dsimp only [go_sem] | simp -dsimp (disch := omega) only [wrap_i64]))
   refine ⟨(n, restOf L' (bestA L' step).1, O ++ [(bestA L' step).1]), ⟨q1.filter _, by simp only; omega, q3, by simp only [List.length_append, List.length_singleton]; omega⟩, ?_, by simp only; omega⟩
   refine Weak.pick [0] (by decide) (fun j hj => by omega) ?_ ?_
   · simp [LeG, LeV, ren, pickF, posOf, frzR, take_rows, map_ren_rows]
   · rw [← rows_snoc]
     simp [pickH, pickB, ren, pickF, posOf, map_ren_rows, Origin.cs]
theorem l10Rest_ok (L : List Arrival) (o : Origin) (hL : validL L) (hp : placeB o.X o.Y = true) (ht : 0 ≤ o.Tick ∧ o.Tick ≤ 1000000) (hl : L.length ≤ 16777216) : Ctr Try.prog 36 [Arrival.sl L, o.v] [] (.osl 0 0 (restOf L o).length 5) [some (rows Arrival.cs (restOf L o))] := by
 unfold restOf
 refine Ctr.intro Try.mixed Try.func36 rfl Try.okF36 ?_
 simp -implicitDefEqProofs -dsimp only [go_sem, Try.ntmps36, Try.results36]
 simp -implicitDefEqProofs -dsimp only [go_sem, Origin.v]
 have hstep : ∀ {i : Nat} (hi : i < L.length), (L.take (i + 1)).filter (fun a => !(fitB a o)) = (L.take i).filter (fun a => !(fitB a o)) ++ if (!(fitB L[i] o)) = true then [L[i]] else [] := fun {i} hi => by
   rw [List.take_succ_eq_append_getElem hi, List.filter_append]
   congr 1
   cases h : fitB L[i] o <;> simp [h]
 refine LoopT.intro (fun i : Nat => i ≤ L.length) (fun i => ⟨[Arrival.sl L, .undef, .undef, .ptr 0 0, .undef, .osl 1 0 ((L.take i).filter fun a => !(fitB a o)).length 5, .int .i64 i, .undef, .undef, .undef, .undef, .undef, .undef, .undef, .undef, .undef, .undef, .undef, .undef, .undef, .undef, .undef, .undef, .undef, .undef, .undef, .undef, .undef, .undef], [some o.cs, some (rows Arrival.cs ((L.take i).filter fun a => !(fitB a o)))], 0⟩) (fun i => L.length - i) 0 (Nat.zero_le _) ?_ (fun i hi => ?_)
 · refine Weak.cut (2) (by simp) (by simp) ?_ ?_
   · simp [LeC, LeV, ren, cutF]
   · simp [cutH, cutB, rows, Origin.cs, ren]
 simp -implicitDefEqProofs -dsimp only [go_sem, Origin.cs]
 refine condT.split (fun h1 => ?_) (fun h1 => ?_)
 · simp -implicitDefEqProofs -dsimp only [go_sem, h1]
   have hi' : i < L.length := by simpa using h1
   have hf : ((L.take i).filter (fun a => !(fitB a o))).length ≤ i := Nat.le_trans (List.length_filter_le _ _) (by simp; omega)
   have h5 := Arrival.csl L[i]
   have hr := rows_at Arrival.csl hi'
   (repeat ((repeat1' (first | simp -implicitDefEqProofs -dsimp only [go_sem, hr, Arrival.cs, Origin.cs] | simp -dsimp (disch := omega) only [wrap_i64])); repeat (with_reducible refine sideA ?_)))
   (first | refine callT.at (l10Fits_ok L[i] o (hL _ (List.getElem_mem hi')) hp ht) ⟨leA, leA, trivial⟩ ?_ | refine callS.at (l10Fits_ok L[i] o (hL _ (List.getElem_mem hi')) hp ht) ⟨leA, leA, trivial⟩ ?_)
   simp -implicitDefEqProofs -dsimp only [go_sem]
   refine condT.split (fun h2 => ?_) (fun h2 => ?_) <;> simp -implicitDefEqProofs -dsimp only [go_sem, h2]
   · (repeat ((repeat1' (first | simp -implicitDefEqProofs -dsimp only [go_sem, hr, Arrival.cs, rows_length, rows_cell, Nat.mul_one] | simp -dsimp (disch := omega) only [wrap_i64])); repeat (with_reducible refine sideA ?_)))
     refine ⟨i + 1, hi', ?_, by omega⟩
     refine Weak.cut (2) (by simp) (by simp) ?_ ?_
     · rw [hstep hi', h2]
       simp [LeC, LeV, ren, cutF]
     · rw [hstep hi', h2, if_pos rfl, ← rows_snoc]
       simp [cutH, cutB, ren, cutF, map_ren_rows, killC, Origin.cs, Arrival.cs]
   · try (repeat1' (first | simp -implicitDefEqProofs -dsimp only [go_sem] | simp -dsimp (disch := omega) only [wrap_i64]))
     refine ⟨i + 1, hi', ?_, by omega⟩
     refine Weak.cut (2) (by simp) (by simp) ?_ ?_
     · rw [hstep hi', h2]
       simp [LeC, LeV, ren, cutF]
     · rw [hstep hi', h2]
       simp [cutH, cutB, map_ren_rows, Origin.cs, ren]
 · simp -implicitDefEqProofs -dsimp only [go_sem, h1]
   have hi' : i = L.length := by simp at h1; omega
   subst hi'
   rw [List.take_length]
   refine WeakR.pick [1] (by decide) (fun j hj => by omega) (.inl ?_) ?_
   · first | rfl | (simp [ren, pickF, posOf]; done)
   · simp only [pickH, List.map_cons, List.map_nil, pickB, List.getElem?_cons_zero, List.getElem?_cons_succ, map_ren_rows]
theorem sEventsFound_ok (L : List Arrival) (step least : Int) (hl : L.length ≤ 16777216) : Ctr Try.prog 8 [Arrival.sl L, .int .i64 step, .int .i64 least] [] (optO 3 (foundR L step least)) (optOh Origin.cs (foundR L step least)) := by
 refine Ctr.intro Try.mixed Try.func8 rfl Try.okF8 ?_
 simp -implicitDefEqProofs -dsimp only [go_sem, Try.ntmps8, Try.results8]
 (first | refine callT.at (l10Step_ok L step hl) ⟨leA, leA, trivial⟩ ?_ | refine callS.at (l10Step_ok L step hl) ⟨leA, leA, trivial⟩ ?_)
 simp -implicitDefEqProofs -dsimp only [go_sem]
 refine guardT.splitF (fun h1 => ?_) (fun h1 => ?_) <;> simp -implicitDefEqProofs -dsimp only [go_sem, h1]
 rotate_left
 · rw [foundR_no (by simp at h1; rintro ⟨a, b, _⟩; rw [a, b] at h1; simp at h1)]
   exact WeakR.refl _ _ _
 (first | refine callT.at (l1In_ok least 1 8) ⟨leA, leA, leA, trivial⟩ ?_ | refine callS.at (l1In_ok least 1 8) ⟨leA, leA, leA, trivial⟩ ?_)
 simp -implicitDefEqProofs -dsimp only [go_sem]
 refine condT.split (fun h3 => ?_) (fun h3 => ?_) <;> (repeat ((repeat1' (first | simp -implicitDefEqProofs -dsimp only [go_sem, h3] | simp -dsimp (disch := omega) only [wrap_i64])); repeat (with_reducible refine sideA ?_)))
 · rw [foundR_no (by simp at h3; simp [h3])]
   exact WeakR.refl _ _ _
 obtain ⟨hv, hst⟩ : arrsB L = true ∧ stepsB step = true := by simpa using h1
 have hle : inB' least 1 8 = true := by simpa using h3
 rw [foundR_yes ⟨hv, hst, hle⟩]
 clear h1 h3
 obtain ⟨g1, g2⟩ := arrsB_all hv
 have hst' := inB'_iff.1 hst
 have hle' := inB'_iff.1 hle
 refine LoopT.intro (fun x : Nat × List Arrival × List Origin => validL x.2.1 ∧ x.2.1.length < x.1 ∧ roundS step least x.1 x.2 = roundS step least (L.length + 1) (L, []) ∧ x.2.2.length + x.2.1.length ≤ L.length) (fun x => ⟨[.undef, .int .i64 step, .int .i64 least, .undef, .undef, .undef, .undef, .undef, .osl 0 0 x.2.2.length 3, Arrival.sl x.2.1, .undef, .undef, .undef, .undef, .undef, .undef, .undef, .undef, .undef, .undef, .undef, .undef, .undef, .undef, .undef, .undef, .undef, .undef, .undef, .undef, .undef, .undef, .undef, .undef, .undef, .undef, .undef, .undef, .undef, .undef, .undef], [some (rows Origin.cs x.2.2)], 0⟩) (fun x => x.1) (L.length + 1, L, []) ⟨g1, Nat.lt_succ_self _, rfl, by simp⟩ ?_ (fun x hx => ?_)
 · refine Weak.cut (1) (by simp) (by simp) ?_ ?_
   · simp [LeC, LeV, ren, cutF]
   · simp [cutH, cutB, rows]
 obtain ⟨n, L', O⟩ := x
 obtain ⟨q1, q2, q3, q4⟩ := hx
 simp only at q1 q2 q3 q4 ⊢
 obtain ⟨n, rfl⟩ : ∃ m, n = m + 1 := ⟨n - 1, by omega⟩
 have hv := bestA_votes (L := L') hst'
 have hlt := rest_lt (L := L') hst'
 simp -implicitDefEqProofs -dsimp only [go_sem]
 (first | refine callT.at (sBest_ok L' step q1 hst' (by omega)) ⟨leA, leA, trivial⟩ ?_ | refine callS.at (sBest_ok L' step q1 hst' (by omega)) ⟨leA, leA, trivial⟩ ?_)
 (repeat ((repeat1' (first | simp -implicitDefEqProofs -dsimp only [go_sem, Origin.v] | simp -dsimp (disch := omega) only [wrap_i64])); repeat (with_reducible refine sideA ?_)))
 refine condT.split (fun h3 => ?_) (fun h3 => ?_)
 · (repeat ((repeat1' (first | simp -implicitDefEqProofs -dsimp only [go_sem, h3] | simp -dsimp (disch := omega) only [wrap_i64])); repeat (with_reducible refine sideA ?_)))
   rw [round_stop (of_decide_eq_true h3)] at q3
   have e : foundA L step least = O := by rw [foundA, ← q3]
   rw [e]
   refine WeakR.pick [0] (by decide) (fun j hj => by omega) (.inl ?_) ?_
   · rfl
   · simp only [pickH, List.map_cons, List.map_nil, pickB, List.getElem?_cons_zero, map_ren_rows, optOh]
 · have h3' := of_decide_eq_false h3
   obtain ⟨_, v2, v3, v4⟩ := hv (by omega)
   have hlt' := hlt (by omega)
   rw [round_go h3'] at q3
   (repeat ((repeat1' (first | simp -implicitDefEqProofs -dsimp only [go_sem, h3, rows_length, rows_cell, Nat.mul_one] | simp -dsimp (disch := omega) only [wrap_i64])); repeat (with_reducible refine sideA ?_)))
   (first | refine callT.at (l10Rest_ok L' (bestA L' step).1 q1 v2 ⟨v3, v4⟩ (by omega)) ⟨leA, leA, trivial⟩ ?_ | refine callS.at (l10Rest_ok L' (bestA L' step).1 q1 v2 ⟨v3, v4⟩ (by omega)) ⟨leA, leA, trivial⟩ ?_)
   try (repeat1' (first | simp -implicitDefEqProofs -dsimp only [go_sem] | simp -dsimp (disch := omega) only [wrap_i64]))
   refine ⟨(n, restOf L' (bestA L' step).1, O ++ [(bestA L' step).1]), ⟨q1.filter _, by simp only; omega, q3, by simp only [List.length_append, List.length_singleton]; omega⟩, ?_, by simp only; omega⟩
   refine Weak.pick [0] (by decide) (fun j hj => by omega) ?_ ?_
   · simp [LeG, LeV, ren, pickF, posOf, frzR, take_rows, map_ren_rows]
   · rw [← rows_snoc]
     simp [pickH, pickB, ren, pickF, posOf, map_ren_rows, Origin.cs]
end Go.Proofs
end
section
set_option maxRecDepth 100000
set_option maxHeartbeats 1000000
namespace Go.Proofs
open Go.Lv
theorem arrsB_filter {L : List Arrival} (h : arrsB L = true) (p : Arrival → Bool) : arrsB (L.filter p) = true := by
 have h1 := (listedB_all h).1
 have h2 := (listedB_lt h).sublist (List.filter_sublist.map Arrival.Id (l₁ := L.filter p))
 have h3 : (L.filter p).length ≤ 8 := Nat.le_trans (List.length_filter_le _ _) (listedB_all h).2
 have h1' : ∀ x ∈ L.filter p, arrB x = true := fun x hx => h1 x (List.mem_filter.1 hx).1
 generalize L.filter p = M at h1' h2 h3
 unfold arrsB listedB
 simp only [Bool.and_eq_true, decide_eq_true_eq]
 refine ⟨List.all_eq_true.2 fun i hi => ?_, h3⟩
 have hi' : i < M.length := by simpa using hi
 rw [List.pairwise_iff_getElem] at h2
 unfold listedQ
 rw [List.getElem?_eq_getElem hi']
 simp only [h1' _ (List.getElem_mem hi'), Bool.true_and]
 cases i with
 | zero => rfl
 | succ j =>
   have hj : j < M.length := by omega
   simp only [List.getElem?_eq_getElem hj]
   have := h2 j (j + 1) (by simpa using hj) (by simpa using hi') (by omega)
   simpa using this
def leftA (step : Int) (L : List Arrival) : Nat → List Arrival
 | 0 => L
 | i + 1 => restOf (leftA step L i) (bestA (leftA step L i) step).1
theorem leftA_shift (step : Int) (L : List Arrival) : ∀ i, leftA step (restOf L (bestA L step).1) i = leftA step L (i + 1)
 | 0 => rfl
 | i + 1 => by
   show restOf (leftA step (restOf L (bestA L step).1) i) _ = _
   rw [leftA_shift step L i]
   rfl
def evsA (step least : Int) : Nat → List Arrival → List Origin
 | 0, _ => []
 | n + 1, L => if (bestA L step).2 < least then [] else (bestA L step).1 :: evsA step least n (restOf L (bestA L step).1)
theorem round_evs (step least : Int) : ∀ (n : Nat) (s : List Arrival × List Origin), (roundS step least n s).2 = s.2 ++ evsA step least n s.1
 | 0, s => by simp [roundS, evsA]
 | n + 1, s => by
   rw [roundS, evsA]
   split
   · simp
   · rw [round_evs step least n]
     simp
theorem evs_at (step least : Int) : ∀ (n : Nat) (L : List Arrival) (i : Nat) (hi : i < (evsA step least n L).length), (evsA step least n L)[i] = (bestA (leftA step L i) step).1 ∧ least ≤ (bestA (leftA step L i) step).2
 | 0, L, i, hi => by simp [evsA] at hi
 | n + 1, L, i, hi => by
   by_cases h : (bestA L step).2 < least
   · have e : evsA step least (n + 1) L = [] := by rw [evsA, if_pos h]
     rw [e] at hi
     simp at hi
   · have e : evsA step least (n + 1) L = (bestA L step).1 :: evsA step least n (restOf L (bestA L step).1) := by rw [evsA, if_neg h]
     cases i with
     | zero =>
       refine ⟨by simp only [e, List.getElem_cons_zero]; rfl, ?_⟩
       show least ≤ (bestA L step).2
       omega
     | succ i =>
       have hi' : i < (evsA step least n (restOf L (bestA L step).1)).length := by rw [e] at hi; simpa using hi
       have := evs_at step least n (restOf L (bestA L step).1) i hi'
       rw [leftA_shift] at this
       simp only [e, List.getElem_cons_succ]
       exact this
theorem evs_end {step least : Int} (hs : 50 ≤ step ∧ step ≤ 500) (hl : 1 ≤ least) : ∀ (n : Nat) (L : List Arrival), L.length < n → (bestA (leftA step L (evsA step least n L).length) step).2 < least
 | 0, L, h => by omega
 | n + 1, L, h => by
   by_cases hc : (bestA L step).2 < least
   · have e : evsA step least (n + 1) L = [] := by rw [evsA, if_pos hc]
     rw [e]
     exact hc
   · have e : evsA step least (n + 1) L = (bestA L step).1 :: evsA step least n (restOf L (bestA L step).1) := by rw [evsA, if_neg hc]
     have hlt := rest_lt (L := L) hs (by omega)
     have := evs_end hs hl n (restOf L (bestA L step).1) (by omega)
     rw [e, List.length_cons, ← leftA_shift]
     exact this
theorem found_evs (L : List Arrival) (step least : Int) : foundA L step least = evsA step least (L.length + 1) L := by
 rw [foundA, round_evs]; simp
theorem leftA_ok {step : Int} {L : List Arrival} (h : arrsB L = true) : ∀ i, arrsB (leftA step L i) = true ∧ (leftA step L i).length ≤ L.length
 | 0 => ⟨h, Nat.le_refl _⟩
 | i + 1 => by
   obtain ⟨h1, h2⟩ := leftA_ok (step := step) h i
   exact ⟨arrsB_filter h1 _, Nat.le_trans (List.length_filter_le _ _) h2⟩
theorem found_at {L : List Arrival} {step least : Int} {i : Nat} (hi : i < (foundA L step least).length) : (foundA L step least)[i] = (bestA (leftA step L i) step).1 ∧ least ≤ (bestA (leftA step L i) step).2 := by
 have e := found_evs L step least
 have := evs_at step least (L.length + 1) L i (by rw [← e]; exact hi)
 simpa only [e] using this
theorem found_end {L : List Arrival} {step least : Int} (hs : 50 ≤ step ∧ step ≤ 500) (hl : 1 ≤ least) : (bestA (leftA step L (foundA L step least).length) step).2 < least := by
 rw [found_evs]
 exact evs_end hs hl _ _ (by omega)
theorem votes_rest {L : List Arrival} {step : Int} (hs : 50 ≤ step ∧ step ≤ 500) (h : 0 < (bestA L step).2) : ((restOf L (bestA L step).1).length : Int) + (bestA L step).2 = L.length := by
 have h1 := (bestA_votes hs h).1
 have h2 := filter_not_len (fun a => fitB a (bestA L step).1) L
 have h3 : votesN L (bestA L step).1.X (bestA L step).1.Y (bestA L step).1.Tick = ((L.filter fun a => fitB a (bestA L step).1).length : Int) := rfl
 unfold restOf
 omega
end Go.Proofs
end
section
namespace Go.Lv
theorem Ctr.weak {P : Program} {f : FuncId} {args : List V} {r r' : V} {hout hout' : Hp} (h : Ctr P f args [] r hout) (hw : WeakR 0 r hout r' hout') : Ctr P f args [] r' hout' :=
 ⟨h.1, fun w vs m av h1 h2 h3 h4 h5 => (h.2 w vs m av h1 h2 h3 h4 h5).mono fun e w' ⟨v, m', g1, g2, g3, g4, g5⟩ => by
   obtain ⟨m2, k1, k2, k3⟩ := hw w m [] av w' m' v rfl (Nat.zero_le _) h2 g2.size g3 g4 g5
   exact ⟨v, m2, g1, g2, k1, k2, k3⟩⟩
section
variable {α : Type} {cs : α → List V} {w : Nat} [FlatP cs w]
def frzV (cs : α → List V) (w : Nat) (R : Option (List α)) : V := .tup [.sl (R.getD []).length w (rows cs (R.getD [])), .bool R.isSome]
theorem frzN (R : Option (List α)) : WeakR 0 (optN w R) (optNh cs R) (frzV cs w R) [] := by
 cases R with
 | none =>
   intro w0 m0 h0 av0 W m val e1 e2 hlt hle H hx hi
   refine ⟨m, H, ?_, hi⟩
   change RV W m [] _ true val (.tup [.nilsl, .bool false]) at hx
   cases hx with
   | tup a vs ha hra =>
     refine .tup _ _ ha (fun i hi => ?_)
     match i, hi with
     | 0, _ => exact (hra 0 (by simp)).leE LeE.nil
     | 1, _ => exact hra 1 (by simp)
 | some L =>
   refine WeakR.pick [] (by decide) (fun j hj => by omega) (.inl ?_) rfl
   simp [frzV, optN, optNh, ren, pickF, posOf, frzR, take_rows, map_ren_rows]
theorem frzO (R : Option (List α)) : WeakR 0 (optO w R) (optOh cs R) (frzV cs w R) [] := by
 cases R with
 | none =>
   refine WeakR.pick [] (by decide) (fun j hj => by omega) (.inl ?_) rfl
   simp [frzV, optO, optOh, ren, pickF, posOf, frzR, rows]
 | some L =>
   refine WeakR.pick [] (by decide) (fun j hj => by omega) (.inl ?_) rfl
   simp [frzV, optO, optOh, ren, pickF, posOf, frzR, take_rows, map_ren_rows]
end
end Go.Lv
end
section
set_option maxRecDepth 100000
namespace Go.Proofs
open Go.Lv
def u8R (x : Int) : Prop := 0 ≤ x ∧ x ≤ 255
def ByteS.cs (x : Int) : List V := [.int .u8 x]
instance instFlatPByteS : FlatP ByteS.cs 1 := ⟨fun _ => rfl, fun _ d => by cases d <;> rfl, fun _ => rfl, fun _ => rfl⟩
theorem ByteS.csl (a : Int) : (ByteS.cs a).length = 1 := rfl
abbrev ByteS.ok (x : Int) : Prop := u8R x
abbrev ByteS.sl (L : List Int) : V := .sl L.length 1 (Go.Lv.rows ByteS.cs L)

end Go.Proofs
end
section
set_option maxRecDepth 100000
set_option maxHeartbeats 2000000
namespace Go.Proofs
open Go.Lv
def originB (o : Origin) : Bool := placeB o.X o.Y && inB' o.Tick 0 1000000
theorem isOrigin_ok (o : Origin) : Ctr Try.prog 37 [o.v] [] (.bool (originB o)) [] := by
 refine Ctr.intro Try.mixed Try.func37 rfl Try.okF37 ?_
 simp -implicitDefEqProofs -dsimp only [go_sem, Try.ntmps37, Try.results37]
 (repeat ((repeat1' (first | simp -implicitDefEqProofs -dsimp only [go_sem, Origin.v] | simp -dsimp (disch := omega) only [wrap_i64])); repeat (with_reducible refine sideA ?_)))
 (first | refine callT.at (isPlace_ok o.X o.Y) ⟨leA, leA, trivial⟩ ?_ | refine callS.at (isPlace_ok o.X o.Y) ⟨leA, leA, trivial⟩ ?_)
 (repeat ((repeat1' (first | simp -implicitDefEqProofs -dsimp only [go_sem] | simp -dsimp (disch := omega) only [wrap_i64])); repeat (with_reducible refine sideA ?_)))
 refine guardT.splitT (fun h1 => ?_) (fun h1 => ?_)
 · (repeat ((repeat1' (first | simp -implicitDefEqProofs -dsimp only [go_sem, h1] | simp -dsimp (disch := omega) only [wrap_i64])); repeat (with_reducible refine sideA ?_)))
   (first | refine callT.at (isTick_ok o.Tick) ⟨leA, trivial⟩ ?_ | refine callS.at (isTick_ok o.Tick) ⟨leA, trivial⟩ ?_)
   (repeat ((repeat1' (first | simp -implicitDefEqProofs -dsimp only [go_sem] | simp -dsimp (disch := omega) only [wrap_i64])); repeat (with_reducible refine sideA ?_)))
   exact WeakR.drop' (by simp [originB, h1]) (by rfl)
 · (repeat ((repeat1' (first | simp -implicitDefEqProofs -dsimp only [go_sem, h1] | simp -dsimp (disch := omega) only [wrap_i64])); repeat (with_reducible refine sideA ?_)))
   exact WeakR.drop' (by simp [originB, h1]) (by rfl)
theorem best_origin {L : List Arrival} {step : Int} (hs : 50 ≤ step ∧ step ≤ 500) (h : 0 < (bestA L step).2) : originB (bestA L step).1 = true := by
 obtain ⟨_, h1, h2, h3⟩ := bestA_votes hs h
 simp [originB, h1, inB', h2, h3]
theorem iWithoutVoters_ok (L : List Arrival) (o : Origin) (hL : arrsB L = true) (ho : originB o = true) : Ctr Try.prog 11 [Arrival.sl L, o.v] [] (.tup [Arrival.sl (restOf L o), .bool true]) [] := by
 obtain ⟨hv, hl⟩ := arrsB_all hL
 have hp : placeB o.X o.Y = true := by simp [originB] at ho; exact ho.1
 refine Ctr.intro Try.mixed Try.func11 rfl Try.okF11 ?_
 simp -implicitDefEqProofs -dsimp only [go_sem, Try.ntmps11, Try.results11]
 (repeat ((repeat1' (first | simp -implicitDefEqProofs -dsimp only [go_sem, Origin.v] | simp -dsimp (disch := omega) only [wrap_i64])); repeat (with_reducible refine sideA ?_)))
 (first | refine callT.at (iAreArrivals_ok L (by omega)) ⟨leA, trivial⟩ ?_ | refine callS.at (iAreArrivals_ok L (by omega)) ⟨leA, trivial⟩ ?_)
 (repeat ((repeat1' (first | simp -implicitDefEqProofs -dsimp only [go_sem, hL] | simp -dsimp (disch := omega) only [wrap_i64])); repeat (with_reducible refine sideA ?_)))
 (first | refine callT.at (isOrigin_ok o) ⟨leA, trivial⟩ ?_ | refine callS.at (isOrigin_ok o) ⟨leA, trivial⟩ ?_)
 (repeat ((repeat1' (first | simp -implicitDefEqProofs -dsimp only [go_sem, ho] | simp -dsimp (disch := omega) only [wrap_i64])); repeat (with_reducible refine sideA ?_)))
 (first | refine callT.at (without_ok L o hv hp (by omega)) ⟨leA, leA, trivial⟩ ?_ | refine callS.at (without_ok L o hv hp (by omega)) ⟨leA, leA, trivial⟩ ?_)
 (repeat ((repeat1' (first | simp -implicitDefEqProofs -dsimp only [go_sem] | simp -dsimp (disch := omega) only [wrap_i64])); repeat (with_reducible refine sideA ?_)))
 refine WeakR.pick [] (by decide) (fun j hj => by omega) (.inl ?_) rfl
 simp [ren, pickF, posOf, frzR, take_rows, map_ren_rows]
theorem iVotesFor_ok (L : List Arrival) (o : Origin) (hL : arrsB L = true) (ho : originB o = true) : Ctr Try.prog 14 [Arrival.sl L, o.v] [] (.tup [.int .i64 (L.filter fun a => fitB a o).length, .bool true]) [] := by
 obtain ⟨hv, hl⟩ := arrsB_all hL
 have hp : placeB o.X o.Y = true := by simp [originB] at ho; exact ho.1
 refine Ctr.intro Try.mixed Try.func14 rfl Try.okF14 ?_
 simp -implicitDefEqProofs -dsimp only [go_sem, Try.ntmps14, Try.results14]
 (repeat ((repeat1' (first | simp -implicitDefEqProofs -dsimp only [go_sem, Origin.v] | simp -dsimp (disch := omega) only [wrap_i64])); repeat (with_reducible refine sideA ?_)))
 (first | refine callT.at (iAreArrivals_ok L (by omega)) ⟨leA, trivial⟩ ?_ | refine callS.at (iAreArrivals_ok L (by omega)) ⟨leA, trivial⟩ ?_)
 (repeat ((repeat1' (first | simp -implicitDefEqProofs -dsimp only [go_sem, hL] | simp -dsimp (disch := omega) only [wrap_i64])); repeat (with_reducible refine sideA ?_)))
 (first | refine callT.at (isOrigin_ok o) ⟨leA, trivial⟩ ?_ | refine callS.at (isOrigin_ok o) ⟨leA, trivial⟩ ?_)
 (repeat ((repeat1' (first | simp -implicitDefEqProofs -dsimp only [go_sem, ho] | simp -dsimp (disch := omega) only [wrap_i64])); repeat (with_reducible refine sideA ?_)))
 (first | refine callT.at (voters_ok L o hv hp (by omega)) ⟨leA, leA, trivial⟩ ?_ | refine callS.at (voters_ok L o hv hp (by omega)) ⟨leA, leA, trivial⟩ ?_)
 (repeat ((repeat1' (first | simp -implicitDefEqProofs -dsimp only [go_sem] | simp -dsimp (disch := omega) only [wrap_i64])); repeat (with_reducible refine sideA ?_)))
 exact WeakR.drop' (by simp) (by rfl)
def mostR (L : List Arrival) (x y : Int) : List V := if arrsB L = true ∧ placeB x y = true ∧ (mostA L x y).1 ≠ 0 then [.int .i64 (mostA L x y).1, .int .i64 (mostA L x y).2, .bool true] else [.int .i64 0, .int .i64 0, .bool false]
theorem most_zero (L : List Arrival) (x y : Int) : (mostA L x y).1 = 0 → (mostA L x y).2 = 0 := by
 have key : ∀ i, i ≤ L.length → (0 ≤ (mostTo L x y i).1 ∧ ((mostTo L x y i).1 = 0 → (mostTo L x y i).2 = 0)) := by
   refine most_inv (P := fun s => 0 ≤ s.1 ∧ (s.1 = 0 → s.2 = 0)) ⟨by simp, fun _ => rfl⟩ (fun s a _ h => ?_)
   unfold mostStep
   split
   · exact h
   · rename_i hh
     have hlow := low_bd hh
     split
     · rename_i hc
       have hv := votesN_le L x y (lowD a x y)
       refine ⟨hv.1, fun e => ?_⟩
       simp only at e ⊢
       obtain ⟨h1, h2⟩ := h
       rcases hc with h3 | h3
       · omega
       · have := h2 (by omega)
         omega
     · exact h
 exact (key L.length (Nat.le_refl _)).2
theorem iMostVotesAt_ok (L : List Arrival) (x y : Int) (hl : L.length ≤ 16777216) : Ctr Try.prog 16 [Arrival.sl L, .int .i64 x, .int .i64 y] [] (.tup (mostR L x y)) [] := by
 refine Ctr.intro Try.mixed Try.func16 rfl Try.okF16 ?_
 simp -implicitDefEqProofs -dsimp only [go_sem, Try.ntmps16, Try.results16]
 (repeat ((repeat1' (first | simp -implicitDefEqProofs -dsimp only [go_sem] | simp -dsimp (disch := omega) only [wrap_i64])); repeat (with_reducible refine sideA ?_)))
 (first | refine callT.at (iAreArrivals_ok L (by omega)) ⟨leA, trivial⟩ ?_ | refine callS.at (iAreArrivals_ok L (by omega)) ⟨leA, trivial⟩ ?_)
 (repeat ((repeat1' (first | simp -implicitDefEqProofs -dsimp only [go_sem] | simp -dsimp (disch := omega) only [wrap_i64])); repeat (with_reducible refine sideA ?_)))
 refine guardT.splitF (fun h1 => ?_) (fun h1 => ?_)
 rotate_left
 · (repeat ((repeat1' (first | simp -implicitDefEqProofs -dsimp only [go_sem, h1] | simp -dsimp (disch := omega) only [wrap_i64])); repeat (with_reducible refine sideA ?_)))
   exact WeakR.drop' (by simp at h1; simp [mostR, h1]) (by rfl)
 have hL : arrsB L = true := by simpa using h1
 obtain ⟨hv, hl8⟩ := arrsB_all hL
 (repeat ((repeat1' (first | simp -implicitDefEqProofs -dsimp only [go_sem, h1] | simp -dsimp (disch := omega) only [wrap_i64])); repeat (with_reducible refine sideA ?_)))
 (first | refine callT.at (isPlace_ok x y) ⟨leA, leA, trivial⟩ ?_ | refine callS.at (isPlace_ok x y) ⟨leA, leA, trivial⟩ ?_)
 (repeat ((repeat1' (first | simp -implicitDefEqProofs -dsimp only [go_sem] | simp -dsimp (disch := omega) only [wrap_i64])); repeat (with_reducible refine sideA ?_)))
 refine condT.split (fun h2 => ?_) (fun h2 => ?_)
 · (repeat ((repeat1' (first | simp -implicitDefEqProofs -dsimp only [go_sem, h2] | simp -dsimp (disch := omega) only [wrap_i64])); repeat (with_reducible refine sideA ?_)))
   exact WeakR.drop' (by simp at h2; simp [mostR, h2]) (by rfl)
 have hp : placeB x y = true := by simpa using h2
 (repeat ((repeat1' (first | simp -implicitDefEqProofs -dsimp only [go_sem, h2] | simp -dsimp (disch := omega) only [wrap_i64])); repeat (with_reducible refine sideA ?_)))
 (first | refine callT.at (mostVotes_ok L x y hv hp (by omega)) ⟨leA, leA, leA, trivial⟩ ?_ | refine callS.at (mostVotes_ok L x y hv hp (by omega)) ⟨leA, leA, leA, trivial⟩ ?_)
 (repeat ((repeat1' (first | simp -implicitDefEqProofs -dsimp only [go_sem] | simp -dsimp (disch := omega) only [wrap_i64])); repeat (with_reducible refine sideA ?_)))
 refine condT.split (fun h3 => ?_) (fun h3 => ?_)
 · (repeat ((repeat1' (first | simp -implicitDefEqProofs -dsimp only [go_sem, h3] | simp -dsimp (disch := omega) only [wrap_i64])); repeat (with_reducible refine sideA ?_)))
   exact WeakR.drop' (by simp at h3; simp [mostR, h3]) (by rfl)
 · (repeat ((repeat1' (first | simp -implicitDefEqProofs -dsimp only [go_sem, h3] | simp -dsimp (disch := omega) only [wrap_i64])); repeat (with_reducible refine sideA ?_)))
   exact WeakR.drop' (by simp at h3; simp [mostR, hL, hp, h3]) (by rfl)
theorem sMostVotesAt_ok (L : List Arrival) (x y : Int) (hl : L.length ≤ 16777216) : Ctr Try.prog 17 [Arrival.sl L, .int .i64 x, .int .i64 y] [] (.tup (mostR L x y)) [] := by
 refine Ctr.intro Try.mixed Try.func17 rfl Try.okF17 ?_
 simp -implicitDefEqProofs -dsimp only [go_sem, Try.ntmps17, Try.results17]
 (repeat ((repeat1' (first | simp -implicitDefEqProofs -dsimp only [go_sem] | simp -dsimp (disch := omega) only [wrap_i64])); repeat (with_reducible refine sideA ?_)))
 (first | refine callT.at (l10Good_ok L (by omega)) ⟨leA, trivial⟩ ?_ | refine callS.at (l10Good_ok L (by omega)) ⟨leA, trivial⟩ ?_)
 (repeat ((repeat1' (first | simp -implicitDefEqProofs -dsimp only [go_sem] | simp -dsimp (disch := omega) only [wrap_i64])); repeat (with_reducible refine sideA ?_)))
 refine guardT.splitF (fun h1 => ?_) (fun h1 => ?_)
 rotate_left
 · (repeat ((repeat1' (first | simp -implicitDefEqProofs -dsimp only [go_sem, h1] | simp -dsimp (disch := omega) only [wrap_i64])); repeat (with_reducible refine sideA ?_)))
   exact WeakR.drop' (by simp at h1; simp [mostR, h1]) (by rfl)
 have hL : arrsB L = true := by simpa using h1
 obtain ⟨hv, hl8⟩ := arrsB_all hL
 (repeat ((repeat1' (first | simp -implicitDefEqProofs -dsimp only [go_sem, h1] | simp -dsimp (disch := omega) only [wrap_i64])); repeat (with_reducible refine sideA ?_)))
 (first | refine callT.at (l2Place_ok x y) ⟨leA, leA, trivial⟩ ?_ | refine callS.at (l2Place_ok x y) ⟨leA, leA, trivial⟩ ?_)
 (repeat ((repeat1' (first | simp -implicitDefEqProofs -dsimp only [go_sem] | simp -dsimp (disch := omega) only [wrap_i64])); repeat (with_reducible refine sideA ?_)))
 refine condT.split (fun h2 => ?_) (fun h2 => ?_)
 · (repeat ((repeat1' (first | simp -implicitDefEqProofs -dsimp only [go_sem, h2] | simp -dsimp (disch := omega) only [wrap_i64])); repeat (with_reducible refine sideA ?_)))
   exact WeakR.drop' (by simp at h2; simp [mostR, h2]) (by rfl)
 have hp : placeB x y = true := by simpa using h2
 (repeat ((repeat1' (first | simp -implicitDefEqProofs -dsimp only [go_sem, h2] | simp -dsimp (disch := omega) only [wrap_i64])); repeat (with_reducible refine sideA ?_)))
 (first | refine callT.at (l10Most_ok L x y hv hp (by omega)) ⟨leA, leA, leA, trivial⟩ ?_ | refine callS.at (l10Most_ok L x y hv hp (by omega)) ⟨leA, leA, leA, trivial⟩ ?_)
 (repeat ((repeat1' (first | simp -implicitDefEqProofs -dsimp only [go_sem] | simp -dsimp (disch := omega) only [wrap_i64])); repeat (with_reducible refine sideA ?_)))
 have hz := most_zero L x y
 have hb := (mostTo_bd L x y L.length (Nat.le_refl _)).1
 refine WeakR.drop' ?_ (by rfl)
 by_cases h3 : (mostA L x y).1 = 0
 · have h4 := hz h3
   simp [mostR, h3, h4]
 · have h5 : decide (0 < (mostA L x y).1) = true := decide_eq_true (by unfold mostA at h3 ⊢; omega)
   simp [mostR, hL, hp, h3, h5]
theorem vOrigins_ok (L : List Origin) (hl : L.length ≤ 1048576) : Ctr Try.prog 9 [Origin.sl L, Origin.sl L] [] (.bool true) [] := by
 refine Ctr.intro Try.mixed Try.func9 rfl Try.okF9 ?_
 simp -implicitDefEqProofs -dsimp only [go_sem, Try.ntmps9, Try.results9]
 (repeat ((repeat1' (first | simp -implicitDefEqProofs -dsimp only [go_sem] | simp -dsimp (disch := omega) only [wrap_i64])); repeat (with_reducible refine sideA ?_)))
 refine LoopT.intro (fun i : Nat => i ≤ L.length) (fun i => ⟨[Origin.sl L, Origin.sl L, .undef, .undef, .undef, .int .i64 i, .undef, .undef, .undef, .undef, .undef, .undef, .undef, .undef, .undef, .undef, .undef, .undef, .undef, .undef, .undef, .undef, .undef, .undef, .undef, .undef], [], 0⟩) (fun i => L.length - i) 0 (Nat.zero_le _) ?_ (fun i hi => ?_)
 · refine Weak.cut (0) (by simp) (by simp) ?_ ?_
   · simp [LeC, LeV, ren, cutF]
   · rfl
 simp -implicitDefEqProofs -dsimp only [go_sem]
 refine condT.split (fun h1 => ?_) (fun h1 => ?_)
 · have hi' : i < L.length := by simpa using h1
   have hr := rows_at Origin.csl hi'
   (repeat ((repeat1' (first | simp -implicitDefEqProofs -dsimp only [go_sem, h1, hr, Origin.cs] | simp -dsimp (disch := omega) only [wrap_i64])); repeat (with_reducible refine sideA ?_)))
   refine ⟨i + 1, hi', ?_, by omega⟩
   refine Weak.cut (0) (by simp) (by simp) ?_ ?_
   · simp [LeC, LeV, ren, cutF]
   · rfl
 · (repeat ((repeat1' (first | simp -implicitDefEqProofs -dsimp only [go_sem, h1] | simp -dsimp (disch := omega) only [wrap_i64])); repeat (with_reducible refine sideA ?_)))
   exact WeakR.drop' rfl (by rfl)
theorem vBig_ok (L : List Int) : Ctr Try.prog 5 [ByteS.sl L] [] (.bool (decide (65536 < (L.length : Int)))) [] := by
 refine Ctr.intro Try.mixed Try.func5 rfl Try.okF5 ?_
 simp -implicitDefEqProofs -dsimp only [go_sem, Try.ntmps5, Try.results5]
 (repeat ((repeat1' (first | simp -implicitDefEqProofs -dsimp only [go_sem] | simp -dsimp (disch := omega) only [wrap_i64])); repeat (with_reducible refine sideA ?_)))
 exact WeakR.drop' rfl (by rfl)
end Go.Proofs
end
section
set_option maxRecDepth 100000
set_option maxHeartbeats 1000000
namespace Go.Proofs
open Go.Lv
structure Cur where
 a : Int
 s : Int
def Cur.cs (B : List Int) (c : Cur) : List V := [ByteS.sl B, .int .i64 c.a, .int .u64 c.s]
def CB (B : List Int) : Prop := lstR u8R B
def Cur.le (c : Cur) (k : Int) : Prop := 0 ≤ c.a ∧ c.a ≤ k
theorem Cur.ren (B : List Int) (c : Cur) (f : Nat → R) (d : Nat) : (c.cs B).map (Go.Lv.ren f d) = c.cs B := by cases d <;> simp [Cur.cs, Go.Lv.ren]
theorem lendCur {B : List Int} {c : Cur} {h : Hp} {id : Nat} (hid : h[id]? = some (some (c.cs B))) : pickH [id] h false = [some (c.cs B)] := by
 simp only [pickH, List.map_cons, List.map_nil, pickB, hid, Cur.ren]
theorem lendCur2 {α : Type} {cs : α → List V} {w : Nat} [FlatP cs w] {L : List α} {B : List Int} {c : Cur} {h : Hp} {i j : Nat} (hi : h[i]? = some (some (c.cs B))) (hj : h[j]? = some (some (rows cs L))) : pickH [i, j] h false = [some (c.cs B), some (rows cs L)] := by
 simp only [pickH, List.map_cons, List.map_nil, pickB, hi, hj, Cur.ren, map_ren_rows]
theorem growCur (B : List Int) (c c' : Cur) : grown [some (c.cs B)] [some (c'.cs B)] := ⟨⟨rfl, rfl⟩, trivial⟩
theorem growCur2 {α : Type} {cs : α → List V} {L : List α} (B : List Int) (c c' : Cur) : grown [some (c.cs B), some (rows cs L)] [some (c'.cs B), some (rows cs L)] := ⟨⟨rfl, rfl⟩, ⟨rfl, rfl⟩, trivial⟩
theorem andI_255 (x : Int) : 0 ≤ andI .u64 x 255 ∧ andI .u64 x 255 ≤ 255 := by
 have h : ∀ y : BitVec 64, (y &&& BitVec.ofInt 64 255).toNat ≤ 255 := fun y => by
   rw [BitVec.toNat_and]
   exact Nat.le_trans Nat.and_le_right (by decide)
 have hb : (BitVec.ofInt 64 x &&& BitVec.ofInt 64 255).toNat ≤ 255 := h _
 have hw : andI .u64 x 255 = (((BitVec.ofInt 64 x &&& BitVec.ofInt 64 255).toNat : Nat) : Int) := by
   unfold andI
   show IntKind.u64.wrap (((BitVec.ofInt 64 x &&& BitVec.ofInt 64 255).toNat : Nat) : Int) = _
   generalize (BitVec.ofInt 64 x &&& BitVec.ofInt 64 255).toNat = n at hb
   simp [IntKind.wrap, IntKind.bits, IntKind.signed]
   omega
 rw [hw]
 omega
def nextB (B : List Int) (c : Cur) : Int := if c.a < B.length then B.getD c.a.toNat 0 else 0
def nextS (B : List Int) (c : Cur) : Int := IntKind.u64.wrap (IntKind.u64.wrap (IntKind.u64.wrap (c.s * 6364136223846793005) + IntKind.u64.wrap (nextB B c)) + 101717)
def nextC (B : List Int) (c : Cur) : Cur := ⟨c.a + 1, nextS B c⟩
def nextV (B : List Int) (c : Cur) : Int := if c.a < B.length then nextB B c else andI .u64 (shrI .u64 (nextS B c) 40) 255
theorem nextB_bd {B : List Int} (hB : CB B) {c : Cur} (h : 0 ≤ c.a) : 0 ≤ nextB B c ∧ nextB B c ≤ 255 := by
 unfold nextB
 split
 · have hi : c.a.toNat < B.length := by omega
   have := hB.2 _ (List.getElem_mem hi)
   simpa [List.getD, hi, u8R] using this
 · omega
theorem nextV_bd {B : List Int} (hB : CB B) {c : Cur} (h : 0 ≤ c.a) : 0 ≤ nextV B c ∧ nextV B c ≤ 255 := by
 unfold nextV
 split
 · exact nextB_bd hB h
 · exact andI_255 _
theorem next_ok {B : List Int} (hB : CB B) {c : Cur} (hc : c.le 4611686018427387904) : Ctr Try.prog 82 [.ptr 0 0] [some (c.cs B)] (.int .i64 (nextV B c)) [some ((nextC B c).cs B)] := by
 obtain ⟨a, s⟩ := c
 obtain ⟨ha, hak⟩ := hc
 dsimp only at ha hak
 have hw : IntKind.i64.wrap (a + 1) = a + 1 := wrap_i64 (by omega) (by omega)
 have hbl := hB.1
 by_cases h1 : a < B.length
 · obtain ⟨i, rfl⟩ : ∃ i : Nat, a = i := ⟨a.toNat, by omega⟩
   have hi : i < B.length := by omega
   have hr := rows_at ByteS.csl hi
   obtain ⟨b0, b1⟩ : 0 ≤ B[i] ∧ B[i] ≤ 255 := by have := hB.2 _ (List.getElem_mem hi); simpa [u8R] using this
   have hwb : IntKind.i64.wrap B[i] = B[i] := wrap_i64 (by omega) (by omega)
   have hd : decide ((i : Int) < (B.length : Int)) = true := by simp; omega
   have hd2 : decide ((i : Int) + 1 ≤ (B.length : Int)) = true := by simp; omega
   have e1 : nextB B ⟨i, s⟩ = B[i] := by simp [nextB, h1, List.getD, hi]
   have e2 : nextV B ⟨i, s⟩ = B[i] := by simp [nextV, h1, e1]
   rw [nextC, nextS, e1, e2]
   refine Ctr.intro Try.mixed Try.func82 rfl Try.okF82 ?_
   simp -implicitDefEqProofs -dsimp only [go_sem, Try.ntmps82, Try.results82]
   (repeat ((repeat1' (first | simp -implicitDefEqProofs -dsimp only [go_sem, Cur.cs, hw, hd, hd2, hr, ByteS.cs, hwb] | simp -dsimp (disch := omega) only [wrap_i64])); repeat (with_reducible refine sideA ?_)))
   exact WeakR.refl _ _ _
 · have hd : decide (a < (B.length : Int)) = false := by simp; omega
   have hd2 : decide (a + 1 ≤ (B.length : Int)) = false := by simp; omega
   have e3 : nextV B ⟨a, s⟩ = andI .u64 (shrI .u64 (nextS B ⟨a, s⟩) 40) 255 := by simp [nextV, h1]
   have e4 : nextB B ⟨a, s⟩ = 0 := by simp [nextB, h1]
   rw [nextC, e3]
   rw [nextS, e4]
   obtain ⟨e1, e2⟩ := andI_255 (shrI .u64 (IntKind.u64.wrap (IntKind.u64.wrap (IntKind.u64.wrap (s * 6364136223846793005) + IntKind.u64.wrap 0) + 101717)) 40)
   generalize hq : andI .u64 (shrI .u64 (IntKind.u64.wrap (IntKind.u64.wrap (IntKind.u64.wrap (s * 6364136223846793005) + IntKind.u64.wrap 0) + 101717)) 40) 255 = q at e1 e2 ⊢
   have hwq : IntKind.i64.wrap q = q := wrap_i64 (by omega) (by omega)
   refine Ctr.intro Try.mixed Try.func82 rfl Try.okF82 ?_
   simp -implicitDefEqProofs -dsimp only [go_sem, Try.ntmps82, Try.results82]
   (repeat ((repeat1' (first | simp -implicitDefEqProofs -dsimp only [go_sem, Cur.cs, hw, hd, hd2, hq] | simp -dsimp (disch := omega) only [wrap_i64])); repeat (with_reducible refine sideA ?_)))
   exact WeakR.refl _ _ _
def pickV (B : List Int) (n : Int) (c : Cur) : Int := if n ≤ 1 then 0 else if 200 < n then (nextV B c * 256 + nextV B (nextC B c)).tmod n else (nextV B c).tmod n
def pickC (B : List Int) (n : Int) (c : Cur) : Cur := if n ≤ 1 then c else if 200 < n then nextC B (nextC B c) else nextC B c
theorem pickC_le {B : List Int} {n k : Int} {c : Cur} (h : c.le k) : (pickC B n c).le (k + 2) := by
 unfold pickC nextC Cur.le at *
 split
 · omega
 · split <;> (simp only []; omega)
theorem pickV_bd {B : List Int} (hB : CB B) {n : Int} {c : Cur} (h : 0 ≤ c.a) : 0 ≤ pickV B n c ∧ (1 ≤ n → pickV B n c < n) := by
 have h1 := nextV_bd hB h
 have h2 := nextV_bd hB (c := nextC B c) (by simp [nextC]; omega)
 unfold pickV
 split
 · omega
 · split
   · exact ⟨Int.tmod_nonneg _ (by omega), fun _ => Int.tmod_lt_of_pos _ (by omega)⟩
   · exact ⟨Int.tmod_nonneg _ (by omega), fun _ => Int.tmod_lt_of_pos _ (by omega)⟩
theorem pick_ok {B : List Int} (hB : CB B) {c : Cur} (hc : c.le 4611686018427387903) (n : Int) (hn : n ≤ 1000000000) : Ctr Try.prog 61 [.ptr 0 0, .int .i64 n] [some (c.cs B)] (.int .i64 (pickV B n c)) [some ((pickC B n c).cs B)] := by
 obtain ⟨r1, r2⟩ := nextV_bd hB hc.1
 have hc1 : (nextC B c).le 4611686018427387904 := by obtain ⟨h, h'⟩ := hc; exact ⟨by simp [nextC]; omega, by simp [nextC]; omega⟩
 obtain ⟨q1, q2⟩ := nextV_bd hB hc1.1
 have p4 := next_ok hB (c := c) ⟨hc.1, by have := hc.2; omega⟩
 have q4 := next_ok hB hc1
 by_cases h1 : n ≤ 1
 · have hd : decide (n ≤ 1) = true := by simp [h1]
   rw [pickV, pickC, if_pos h1, if_pos h1]
   refine Ctr.intro Try.mixed Try.func61 rfl Try.okF61 ?_
   simp -implicitDefEqProofs -dsimp only [go_sem, Try.ntmps61, Try.results61]
   (repeat ((repeat1' (first | simp -implicitDefEqProofs -dsimp only [go_sem, hd] | simp -dsimp (disch := omega) only [wrap_i64])); repeat (with_reducible refine sideA ?_)))
   exact WeakR.refl _ _ _
 have hd : decide (n ≤ 1) = false := by simp; omega
 by_cases h2 : 200 < n
 · have hd2 : decide (200 < n) = true := by simp [h2]
   have hw : IntKind.i64.wrap (nextV B c * 256) = nextV B c * 256 := wrap_i64 (by omega) (by omega)
   have hw2 : IntKind.i64.wrap (nextV B c * 256 + nextV B (nextC B c)) = nextV B c * 256 + nextV B (nextC B c) := wrap_i64 (by omega) (by omega)
   rw [pickV, pickC, if_neg h1, if_neg h1, if_pos h2, if_pos h2]
   refine Ctr.intro Try.mixed Try.func61 rfl Try.okF61 ?_
   simp -implicitDefEqProofs -dsimp only [go_sem, Try.ntmps61, Try.results61]
   (repeat ((repeat1' (first | simp -implicitDefEqProofs -dsimp only [go_sem, hd] | simp -dsimp (disch := omega) only [wrap_i64])); repeat (with_reducible refine sideA ?_)))
   refine callS.lend [0] false p4 (by decide) ⟨leO, trivial⟩ (lendCur rfl) (growCur B _ _) (.inl rfl) ?_
   (repeat ((repeat1' (first | simp -implicitDefEqProofs -dsimp only [go_sem, hd2, hw, Cur.ren] | simp -dsimp (disch := omega) only [wrap_i64])); repeat (with_reducible refine sideA ?_)))
   refine callS.lend [0] false q4 (by decide) ⟨leO, trivial⟩ (lendCur rfl) (growCur B _ _) (.inl rfl) ?_
   (repeat ((repeat1' (first | simp -implicitDefEqProofs -dsimp only [go_sem, hw2, Cur.ren] | simp -dsimp (disch := omega) only [wrap_i64])); repeat (with_reducible refine sideA ?_)))
   exact WeakR.refl _ _ _
 · have hd2 : decide (200 < n) = false := by simp [h2]
   rw [pickV, pickC, if_neg h1, if_neg h1, if_neg h2, if_neg h2]
   refine Ctr.intro Try.mixed Try.func61 rfl Try.okF61 ?_
   simp -implicitDefEqProofs -dsimp only [go_sem, Try.ntmps61, Try.results61]
   (repeat ((repeat1' (first | simp -implicitDefEqProofs -dsimp only [go_sem, hd] | simp -dsimp (disch := omega) only [wrap_i64])); repeat (with_reducible refine sideA ?_)))
   refine callS.lend [0] false p4 (by decide) ⟨leO, trivial⟩ (lendCur rfl) (growCur B _ _) (.inl rfl) ?_
   (repeat ((repeat1' (first | simp -implicitDefEqProofs -dsimp only [go_sem, hd2, Cur.ren] | simp -dsimp (disch := omega) only [wrap_i64])); repeat (with_reducible refine sideA ?_)))
   exact WeakR.refl _ _ _
theorem pick_call {B : List Int} (hB : CB B) {c : Cur} {k : Int} (hc : c.le k) (hk : k ≤ 4000000) (n : Int) (hn : n ≤ 1000000000) {t : List V} {h : Hp} {kk : Nat} {dst : Option Tmp} {Q : St → Prop} {x : Tag Q} {ci : Nat} (h0 : h[ci]? = some (some (c.cs B)))
   (hq : ∀ (v : Int) (c' : Cur), (0 ≤ v ∧ (1 ≤ n → v < n)) → c'.le (k + 2) → Q (afterM ⟨t, h, kk⟩ dst [ci] (.int .i64 v) [some (c'.cs B)])) : callS Try.prog ⟨t, h, kk⟩ dst (.fn (.func 61) [] []) [.ptr ci 0, .int .i64 n] Q x :=
 callS.lend [ci] false (pick_ok hB ⟨hc.1, by have := hc.2; omega⟩ n hn) (by simp) ⟨by simp [ren, pickF, posOf, LeV], leO, trivial⟩ (lendCur h0) (growCur B _ _) (.inl rfl) (hq _ _ (pickV_bd hB hc.1) (pickC_le hc))
def oneV (B : List Int) (n : Int) (c : Cur) : Bool := pickV B n c == 0
theorem one_ok {B : List Int} (hB : CB B) {c : Cur} (hc : c.le 4611686018427387903) (n : Int) (hn : n ≤ 1000000000) : Ctr Try.prog 56 [.ptr 0 0, .int .i64 n] [some (c.cs B)] (.bool (oneV B n c)) [some ((pickC B n c).cs B)] := by
 refine Ctr.intro Try.mixed Try.func56 rfl Try.okF56 ?_
 simp -implicitDefEqProofs -dsimp only [go_sem, Try.ntmps56, Try.results56]
 (repeat ((repeat1' (first | simp -implicitDefEqProofs -dsimp only [go_sem] | simp -dsimp (disch := omega) only [wrap_i64])); repeat (with_reducible refine sideA ?_)))
 refine callS.lend [0] false (pick_ok hB hc n hn) (by decide) ⟨leO, leO, trivial⟩ (lendCur rfl) (growCur B _ _) (.inl rfl) ?_
 (repeat ((repeat1' (first | simp -implicitDefEqProofs -dsimp only [go_sem, Cur.ren] | simp -dsimp (disch := omega) only [wrap_i64])); repeat (with_reducible refine sideA ?_)))
 exact WeakR.refl _ _ _
theorem one_call {B : List Int} (hB : CB B) {c : Cur} {k : Int} (hc : c.le k) (hk : k ≤ 4000000) (n : Int) (hn : n ≤ 1000000000) {t : List V} {h : Hp} {kk : Nat} {dst : Option Tmp} {Q : St → Prop} {x : Tag Q} {ci : Nat} (h0 : h[ci]? = some (some (c.cs B)))
   (hq : ∀ (v : Bool) (c' : Cur), c'.le (k + 2) → Q (afterM ⟨t, h, kk⟩ dst [ci] (.bool v) [some (c'.cs B)])) : callS Try.prog ⟨t, h, kk⟩ dst (.fn (.func 56) [] []) [.ptr ci 0, .int .i64 n] Q x :=
 callS.lend [ci] false (one_ok hB ⟨hc.1, by have := hc.2; omega⟩ n hn) (by simp) ⟨by simp [ren, pickF, posOf, LeV], leO, trivial⟩ (lendCur h0) (growCur B _ _) (.inl rfl) (hq _ _ (pickC_le hc))
def amongV (B : List Int) (K : List Int) (c : Cur) : Int := K.getD (pickV B K.length c).toNat 0
theorem amongV_mem {B : List Int} (hB : CB B) {K : List Int} (hK : 0 < K.length) {c : Cur} (h : 0 ≤ c.a) : amongV B K c ∈ K := by
 obtain ⟨h1, h2⟩ := pickV_bd hB (n := K.length) h
 have hi : (pickV B K.length c).toNat < K.length := by omega
 simp [amongV, List.getD, hi]
theorem among_ok {B : List Int} (hB : CB B) {c : Cur} (hc : c.le 4611686018427387903) (K : List Int) (hK0 : 0 < K.length) (hK : K.length ≤ 1000000000) : Ctr Try.prog 27 [.ptr 0 0, .osl 1 0 K.length 1] [some (c.cs B), some (rows IntS.cs K)] (.int .i64 (amongV B K c)) [some ((pickC B K.length c).cs B), some (rows IntS.cs K)] := by
 obtain ⟨h1, h2⟩ := pickV_bd hB (n := K.length) hc.1
 obtain ⟨i, hi'⟩ : ∃ i : Nat, pickV B K.length c = i := ⟨(pickV B K.length c).toNat, by omega⟩
 have hi : i < K.length := by omega
 have hr := rows_at IntS.csl hi
 have e : amongV B K c = K[i] := by simp [amongV, hi', List.getD, hi]
 have hp := pick_ok hB hc K.length (by omega)
 rw [hi'] at hp
 rw [e]
 refine Ctr.intro Try.mixed Try.func27 rfl Try.okF27 ?_
 simp -implicitDefEqProofs -dsimp only [go_sem, Try.ntmps27, Try.results27]
 (repeat ((repeat1' (first | simp -implicitDefEqProofs -dsimp only [go_sem] | simp -dsimp (disch := omega) only [wrap_i64])); repeat (with_reducible refine sideA ?_)))
 refine callS.lend [0] false hp (by decide) ⟨leO, leO, trivial⟩ (lendCur rfl) (growCur B _ _) (.inl rfl) ?_
 (repeat ((repeat1' (first | simp -implicitDefEqProofs -dsimp only [go_sem, Cur.ren, hr, IntS.cs] | simp -dsimp (disch := omega) only [wrap_i64])); repeat (with_reducible refine sideA ?_)))
 exact WeakR.refl _ _ _
theorem among_call {B : List Int} (hB : CB B) {c : Cur} {k : Int} (hc : c.le k) (hk : k ≤ 4000000) (K : List Int) (hK0 : 0 < K.length) (hK : K.length ≤ 1000000000) {t : List V} {h : Hp} {kk : Nat} {dst : Option Tmp} {Q : St → Prop} {x : Tag Q} {ci : Nat} (h0 : h[ci]? = some (some (c.cs B))) {i : Nat} (h1 : h[i]? = some (some (rows IntS.cs K))) (hne : (ci == i) = false)
   (hq : ∀ (v : Int) (c' : Cur), v ∈ K → c'.le (k + 2) → Q (afterM ⟨t, h, kk⟩ dst [ci, i] (.int .i64 v) [some (c'.cs B), some (rows IntS.cs K)])) : callS Try.prog ⟨t, h, kk⟩ dst (.fn (.func 27) [] []) [.ptr ci 0, .osl i 0 K.length 1] Q x := by
 have hn : ci ≠ i := by simpa using hne
 have hn' : (i == ci) = false := by simpa using Ne.symm hn
 exact callS.lend [ci, i] false (among_ok hB ⟨hc.1, by have := hc.2; omega⟩ K hK0 hK) (by simp [hn]) ⟨by simp [ren, pickF, posOf, LeV], by simp [ren, pickF, posOf, LeV, Ne.symm hn], trivial⟩ (lendCur2 h0 h1) (growCur2 B _ _) (.inl rfl) (hq _ _ (amongV_mem hB hK0 hc.1) (pickC_le hc))
end Go.Proofs
end
section
set_option maxRecDepth 100000
namespace Go.Proofs
open Go.Lv
structure QuakeRow where
 Id : Int
 Tick : Int
 X : Int
 Y : Int
 Deep : Int
 Size : Int
 Grade : Int
def QuakeRow.cs (r : QuakeRow) : List V := [.int .i64 r.Id, .int .i64 r.Tick, .int .i64 r.X, .int .i64 r.Y, .int .i64 r.Deep, .int .i64 r.Size, .int .i64 r.Grade]
def QuakeRow.v (r : QuakeRow) : V := .agg [.int .i64 r.Id, .int .i64 r.Tick, .int .i64 r.X, .int .i64 r.Y, .int .i64 r.Deep, .int .i64 r.Size, .int .i64 r.Grade]
theorem QuakeRow.csl (a : QuakeRow) : a.cs.length = 7 := rfl
instance : FlatP QuakeRow.cs 7 := ⟨fun _ => rfl, fun _ d => by cases d <;> rfl, fun _ => rfl, fun _ => rfl⟩
def QuakeRow.ok (r : QuakeRow) : Prop := i64R r.Id ∧ i64R r.Tick ∧ i64R r.X ∧ i64R r.Y ∧ i64R r.Deep ∧ i64R r.Size ∧ i64R r.Grade
abbrev QuakeRow.rows (L : List QuakeRow) : List V := Go.Lv.rows QuakeRow.cs L
abbrev QuakeRow.sl (L : List QuakeRow) : V := .sl L.length 7 (Go.Lv.rows QuakeRow.cs L)
abbrev QuakeRow.zs : List V := [.int .i64 0, .int .i64 0, .int .i64 0, .int .i64 0, .int .i64 0, .int .i64 0, .int .i64 0]
def QuakeRow.mk1 (k : Int) : QuakeRow := ⟨k, k + 1, k + 1 + 1, k + 1 + 1 + 1, k + 1 + 1 + 1 + 1, k + 1 + 1 + 1 + 1 + 1, k + 1 + 1 + 1 + 1 + 1 + 1⟩
def QuakeRow.marks (k : Int) (n : Nat) : List QuakeRow := (List.range n).map fun i : Nat => QuakeRow.mk1 (k + 7 * (i : Int))
@[simp] theorem QuakeRow.marks_len (k : Int) (n : Nat) : (QuakeRow.marks k n).length = n := by simp [QuakeRow.marks]
end Go.Proofs
end
section
set_option maxRecDepth 100000
set_option maxHeartbeats 2000000
namespace Go.Proofs
open Go.Lv
theorem lmonoQ {c : Cur} {a b : Int} (h : c.le a) (hab : a ≤ b) : c.le b := ⟨h.1, Int.le_trans h.2 hab⟩
end Go.Proofs
end
