/-
  A part of the proof: texts put together by a program of the prover. Conditions: none.
-/
import Derived.Test.YtfdikfpnkgglkaaDoorZParseQuake2
import Derived.Test.YtfdikfpnkgglkaaDoorZParseQuake3
import Derived.Test.YtfdikfpnkgglkaaDoorProg
import Derived.KernelRfl
import Derived.Lib.ItoaNum
import Derived.Lib.ItoaLen
set_option linter.unusedSimpArgs false
set_option linter.unusedVariables false
section
namespace Go.Proofs
open Go.Lv

theorem Tryd.mixed : Tryd.prog.follows .mixedOrders = true := by kernel_rfl
@[go_sem] theorem Tryd.tsz1 : tszOf Tryd.prog 1 = some (1, false) := by kernel_rfl
@[go_sem] theorem Tryd.udef1 : (Tryd.prog.underlying 1).isSome = true := by kernel_rfl
@[go_sem] theorem Tryd.zero1 : zeroOf Tryd.prog 1 = some [.lit ((Go.Value.nilFunc))] := by kernel_rfl
@[go_sem] theorem Tryd.tsz2 : tszOf Tryd.prog 2 = some (1, false) := by kernel_rfl
@[go_sem] theorem Tryd.udef2 : (Tryd.prog.underlying 2).isSome = true := by kernel_rfl
@[go_sem] theorem Tryd.zero2 : zeroOf Tryd.prog 2 = some [.int .i64 0] := by kernel_rfl
@[go_sem] theorem Tryd.isInt2 : isIntT Tryd.prog 2 = some .i64 := by kernel_rfl
@[go_sem] theorem Tryd.tsz3 : tszOf Tryd.prog 3 = some (1, false) := by kernel_rfl
@[go_sem] theorem Tryd.udef3 : (Tryd.prog.underlying 3).isSome = true := by kernel_rfl
@[go_sem] theorem Tryd.zero3 : zeroOf Tryd.prog 3 = some [.int .i64 0] := by kernel_rfl
@[go_sem] theorem Tryd.isInt3 : isIntT Tryd.prog 3 = some .i64 := by kernel_rfl
@[go_sem] theorem Tryd.tsz4 : tszOf Tryd.prog 4 = some (1, false) := by kernel_rfl
@[go_sem] theorem Tryd.udef4 : (Tryd.prog.underlying 4).isSome = true := by kernel_rfl
@[go_sem] theorem Tryd.zero4 : zeroOf Tryd.prog 4 = some [.bool false] := by kernel_rfl
@[go_sem] theorem Tryd.isBool4 : isBoolT Tryd.prog 4 = true := by kernel_rfl
@[go_sem] theorem Tryd.tsz5 : tszOf Tryd.prog 5 = some (1, false) := by kernel_rfl
@[go_sem] theorem Tryd.udef5 : (Tryd.prog.underlying 5).isSome = true := by kernel_rfl
@[go_sem] theorem Tryd.zero5 : zeroOf Tryd.prog 5 = some [.int .u8 0] := by kernel_rfl
@[go_sem] theorem Tryd.isInt5 : isIntT Tryd.prog 5 = some .u8 := by kernel_rfl
@[go_sem] theorem Tryd.tsz6 : tszOf Tryd.prog 6 = some (1, false) := by kernel_rfl
@[go_sem] theorem Tryd.udef6 : (Tryd.prog.underlying 6).isSome = true := by kernel_rfl
@[go_sem] theorem Tryd.zero6 : zeroOf Tryd.prog 6 = some [.int .u8 0] := by kernel_rfl
@[go_sem] theorem Tryd.isInt6 : isIntT Tryd.prog 6 = some .u8 := by kernel_rfl
@[go_sem] theorem Tryd.tsz7 : tszOf Tryd.prog 7 = some (4, true) := by kernel_rfl
@[go_sem] theorem Tryd.udef7 : (Tryd.prog.underlying 7).isSome = true := by kernel_rfl
@[go_sem] theorem Tryd.zero7 : zeroOf Tryd.prog 7 = some [.int .i64 0, .int .i64 0, .bool false, .int .u8 0] := by kernel_rfl
@[go_sem] theorem Tryd.pl7 : plOf Tryd.prog 7 = some [(0, 1), (1, 1), (2, 1), (3, 1)] := by kernel_rfl
@[go_sem] theorem Tryd.tsz8 : tszOf Tryd.prog 8 = some (4, true) := by kernel_rfl
@[go_sem] theorem Tryd.udef8 : (Tryd.prog.underlying 8).isSome = true := by kernel_rfl
@[go_sem] theorem Tryd.zero8 : zeroOf Tryd.prog 8 = some [.int .i64 0, .int .i64 0, .bool false, .int .u8 0] := by kernel_rfl
@[go_sem] theorem Tryd.pl8 : plOf Tryd.prog 8 = some [(0, 1), (1, 1), (2, 1), (3, 1)] := by kernel_rfl
@[go_sem] theorem Tryd.tsz9 : tszOf Tryd.prog 9 = some (1, false) := by kernel_rfl
@[go_sem] theorem Tryd.udef9 : (Tryd.prog.underlying 9).isSome = true := by kernel_rfl
@[go_sem] theorem Tryd.zero9 : zeroOf Tryd.prog 9 = some [.str ByteArray.empty] := by kernel_rfl
@[go_sem] theorem Tryd.isU8S9 : isU8S Tryd.prog 9 = false := by kernel_rfl
@[go_sem] theorem Tryd.isIntN9 : isIntT Tryd.prog 9 = none := by kernel_rfl
@[go_sem] theorem Tryd.isStr9 : isStr Tryd.prog 9 = true := by kernel_rfl
@[go_sem] theorem Tryd.tsz10 : tszOf Tryd.prog 10 = some (1, false) := by kernel_rfl
@[go_sem] theorem Tryd.udef10 : (Tryd.prog.underlying 10).isSome = true := by kernel_rfl
@[go_sem] theorem Tryd.zero10 : zeroOf Tryd.prog 10 = some [.str ByteArray.empty] := by kernel_rfl
@[go_sem] theorem Tryd.isU8S10 : isU8S Tryd.prog 10 = false := by kernel_rfl
@[go_sem] theorem Tryd.isIntN10 : isIntT Tryd.prog 10 = none := by kernel_rfl
@[go_sem] theorem Tryd.isStr10 : isStr Tryd.prog 10 = true := by kernel_rfl
@[go_sem] theorem Tryd.tsz11 : tszOf Tryd.prog 11 = some (1, false) := by kernel_rfl
@[go_sem] theorem Tryd.udef11 : (Tryd.prog.underlying 11).isSome = true := by kernel_rfl
@[go_sem] theorem Tryd.zero11 : zeroOf Tryd.prog 11 = some [.str ByteArray.empty] := by kernel_rfl
@[go_sem] theorem Tryd.isU8S11 : isU8S Tryd.prog 11 = false := by kernel_rfl
@[go_sem] theorem Tryd.isIntN11 : isIntT Tryd.prog 11 = none := by kernel_rfl
@[go_sem] theorem Tryd.isStr11 : isStr Tryd.prog 11 = true := by kernel_rfl
@[go_sem] theorem Tryd.tsz12 : tszOf Tryd.prog 12 = some (1, false) := by kernel_rfl
@[go_sem] theorem Tryd.udef12 : (Tryd.prog.underlying 12).isSome = true := by kernel_rfl
@[go_sem] theorem Tryd.zero12 : zeroOf Tryd.prog 12 = some [.int .u64 0] := by kernel_rfl
@[go_sem] theorem Tryd.isInt12 : isIntT Tryd.prog 12 = some .u64 := by kernel_rfl
@[go_sem] theorem Tryd.tsz16 : tszOf Tryd.prog 16 = some (1, false) := by kernel_rfl
@[go_sem] theorem Tryd.udef16 : (Tryd.prog.underlying 16).isSome = true := by kernel_rfl
@[go_sem] theorem Tryd.zero16 : zeroOf Tryd.prog 16 = some [.lit ((Go.Value.pointer none))] := by kernel_rfl
@[go_sem] theorem Tryd.tsz17 : tszOf Tryd.prog 17 = some (1, false) := by kernel_rfl
@[go_sem] theorem Tryd.udef17 : (Tryd.prog.underlying 17).isSome = true := by kernel_rfl
@[go_sem] theorem Tryd.zero17 : zeroOf Tryd.prog 17 = some [.lit ((Go.Value.pointer none))] := by kernel_rfl
@[go_sem] theorem Tryd.tsz20 : tszOf Tryd.prog 20 = some (1, false) := by kernel_rfl
@[go_sem] theorem Tryd.udef20 : (Tryd.prog.underlying 20).isSome = true := by kernel_rfl
@[go_sem] theorem Tryd.zero20 : zeroOf Tryd.prog 20 = some [.lit ((Go.Value.nilIface))] := by kernel_rfl
@[go_sem] theorem Tryd.isIf20 : isIfT Tryd.prog 20 = true := by kernel_rfl
@[go_sem] theorem Tryd.tsz21 : tszOf Tryd.prog 21 = some (1, false) := by kernel_rfl
@[go_sem] theorem Tryd.udef21 : (Tryd.prog.underlying 21).isSome = true := by kernel_rfl
@[go_sem] theorem Tryd.zero21 : zeroOf Tryd.prog 21 = some [.int .i32 0] := by kernel_rfl
@[go_sem] theorem Tryd.isInt21 : isIntT Tryd.prog 21 = some .i32 := by kernel_rfl
@[go_sem] theorem Tryd.tsz22 : tszOf Tryd.prog 22 = some (7, true) := by kernel_rfl
@[go_sem] theorem Tryd.udef22 : (Tryd.prog.underlying 22).isSome = true := by kernel_rfl
@[go_sem] theorem Tryd.zero22 : zeroOf Tryd.prog 22 = some [.int .i64 0, .int .i64 0, .int .i64 0, .int .i64 0, .int .i64 0, .int .i64 0, .int .i64 0] := by kernel_rfl
@[go_sem] theorem Tryd.pl22 : plOf Tryd.prog 22 = some [(0, 1), (1, 1), (2, 1), (3, 1), (4, 1), (5, 1), (6, 1)] := by kernel_rfl
@[go_sem] theorem Tryd.tsz23 : tszOf Tryd.prog 23 = some (7, true) := by kernel_rfl
@[go_sem] theorem Tryd.udef23 : (Tryd.prog.underlying 23).isSome = true := by kernel_rfl
@[go_sem] theorem Tryd.zero23 : zeroOf Tryd.prog 23 = some [.int .i64 0, .int .i64 0, .int .i64 0, .int .i64 0, .int .i64 0, .int .i64 0, .int .i64 0] := by kernel_rfl
@[go_sem] theorem Tryd.flatEq23 : flatEq Tryd.prog 23 = some [.int .i64, .int .i64, .int .i64, .int .i64, .int .i64, .int .i64, .int .i64] := by kernel_rfl
@[go_sem] theorem Tryd.pl23 : plOf Tryd.prog 23 = some [(0, 1), (1, 1), (2, 1), (3, 1), (4, 1), (5, 1), (6, 1)] := by kernel_rfl
@[go_sem] theorem Tryd.fd23_0 : fdOf Tryd.prog 23 0 = some (0, 1, false) := by kernel_rfl
@[go_sem] theorem Tryd.fd23_1 : fdOf Tryd.prog 23 1 = some (1, 1, false) := by kernel_rfl
@[go_sem] theorem Tryd.fd23_2 : fdOf Tryd.prog 23 2 = some (2, 1, false) := by kernel_rfl
@[go_sem] theorem Tryd.fd23_3 : fdOf Tryd.prog 23 3 = some (3, 1, false) := by kernel_rfl
@[go_sem] theorem Tryd.fd23_4 : fdOf Tryd.prog 23 4 = some (4, 1, false) := by kernel_rfl
@[go_sem] theorem Tryd.fd23_5 : fdOf Tryd.prog 23 5 = some (5, 1, false) := by kernel_rfl
@[go_sem] theorem Tryd.fd23_6 : fdOf Tryd.prog 23 6 = some (6, 1, false) := by kernel_rfl
@[go_sem] theorem Tryd.tsz28 : tszOf Tryd.prog 28 = some (1, false) := by kernel_rfl
@[go_sem] theorem Tryd.udef28 : (Tryd.prog.underlying 28).isSome = true := by kernel_rfl
@[go_sem] theorem Tryd.zero28 : zeroOf Tryd.prog 28 = some [.nilsl] := by kernel_rfl
@[go_sem] theorem Tryd.el28 : elOf Tryd.prog 28 = some (9, 1, 16) := by kernel_rfl
@[go_sem] theorem Tryd.isSl28 : isSl Tryd.prog 28 = true := by kernel_rfl
@[go_sem] theorem Tryd.tsz32 : tszOf Tryd.prog 32 = some (1, false) := by kernel_rfl
@[go_sem] theorem Tryd.udef32 : (Tryd.prog.underlying 32).isSome = true := by kernel_rfl
@[go_sem] theorem Tryd.zero32 : zeroOf Tryd.prog 32 = some [.lit ((Go.Value.nilFunc))] := by kernel_rfl
@[go_sem] theorem Tryd.tsz38 : tszOf Tryd.prog 38 = some (1, false) := by kernel_rfl
@[go_sem] theorem Tryd.udef38 : (Tryd.prog.underlying 38).isSome = true := by kernel_rfl
@[go_sem] theorem Tryd.zero38 : zeroOf Tryd.prog 38 = some [.nilsl] := by kernel_rfl
@[go_sem] theorem Tryd.el38 : elOf Tryd.prog 38 = some (3, 1, 8) := by kernel_rfl
@[go_sem] theorem Tryd.isSl38 : isSl Tryd.prog 38 = true := by kernel_rfl
@[go_sem] theorem Tryd.tsz44 : tszOf Tryd.prog 44 = some (1, false) := by kernel_rfl
@[go_sem] theorem Tryd.udef44 : (Tryd.prog.underlying 44).isSome = true := by kernel_rfl
@[go_sem] theorem Tryd.zero44 : zeroOf Tryd.prog 44 = some [.lit ((Go.Value.nilFunc))] := by kernel_rfl
@[go_sem] theorem Tryd.tsz48 : tszOf Tryd.prog 48 = some (1, false) := by kernel_rfl
@[go_sem] theorem Tryd.udef48 : (Tryd.prog.underlying 48).isSome = true := by kernel_rfl
@[go_sem] theorem Tryd.zero48 : zeroOf Tryd.prog 48 = some [.lit ((Go.Value.pointer none))] := by kernel_rfl
@[go_sem] theorem Tryd.tsz49 : tszOf Tryd.prog 49 = some (1, false) := by kernel_rfl
@[go_sem] theorem Tryd.udef49 : (Tryd.prog.underlying 49).isSome = true := by kernel_rfl
@[go_sem] theorem Tryd.zero49 : zeroOf Tryd.prog 49 = some [.nilsl] := by kernel_rfl
@[go_sem] theorem Tryd.el49 : elOf Tryd.prog 49 = some (5, 1, 1) := by kernel_rfl
@[go_sem] theorem Tryd.isSl49 : isSl Tryd.prog 49 = true := by kernel_rfl
@[go_sem] theorem Tryd.isU8S49 : isU8S Tryd.prog 49 = true := by kernel_rfl
@[go_sem] theorem Tryd.tsz50 : tszOf Tryd.prog 50 = some (2, true) := by kernel_rfl
@[go_sem] theorem Tryd.udef50 : (Tryd.prog.underlying 50).isSome = true := by kernel_rfl
@[go_sem] theorem Tryd.zero50 : zeroOf Tryd.prog 50 = some [.lit ((Go.Value.pointer none)), .nilsl] := by kernel_rfl
@[go_sem] theorem Tryd.pl50 : plOf Tryd.prog 50 = some [(0, 1), (1, 1)] := by kernel_rfl
@[go_sem] theorem Tryd.tsz51 : tszOf Tryd.prog 51 = some (2, true) := by kernel_rfl
@[go_sem] theorem Tryd.udef51 : (Tryd.prog.underlying 51).isSome = true := by kernel_rfl
@[go_sem] theorem Tryd.zero51 : zeroOf Tryd.prog 51 = some [.lit ((Go.Value.pointer none)), .nilsl] := by kernel_rfl
@[go_sem] theorem Tryd.pl51 : plOf Tryd.prog 51 = some [(0, 1), (1, 1)] := by kernel_rfl
@[go_sem] theorem Tryd.fd51_0 : fdOf Tryd.prog 51 0 = some (0, 1, false) := by kernel_rfl
@[go_sem] theorem Tryd.fd51_1 : fdOf Tryd.prog 51 1 = some (1, 1, false) := by kernel_rfl
@[go_sem] theorem Tryd.tsz53 : tszOf Tryd.prog 53 = some (1, false) := by kernel_rfl
@[go_sem] theorem Tryd.udef53 : (Tryd.prog.underlying 53).isSome = true := by kernel_rfl
@[go_sem] theorem Tryd.zero53 : zeroOf Tryd.prog 53 = some [.lit ((Go.Value.nilIface))] := by kernel_rfl
@[go_sem] theorem Tryd.isIf53 : isIfT Tryd.prog 53 = true := by kernel_rfl
@[go_sem] theorem Tryd.tsz54 : tszOf Tryd.prog 54 = some (1, false) := by kernel_rfl
@[go_sem] theorem Tryd.udef54 : (Tryd.prog.underlying 54).isSome = true := by kernel_rfl
@[go_sem] theorem Tryd.zero54 : zeroOf Tryd.prog 54 = some [.lit ((Go.Value.nilIface))] := by kernel_rfl
@[go_sem] theorem Tryd.isIf54 : isIfT Tryd.prog 54 = true := by kernel_rfl
@[go_sem] theorem Tryd.tsz59 : tszOf Tryd.prog 59 = some (1, false) := by kernel_rfl
@[go_sem] theorem Tryd.udef59 : (Tryd.prog.underlying 59).isSome = true := by kernel_rfl
@[go_sem] theorem Tryd.zero59 : zeroOf Tryd.prog 59 = some [.lit ((Go.Value.nilFunc))] := by kernel_rfl
@[go_sem] theorem Tryd.tsz62 : tszOf Tryd.prog 62 = some (1, false) := by kernel_rfl
@[go_sem] theorem Tryd.udef62 : (Tryd.prog.underlying 62).isSome = true := by kernel_rfl
@[go_sem] theorem Tryd.zero62 : zeroOf Tryd.prog 62 = some [.lit ((Go.Value.pointer none))] := by kernel_rfl
@[go_sem] theorem Tryd.tsz64 : tszOf Tryd.prog 64 = some (1, false) := by kernel_rfl
@[go_sem] theorem Tryd.udef64 : (Tryd.prog.underlying 64).isSome = true := by kernel_rfl
@[go_sem] theorem Tryd.zero64 : zeroOf Tryd.prog 64 = some [.lit ((Go.Value.nilFunc))] := by kernel_rfl
@[go_sem] theorem Tryd.tsz65 : tszOf Tryd.prog 65 = some (1, false) := by kernel_rfl
@[go_sem] theorem Tryd.udef65 : (Tryd.prog.underlying 65).isSome = true := by kernel_rfl
@[go_sem] theorem Tryd.zero65 : zeroOf Tryd.prog 65 = some [.lit ((Go.Value.nilFunc))] := by kernel_rfl
@[go_sem] theorem Tryd.tsz66 : tszOf Tryd.prog 66 = some (1, false) := by kernel_rfl
@[go_sem] theorem Tryd.udef66 : (Tryd.prog.underlying 66).isSome = true := by kernel_rfl
@[go_sem] theorem Tryd.zero66 : zeroOf Tryd.prog 66 = some [.int .u64 0] := by kernel_rfl
@[go_sem] theorem Tryd.isInt66 : isIntT Tryd.prog 66 = some .u64 := by kernel_rfl
@[go_sem] theorem Tryd.tsz67 : tszOf Tryd.prog 67 = some (1, false) := by kernel_rfl
@[go_sem] theorem Tryd.udef67 : (Tryd.prog.underlying 67).isSome = true := by kernel_rfl
@[go_sem] theorem Tryd.zero67 : zeroOf Tryd.prog 67 = some [.lit ((Go.Value.pointer none))] := by kernel_rfl
@[go_sem] theorem Tryd.tsz70 : tszOf Tryd.prog 70 = some (256, true) := by kernel_rfl
@[go_sem] theorem Tryd.udef70 : (Tryd.prog.underlying 70).isSome = true := by kernel_rfl
@[go_sem] theorem Tryd.ar70 : arOf Tryd.prog 70 = some (256, 1, false) := by kernel_rfl
@[go_sem] theorem Tryd.pl70 : plOf Tryd.prog 70 = some [(0, 1), (1, 1), (2, 1), (3, 1), (4, 1), (5, 1), (6, 1), (7, 1), (8, 1), (9, 1), (10, 1), (11, 1), (12, 1), (13, 1), (14, 1), (15, 1), (16, 1), (17, 1), (18, 1), (19, 1), (20, 1), (21, 1), (22, 1), (23, 1), (24, 1), (25, 1), (26, 1), (27, 1), (28, 1), (29, 1), (30, 1), (31, 1), (32, 1), (33, 1), (34, 1), (35, 1), (36, 1), (37, 1), (38, 1), (39, 1), (40, 1), (41, 1), (42, 1), (43, 1), (44, 1), (45, 1), (46, 1), (47, 1), (48, 1), (49, 1), (50, 1), (51, 1), (52, 1), (53, 1), (54, 1), (55, 1), (56, 1), (57, 1), (58, 1), (59, 1), (60, 1), (61, 1), (62, 1), (63, 1), (64, 1), (65, 1), (66, 1), (67, 1), (68, 1), (69, 1), (70, 1), (71, 1), (72, 1), (73, 1), (74, 1), (75, 1), (76, 1), (77, 1), (78, 1), (79, 1), (80, 1), (81, 1), (82, 1), (83, 1), (84, 1), (85, 1), (86, 1), (87, 1), (88, 1), (89, 1), (90, 1), (91, 1), (92, 1), (93, 1), (94, 1), (95, 1), (96, 1), (97, 1), (98, 1), (99, 1), (100, 1), (101, 1), (102, 1), (103, 1), (104, 1), (105, 1), (106, 1), (107, 1), (108, 1), (109, 1), (110, 1), (111, 1), (112, 1), (113, 1), (114, 1), (115, 1), (116, 1), (117, 1), (118, 1), (119, 1), (120, 1), (121, 1), (122, 1), (123, 1), (124, 1), (125, 1), (126, 1), (127, 1), (128, 1), (129, 1), (130, 1), (131, 1), (132, 1), (133, 1), (134, 1), (135, 1), (136, 1), (137, 1), (138, 1), (139, 1), (140, 1), (141, 1), (142, 1), (143, 1), (144, 1), (145, 1), (146, 1), (147, 1), (148, 1), (149, 1), (150, 1), (151, 1), (152, 1), (153, 1), (154, 1), (155, 1), (156, 1), (157, 1), (158, 1), (159, 1), (160, 1), (161, 1), (162, 1), (163, 1), (164, 1), (165, 1), (166, 1), (167, 1), (168, 1), (169, 1), (170, 1), (171, 1), (172, 1), (173, 1), (174, 1), (175, 1), (176, 1), (177, 1), (178, 1), (179, 1), (180, 1), (181, 1), (182, 1), (183, 1), (184, 1), (185, 1), (186, 1), (187, 1), (188, 1), (189, 1), (190, 1), (191, 1), (192, 1), (193, 1), (194, 1), (195, 1), (196, 1), (197, 1), (198, 1), (199, 1), (200, 1), (201, 1), (202, 1), (203, 1), (204, 1), (205, 1), (206, 1), (207, 1), (208, 1), (209, 1), (210, 1), (211, 1), (212, 1), (213, 1), (214, 1), (215, 1), (216, 1), (217, 1), (218, 1), (219, 1), (220, 1), (221, 1), (222, 1), (223, 1), (224, 1), (225, 1), (226, 1), (227, 1), (228, 1), (229, 1), (230, 1), (231, 1), (232, 1), (233, 1), (234, 1), (235, 1), (236, 1), (237, 1), (238, 1), (239, 1), (240, 1), (241, 1), (242, 1), (243, 1), (244, 1), (245, 1), (246, 1), (247, 1), (248, 1), (249, 1), (250, 1), (251, 1), (252, 1), (253, 1), (254, 1), (255, 1)] := by kernel_rfl
@[go_sem] theorem Tryd.tsz71 : tszOf Tryd.prog 71 = some (2, true) := by kernel_rfl
@[go_sem] theorem Tryd.udef71 : (Tryd.prog.underlying 71).isSome = true := by kernel_rfl
@[go_sem] theorem Tryd.zero71 : zeroOf Tryd.prog 71 = some [.int .u8 0, .int .u8 0] := by kernel_rfl
@[go_sem] theorem Tryd.pl71 : plOf Tryd.prog 71 = some [(0, 1), (1, 1)] := by kernel_rfl
@[go_sem] theorem Tryd.tsz72 : tszOf Tryd.prog 72 = some (2, true) := by kernel_rfl
@[go_sem] theorem Tryd.udef72 : (Tryd.prog.underlying 72).isSome = true := by kernel_rfl
@[go_sem] theorem Tryd.zero72 : zeroOf Tryd.prog 72 = some [.int .u8 0, .int .u8 0] := by kernel_rfl
@[go_sem] theorem Tryd.pl72 : plOf Tryd.prog 72 = some [(0, 1), (1, 1)] := by kernel_rfl
@[go_sem] theorem Tryd.fd72_0 : fdOf Tryd.prog 72 0 = some (0, 1, false) := by kernel_rfl
@[go_sem] theorem Tryd.fd72_1 : fdOf Tryd.prog 72 1 = some (1, 1, false) := by kernel_rfl
@[go_sem] theorem Tryd.tsz73 : tszOf Tryd.prog 73 = some (32, true) := by kernel_rfl
@[go_sem] theorem Tryd.udef73 : (Tryd.prog.underlying 73).isSome = true := by kernel_rfl
@[go_sem] theorem Tryd.zero73 : zeroOf Tryd.prog 73 = some [.int .u8 0, .int .u8 0, .int .u8 0, .int .u8 0, .int .u8 0, .int .u8 0, .int .u8 0, .int .u8 0, .int .u8 0, .int .u8 0, .int .u8 0, .int .u8 0, .int .u8 0, .int .u8 0, .int .u8 0, .int .u8 0, .int .u8 0, .int .u8 0, .int .u8 0, .int .u8 0, .int .u8 0, .int .u8 0, .int .u8 0, .int .u8 0, .int .u8 0, .int .u8 0, .int .u8 0, .int .u8 0, .int .u8 0, .int .u8 0, .int .u8 0, .int .u8 0] := by kernel_rfl
@[go_sem] theorem Tryd.ar73 : arOf Tryd.prog 73 = some (16, 2, true) := by kernel_rfl
@[go_sem] theorem Tryd.pl73 : plOf Tryd.prog 73 = some [(0, 2), (2, 2), (4, 2), (6, 2), (8, 2), (10, 2), (12, 2), (14, 2), (16, 2), (18, 2), (20, 2), (22, 2), (24, 2), (26, 2), (28, 2), (30, 2)] := by kernel_rfl
@[go_sem] theorem Tryd.tsz74 : tszOf Tryd.prog 74 = some (1, false) := by kernel_rfl
@[go_sem] theorem Tryd.udef74 : (Tryd.prog.underlying 74).isSome = true := by kernel_rfl
@[go_sem] theorem Tryd.zero74 : zeroOf Tryd.prog 74 = some [.int .i64 0] := by kernel_rfl
@[go_sem] theorem Tryd.isInt74 : isIntT Tryd.prog 74 = some .i64 := by kernel_rfl
@[go_sem] theorem Tryd.tsz77 : tszOf Tryd.prog 77 = some (1, false) := by kernel_rfl
@[go_sem] theorem Tryd.udef77 : (Tryd.prog.underlying 77).isSome = true := by kernel_rfl
@[go_sem] theorem Tryd.zero77 : zeroOf Tryd.prog 77 = some [.lit ((Go.Value.pointer none))] := by kernel_rfl
@[go_sem] theorem Tryd.tsz80 : tszOf Tryd.prog 80 = some (1, false) := by kernel_rfl
@[go_sem] theorem Tryd.udef80 : (Tryd.prog.underlying 80).isSome = true := by kernel_rfl
@[go_sem] theorem Tryd.zero80 : zeroOf Tryd.prog 80 = some [.int .u32 0] := by kernel_rfl
@[go_sem] theorem Tryd.isInt80 : isIntT Tryd.prog 80 = some .u32 := by kernel_rfl
@[go_sem] theorem Tryd.tsz83 : tszOf Tryd.prog 83 = some (1, false) := by kernel_rfl
@[go_sem] theorem Tryd.udef83 : (Tryd.prog.underlying 83).isSome = true := by kernel_rfl
@[go_sem] theorem Tryd.zero83 : zeroOf Tryd.prog 83 = some [.int .u64 0] := by kernel_rfl
@[go_sem] theorem Tryd.isInt83 : isIntT Tryd.prog 83 = some .u64 := by kernel_rfl
@[go_sem] theorem Tryd.tsz87 : tszOf Tryd.prog 87 = some (3, true) := by kernel_rfl
@[go_sem] theorem Tryd.udef87 : (Tryd.prog.underlying 87).isSome = true := by kernel_rfl
@[go_sem] theorem Tryd.zero87 : zeroOf Tryd.prog 87 = some [.str ByteArray.empty, .str ByteArray.empty, .lit ((Go.Value.nilIface))] := by kernel_rfl
@[go_sem] theorem Tryd.pl87 : plOf Tryd.prog 87 = some [(0, 1), (1, 1), (2, 1)] := by kernel_rfl
@[go_sem] theorem Tryd.tsz88 : tszOf Tryd.prog 88 = some (3, true) := by kernel_rfl
@[go_sem] theorem Tryd.udef88 : (Tryd.prog.underlying 88).isSome = true := by kernel_rfl
@[go_sem] theorem Tryd.zero88 : zeroOf Tryd.prog 88 = some [.str ByteArray.empty, .str ByteArray.empty, .lit ((Go.Value.nilIface))] := by kernel_rfl
@[go_sem] theorem Tryd.pl88 : plOf Tryd.prog 88 = some [(0, 1), (1, 1), (2, 1)] := by kernel_rfl
@[go_sem] theorem Tryd.tsz91 : tszOf Tryd.prog 91 = some (1, false) := by kernel_rfl
@[go_sem] theorem Tryd.udef91 : (Tryd.prog.underlying 91).isSome = true := by kernel_rfl
@[go_sem] theorem Tryd.zero91 : zeroOf Tryd.prog 91 = some [.lit ((Go.Value.pointer none))] := by kernel_rfl
@[go_sem] theorem Tryd.tsz92 : tszOf Tryd.prog 92 = some (1, true) := by kernel_rfl
@[go_sem] theorem Tryd.udef92 : (Tryd.prog.underlying 92).isSome = true := by kernel_rfl
@[go_sem] theorem Tryd.zero92 : zeroOf Tryd.prog 92 = some [.str ByteArray.empty] := by kernel_rfl
@[go_sem] theorem Tryd.pl92 : plOf Tryd.prog 92 = some [(0, 1)] := by kernel_rfl
@[go_sem] theorem Tryd.tsz93 : tszOf Tryd.prog 93 = some (1, true) := by kernel_rfl
@[go_sem] theorem Tryd.udef93 : (Tryd.prog.underlying 93).isSome = true := by kernel_rfl
@[go_sem] theorem Tryd.zero93 : zeroOf Tryd.prog 93 = some [.str ByteArray.empty] := by kernel_rfl
@[go_sem] theorem Tryd.pl93 : plOf Tryd.prog 93 = some [(0, 1)] := by kernel_rfl
@[go_sem] theorem Tryd.tsz95 : tszOf Tryd.prog 95 = some (24, true) := by kernel_rfl
@[go_sem] theorem Tryd.udef95 : (Tryd.prog.underlying 95).isSome = true := by kernel_rfl
@[go_sem] theorem Tryd.zero95 : zeroOf Tryd.prog 95 = some [.int .u8 0, .int .u8 0, .int .u8 0, .int .u8 0, .int .u8 0, .int .u8 0, .int .u8 0, .int .u8 0, .int .u8 0, .int .u8 0, .int .u8 0, .int .u8 0, .int .u8 0, .int .u8 0, .int .u8 0, .int .u8 0, .int .u8 0, .int .u8 0, .int .u8 0, .int .u8 0, .int .u8 0, .int .u8 0, .int .u8 0, .int .u8 0] := by kernel_rfl
@[go_sem] theorem Tryd.ar95 : arOf Tryd.prog 95 = some (24, 1, false) := by kernel_rfl
@[go_sem] theorem Tryd.pl95 : plOf Tryd.prog 95 = some [(0, 1), (1, 1), (2, 1), (3, 1), (4, 1), (5, 1), (6, 1), (7, 1), (8, 1), (9, 1), (10, 1), (11, 1), (12, 1), (13, 1), (14, 1), (15, 1), (16, 1), (17, 1), (18, 1), (19, 1), (20, 1), (21, 1), (22, 1), (23, 1)] := by kernel_rfl
@[go_sem] theorem Tryd.tsz101 : tszOf Tryd.prog 101 = some (20, true) := by kernel_rfl
@[go_sem] theorem Tryd.udef101 : (Tryd.prog.underlying 101).isSome = true := by kernel_rfl
@[go_sem] theorem Tryd.zero101 : zeroOf Tryd.prog 101 = some [.int .u64 0, .int .u64 0, .int .u64 0, .int .u64 0, .int .u64 0, .int .u64 0, .int .u64 0, .int .u64 0, .int .u64 0, .int .u64 0, .int .u64 0, .int .u64 0, .int .u64 0, .int .u64 0, .int .u64 0, .int .u64 0, .int .u64 0, .int .u64 0, .int .u64 0, .int .u64 0] := by kernel_rfl
@[go_sem] theorem Tryd.ar101 : arOf Tryd.prog 101 = some (20, 1, false) := by kernel_rfl
@[go_sem] theorem Tryd.pl101 : plOf Tryd.prog 101 = some [(0, 1), (1, 1), (2, 1), (3, 1), (4, 1), (5, 1), (6, 1), (7, 1), (8, 1), (9, 1), (10, 1), (11, 1), (12, 1), (13, 1), (14, 1), (15, 1), (16, 1), (17, 1), (18, 1), (19, 1)] := by kernel_rfl
@[go_sem] theorem Tryd.tsz102 : tszOf Tryd.prog 102 = some (65, true) := by kernel_rfl
@[go_sem] theorem Tryd.udef102 : (Tryd.prog.underlying 102).isSome = true := by kernel_rfl
@[go_sem] theorem Tryd.ar102 : arOf Tryd.prog 102 = some (65, 1, false) := by kernel_rfl
@[go_sem] theorem Tryd.pl102 : plOf Tryd.prog 102 = some [(0, 1), (1, 1), (2, 1), (3, 1), (4, 1), (5, 1), (6, 1), (7, 1), (8, 1), (9, 1), (10, 1), (11, 1), (12, 1), (13, 1), (14, 1), (15, 1), (16, 1), (17, 1), (18, 1), (19, 1), (20, 1), (21, 1), (22, 1), (23, 1), (24, 1), (25, 1), (26, 1), (27, 1), (28, 1), (29, 1), (30, 1), (31, 1), (32, 1), (33, 1), (34, 1), (35, 1), (36, 1), (37, 1), (38, 1), (39, 1), (40, 1), (41, 1), (42, 1), (43, 1), (44, 1), (45, 1), (46, 1), (47, 1), (48, 1), (49, 1), (50, 1), (51, 1), (52, 1), (53, 1), (54, 1), (55, 1), (56, 1), (57, 1), (58, 1), (59, 1), (60, 1), (61, 1), (62, 1), (63, 1), (64, 1)] := by kernel_rfl
@[go_sem] theorem Tryd.tsz105 : tszOf Tryd.prog 105 = some (32, true) := by kernel_rfl
@[go_sem] theorem Tryd.udef105 : (Tryd.prog.underlying 105).isSome = true := by kernel_rfl
@[go_sem] theorem Tryd.zero105 : zeroOf Tryd.prog 105 = some [.int .u8 0, .int .u8 0, .int .u8 0, .int .u8 0, .int .u8 0, .int .u8 0, .int .u8 0, .int .u8 0, .int .u8 0, .int .u8 0, .int .u8 0, .int .u8 0, .int .u8 0, .int .u8 0, .int .u8 0, .int .u8 0, .int .u8 0, .int .u8 0, .int .u8 0, .int .u8 0, .int .u8 0, .int .u8 0, .int .u8 0, .int .u8 0, .int .u8 0, .int .u8 0, .int .u8 0, .int .u8 0, .int .u8 0, .int .u8 0, .int .u8 0, .int .u8 0] := by kernel_rfl
@[go_sem] theorem Tryd.ar105 : arOf Tryd.prog 105 = some (32, 1, false) := by kernel_rfl
@[go_sem] theorem Tryd.pl105 : plOf Tryd.prog 105 = some [(0, 1), (1, 1), (2, 1), (3, 1), (4, 1), (5, 1), (6, 1), (7, 1), (8, 1), (9, 1), (10, 1), (11, 1), (12, 1), (13, 1), (14, 1), (15, 1), (16, 1), (17, 1), (18, 1), (19, 1), (20, 1), (21, 1), (22, 1), (23, 1), (24, 1), (25, 1), (26, 1), (27, 1), (28, 1), (29, 1), (30, 1), (31, 1)] := by kernel_rfl
@[go_sem] theorem Tryd.tsz106 : tszOf Tryd.prog 106 = some (64, true) := by kernel_rfl
@[go_sem] theorem Tryd.udef106 : (Tryd.prog.underlying 106).isSome = true := by kernel_rfl
@[go_sem] theorem Tryd.zero106 : zeroOf Tryd.prog 106 = some [.int .u8 0, .int .u8 0, .int .u8 0, .int .u8 0, .int .u8 0, .int .u8 0, .int .u8 0, .int .u8 0, .int .u8 0, .int .u8 0, .int .u8 0, .int .u8 0, .int .u8 0, .int .u8 0, .int .u8 0, .int .u8 0, .int .u8 0, .int .u8 0, .int .u8 0, .int .u8 0, .int .u8 0, .int .u8 0, .int .u8 0, .int .u8 0, .int .u8 0, .int .u8 0, .int .u8 0, .int .u8 0, .int .u8 0, .int .u8 0, .int .u8 0, .int .u8 0, .int .u8 0, .int .u8 0, .int .u8 0, .int .u8 0, .int .u8 0, .int .u8 0, .int .u8 0, .int .u8 0, .int .u8 0, .int .u8 0, .int .u8 0, .int .u8 0, .int .u8 0, .int .u8 0, .int .u8 0, .int .u8 0, .int .u8 0, .int .u8 0, .int .u8 0, .int .u8 0, .int .u8 0, .int .u8 0, .int .u8 0, .int .u8 0, .int .u8 0, .int .u8 0, .int .u8 0, .int .u8 0, .int .u8 0, .int .u8 0, .int .u8 0, .int .u8 0] := by kernel_rfl
@[go_sem] theorem Tryd.ar106 : arOf Tryd.prog 106 = some (64, 1, false) := by kernel_rfl
@[go_sem] theorem Tryd.pl106 : plOf Tryd.prog 106 = some [(0, 1), (1, 1), (2, 1), (3, 1), (4, 1), (5, 1), (6, 1), (7, 1), (8, 1), (9, 1), (10, 1), (11, 1), (12, 1), (13, 1), (14, 1), (15, 1), (16, 1), (17, 1), (18, 1), (19, 1), (20, 1), (21, 1), (22, 1), (23, 1), (24, 1), (25, 1), (26, 1), (27, 1), (28, 1), (29, 1), (30, 1), (31, 1), (32, 1), (33, 1), (34, 1), (35, 1), (36, 1), (37, 1), (38, 1), (39, 1), (40, 1), (41, 1), (42, 1), (43, 1), (44, 1), (45, 1), (46, 1), (47, 1), (48, 1), (49, 1), (50, 1), (51, 1), (52, 1), (53, 1), (54, 1), (55, 1), (56, 1), (57, 1), (58, 1), (59, 1), (60, 1), (61, 1), (62, 1), (63, 1)] := by kernel_rfl
@[go_sem] theorem Tryd.tsz109 : tszOf Tryd.prog 109 = some (0, true) := by kernel_rfl
@[go_sem] theorem Tryd.udef109 : (Tryd.prog.underlying 109).isSome = true := by kernel_rfl
@[go_sem] theorem Tryd.zero109 : zeroOf Tryd.prog 109 = some [] := by kernel_rfl
@[go_sem] theorem Tryd.ar109 : arOf Tryd.prog 109 = some (0, 1, false) := by kernel_rfl
@[go_sem] theorem Tryd.pl109 : plOf Tryd.prog 109 = some [] := by kernel_rfl
@[go_sem] theorem Tryd.tsz110 : tszOf Tryd.prog 110 = some (0, true) := by kernel_rfl
@[go_sem] theorem Tryd.udef110 : (Tryd.prog.underlying 110).isSome = true := by kernel_rfl
@[go_sem] theorem Tryd.zero110 : zeroOf Tryd.prog 110 = some [] := by kernel_rfl
@[go_sem] theorem Tryd.pl110 : plOf Tryd.prog 110 = some [(0, 0)] := by kernel_rfl
@[go_sem] theorem Tryd.tsz111 : tszOf Tryd.prog 111 = some (0, true) := by kernel_rfl
@[go_sem] theorem Tryd.udef111 : (Tryd.prog.underlying 111).isSome = true := by kernel_rfl
@[go_sem] theorem Tryd.zero111 : zeroOf Tryd.prog 111 = some [] := by kernel_rfl
@[go_sem] theorem Tryd.pl111 : plOf Tryd.prog 111 = some [(0, 0)] := by kernel_rfl
@[go_sem] theorem Tryd.tsz113 : tszOf Tryd.prog 113 = some (1, false) := by kernel_rfl
@[go_sem] theorem Tryd.udef113 : (Tryd.prog.underlying 113).isSome = true := by kernel_rfl
@[go_sem] theorem Tryd.zero113 : zeroOf Tryd.prog 113 = some [.int .u8 0] := by kernel_rfl
@[go_sem] theorem Tryd.isInt113 : isIntT Tryd.prog 113 = some .u8 := by kernel_rfl
@[go_sem] theorem Tryd.tsz114 : tszOf Tryd.prog 114 = some (1, false) := by kernel_rfl
@[go_sem] theorem Tryd.udef114 : (Tryd.prog.underlying 114).isSome = true := by kernel_rfl
@[go_sem] theorem Tryd.zero114 : zeroOf Tryd.prog 114 = some [.int .u8 0] := by kernel_rfl
@[go_sem] theorem Tryd.isInt114 : isIntT Tryd.prog 114 = some .u8 := by kernel_rfl
@[go_sem] theorem Tryd.tsz115 : tszOf Tryd.prog 115 = some (1, false) := by kernel_rfl
@[go_sem] theorem Tryd.udef115 : (Tryd.prog.underlying 115).isSome = true := by kernel_rfl
@[go_sem] theorem Tryd.zero115 : zeroOf Tryd.prog 115 = some [.lit ((Go.Value.nilFunc))] := by kernel_rfl
@[go_sem] theorem Tryd.tsz116 : tszOf Tryd.prog 116 = some (1, false) := by kernel_rfl
@[go_sem] theorem Tryd.udef116 : (Tryd.prog.underlying 116).isSome = true := by kernel_rfl
@[go_sem] theorem Tryd.zero116 : zeroOf Tryd.prog 116 = some [.int .i32 0] := by kernel_rfl
@[go_sem] theorem Tryd.isInt116 : isIntT Tryd.prog 116 = some .i32 := by kernel_rfl
@[go_sem] theorem Tryd.tsz117 : tszOf Tryd.prog 117 = some (1, false) := by kernel_rfl
@[go_sem] theorem Tryd.udef117 : (Tryd.prog.underlying 117).isSome = true := by kernel_rfl
@[go_sem] theorem Tryd.zero117 : zeroOf Tryd.prog 117 = some [.int .i32 0] := by kernel_rfl
@[go_sem] theorem Tryd.isInt117 : isIntT Tryd.prog 117 = some .i32 := by kernel_rfl
@[go_sem] theorem Tryd.tsz118 : tszOf Tryd.prog 118 = some (11, true) := by kernel_rfl
@[go_sem] theorem Tryd.udef118 : (Tryd.prog.underlying 118).isSome = true := by kernel_rfl
@[go_sem] theorem Tryd.zero118 : zeroOf Tryd.prog 118 = some [.int .u64 0, .int .u64 0, .int .u32 0, .int .u8 0, .int .u8 0, .int .u8 0, .int .u8 0, .lit ((Go.Value.nilFunc)), .lit ((Go.Value.pointer none)), .int .i32 0, .int .i32 0] := by kernel_rfl
@[go_sem] theorem Tryd.pl118 : plOf Tryd.prog 118 = some [(0, 1), (1, 1), (2, 1), (3, 1), (4, 1), (5, 1), (6, 1), (7, 1), (8, 1), (9, 1), (10, 1)] := by kernel_rfl
@[go_sem] theorem Tryd.tsz119 : tszOf Tryd.prog 119 = some (11, true) := by kernel_rfl
@[go_sem] theorem Tryd.udef119 : (Tryd.prog.underlying 119).isSome = true := by kernel_rfl
@[go_sem] theorem Tryd.zero119 : zeroOf Tryd.prog 119 = some [.int .u64 0, .int .u64 0, .int .u32 0, .int .u8 0, .int .u8 0, .int .u8 0, .int .u8 0, .lit ((Go.Value.nilFunc)), .lit ((Go.Value.pointer none)), .int .i32 0, .int .i32 0] := by kernel_rfl
@[go_sem] theorem Tryd.pl119 : plOf Tryd.prog 119 = some [(0, 1), (1, 1), (2, 1), (3, 1), (4, 1), (5, 1), (6, 1), (7, 1), (8, 1), (9, 1), (10, 1)] := by kernel_rfl
@[go_sem] theorem Tryd.isPt2 : isPt Tryd.prog 2 = false := by kernel_rfl
@[go_sem] theorem Tryd.isPt3 : isPt Tryd.prog 3 = false := by kernel_rfl
@[go_sem] theorem Tryd.isPt4 : isPt Tryd.prog 4 = false := by kernel_rfl
@[go_sem] theorem Tryd.isPt5 : isPt Tryd.prog 5 = false := by kernel_rfl
@[go_sem] theorem Tryd.isPt9 : isPt Tryd.prog 9 = false := by kernel_rfl
@[go_sem] theorem Tryd.isPt23 : isPt Tryd.prog 23 = false := by kernel_rfl
@[go_sem] theorem Tryd.isPt28 : isPt Tryd.prog 28 = false := by kernel_rfl
@[go_sem] theorem Tryd.isPt48 : isPt Tryd.prog 48 = true := by kernel_rfl
@[go_sem] theorem Tryd.isPt49 : isPt Tryd.prog 49 = false := by kernel_rfl
@[go_sem] theorem Tryd.isPt51 : isPt Tryd.prog 51 = false := by kernel_rfl
@[go_sem] theorem Tryd.isPt66 : isPt Tryd.prog 66 = false := by kernel_rfl
@[go_sem] theorem Tryd.isPt67 : isPt Tryd.prog 67 = false := by kernel_rfl
@[go_sem] theorem Tryd.isPt80 : isPt Tryd.prog 80 = false := by kernel_rfl
@[go_sem] theorem Tryd.isPt83 : isPt Tryd.prog 83 = false := by kernel_rfl
theorem Tryd.okF3 : okF Tryd.prog 3 = true := by kernel_rfl
theorem Tryd.okF4 : okF Tryd.prog 4 = true := by kernel_rfl
theorem Tryd.okF5 : okF Tryd.prog 5 = true := by kernel_rfl
theorem Tryd.okF6 : okF Tryd.prog 6 = true := by kernel_rfl
theorem Tryd.okF7 : okF Tryd.prog 7 = true := by kernel_rfl
theorem Tryd.okF8 : okF Tryd.prog 8 = true := by kernel_rfl
theorem Tryd.okF9 : okF Tryd.prog 9 = true := by kernel_rfl
theorem Tryd.okF10 : okF Tryd.prog 10 = true := by kernel_rfl
theorem Tryd.okF11 : okF Tryd.prog 11 = true := by kernel_rfl
theorem Tryd.okF12 : okF Tryd.prog 12 = true := by kernel_rfl
theorem Tryd.okF13 : okF Tryd.prog 13 = true := by kernel_rfl
theorem Tryd.okF14 : okF Tryd.prog 14 = true := by kernel_rfl
theorem Tryd.okF15 : okF Tryd.prog 15 = true := by kernel_rfl
theorem Tryd.okF16 : okF Tryd.prog 16 = true := by kernel_rfl
theorem Tryd.okF17 : okF Tryd.prog 17 = true := by kernel_rfl
theorem Tryd.okF18 : okF Tryd.prog 18 = true := by kernel_rfl
theorem Tryd.okF19 : okF Tryd.prog 19 = true := by kernel_rfl
theorem Tryd.okF20 : okF Tryd.prog 20 = true := by kernel_rfl
theorem Tryd.okF21 : okF Tryd.prog 21 = true := by kernel_rfl
theorem Tryd.okF23 : okF Tryd.prog 23 = true := by kernel_rfl
theorem Tryd.okF31 : okF Tryd.prog 31 = true := by kernel_rfl
theorem Tryd.okF32 : okF Tryd.prog 32 = true := by kernel_rfl
theorem Tryd.okF33 : okF Tryd.prog 33 = true := by kernel_rfl
theorem Tryd.okF35 : okF Tryd.prog 35 = true := by kernel_rfl
theorem Tryd.okF44 : okF Tryd.prog 44 = true := by kernel_rfl
theorem Tryd.okF45 : okF Tryd.prog 45 = true := by kernel_rfl
theorem Tryd.okF46 : okF Tryd.prog 46 = true := by kernel_rfl
theorem Tryd.okF47 : okF Tryd.prog 47 = true := by kernel_rfl
theorem Tryd.okF48 : okF Tryd.prog 48 = true := by kernel_rfl
theorem Tryd.okF49 : okF Tryd.prog 49 = true := by kernel_rfl
theorem Tryd.okF61 : okF Tryd.prog 61 = true := by kernel_rfl
end Go.Proofs
end
section
namespace Go.Lv

def rows {α : Type} (cs : α → List V) (L : List α) : List V := L.flatMap cs

section
variable {α : Type} {cs : α → List V} {w : Nat}

theorem rows_len (h : ∀ a, (cs a).length = w) (L : List α) : (rows cs L).length = L.length * w := by
 induction L with
 | nil => simp [rows]
 | cons a L ih => simp [rows, h] at ih ⊢; rw [ih, Nat.succ_mul, Nat.add_comm]

theorem rowsOf_append (L K : List α) : rows cs (L ++ K) = rows cs L ++ rows cs K := by simp [rows]
theorem rows_cons (a : α) (L : List α) : rows cs (a :: L) = cs a ++ rows cs L := by simp [rows]
theorem rows_one (a : α) : rows cs [a] = cs a := by simp [rows]

theorem rows_drop (h : ∀ a, (cs a).length = w) (L : List α) (i : Nat) : (rows cs L).drop (i * w) = rows cs (L.drop i) := by
 induction i generalizing L with
 | zero => simp
 | succ i ih =>
   cases L with
   | nil => simp [rows]
   | cons a L =>
     rw [rows_cons, Nat.succ_mul, Nat.add_comm, ← List.drop_drop, List.drop_append, h a, Nat.sub_self, List.drop_zero]
     rw [show (cs a).drop w = [] by simp [h]]
     simpa using ih L

theorem rows_at (h : ∀ a, (cs a).length = w) {L : List α} {i : Nat} (hi : i < L.length) : ((rows cs L).drop (i * w)).take w = cs L[i] := by
 rw [rows_drop h, List.drop_eq_getElem_cons hi, rows_cons, List.take_append, h, Nat.sub_self, List.take_zero, List.append_nil, List.take_of_length_le (by simp [h])]

theorem rows_all {p : V → Bool} (h : ∀ a, (cs a).all p = true) (L : List α) : (rows cs L).all p = true := by
 induction L with
 | nil => rfl
 | cons a L ih => rw [rows_cons, List.all_append, h a, ih]; rfl

theorem map_ren (f : Nat → R) {d : Nat} {l : List V} (h : l.all (noOwn d) = true) : l.map (ren f d) = l := by
 rw [List.map_congr_left (g := id) (fun x hx => ren_noOwn f d x (List.all_eq_true.1 h x hx)), List.map_id]

theorem wrap_i64 {n : Int} (h0 : -9223372036854775808 ≤ n) (h1 : n ≤ 9223372036854775807) : IntKind.i64.wrap n = n := by
 rw [IntKind.wrap_i64]; omega

def i64R (z : Int) : Prop := -9223372036854775808 ≤ z ∧ z ≤ 9223372036854775807
def strR (s : ByteArray) : Prop := s.size ≤ 9223372036854775807
class FlatP (cs : α → List V) (w : outParam Nat) : Prop where
 len : ∀ a, (cs a).length = w
 plain : ∀ a d, (cs a).all (noOwn d) = true
 cell : ∀ a, (cs a).all isCell = true
 noro : ∀ a, (cs a).all (noRoB 0) = true
class FlatQ (cs : α → List V) (w : outParam Nat) : Prop where
 len : ∀ a, (cs a).length = w
 plain : ∀ a d, (cs a).all (noOwn d) = true
 cell : ∀ a, (cs a).all isCell = true
instance {cs : α → List V} {w : Nat} [h : FlatP cs w] : FlatQ cs w := ⟨h.len, h.plain, h.cell⟩

theorem rows_length [FlatQ cs w] (L : List α) : (rows cs L).length = L.length * w := rows_len FlatQ.len L
theorem map_ren_rows [FlatQ cs w] (f : Nat → R) (d : Nat) (L : List α) : (rows cs L).map (ren f d) = rows cs L := map_ren f (rows_all (fun a => FlatQ.plain a d) L)
theorem rows_cell [FlatQ cs w] (L : List α) : (rows cs L).all isCell = true := rows_all FlatQ.cell L
theorem rows_noRo [FlatP cs w] (L : List α) : (rows cs L).all (noRoB 0) = true := rows_all FlatP.noro L
theorem rows_noOwn [FlatQ cs w] (L : List α) (d : Nat) : (rows cs L).all (noOwn d) = true := rows_all (fun a => FlatQ.plain a d) L
theorem rows_refV [FlatQ cs w] (p : Nat → Bool) (L : List α) (d : Nat) : (rows cs L).all (refV p d) = true := List.all_eq_true.2 fun x hx => refV_noOwn p d x (List.all_eq_true.1 (rows_noOwn (cs := cs) L d) x hx)
theorem noRoH_rows [FlatP cs w] (L : List α) : NoRoH [some (rows cs L)] := NoRoH.of (by simp only [hpNoRo, List.all_cons, List.all_nil, rows_noRo, Bool.and_self])
theorem take_rows [FlatQ cs w] (L : List α) : (rows cs L).take (L.length * w) = rows cs L := List.take_of_length_le (by rw [rows_length]; exact Nat.le_refl _)

theorem le_snap [FlatQ cs w] {h : Hp} {id : Nat} {L : List α} (hid : h[id]? = some (some (rows cs L))) : LeV (ren (snapR h 3) 3 (.osl id 0 L.length w)) (.sl L.length w (rows cs L)) := by
 refine .inl ?_
 simp only [ren, snapR, hid, map_ren_rows, List.drop_zero, take_rows]
theorem le_snap' [FlatQ cs w] {h : Hp} {id n : Nat} {L : List α} (hid : h[id]? = some (some (rows cs L))) (hn : n = L.length) : LeV (ren (snapR h 3) 3 (.osl id 0 n w)) (.sl L.length w (rows cs L)) := by
 subst hn; exact le_snap hid
theorem le_nil {h : Hp} {w : Nat} : LeV (ren (snapR h 3) 3 .nilsl) (.sl 0 w []) := .inr (.inr (.inl ⟨rfl, w, rfl⟩))
theorem LeV.aggR {f : Nat → R} {d : Nat} {cs cs' : List V} (h : LeA (cs.map (ren f d)) cs') : LeV (ren f (d + 1) (.agg cs)) (.agg cs') := LeV.agg h
theorem leE_snap [FlatQ cs w] {h : Hp} {id n n' : Nat} {L : List α} (hid : h[id]? = some (some (rows cs L))) (hn : n = L.length) (hn' : n' = L.length) : LeE (ren (snapR h 3) 2 (.osl id 0 n w)) (.sl n' w (rows cs L)) := by
 subst hn hn'
 refine .inl ?_
 simp only [ren, snapR, hid, map_ren_rows, List.drop_zero, take_rows]
theorem isMb_cells {l : List V} (h : l.all isCell = true) : isMb l = false := by
 match l, h with
 | [], _ => rfl
 | _ :: _ :: _, _ => rfl
 | [x], h => cases x <;> first | rfl | (simp [isCell] at h)
theorem isMb_rows [FlatQ cs w] (L : List α) : isMb (rows cs L) = false := isMb_cells (rows_cell L)
theorem rows_snoc (L : List α) (a : α) : rows cs L ++ cs a = rows cs (L ++ [a]) := by rw [rowsOf_append, rows_one]

theorem apart {L : List α} {i : Nat} (hi : i < L.length) : ∃ A B, L = A ++ L[i] :: B ∧ A.length = i ∧ A = L.take i ∧ B = L.drop (i + 1) := by
 refine ⟨L.take i, L.drop (i + 1), ?_, by simp; omega, rfl, rfl⟩
 rw [← List.drop_eq_getElem_cons hi, List.take_append_drop]

end

theorem leA {x y : V} (h : LeV x y := by first | exact le_snap rfl | exact .inl rfl | exact le_nil | exact le_snap' rfl (by simp) | exact LeV.aggR (by first | ((repeat' (first | exact True.intro | exact leE_snap rfl (by simp) (by simp) | exact LeE.nil | exact LeE.refl _ | refine And.intro ?_ ?_)); done) | fail)) : LeV x y := h
theorem callT.at {P : Program} {h : Hp} {g : FuncId} {a c args : List V} {K : V → Hp → Prop} {x : Tag K} {as' : List V} {r : V} {hout : Hp} (hs : Ctr P g as' [] r hout) (hle : LeL ((a ++ args ++ c).map (ren (snapR h 3) 3)) as') (hk : K r hout)
   (hro : (a ++ args ++ c).all (noOwn 3) = true ∨ NoRo r ∧ NoRoH hout := by first | exact .inl rfl | exact .inr ⟨noRo_ok 3 rfl, by first | exact NoRoH.nil | exact noRoH_rows _ | exact NoRoH.of (by simp only [hpNoRo, List.all_cons, List.all_nil, rows_noRo, Bool.and_self])⟩)
   (hrf : refOk h 4 (.fn (.func g) a c) = true ∧ args.all (refOk h 3) = true := by first | exact ⟨rfl, rfl⟩ | exact ⟨rfl, by simp [refOk, refV, refB, noOwn, rows_noOwn, rows_refV]⟩ | simp [refOk, refV, refB, noOwn, rows_noOwn, rows_refV]) : callT P h (.fn (.func g) a c) args K x :=
 callT.intro hs hle hro hrf hk
theorem callS.at {P : Program} {t : List V} {h : Hp} {k : Nat} {dst : Option Tmp} {g : FuncId} {a c args : List V} {K : St → Prop} {x : Tag K} {as' : List V} {r : V} {hout : Hp} (hs : Ctr P g as' [] r hout)
   (hle : LeL ((a ++ args ++ c).map (ren (snapR h 3) 3)) as') (hk : K (afterCall ⟨t, h, k⟩ dst r hout))
   (hro : (a ++ args ++ c).all (noOwn 3) = true ∨ NoRo r ∧ NoRoH hout := by first | exact .inl rfl | exact .inr ⟨noRo_ok 3 rfl, by first | exact NoRoH.nil | exact noRoH_rows _ | exact NoRoH.of (by simp only [hpNoRo, List.all_cons, List.all_nil, rows_noRo, Bool.and_self])⟩) : callS P ⟨t, h, k⟩ dst (.fn (.func g) a c) args K x :=
 callS.intro hs hle hro hk
theorem leO {x y : V} (h : LeV x y := by first | exact .inl rfl | exact LeV.aggR (by first | ((repeat' (first | exact True.intro | exact LeE.nil | exact LeE.refl _ | refine And.intro ?_ ?_)); done) | fail)) : LeV x y := h
theorem sideA {a b : Prop} (hb : b) (ha : a := by first | omega | with_reducible rfl | (show drawOk _ = true; kernel_rfl) | (simp only [rows_length, rows_cell, List.length_append, List.length_cons, List.length_nil, List.all_append, List.all_cons, List.all_nil, isCell, Nat.mul_one, Nat.one_mul, Bool.and_self]; first | done | omega)) : a ∧ b := ⟨ha, hb⟩
attribute [go_sem] Nat.le_refl Int.toNat_natCast beq_self_eq_true bne_self_eq_false decide_true decide_false eq_self ne_eq Option.some.injEq not_false_eq_true Option.map_some map_ren_rows
attribute [go_sem] Nat.reduceSub Nat.reduceAdd Nat.reduceMul Nat.reduceLT Nat.reduceLeDiff Nat.reduceEqDiff Nat.reduceDiv Nat.reduceMod Int.reduceToNat Int.reduceLE Int.reduceLT Int.reduceBEq Int.reduceBNe Int.reduceNeg Int.reduceAdd Int.reduceSub Int.reduceMul reduceCtorEq
end Go.Lv
end
section
set_option maxRecDepth 100000
namespace Go.Proofs
open Go.Lv
def inB' (n a b : Int) : Bool := decide (a ≤ n) && decide (n ≤ b)
theorem in_ok (n a b : Int) : Ctr Tryd.prog 46 [.int .i64 n, .int .i64 a, .int .i64 b] [] (.bool (inB' n a b)) [] := by
 refine Ctr.intro Tryd.mixed Tryd.func46 rfl Tryd.okF46 ?_
 simp -implicitDefEqProofs -dsimp only [go_sem, Tryd.ntmps46, Tryd.results46]
 refine guardT.splitT (fun h1 => ?_) (fun h1 => ?_) <;> simp -implicitDefEqProofs -dsimp only [go_sem, h1]
 · exact WeakR.of_eq (by simp [inB', h1])
 · exact WeakR.of_eq (by simp [inB', h1])
theorem l1In_ok (n a b : Int) : Ctr Tryd.prog 17 [.int .i64 n, .int .i64 a, .int .i64 b] [] (.bool (inB' n a b)) [] := by
 refine Ctr.intro Tryd.mixed Tryd.func17 rfl Tryd.okF17 ?_
 simp -implicitDefEqProofs -dsimp only [go_sem, Tryd.ntmps17, Tryd.results17]
 refine guardT.splitT (fun h1 => ?_) (fun h1 => ?_) <;> simp -implicitDefEqProofs -dsimp only [go_sem, h1]
 · exact WeakR.of_eq (by simp [inB', h1])
 · exact WeakR.of_eq (by simp [inB', h1])
theorem abs_ok (n : Int) (h0 : -4611686018427387904 ≤ n) (h1 : n ≤ 4611686018427387904) : Ctr Tryd.prog 48 [.int .i64 n] [] (.int .i64 (n.natAbs)) [] := by
 refine Ctr.intro Tryd.mixed Tryd.func48 rfl Tryd.okF48 ?_
 simp -implicitDefEqProofs -dsimp only [go_sem, Tryd.ntmps48, Tryd.results48]
 rw [wrap_i64 (by omega) (by omega)]
 exact WeakR.of_eq (by congr 1; split <;> omega)
end Go.Proofs
end
section
set_option maxRecDepth 100000
namespace Go.Proofs
open Go.Lv
def placeB (x y : Int) : Bool := inB' x 0 999 && inB' y 0 999
theorem isTick_ok (n : Int) : Ctr Tryd.prog 44 [.int .i64 n] [] (.bool (inB' n 0 1000000)) [] := by
 refine Ctr.intro Tryd.mixed Tryd.func44 rfl Tryd.okF44 ?_
 simp -implicitDefEqProofs -dsimp only [go_sem, Tryd.ntmps44, Tryd.results44]
 repeat' (first | (refine WeakR.drop' ?_ (by rfl); first | rfl | (simp [placeB, *]; done)) | ((first | refine callT.at (in_ok _ _ _) ⟨leA, leA, leA, trivial⟩ ?_ | refine callS.at (in_ok _ _ _) ⟨leA, leA, leA, trivial⟩ ?_); simp -implicitDefEqProofs -dsimp only [go_sem, *]) | (refine guardT.splitT (fun _ => ?_) (fun _ => ?_) <;> simp -implicitDefEqProofs -dsimp only [go_sem, *]) | (refine guardT.splitF (fun _ => ?_) (fun _ => ?_) <;> simp -implicitDefEqProofs -dsimp only [go_sem, *]) | (refine condT.split (fun _ => ?_) (fun _ => ?_) <;> simp -implicitDefEqProofs -dsimp only [go_sem, *]))
theorem l2Tick_ok (n : Int) : Ctr Tryd.prog 18 [.int .i64 n] [] (.bool (inB' n 0 1000000)) [] := by
 refine Ctr.intro Tryd.mixed Tryd.func18 rfl Tryd.okF18 ?_
 simp -implicitDefEqProofs -dsimp only [go_sem, Tryd.ntmps18, Tryd.results18]
 repeat' (first | (refine WeakR.drop' ?_ (by rfl); first | rfl | (simp [placeB, *]; done)) | ((first | refine callT.at (l1In_ok _ _ _) ⟨leA, leA, leA, trivial⟩ ?_ | refine callS.at (l1In_ok _ _ _) ⟨leA, leA, leA, trivial⟩ ?_); simp -implicitDefEqProofs -dsimp only [go_sem, *]) | (refine guardT.splitT (fun _ => ?_) (fun _ => ?_) <;> simp -implicitDefEqProofs -dsimp only [go_sem, *]) | (refine guardT.splitF (fun _ => ?_) (fun _ => ?_) <;> simp -implicitDefEqProofs -dsimp only [go_sem, *]) | (refine condT.split (fun _ => ?_) (fun _ => ?_) <;> simp -implicitDefEqProofs -dsimp only [go_sem, *]))
theorem isPlace_ok (x y : Int) : Ctr Tryd.prog 45 [.int .i64 x, .int .i64 y] [] (.bool (placeB x y)) [] := by
 refine Ctr.intro Tryd.mixed Tryd.func45 rfl Tryd.okF45 ?_
 simp -implicitDefEqProofs -dsimp only [go_sem, Tryd.ntmps45, Tryd.results45]
 repeat' (first | (refine WeakR.drop' ?_ (by rfl); first | rfl | (simp [placeB, *]; done)) | ((first | refine callT.at (in_ok _ _ _) ⟨leA, leA, leA, trivial⟩ ?_ | refine callS.at (in_ok _ _ _) ⟨leA, leA, leA, trivial⟩ ?_); simp -implicitDefEqProofs -dsimp only [go_sem, *]) | (refine guardT.splitT (fun _ => ?_) (fun _ => ?_) <;> simp -implicitDefEqProofs -dsimp only [go_sem, *]) | (refine guardT.splitF (fun _ => ?_) (fun _ => ?_) <;> simp -implicitDefEqProofs -dsimp only [go_sem, *]) | (refine condT.split (fun _ => ?_) (fun _ => ?_) <;> simp -implicitDefEqProofs -dsimp only [go_sem, *]))
theorem l2Place_ok (x y : Int) : Ctr Tryd.prog 19 [.int .i64 x, .int .i64 y] [] (.bool (placeB x y)) [] := by
 refine Ctr.intro Tryd.mixed Tryd.func19 rfl Tryd.okF19 ?_
 simp -implicitDefEqProofs -dsimp only [go_sem, Tryd.ntmps19, Tryd.results19]
 repeat' (first | (refine WeakR.drop' ?_ (by rfl); first | rfl | (simp [placeB, *]; done)) | ((first | refine callT.at (l1In_ok _ _ _) ⟨leA, leA, leA, trivial⟩ ?_ | refine callS.at (l1In_ok _ _ _) ⟨leA, leA, leA, trivial⟩ ?_); simp -implicitDefEqProofs -dsimp only [go_sem, *]) | (refine guardT.splitT (fun _ => ?_) (fun _ => ?_) <;> simp -implicitDefEqProofs -dsimp only [go_sem, *]) | (refine guardT.splitF (fun _ => ?_) (fun _ => ?_) <;> simp -implicitDefEqProofs -dsimp only [go_sem, *]) | (refine condT.split (fun _ => ?_) (fun _ => ?_) <;> simp -implicitDefEqProofs -dsimp only [go_sem, *]))
theorem isRowSize_ok (n : Int) : Ctr Tryd.prog 47 [.int .i64 n] [] (.bool (inB' n (-100) 1000)) [] := by
 refine Ctr.intro Tryd.mixed Tryd.func47 rfl Tryd.okF47 ?_
 simp -implicitDefEqProofs -dsimp only [go_sem, Tryd.ntmps47, Tryd.results47]
 repeat' (first | (refine WeakR.drop' ?_ (by rfl); first | rfl | (simp [placeB, *]; done)) | ((first | refine callT.at (in_ok _ _ _) ⟨leA, leA, leA, trivial⟩ ?_ | refine callS.at (in_ok _ _ _) ⟨leA, leA, leA, trivial⟩ ?_); simp -implicitDefEqProofs -dsimp only [go_sem, *]) | (refine guardT.splitT (fun _ => ?_) (fun _ => ?_) <;> simp -implicitDefEqProofs -dsimp only [go_sem, *]) | (refine guardT.splitF (fun _ => ?_) (fun _ => ?_) <;> simp -implicitDefEqProofs -dsimp only [go_sem, *]) | (refine condT.split (fun _ => ?_) (fun _ => ?_) <;> simp -implicitDefEqProofs -dsimp only [go_sem, *]))
theorem l24Size_ok (n : Int) : Ctr Tryd.prog 20 [.int .i64 n] [] (.bool (inB' n (-100) 1000)) [] := by
 refine Ctr.intro Tryd.mixed Tryd.func20 rfl Tryd.okF20 ?_
 simp -implicitDefEqProofs -dsimp only [go_sem, Tryd.ntmps20, Tryd.results20]
 repeat' (first | (refine WeakR.drop' ?_ (by rfl); first | rfl | (simp [placeB, *]; done)) | ((first | refine callT.at (l1In_ok _ _ _) ⟨leA, leA, leA, trivial⟩ ?_ | refine callS.at (l1In_ok _ _ _) ⟨leA, leA, leA, trivial⟩ ?_); simp -implicitDefEqProofs -dsimp only [go_sem, *]) | (refine guardT.splitT (fun _ => ?_) (fun _ => ?_) <;> simp -implicitDefEqProofs -dsimp only [go_sem, *]) | (refine guardT.splitF (fun _ => ?_) (fun _ => ?_) <;> simp -implicitDefEqProofs -dsimp only [go_sem, *]) | (refine condT.split (fun _ => ?_) (fun _ => ?_) <;> simp -implicitDefEqProofs -dsimp only [go_sem, *]))
end Go.Proofs
end
section
set_option maxRecDepth 100000
namespace Go.Proofs
open Go.Lv
structure QuakeRow where
 Id : Int
 Tick : Int
 X : Int
 Y : Int
 Deep : Int
 Size : Int
 Grade : Int
def QuakeRow.cs (r : QuakeRow) : List V := [.int .i64 r.Id, .int .i64 r.Tick, .int .i64 r.X, .int .i64 r.Y, .int .i64 r.Deep, .int .i64 r.Size, .int .i64 r.Grade]
def QuakeRow.v (r : QuakeRow) : V := .agg [.int .i64 r.Id, .int .i64 r.Tick, .int .i64 r.X, .int .i64 r.Y, .int .i64 r.Deep, .int .i64 r.Size, .int .i64 r.Grade]
theorem QuakeRow.csl (a : QuakeRow) : a.cs.length = 7 := rfl
instance : FlatP QuakeRow.cs 7 := ⟨fun _ => rfl, fun _ d => by cases d <;> rfl, fun _ => rfl, fun _ => rfl⟩
def QuakeRow.ok (r : QuakeRow) : Prop := i64R r.Id ∧ i64R r.Tick ∧ i64R r.X ∧ i64R r.Y ∧ i64R r.Deep ∧ i64R r.Size ∧ i64R r.Grade
abbrev QuakeRow.rows (L : List QuakeRow) : List V := Go.Lv.rows QuakeRow.cs L
abbrev QuakeRow.sl (L : List QuakeRow) : V := .sl L.length 7 (Go.Lv.rows QuakeRow.cs L)
abbrev QuakeRow.zs : List V := [.int .i64 0, .int .i64 0, .int .i64 0, .int .i64 0, .int .i64 0, .int .i64 0, .int .i64 0]
def QuakeRow.mk1 (k : Int) : QuakeRow := ⟨k, k + 1, k + 1 + 1, k + 1 + 1 + 1, k + 1 + 1 + 1 + 1, k + 1 + 1 + 1 + 1 + 1, k + 1 + 1 + 1 + 1 + 1 + 1⟩
def QuakeRow.marks (k : Int) (n : Nat) : List QuakeRow := (List.range n).map fun i : Nat => QuakeRow.mk1 (k + 7 * (i : Int))
@[simp] theorem QuakeRow.marks_len (k : Int) (n : Nat) : (QuakeRow.marks k n).length = n := by simp [QuakeRow.marks]
theorem eqQuakeRow_ok (r : QuakeRow) : Ctr Tryd.prog 6 [r.v, r.v] [] (.bool true) [] := by
 refine Ctr.intro Tryd.mixed Tryd.func6 rfl Tryd.okF6 ?_
 simp -implicitDefEqProofs -dsimp only [go_sem, Tryd.ntmps6, Tryd.results6]
 simp -implicitDefEqProofs -dsimp only [go_sem, QuakeRow.v, bne_self_eq_false, beq_self_eq_true, Bool.not_true]
 exact WeakR.drop' rfl rfl
end Go.Proofs
end
section
set_option maxRecDepth 100000
namespace Go.Proofs
open Go.Lv
def qrB (r : QuakeRow) : Bool := inB' r.Id 1 9999 && inB' r.Tick 0 1000000 && placeB r.X r.Y && inB' r.Deep 0 700 && inB' r.Size (-100) 1000 && inB' r.Grade 1 4
theorem qrB_iff {r : QuakeRow} : qrB r = true ↔ (1 ≤ r.Id ∧ r.Id ≤ 9999) ∧ (0 ≤ r.Tick ∧ r.Tick ≤ 1000000) ∧ ((0 ≤ r.X ∧ r.X ≤ 999) ∧ 0 ≤ r.Y ∧ r.Y ≤ 999) ∧ (0 ≤ r.Deep ∧ r.Deep ≤ 700) ∧ (-100 ≤ r.Size ∧ r.Size ≤ 1000) ∧ 1 ≤ r.Grade ∧ r.Grade ≤ 4 := by
 simp [qrB, placeB, inB', and_assoc]
theorem l24One_ok (r : QuakeRow) : Ctr Tryd.prog 9 [r.v] [] (.bool (qrB r)) [] := by
 refine Ctr.intro Tryd.mixed Tryd.func9 rfl Tryd.okF9 ?_
 simp -implicitDefEqProofs -dsimp only [go_sem, Tryd.ntmps9, Tryd.results9]
 simp -implicitDefEqProofs -dsimp only [go_sem, QuakeRow.v]
 repeat' (first | (refine WeakR.drop' ?_ (by rfl); first | rfl | (simp [qrB, *]; done)) | ((first | refine callT.at (l1In_ok _ _ _) ⟨leA, leA, leA, trivial⟩ ?_ | refine callS.at (l1In_ok _ _ _) ⟨leA, leA, leA, trivial⟩ ?_); simp -implicitDefEqProofs -dsimp only [go_sem, *]) | ((first | refine callT.at (l2Tick_ok _) ⟨leA, trivial⟩ ?_ | refine callS.at (l2Tick_ok _) ⟨leA, trivial⟩ ?_); simp -implicitDefEqProofs -dsimp only [go_sem, *]) | ((first | refine callT.at (l2Place_ok _ _) ⟨leA, leA, trivial⟩ ?_ | refine callS.at (l2Place_ok _ _) ⟨leA, leA, trivial⟩ ?_); simp -implicitDefEqProofs -dsimp only [go_sem, *]) | ((first | refine callT.at (l24Size_ok _) ⟨leA, trivial⟩ ?_ | refine callS.at (l24Size_ok _) ⟨leA, trivial⟩ ?_); simp -implicitDefEqProofs -dsimp only [go_sem, *]) | (refine guardT.splitT (fun _ => ?_) (fun _ => ?_) <;> simp -implicitDefEqProofs -dsimp only [go_sem, *]) | (refine guardT.splitF (fun _ => ?_) (fun _ => ?_) <;> simp -implicitDefEqProofs -dsimp only [go_sem, *]) | (refine condT.split (fun _ => ?_) (fun _ => ?_) <;> simp -implicitDefEqProofs -dsimp only [go_sem, *]))
theorem iIsQuakeRow_ok (r : QuakeRow) : Ctr Tryd.prog 32 [r.v] [] (.bool (qrB r)) [] := by
 refine Ctr.intro Tryd.mixed Tryd.func32 rfl Tryd.okF32 ?_
 simp -implicitDefEqProofs -dsimp only [go_sem, Tryd.ntmps32, Tryd.results32]
 simp -implicitDefEqProofs -dsimp only [go_sem, QuakeRow.v]
 repeat' (first | (refine WeakR.drop' ?_ (by rfl); first | rfl | (simp [qrB, *]; done)) | ((first | refine callT.at (in_ok _ _ _) ⟨leA, leA, leA, trivial⟩ ?_ | refine callS.at (in_ok _ _ _) ⟨leA, leA, leA, trivial⟩ ?_); simp -implicitDefEqProofs -dsimp only [go_sem, *]) | ((first | refine callT.at (isTick_ok _) ⟨leA, trivial⟩ ?_ | refine callS.at (isTick_ok _) ⟨leA, trivial⟩ ?_); simp -implicitDefEqProofs -dsimp only [go_sem, *]) | ((first | refine callT.at (isPlace_ok _ _) ⟨leA, leA, trivial⟩ ?_ | refine callS.at (isPlace_ok _ _) ⟨leA, leA, trivial⟩ ?_); simp -implicitDefEqProofs -dsimp only [go_sem, *]) | ((first | refine callT.at (isRowSize_ok _) ⟨leA, trivial⟩ ?_ | refine callS.at (isRowSize_ok _) ⟨leA, trivial⟩ ?_); simp -implicitDefEqProofs -dsimp only [go_sem, *]) | (refine guardT.splitT (fun _ => ?_) (fun _ => ?_) <;> simp -implicitDefEqProofs -dsimp only [go_sem, *]) | (refine guardT.splitF (fun _ => ?_) (fun _ => ?_) <;> simp -implicitDefEqProofs -dsimp only [go_sem, *]) | (refine condT.split (fun _ => ?_) (fun _ => ?_) <;> simp -implicitDefEqProofs -dsimp only [go_sem, *]))
end Go.Proofs
end
section
namespace Go.Lv

def num (n : Int) : ByteArray := ⟨(Lib.itoa n).toArray⟩
theorem num_size {n : Int} (h : i64R n) : (num n).size ≤ 21 := by
 have := Lib.itoa_length_le n h.1 h.2
 simpa [num, ByteArray.size] using this
theorem num_size' {n : Int} (h0 : -9223372036854775808 ≤ n) (h1 : n ≤ 9223372036854775807) : (num n).size ≤ 21 := num_size ⟨h0, h1⟩
theorem ba_size (l : Array UInt8) : (ByteArray.mk l).size = l.size := rfl
theorem ba_add (x y : Array UInt8) : (ByteArray.mk x ++ ByteArray.mk y) = ByteArray.mk (x ++ y) := by
 apply ByteArray.ext
 simp
def digits : ByteArray := ⟨#[48, 49, 50, 51, 52, 53, 54, 55, 56, 57]⟩
theorem digit_at (d : Nat) (h : d < 10) : digits.extract d (d + 1) = ⟨#[UInt8.ofNat (48 + d)]⟩ := by
 apply ByteArray.ext
 rw [ByteArray.data_extract]
 match d, h with
 | 0, _ => decide
 | 1, _ => decide
 | 2, _ => decide
 | 3, _ => decide
 | 4, _ => decide
 | 5, _ => decide
 | 6, _ => decide
 | 7, _ => decide
 | 8, _ => decide
 | 9, _ => decide
theorem itoa_nat (u : Nat) : Lib.itoa (u : Int) = Lib.decDigits u := by unfold Lib.itoa; rw [if_neg (by omega)]; simp
theorem num_neg {u : Nat} (h : 1 ≤ u) : num (-(u : Int)) = ⟨#[45]⟩ ++ num u := by
 have e : Lib.itoa (-(u : Int)) = 45 :: Lib.decDigits u := by unfold Lib.itoa; rw [if_pos (by omega)]; simp
 unfold num
 rw [e, itoa_nat, ba_add]
 simp
theorem num_one {u : Nat} (h : u < 10) : num u = digits.extract u (u + 1) := by
 rw [digit_at u h]
 unfold num
 rw [itoa_nat, Lib.decDigits, dif_pos h]
theorem num_more {u : Nat} (h : ¬ u < 10) : num u = num ((u / 10 : Nat) : Int) ++ digits.extract (u % 10) (u % 10 + 1) := by
 rw [digit_at (u % 10) (by omega)]
 unfold num
 rw [itoa_nat, itoa_nat, Lib.decDigits, dif_neg h, ba_add]
 simp

end Go.Lv
end
