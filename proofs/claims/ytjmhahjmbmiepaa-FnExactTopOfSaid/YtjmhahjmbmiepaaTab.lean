/- The types and functions of this seat, as a table. PRINTED by gen.py. -/
import Derived.Test.YtjmhahjmbmiepaaDenM
import Derived.Test.YtjmhahjmbmiepaaChecked
import Derived.KernelRfl
import Derived.Eval
namespace Go.Proofs.Ytjmhahjmbmiepaa.D
open Go Go.Proofs
def T0 : Types := [(1, ⟨.func, [.func], 8⟩),
  (2, ⟨.int .i64, [.int .i64], 8⟩),
  (3, ⟨.int .i64, [.int .i64], 8⟩),
  (4, ⟨.bool, [.bool], 1⟩),
  (5, ⟨.int .u8, [.int .u8], 1⟩),
  (6, ⟨.int .u8, [.int .u8], 1⟩),
  (7, ⟨.struct [(0, 2), (1, 3), (2, 4), (3, 6)], [.int .i64, .int .i64, .bool, .int .u8], 24⟩),
  (8, ⟨.struct [(0, 2), (1, 3), (2, 4), (3, 6)], [.int .i64, .int .i64, .bool, .int .u8], 24⟩),
  (9, ⟨.str, [.str], 16⟩),
  (10, ⟨.str, [.str], 16⟩),
  (11, ⟨.str, [.str], 16⟩),
  (12, ⟨.int .u64, [.int .u64], 8⟩),
  (13, ⟨.struct [(0, 9), (1, 12)], [.str, .int .u64], 24⟩),
  (14, ⟨.struct [(0, 9), (1, 12)], [.str, .int .u64], 24⟩),
  (15, ⟨.ptr 308, [.ptr], 8⟩),
  (16, ⟨.ptr 311, [.ptr], 8⟩),
  (17, ⟨.ptr 318, [.ptr], 8⟩),
  (18, ⟨.struct [(0, 17)], [.ptr], 8⟩),
  (19, ⟨.struct [(0, 17)], [.ptr], 8⟩),
  (20, ⟨.iface, [.iface], 16⟩),
  (21, ⟨.int .i32, [.int .i32], 4⟩),
  (22, ⟨.slice 3, [.slice], 24⟩),
  (23, ⟨.slice 124, [.slice], 24⟩),
  (24, ⟨.func, [.func], 8⟩),
  (25, ⟨.slice 22, [.slice], 24⟩),
  (26, ⟨.slice 29, [.slice], 24⟩),
  (27, ⟨.struct [(0, 22), (1, 25), (2, 22), (3, 26), (4, 25)], [.slice, .slice, .slice, .slice, .slice], 120⟩),
  (28, ⟨.struct [(0, 22), (1, 25), (2, 22), (3, 26), (4, 25)], [.slice, .slice, .slice, .slice, .slice], 120⟩),
  (29, ⟨.slice 4, [.slice], 24⟩),
  (31, ⟨.func, [.func], 8⟩),
  (32, ⟨.func, [.func], 8⟩),
  (33, ⟨.slice 53, [.slice], 24⟩),
  (34, ⟨.func, [.func], 8⟩),
  (35, ⟨.func, [.func], 8⟩),
  (36, ⟨.func, [.func], 8⟩),
  (37, ⟨.func, [.func], 8⟩),
  (38, ⟨.func, [.func], 8⟩),
  (39, ⟨.func, [.func], 8⟩),
  (40, ⟨.func, [.func], 8⟩),
  (41, ⟨.func, [.func], 8⟩),
  (42, ⟨.func, [.func], 8⟩),
  (43, ⟨.func, [.func], 8⟩),
  (44, ⟨.slice 5, [.slice], 24⟩),
  (46, ⟨.func, [.func], 8⟩),
  (48, ⟨.func, [.func], 8⟩),
  (49, ⟨.func, [.func], 8⟩),
  (51, ⟨.func, [.func], 8⟩),
  (52, ⟨.struct [(0, 3), (1, 3), (2, 3), (3, 3)], [.int .i64, .int .i64, .int .i64, .int .i64], 32⟩),
  (53, ⟨.struct [(0, 3), (1, 3), (2, 3), (3, 3)], [.int .i64, .int .i64, .int .i64, .int .i64], 32⟩),
  (55, ⟨.func, [.func], 8⟩),
  (56, ⟨.func, [.func], 8⟩),
  (57, ⟨.slice 145, [.slice], 24⟩),
  (58, ⟨.func, [.func], 8⟩),
  (59, ⟨.slice 214, [.slice], 24⟩),
  (60, ⟨.struct [(0, 59), (1, 3)], [.slice, .int .i64], 32⟩),
  (61, ⟨.struct [(0, 59), (1, 3)], [.slice, .int .i64], 32⟩),
  (63, ⟨.func, [.func], 8⟩),
  (64, ⟨.slice 149, [.slice], 24⟩),
  (65, ⟨.func, [.func], 8⟩),
  (66, ⟨.func, [.func], 8⟩),
  (67, ⟨.func, [.func], 8⟩),
  (68, ⟨.func, [.func], 8⟩),
  (69, ⟨.func, [.func], 8⟩),
  (70, ⟨.func, [.func], 8⟩),
  (71, ⟨.slice 163, [.slice], 24⟩),
  (72, ⟨.func, [.func], 8⟩),
  (74, ⟨.func, [.func], 8⟩),
  (75, ⟨.slice 168, [.slice], 24⟩),
  (76, ⟨.func, [.func], 8⟩),
  (77, ⟨.func, [.func], 8⟩),
  (78, ⟨.func, [.func], 8⟩),
  (79, ⟨.func, [.func], 8⟩),
  (80, ⟨.slice 93, [.slice], 24⟩),
  (81, ⟨.slice 179, [.slice], 24⟩),
  (82, ⟨.struct [(0, 80), (1, 81), (2, 25)], [.slice, .slice, .slice], 72⟩),
  (83, ⟨.struct [(0, 80), (1, 81), (2, 25)], [.slice, .slice, .slice], 72⟩),
  (84, ⟨.struct [(0, 3), (1, 3)], [.int .i64, .int .i64], 16⟩),
  (85, ⟨.struct [(0, 3), (1, 3)], [.int .i64, .int .i64], 16⟩),
  (87, ⟨.func, [.func], 8⟩),
  (89, ⟨.func, [.func], 8⟩),
  (90, ⟨.func, [.func], 8⟩),
  (91, ⟨.func, [.func], 8⟩),
  (92, ⟨.struct [(0, 3), (1, 3), (2, 3), (3, 22), (4, 3)], [.int .i64, .int .i64, .int .i64, .slice, .int .i64], 56⟩),
  (93, ⟨.struct [(0, 3), (1, 3), (2, 3), (3, 22), (4, 3)], [.int .i64, .int .i64, .int .i64, .slice, .int .i64], 56⟩),
  (95, ⟨.func, [.func], 8⟩),
  (96, ⟨.func, [.func], 8⟩),
  (97, ⟨.func, [.func], 8⟩),
  (98, ⟨.func, [.func], 8⟩),
  (100, ⟨.func, [.func], 8⟩),
  (101, ⟨.func, [.func], 8⟩),
  (102, ⟨.func, [.func], 8⟩),
  (103, ⟨.func, [.func], 8⟩),
  (104, ⟨.func, [.func], 8⟩),
  (105, ⟨.slice 192, [.slice], 24⟩),
  (106, ⟨.slice 9, [.slice], 24⟩),
  (108, ⟨.func, [.func], 8⟩),
  (110, ⟨.func, [.func], 8⟩),
  (111, ⟨.func, [.func], 8⟩),
  (113, ⟨.func, [.func], 8⟩),
  (115, ⟨.func, [.func], 8⟩),
  (117, ⟨.func, [.func], 8⟩),
  (118, ⟨.func, [.func], 8⟩),
  (119, ⟨.func, [.func], 8⟩),
  (120, ⟨.func, [.func], 8⟩),
  (121, ⟨.func, [.func], 8⟩),
  (122, ⟨.func, [.func], 8⟩),
  (123, ⟨.func, [.func], 8⟩),
  (124, ⟨.struct [(0, 3), (1, 3), (2, 3), (3, 3)], [.int .i64, .int .i64, .int .i64, .int .i64], 32⟩),
  (125, ⟨.func, [.func], 8⟩),
  (126, ⟨.func, [.func], 8⟩),
  (127, ⟨.func, [.func], 8⟩),
  (128, ⟨.func, [.func], 8⟩),
  (129, ⟨.func, [.func], 8⟩),
  (130, ⟨.func, [.func], 8⟩),
  (131, ⟨.func, [.func], 8⟩),
  (132, ⟨.func, [.func], 8⟩),
  (133, ⟨.ptr 136, [.ptr], 8⟩),
  (134, ⟨.int .u64, [.int .u64], 8⟩),
  (135, ⟨.struct [(0, 44), (1, 3), (2, 134)], [.slice, .int .i64, .int .u64], 40⟩),
  (136, ⟨.struct [(0, 44), (1, 3), (2, 134)], [.slice, .int .i64, .int .u64], 40⟩),
  (137, ⟨.func, [.func], 8⟩),
  (138, ⟨.func, [.func], 8⟩),
  (139, ⟨.func, [.func], 8⟩),
  (140, ⟨.func, [.func], 8⟩),
  (141, ⟨.func, [.func], 8⟩),
  (142, ⟨.struct [(0, 9), (1, 3), (2, 3)], [.str, .int .i64, .int .i64], 32⟩),
  (143, ⟨.struct [(0, 9), (1, 3), (2, 3)], [.str, .int .i64, .int .i64], 32⟩),
  (144, ⟨.struct [(0, 3), (1, 3), (2, 143)], [.int .i64, .int .i64, .str, .int .i64, .int .i64], 48⟩),
  (145, ⟨.struct [(0, 3), (1, 3), (2, 143)], [.int .i64, .int .i64, .str, .int .i64, .int .i64], 48⟩),
  (146, ⟨.slice 147, [.slice], 24⟩),
  (147, ⟨.struct [(0, 9), (1, 3), (2, 3)], [.str, .int .i64, .int .i64], 32⟩),
  (148, ⟨.struct [(0, 3), (1, 3), (2, 147)], [.int .i64, .int .i64, .str, .int .i64, .int .i64], 48⟩),
  (149, ⟨.struct [(0, 3), (1, 3), (2, 147)], [.int .i64, .int .i64, .str, .int .i64, .int .i64], 48⟩),
  (150, ⟨.func, [.func], 8⟩),
  (151, ⟨.func, [.func], 8⟩),
  (152, ⟨.func, [.func], 8⟩),
  (153, ⟨.func, [.func], 8⟩),
  (155, ⟨.func, [.func], 8⟩),
  (156, ⟨.func, [.func], 8⟩),
  (157, ⟨.func, [.func], 8⟩),
  (158, ⟨.func, [.func], 8⟩),
  (159, ⟨.func, [.func], 8⟩),
  (160, ⟨.func, [.func], 8⟩),
  (161, ⟨.slice 268, [.slice], 24⟩),
  (162, ⟨.struct [(0, 161), (1, 3), (2, 3), (3, 3), (4, 3)], [.slice, .int .i64, .int .i64, .int .i64, .int .i64], 56⟩),
  (163, ⟨.struct [(0, 161), (1, 3), (2, 3), (3, 3), (4, 3)], [.slice, .int .i64, .int .i64, .int .i64, .int .i64], 56⟩),
  (164, ⟨.func, [.func], 8⟩),
  (165, ⟨.func, [.func], 8⟩),
  (166, ⟨.slice 230, [.slice], 24⟩),
  (167, ⟨.struct [(0, 166), (1, 3), (2, 3), (3, 3), (4, 3)], [.slice, .int .i64, .int .i64, .int .i64, .int .i64], 56⟩),
  (168, ⟨.struct [(0, 166), (1, 3), (2, 3), (3, 3), (4, 3)], [.slice, .int .i64, .int .i64, .int .i64, .int .i64], 56⟩),
  (169, ⟨.func, [.func], 8⟩),
  (170, ⟨.func, [.func], 8⟩),
  (171, ⟨.func, [.func], 8⟩),
  (172, ⟨.func, [.func], 8⟩),
  (173, ⟨.func, [.func], 8⟩),
  (174, ⟨.func, [.func], 8⟩),
  (175, ⟨.func, [.func], 8⟩),
  (176, ⟨.func, [.func], 8⟩),
  (177, ⟨.func, [.func], 8⟩),
  (178, ⟨.struct [(0, 3), (1, 3), (2, 3), (3, 4), (4, 3)], [.int .i64, .int .i64, .int .i64, .bool, .int .i64], 40⟩),
  (179, ⟨.struct [(0, 3), (1, 3), (2, 3), (3, 4), (4, 3)], [.int .i64, .int .i64, .int .i64, .bool, .int .i64], 40⟩),
  (180, ⟨.func, [.func], 8⟩),
  (181, ⟨.func, [.func], 8⟩),
  (182, ⟨.func, [.func], 8⟩),
  (183, ⟨.func, [.func], 8⟩),
  (184, ⟨.func, [.func], 8⟩),
  (185, ⟨.func, [.func], 8⟩),
  (186, ⟨.func, [.func], 8⟩),
  (187, ⟨.func, [.func], 8⟩),
  (188, ⟨.func, [.func], 8⟩),
  (189, ⟨.func, [.func], 8⟩),
  (190, ⟨.func, [.func], 8⟩),
  (191, ⟨.struct [(0, 166), (1, 3)], [.slice, .int .i64], 32⟩),
  (192, ⟨.struct [(0, 166), (1, 3)], [.slice, .int .i64], 32⟩),
  (193, ⟨.func, [.func], 8⟩),
  (194, ⟨.func, [.func], 8⟩),
  (195, ⟨.func, [.func], 8⟩),
  (196, ⟨.func, [.func], 8⟩),
  (197, ⟨.func, [.func], 8⟩),
  (198, ⟨.func, [.func], 8⟩),
  (199, ⟨.func, [.func], 8⟩),
  (200, ⟨.func, [.func], 8⟩),
  (201, ⟨.func, [.func], 8⟩),
  (202, ⟨.func, [.func], 8⟩),
  (203, ⟨.func, [.func], 8⟩),
  (204, ⟨.ptr 28, [.ptr], 8⟩),
  (205, ⟨.ptr 22, [.ptr], 8⟩),
  (206, ⟨.func, [.func], 8⟩),
  (207, ⟨.func, [.func], 8⟩),
  (208, ⟨.func, [.func], 8⟩),
  (209, ⟨.func, [.func], 8⟩),
  (210, ⟨.func, [.func], 8⟩),
  (211, ⟨.func, [.func], 8⟩),
  (212, ⟨.slice 220, [.slice], 24⟩),
  (213, ⟨.struct [(0, 9), (1, 212)], [.str, .slice], 40⟩),
  (214, ⟨.struct [(0, 9), (1, 212)], [.str, .slice], 40⟩),
  (216, ⟨.func, [.func], 8⟩),
  (217, ⟨.func, [.func], 8⟩),
  (218, ⟨.func, [.func], 8⟩),
  (219, ⟨.struct [(0, 3), (1, 3)], [.int .i64, .int .i64], 16⟩),
  (220, ⟨.struct [(0, 3), (1, 3)], [.int .i64, .int .i64], 16⟩),
  (221, ⟨.func, [.func], 8⟩),
  (222, ⟨.func, [.func], 8⟩),
  (223, ⟨.func, [.func], 8⟩),
  (224, ⟨.func, [.func], 8⟩),
  (225, ⟨.func, [.func], 8⟩),
  (226, ⟨.func, [.func], 8⟩),
  (227, ⟨.arr 4 3, [.int .i64, .int .i64, .int .i64, .int .i64], 32⟩),
  (228, ⟨.func, [.func], 8⟩),
  (229, ⟨.struct [(0, 9), (1, 9)], [.str, .str], 32⟩),
  (230, ⟨.struct [(0, 9), (1, 9)], [.str, .str], 32⟩),
  (232, ⟨.func, [.func], 8⟩),
  (233, ⟨.slice 85, [.slice], 24⟩),
  (234, ⟨.func, [.func], 8⟩),
  (235, ⟨.func, [.func], 8⟩),
  (236, ⟨.func, [.func], 8⟩),
  (237, ⟨.func, [.func], 8⟩),
  (238, ⟨.ptr 83, [.ptr], 8⟩),
  (239, ⟨.func, [.func], 8⟩),
  (240, ⟨.func, [.func], 8⟩),
  (241, ⟨.func, [.func], 8⟩),
  (242, ⟨.func, [.func], 8⟩),
  (243, ⟨.func, [.func], 8⟩),
  (244, ⟨.func, [.func], 8⟩),
  (245, ⟨.func, [.func], 8⟩),
  (246, ⟨.func, [.func], 8⟩),
  (247, ⟨.func, [.func], 8⟩),
  (248, ⟨.func, [.func], 8⟩),
  (249, ⟨.func, [.func], 8⟩),
  (250, ⟨.func, [.func], 8⟩),
  (251, ⟨.func, [.func], 8⟩),
  (252, ⟨.func, [.func], 8⟩),
  (253, ⟨.func, [.func], 8⟩),
  (254, ⟨.func, [.func], 8⟩),
  (255, ⟨.func, [.func], 8⟩),
  (256, ⟨.func, [.func], 8⟩),
  (257, ⟨.ptr 168, [.ptr], 8⟩),
  (258, ⟨.int .u64, [.int .u64], 8⟩),
  (260, ⟨.func, [.func], 8⟩),
  (261, ⟨.func, [.func], 8⟩),
  (262, ⟨.ptr 61, [.ptr], 8⟩),
  (263, ⟨.func, [.func], 8⟩),
  (264, ⟨.func, [.func], 8⟩),
  (265, ⟨.ptr 214, [.ptr], 8⟩),
  (266, ⟨.func, [.func], 8⟩),
  (267, ⟨.func, [.func], 8⟩),
  (268, ⟨.struct [(0, 9), (1, 9)], [.str, .str], 32⟩),
  (269, ⟨.func, [.func], 8⟩),
  (270, ⟨.func, [.func], 8⟩),
  (272, ⟨.func, [.func], 8⟩),
  (273, ⟨.func, [.func], 8⟩),
  (275, ⟨.ptr 93, [.ptr], 8⟩),
  (277, ⟨.func, [.func], 8⟩),
  (282, ⟨.int .u32, [.int .u32], 4⟩),
  (288, ⟨.func, [.func], 8⟩),
  (291, ⟨.ptr 293, [.ptr], 8⟩),
  (292, ⟨.struct [(0, 291), (1, 44)], [.ptr, .slice], 32⟩),
  (293, ⟨.struct [(0, 291), (1, 44)], [.ptr, .slice], 32⟩),
  (295, ⟨.iface, [.iface], 16⟩),
  (300, ⟨.ptr 5, [.ptr], 8⟩)]
def F0 : List (FuncId × List VT) := [(2, []),
  (3, [.l (.bool)]),
  (4, [.l (.bool)]),
  (5, [.l (.bool)]),
  (6, [.l (.bool)]),
  (7, [.l (.bool)]),
  (8, [.l (.bool)]),
  (9, [.l (.int .i64)]),
  (10, [.agg [.slice, .slice, .slice, .slice, .slice], .l (.slice), .l (.bool)]),
  (11, [.l (.slice)]),
  (12, [.l (.slice)]),
  (13, [.agg [.slice, .slice, .slice, .slice, .slice], .l (.slice), .l (.bool)]),
  (14, [.l (.bool)]),
  (15, [.l (.bool)]),
  (16, [.l (.bool)]),
  (17, [.l (.bool)]),
  (18, [.l (.int .i64)]),
  (19, [.l (.int .i64)]),
  (20, [.l (.int .i64)]),
  (21, [.l (.int .i64)]),
  (22, [.l (.int .i64)]),
  (23, [.l (.int .i64)]),
  (24, [.l (.slice), .l (.slice)]),
  (25, [.l (.bool)]),
  (26, [.l (.bool)]),
  (27, [.l (.int .i64), .l (.bool)]),
  (28, [.l (.bool)]),
  (29, [.agg [.slice, .slice, .slice, .slice, .slice], .l (.bool)]),
  (30, [.l (.bool), .l (.bool)]),
  (31, [.l (.int .i64), .l (.bool)]),
  (32, [.l (.int .i64)]),
  (33, [.agg [.slice, .int .i64], .l (.bool)]),
  (34, [.l (.slice)]),
  (35, [.agg [.slice, .int .i64], .l (.bool)]),
  (36, [.l (.bool)]),
  (37, [.l (.bool)]),
  (38, [.l (.int .i64)]),
  (39, [.l (.int .i64)]),
  (40, [.l (.int .i64)]),
  (41, [.l (.int .i64)]),
  (42, [.l (.slice), .l (.bool)]),
  (43, [.l (.slice)]),
  (44, [.l (.slice), .l (.bool)]),
  (45, [.l (.bool)]),
  (46, [.l (.int .i64)]),
  (47, [.l (.int .i64)]),
  (48, [.agg [.slice, .slice, .slice], .agg [.int .i64, .int .i64]]),
  (49, [.agg [.slice, .slice, .slice], .l (.bool)]),
  (50, [.agg [.slice, .slice, .slice], .l (.bool)]),
  (51, [.l (.bool)]),
  (52, [.l (.bool)]),
  (53, [.l (.bool)]),
  (54, [.l (.int .i64), .l (.slice), .l (.slice)]),
  (55, [.l (.bool), .l (.bool)]),
  (56, [.l (.bool), .l (.bool)]),
  (57, [.l (.slice)]),
  (58, [.agg [.slice, .slice, .slice], .l (.bool)]),
  (59, [.agg [.slice, .slice, .slice], .l (.bool)]),
  (60, [.agg [.slice, .slice, .slice], .l (.int .i64)]),
  (61, [.l (.int .i64), .l (.bool)]),
  (62, [.l (.int .i64), .l (.bool)]),
  (63, [.l (.int .i64)]),
  (64, [.l (.int .i64), .l (.bool)]),
  (65, [.l (.int .i64), .l (.bool)]),
  (66, [.l (.slice), .l (.slice)]),
  (67, [.l (.slice), .l (.bool)]),
  (68, [.l (.int .i64)]),
  (69, [.l (.slice), .l (.bool)]),
  (70, [.l (.bool)]),
  (71, [.l (.slice), .l (.slice)]),
  (72, [.l (.slice), .l (.bool)]),
  (73, [.l (.slice), .l (.int .i64), .l (.int .i64)]),
  (74, [.l (.slice), .l (.int .i64)]),
  (75, [.l (.slice), .l (.bool)]),
  (76, [.l (.slice), .l (.bool)]),
  (77, [.l (.bool)]),
  (78, [.l (.bool)]),
  (79, [.l (.bool)]),
  (80, [.l (.bool)]),
  (81, [.agg [.slice, .slice, .slice, .slice, .slice], .l (.bool)]),
  (82, [.agg [.slice, .slice, .slice, .slice, .slice], .l (.bool)]),
  (83, [.agg [.slice, .slice, .slice, .slice, .slice]]),
  (84, [.agg [.int .i64, .int .i64, .int .i64, .int .i64]]),
  (85, [.l (.bool)]),
  (86, [.agg [.slice, .slice, .slice, .slice, .slice]]),
  (87, [.l (.bool)]),
  (88, [.l (.bool)]),
  (89, [.l (.bool)]),
  (90, [.l (.bool)]),
  (91, [.l (.int .i64)]),
  (92, [.l (.int .i64)]),
  (93, [.l (.int .i64)]),
  (94, [.l (.int .i64)]),
  (95, [.l (.slice)]),
  (96, [.l (.slice)]),
  (97, [.l (.bool)]),
  (98, [.l (.bool)]),
  (99, [.l (.slice)]),
  (100, [.agg [.slice, .slice, .slice, .slice, .slice]]),
  (101, [.l (.bool)]),
  (102, [.l (.int .i64)]),
  (103, [.l (.bool)]),
  (104, [.agg [.slice, .int .i64]]),
  (105, [.agg [.slice, .int .i64]]),
  (106, [.agg [.int .i64, .int .i64, .str, .int .i64, .int .i64]]),
  (107, [.l (.bool)]),
  (108, [.agg [.slice, .int .i64], .l (.slice), .l (.bool)]),
  (109, [.l (.bool)]),
  (110, [.l (.bool)]),
  (111, [.l (.str)]),
  (112, [.l (.int .i64)]),
  (113, [.l (.int .i64)]),
  (114, [.l (.int .i64)]),
  (115, [.l (.bool)]),
  (116, [.l (.slice)]),
  (117, [.agg [.slice, .int .i64, .int .i64, .int .i64, .int .i64]]),
  (118, [.l (.bool)]),
  (119, [.l (.bool)]),
  (120, [.l (.slice)]),
  (121, []),
  (122, [.l (.int .i64)]),
  (123, [.l (.bool)]),
  (124, [.l (.int .i64)]),
  (125, [.agg [.slice, .slice, .slice]]),
  (126, [.l (.int .i64)]),
  (127, [.l (.bool)]),
  (128, [.agg [.slice, .slice, .slice]]),
  (129, [.l (.bool)]),
  (130, [.agg [.slice, .slice, .slice], .l (.bool)]),
  (131, [.agg [.slice, .slice, .slice]]),
  (132, [.l (.bool)]),
  (133, [.l (.bool)]),
  (134, [.l (.bool)]),
  (135, [.l (.bool)]),
  (136, [.l (.slice)]),
  (137, [.l (.int .i64)]),
  (138, [.l (.bool)]),
  (139, [.l (.slice)]),
  (140, [.l (.bool)]),
  (141, [.l (.bool)]),
  (142, [.l (.bool)]),
  (143, [.agg [.slice, .slice, .slice]]),
  (144, [.l (.bool)]),
  (145, [.l (.int .i64)]),
  (146, [.l (.slice)]),
  (147, [.l (.slice)]),
  (148, [.l (.bool)]),
  (149, [.l (.slice)]),
  (150, [.l (.slice), .l (.bool)]),
  (151, [.l (.bool)]),
  (152, [.l (.slice)]),
  (153, [.l (.slice)]),
  (154, [.l (.slice)]),
  (155, [.l (.bool)]),
  (156, [.l (.str)]),
  (157, [.agg [.slice, .slice, .slice, .slice, .slice]]),
  (158, [.l (.int .i64), .l (.bool)]),
  (159, [.agg [.slice, .slice, .slice, .slice, .slice]]),
  (160, [.l (.bool)]),
  (161, [.l (.slice)]),
  (162, [.l (.slice)]),
  (163, []),
  (164, []),
  (165, [.l (.bool)]),
  (166, [.l (.slice)]),
  (167, [.l (.slice)]),
  (168, [.l (.int .i64)]),
  (169, [.l (.bool)]),
  (170, [.agg [.slice, .int .i64], .l (.int .i64)]),
  (171, [.agg [.str, .int .i64, .int .i64]]),
  (172, [.l (.bool)]),
  (173, [.l (.bool)]),
  (174, [.agg [.slice, .int .i64]]),
  (175, [.l (.int .i64)]),
  (176, [.l (.bool)]),
  (177, [.l (.bool)]),
  (178, [.l (.int .i64)]),
  (179, [.l (.int .i64)]),
  (180, [.l (.int .i64)]),
  (181, [.l (.slice)]),
  (182, [.l (.bool)]),
  (183, [.l (.str)]),
  (184, []),
  (185, [.l (.bool)]),
  (186, [.agg [.slice, .slice, .slice], .l (.slice), .l (.bool)]),
  (187, [.l (.slice)]),
  (188, [.l (.int .i64)]),
  (189, [.l (.bool)]),
  (190, [.l (.bool)]),
  (191, [.l (.slice)]),
  (192, [.l (.bool)]),
  (193, [.l (.slice)]),
  (194, []),
  (195, [.agg [.slice, .slice, .slice]]),
  (196, [.agg [.slice, .slice, .slice]]),
  (197, [.agg [.slice, .slice, .slice]]),
  (198, [.l (.slice)]),
  (199, [.l (.bool)]),
  (200, [.l (.bool)]),
  (201, [.l (.int .i64)]),
  (202, [.l (.slice)]),
  (203, [.l (.str)]),
  (204, [.l (.bool)]),
  (205, [.l (.bool)]),
  (206, [.l (.slice)]),
  (207, [.l (.slice)]),
  (208, [.l (.bool)]),
  (209, [.l (.bool)]),
  (210, [.l (.int .i64), .l (.bool)]),
  (211, [.l (.int .i64)]),
  (212, [.l (.int .i64)]),
  (213, [.l (.slice)]),
  (214, [.l (.slice), .l (.bool)]),
  (215, [.l (.int .u64), .l (.int .u64)]),
  (216, [.l (.bool)]),
  (217, [.l (.slice)]),
  (218, [.l (.int .i64), .l (.bool)]),
  (219, [.l (.slice)]),
  (220, [.l (.bool)]),
  (221, [.l (.int .i64)]),
  (222, [.agg [.str, .str]]),
  (223, [.l (.bool)]),
  (224, [.l (.str)]),
  (225, []),
  (226, []),
  (227, [.l (.bool)]),
  (228, [.l (.int .i64)]),
  (229, []),
  (230, []),
  (231, [.l (.int .i64), .l (.bool)]),
  (232, [.l (.slice)]),
  (233, [.agg [.slice, .slice, .slice]]),
  (234, [.l (.slice)]),
  (235, [.l (.int .i64)]),
  (236, [.l (.int .i64)]),
  (237, [.l (.int .i64)]),
  (238, [.l (.int .i64)]),
  (239, [.l (.int .i64)]),
  (241, []),
  (242, [.l (.bool)]),
  (243, [.l (.int .u32), .l (.int .u32)]),
  (244, [.l (.int .u64), .l (.int .u64)]),
  (245, [.l (.int .i64), .l (.bool)]),
  (246, [.l (.int .i64)]),
  (248, []),
  (249, [.l (.bool)]),
  (250, []),
  (251, [.l (.int .i64), .l (.iface)]),
  (252, [.l (.str)]),
  (253, []),
  (254, [.l (.bool)]),
  (255, [.l (.bool)]),
  (257, []),
  (259, []),
  (260, []),
  (261, []),
  (262, []),
  (263, []),
  (264, [.l (.bool)]),
  (265, []),
  (266, []),
  (267, []),
  (270, [])]
def E0 : List (FuncId × List VT) := [(240, [.l (.bool)]),
  (247, [.l (.bool)]),
  (256, [.l (.bool)]),
  (258, [.l (.int .i64)])]
noncomputable abbrev PP : Program := Try.prog
abbrev fn_gosem_cut_init : FuncId := 2
abbrev fn_laws_FnExactPlayBank : FuncId := 3
abbrev fn_laws_FnPictures : FuncId := 4
abbrev fn_laws_FnExactPlayPlain : FuncId := 5
abbrev fn_laws_FnExactTopOf : FuncId := 6
abbrev fn_laws_FnPolls : FuncId := 7
abbrev fn_laws_FnMerged : FuncId := 8
abbrev fn_laws_szSnapStepS : FuncId := 9
abbrev fn_spec_PlayBank : FuncId := 10
abbrev fn_laws_toIntS : FuncId := 11
abbrev fn_laws_toSnapStepS : FuncId := 12
abbrev fn_impl_PlayBank : FuncId := 13
abbrev fn_laws_eqBank : FuncId := 14
abbrev fn_laws_eqBoolS : FuncId := 15
abbrev fn_laws_eqIntS : FuncId := 16
abbrev fn_laws_eqSnapStepS : FuncId := 17
abbrev fn_laws_markIntS : FuncId := 18
abbrev fn_laws_markSnapStepS : FuncId := 19
abbrev fn_laws_markBank : FuncId := 20
abbrev fn_laws_markBoolS : FuncId := 21
abbrev fn_laws_heldBank : FuncId := 22
abbrev fn_laws_heldBoolS : FuncId := 23
abbrev fn_spec_DrawPlayBank : FuncId := 24
abbrev fn_laws_sameBools : FuncId := 25
abbrev fn_laws_sameBanks : FuncId := 26
abbrev fn_impl_TotalIn : FuncId := 27
abbrev fn_impl_GoodBank : FuncId := 28
abbrev fn_impl_StepBank : FuncId := 29
abbrev fn_impl_IsTaken : FuncId := 30
abbrev fn_impl_PictureOf : FuncId := 31
abbrev fn_laws_szHouseStepS : FuncId := 32
abbrev fn_spec_PlayPlain : FuncId := 33
abbrev fn_laws_toHouseStepS : FuncId := 34
abbrev fn_impl_PlayPlain : FuncId := 35
abbrev fn_laws_eqHead : FuncId := 36
abbrev fn_laws_eqHouseStepS : FuncId := 37
abbrev fn_laws_markHouseStepS : FuncId := 38
abbrev fn_laws_markHead : FuncId := 39
abbrev fn_laws_heldHead : FuncId := 40
abbrev fn_laws_szTotalS : FuncId := 41
abbrev fn_spec_TopOf : FuncId := 42
abbrev fn_laws_toTotalS : FuncId := 43
abbrev fn_impl_TopOf : FuncId := 44
abbrev fn_laws_eqTotalS : FuncId := 45
abbrev fn_laws_markTotalS : FuncId := 46
abbrev fn_laws_heldIntS : FuncId := 47
abbrev fn_spec_DrawStepPoll : FuncId := 48
abbrev fn_impl_StepPoll : FuncId := 49
abbrev fn_spec_StepPoll : FuncId := 50
abbrev fn_laws_samePolls : FuncId := 51
abbrev fn_impl_GoodPoll : FuncId := 52
abbrev fn_spec_GoodPoll : FuncId := 53
abbrev fn_spec_DrawIsOverlap : FuncId := 54
abbrev fn_impl_IsOverlap : FuncId := 55
abbrev fn_spec_IsOverlap : FuncId := 56
abbrev fn_spec_DrawNewPoll : FuncId := 57
abbrev fn_impl_NewPoll : FuncId := 58
abbrev fn_spec_NewPoll : FuncId := 59
abbrev fn_spec_DrawLeaderOf : FuncId := 60
abbrev fn_impl_LeaderOf : FuncId := 61
abbrev fn_spec_LeaderOf : FuncId := 62
abbrev fn_spec_DrawMajorityOf : FuncId := 63
abbrev fn_impl_MajorityOf : FuncId := 64
abbrev fn_spec_MajorityOf : FuncId := 65
abbrev fn_spec_DrawTotalsBy : FuncId := 66
abbrev fn_impl_TotalsBy : FuncId := 67
abbrev fn_laws_numberOf : FuncId := 68
abbrev fn_impl_CoarseTotals : FuncId := 69
abbrev fn_laws_sameTotals : FuncId := 70
abbrev fn_spec_DrawCoarseTotals : FuncId := 71
abbrev fn_spec_CoarseTotals : FuncId := 72
abbrev fn_spec_DrawTopOf : FuncId := 73
abbrev fn_spec_DrawValuesOf : FuncId := 74
abbrev fn_impl_ValuesOf : FuncId := 75
abbrev fn_spec_ValuesOf : FuncId := 76
abbrev fn_laws_sameInts : FuncId := 77
abbrev fn_impl_GoodTotals : FuncId := 78
abbrev fn_spec_GoodTotals : FuncId := 79
abbrev fn_laws_has : FuncId := 80
abbrev fn_spec_NewBank : FuncId := 81
abbrev fn_spec_l12Step : FuncId := 82
abbrev fn_spec_l12Own : FuncId := 83
abbrev fn_laws_toSnapStep : FuncId := 84
abbrev fn_impl_areCoins : FuncId := 85
abbrev fn_impl_newBank : FuncId := 86
abbrev fn_impl_Bank_step : FuncId := 87
abbrev fn_laws_eqIntSS : FuncId := 88
abbrev fn_laws_eqBoolSS : FuncId := 89
abbrev fn_laws_eqSnapStep : FuncId := 90
abbrev fn_laws_markIntSS : FuncId := 91
abbrev fn_laws_markBoolSS : FuncId := 92
abbrev fn_laws_heldIntSS : FuncId := 93
abbrev fn_laws_heldBoolSS : FuncId := 94
abbrev fn_spec_l1Cur_coins : FuncId := 95
abbrev fn_spec_l1Cur_snapSteps : FuncId := 96
abbrev fn_laws_sameRows : FuncId := 97
abbrev fn_impl_isBank : FuncId := 98
abbrev fn_slices_Concat_int : FuncId := 99
abbrev fn_impl_cloneBank : FuncId := 100
abbrev fn_impl_Bank_isTaken : FuncId := 101
abbrev fn_laws_szHouseStep : FuncId := 102
abbrev fn_spec_l13Say : FuncId := 103
abbrev fn_spec_l13Own : FuncId := 104
abbrev fn_spec_l17Fold : FuncId := 105
abbrev fn_laws_toHouseStep : FuncId := 106
abbrev fn_impl_isSay : FuncId := 107
abbrev fn_impl_foldSays : FuncId := 108
abbrev fn_laws_eqRowS : FuncId := 109
abbrev fn_laws_eqHouseStep : FuncId := 110
abbrev fn_laws_markText : FuncId := 111
abbrev fn_laws_markRowS : FuncId := 112
abbrev fn_laws_heldRowS : FuncId := 113
abbrev fn_laws_szTotal : FuncId := 114
abbrev fn_spec_l1In : FuncId := 115
abbrev fn_spec_l14Values : FuncId := 116
abbrev fn_laws_toTotal : FuncId := 117
abbrev fn_impl_areTotals : FuncId := 118
abbrev fn_impl_within : FuncId := 119
abbrev fn_impl_totalValues : FuncId := 120
abbrev fn_slices_SortStableFunc_int : FuncId := 121
abbrev fn_impl_TopOf_1 : FuncId := 122
abbrev fn_laws_eqTotal : FuncId := 123
abbrev fn_laws_markLabelS : FuncId := 124
abbrev fn_spec_l1Cur_poll : FuncId := 125
abbrev fn_spec_l1Cur_pick : FuncId := 126
abbrev fn_impl_isPoll : FuncId := 127
abbrev fn_impl_clonePoll : FuncId := 128
abbrev fn_impl_Poll_step : FuncId := 129
abbrev fn_spec_l8Step : FuncId := 130
abbrev fn_spec_l8Own : FuncId := 131
abbrev fn_spec_l8Rising : FuncId := 132
abbrev fn_spec_l8Node : FuncId := 133
abbrev fn_spec_l1Cur_one : FuncId := 134
abbrev fn_impl_areNodes : FuncId := 135
abbrev fn_impl_meet : FuncId := 136
abbrev fn_spec_l8Majority : FuncId := 137
abbrev fn_spec_l1Has : FuncId := 138
abbrev fn_spec_l1Cur_ages : FuncId := 139
abbrev fn_slices_ContainsFunc_int : FuncId := 140
abbrev fn_impl_NewPoll_1 : FuncId := 141
abbrev fn_impl_isAge : FuncId := 142
abbrev fn_impl_newPoll : FuncId := 143
abbrev fn_spec_l1All : FuncId := 144
abbrev fn_spec_l1Cur_among : FuncId := 145
abbrev fn_spec_l1Cur_items : FuncId := 146
abbrev fn_spec_l1Cur_names : FuncId := 147
abbrev fn_impl_areItems : FuncId := 148
abbrev fn_impl_keepLabels : FuncId := 149
abbrev fn_impl_combined : FuncId := 150
abbrev fn_laws_sameLabels : FuncId := 151
abbrev fn_spec_l1Cur_totals : FuncId := 152
abbrev fn_spec_l14Keep : FuncId := 153
abbrev fn_spec_l14Put : FuncId := 154
abbrev fn_spec_GoodLabels : FuncId := 155
abbrev fn_spec_l3Text : FuncId := 156
abbrev fn_spec_l12Picture : FuncId := 157
abbrev fn_spec_WayAt : FuncId := 158
abbrev fn_spec_l12Take : FuncId := 159
abbrev fn_impl_areCoins_1 : FuncId := 160
abbrev fn_slices_Clone_int : FuncId := 161
abbrev fn_slices_Repeat_int : FuncId := 162
abbrev fn_impl_Bank_take : FuncId := 163
abbrev fn_impl_Bank_record : FuncId := 164
abbrev fn_impl_Bank_isWay : FuncId := 165
abbrev fn_slices_Grow_int : FuncId := 166
abbrev fn_slices_Clone_bool : FuncId := 167
abbrev fn_laws_szSay : FuncId := 168
abbrev fn_spec_l3Name : FuncId := 169
abbrev fn_spec_l13Take : FuncId := 170
abbrev fn_laws_toSay : FuncId := 171
abbrev fn_impl_isWord : FuncId := 172
abbrev fn_impl_isSample : FuncId := 173
abbrev fn_impl_cloneHead : FuncId := 174
abbrev fn_impl_Head_take : FuncId := 175
abbrev fn_laws_eqRow : FuncId := 176
abbrev fn_laws_eqSay : FuncId := 177
abbrev fn_laws_markSampleS : FuncId := 178
abbrev fn_laws_heldSampleS : FuncId := 179
abbrev fn_laws_szLabelS : FuncId := 180
abbrev fn_laws_toLabelS : FuncId := 181
abbrev fn_impl_areLabels : FuncId := 182
abbrev fn_impl_labelsText : FuncId := 183
abbrev fn_slices_stableCmpFunc_int : FuncId := 184
abbrev fn_laws_eqLabelS : FuncId := 185
abbrev fn_spec_PlayPoll : FuncId := 186
abbrev fn_spec_l1Cur_voteSteps : FuncId := 187
abbrev fn_spec_l1Cur_next : FuncId := 188
abbrev fn_slices_ContainsFunc__int : FuncId := 189
abbrev fn_impl_isPoll_1 : FuncId := 190
abbrev fn_slices_Clone_impl_Letter : FuncId := 191
abbrev fn_impl_Poll_stand : FuncId := 192
abbrev fn_slices_Delete_impl_Letter : FuncId := 193
abbrev fn_impl_Poll_deliver : FuncId := 194
abbrev fn_spec_l8Stand : FuncId := 195
abbrev fn_spec_l8Write : FuncId := 196
abbrev fn_spec_l8Take : FuncId := 197
abbrev fn_slices_DeleteFunc_int : FuncId := 198
abbrev fn_impl_meet_1 : FuncId := 199
abbrev fn_slices_Contains_int : FuncId := 200
abbrev fn_slices_IndexFunc_int : FuncId := 201
abbrev fn_spec_l1Cur_labels : FuncId := 202
abbrev fn_spec_l1Cur_of : FuncId := 203
abbrev fn_slices_ContainsFunc_impl_Item : FuncId := 204
abbrev fn_impl_areItems_1 : FuncId := 205
abbrev fn_slices_DeleteFunc_impl_Label : FuncId := 206
abbrev fn_slices_Clone_impl_Label : FuncId := 207
abbrev fn_impl_keepLabels_1 : FuncId := 208
abbrev fn_slices_Contains_string : FuncId := 209
abbrev fn_slices_BinarySearchFunc_impl_Total : FuncId := 210
abbrev fn_impl_combined_1 : FuncId := 211
abbrev fn_strings_Compare : FuncId := 212
abbrev fn_slices_Insert_impl_Total : FuncId := 213
abbrev fn_spec_TotalsBy : FuncId := 214
abbrev fn_math_bits_Mul : FuncId := 215
abbrev fn_impl_Bank_isWay_1 : FuncId := 216
abbrev fn_slices_Clone_impl_Sample : FuncId := 217
abbrev fn_impl_Head_find : FuncId := 218
abbrev fn_slices_Insert_impl_Row : FuncId := 219
abbrev fn_laws_eqSampleS : FuncId := 220
abbrev fn_laws_szLabel : FuncId := 221
abbrev fn_laws_toLabel : FuncId := 222
abbrev fn_impl_isLabel : FuncId := 223
abbrev fn_strings_Join : FuncId := 224
abbrev fn_slices_insertionSortCmpFunc_int : FuncId := 225
abbrev fn_slices_symMergeCmpFunc_int : FuncId := 226
abbrev fn_laws_eqLabel : FuncId := 227
abbrev fn_slices_IndexFunc__int : FuncId := 228
abbrev fn_impl_Poll_send : FuncId := 229
abbrev fn_impl_Poll_lead : FuncId := 230
abbrev fn_slices_BinarySearch_int : FuncId := 231
abbrev fn_slices_Insert_int : FuncId := 232
abbrev fn_spec_l8Lead : FuncId := 233
abbrev fn_spec_l1Put : FuncId := 234
abbrev fn_slices_Index_int : FuncId := 235
abbrev fn_slices_IndexFunc_impl_Item : FuncId := 236
abbrev fn_slices_IndexFunc_impl_Label : FuncId := 237
abbrev fn_slices_Index_string : FuncId := 238
abbrev fn_internal_bytealg_CompareString : FuncId := 239
abbrev fn_slices_rotateRight_impl_Total : FuncId := 241
abbrev fn_spec_GoodItems : FuncId := 242
abbrev fn_math_bits_Mul32 : FuncId := 243
abbrev fn_math_bits_Mul64 : FuncId := 244
abbrev fn_slices_BinarySearchFunc_impl_Row : FuncId := 245
abbrev fn_impl_Head_find_1 : FuncId := 246
abbrev fn_slices_rotateRight_impl_Row : FuncId := 248
abbrev fn_laws_eqSample : FuncId := 249
abbrev fn_strings_Builder_Grow : FuncId := 250
abbrev fn_strings_Builder_WriteString : FuncId := 251
abbrev fn_strings_Builder_String : FuncId := 252
abbrev fn_slices_rotateCmpFunc_int : FuncId := 253
abbrev fn_cmp_Less_int : FuncId := 254
abbrev fn_slices_isNaN_int : FuncId := 255
abbrev fn_slices_rotateRight_int : FuncId := 257
abbrev fn_slices_rotateLeft_impl_Total : FuncId := 259
abbrev fn_slices_rotateLeft_impl_Row : FuncId := 260
abbrev fn_strings_Builder_copyCheck : FuncId := 261
abbrev fn_strings_Builder_grow : FuncId := 262
abbrev fn_slices_swapRangeCmpFunc_int : FuncId := 263
abbrev fn_cmp_isNaN_int : FuncId := 264
abbrev fn_slices_rotateLeft_int : FuncId := 265
abbrev fn_slices_Reverse_impl_Total : FuncId := 266
abbrev fn_slices_Reverse_impl_Row : FuncId := 267
abbrev fn_slices_Reverse_int : FuncId := 270
abbrev fn_slices_overlaps_impl_Total : FuncId := 240
abbrev fn_slices_overlaps_impl_Row : FuncId := 247
abbrev fn_slices_overlaps_int : FuncId := 256
abbrev fn_internal_bytealg_abigen_runtime_cmpstring : FuncId := 258
abbrev ty_int64 : TypeId := 2
abbrev ty_int : TypeId := 3
abbrev ty_bool : TypeId := 4
abbrev ty_uint8 : TypeId := 5
abbrev ty_abi_BoundsErrorCode : TypeId := 6
abbrev ty_runtime_boundsError : TypeId := 8
abbrev ty_string : TypeId := 9
abbrev ty_runtime_errorString : TypeId := 10
abbrev ty_runtime_plainError : TypeId := 11
abbrev ty_uintptr : TypeId := 12
abbrev ty_runtime_errorAddressString : TypeId := 14
abbrev ty_P_runtime_TypeAssertionError : TypeId := 15
abbrev ty_P_runtime_PanicNilError : TypeId := 16
abbrev ty_P_abi_Type : TypeId := 17
abbrev ty_maps_unhashableTypeError : TypeId := 19
abbrev ty_int32 : TypeId := 21
abbrev ty_S_int : TypeId := 22
abbrev ty_S_laws_SnapStep : TypeId := 23
abbrev ty_SS_int : TypeId := 25
abbrev ty_SS_bool : TypeId := 26
abbrev ty_impl_Bank : TypeId := 28
abbrev ty_S_bool : TypeId := 29
abbrev ty_S_impl_SnapStep : TypeId := 33
abbrev ty_S_uint8 : TypeId := 44
abbrev ty_impl_SnapStep : TypeId := 53
abbrev ty_S_laws_HouseStep : TypeId := 57
abbrev ty_S_impl_Row : TypeId := 59
abbrev ty_impl_Head : TypeId := 61
abbrev ty_S_impl_HouseStep : TypeId := 64
abbrev ty_S_laws_Total : TypeId := 71
abbrev ty_S_impl_Total : TypeId := 75
abbrev ty_S_impl_Node : TypeId := 80
abbrev ty_S_impl_Letter : TypeId := 81
abbrev ty_impl_Poll : TypeId := 83
abbrev ty_impl_VoteStep : TypeId := 85
abbrev ty_impl_Node : TypeId := 93
abbrev ty_S_impl_Item : TypeId := 105
abbrev ty_S_string : TypeId := 106
abbrev ty_laws_SnapStep : TypeId := 124
abbrev ty_P_spec_l1Cur : TypeId := 133
abbrev ty_uint64 : TypeId := 134
abbrev ty_spec_l1Cur : TypeId := 136
abbrev ty_laws_Say : TypeId := 143
abbrev ty_laws_HouseStep : TypeId := 145
abbrev ty_S_impl_Say : TypeId := 146
abbrev ty_impl_Say : TypeId := 147
abbrev ty_impl_HouseStep : TypeId := 149
abbrev ty_S_laws_Label : TypeId := 161
abbrev ty_laws_Total : TypeId := 163
abbrev ty_S_impl_Label : TypeId := 166
abbrev ty_impl_Total : TypeId := 168
abbrev ty_impl_Letter : TypeId := 179
abbrev ty_impl_Item : TypeId := 192
abbrev ty_P_impl_Bank : TypeId := 204
abbrev ty_P_int : TypeId := 205
abbrev ty_S_impl_Sample : TypeId := 212
abbrev ty_impl_Row : TypeId := 214
abbrev ty_impl_Sample : TypeId := 220
abbrev ty_4_int : TypeId := 227
abbrev ty_impl_Label : TypeId := 230
abbrev ty_S_impl_VoteStep : TypeId := 233
abbrev ty_P_impl_Poll : TypeId := 238
abbrev ty_P_impl_Total : TypeId := 257
abbrev ty_uint : TypeId := 258
abbrev ty_P_impl_Head : TypeId := 262
abbrev ty_P_impl_Row : TypeId := 265
abbrev ty_laws_Label : TypeId := 268
abbrev ty_P_impl_Node : TypeId := 275
abbrev ty_uint32 : TypeId := 282
abbrev ty_P_strings_Builder : TypeId := 291
abbrev ty_strings_Builder : TypeId := 293
abbrev ty_error : TypeId := 295
abbrev ty_P_uint8 : TypeId := 300
abbrev ty_unsafe_Pointer : TypeId := 303
abbrev ty_runtime_TypeAssertionError : TypeId := 308
abbrev ty_0_runtime_PanicNilError : TypeId := 309
abbrev ty_runtime_PanicNilError : TypeId := 311
abbrev ty_abi_TFlag : TypeId := 312
abbrev ty_abi_Kind : TypeId := 313
abbrev ty_abi_NameOff : TypeId := 315
abbrev ty_abi_TypeOff : TypeId := 316
abbrev ty_abi_Type : TypeId := 318
noncomputable def X0 : Ctx := ⟨Try.prog, T0, F0, E0⟩
theorem good_all : List.map (fun t : Nat => ((Try.prog.info? t).map (fun i => (i.zero, i.size, i.bytes)), (Try.prog.underlying t).map strip)) (T0.map (·.1)) =
  T0.map fun e => (some (some e.2.zero, e.2.leaves.length, e.2.bytes), some e.2.desc) := by kernel_rfl
theorem call_all : F0.all (fun e => match Try.prog.funcs[e.1]? with | some fn => !fn.body.isNone && !(fn.name == "runtime.NumGoroutine") | none => false) = true := by kernel_rfl
theorem map_eq_mem {α β γ : Type} {f : β → γ} {g : α → γ} {k : α → β} : ∀ {l : List α}, (l.map k).map f = l.map g → ∀ e ∈ l, f (k e) = g e
  | [], _, e, h => by cases h
  | x :: xs, he, e, h => by
    simp only [List.map_cons, List.cons.injEq] at he
    rcases List.mem_cons.1 h with rfl | h
    · exact he.1
    · exact map_eq_mem he.2 e h
theorem X0ok : X0.Ok where
  types := ⟨fun e he => by
    have h := map_eq_mem good_all e he
    simp only [Prod.mk.injEq] at h
    exact ⟨h.1, h.2⟩⟩
  funcs := fun e he => by
    have h := List.all_eq_true.1 call_all e he
    show Callable Try.prog e.1
    cases hf : Try.prog.funcs[e.1]? with
    | none => rw [hf] at h; cases h
    | some fn =>
      rw [hf] at h
      simp only [Bool.and_eq_true, Bool.not_eq_true'] at h
      exact ⟨fn, hf, h.1, h.2⟩
  mixed := Try.checked.mixed
def bodyOf (f : Func) : Code := f.body.getD .skip
end Go.Proofs.Ytjmhahjmbmiepaa.D
