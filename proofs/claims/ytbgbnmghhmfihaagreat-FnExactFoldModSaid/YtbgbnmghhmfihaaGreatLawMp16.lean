/- A part of the proof: an evaluator of the program's code over plain data, proved sound, and walks of the program's functions by it. No conditions beyond those in the theorems. -/
import Derived.Test.YtbgbnmghhmfihaaGreatProg
import Derived.Test.YtbgbnmghhmfihaaGreatLawMp15
set_option linter.unusedVariables false
set_option linter.unusedSimpArgs false
set_option linter.constructorNameAsVariable false
set_option linter.unusedSectionVars false
set_option linter.defProp false
set_option linter.unusedVariables false
namespace Go.Fs.Se
open Go.Proofs.Tryz (prog)
def tab : Tab := { types := [(1, ⟨1, 8, .ref, [.d .n]⟩),
  (2, ⟨1, 8, (.int .i64), [.d (.i .i64 0)]⟩),
  (3, ⟨1, 8, (.int .i64), [.d (.i .i64 0)]⟩),
  (4, ⟨1, 1, .bool, [.d (.b false)]⟩),
  (5, ⟨1, 1, (.int .u8), [.d (.i .u8 0)]⟩),
  (9, ⟨1, 16, .str, [.d (.s ByteArray.empty)]⟩),
  (12, ⟨1, 8, (.int .u64), [.d (.i .u64 0)]⟩),
  (20, ⟨1, 16, .ref, [.d .n]⟩),
  (21, ⟨1, 4, (.int .i32), [.d (.i .i32 0)]⟩),
  (22, ⟨1, 24, (.slice 9), [.z 1]⟩),
  (23, ⟨1, 24, (.slice 116), [.z 9]⟩),
  (24, ⟨1, 24, (.slice 114), [.z 5]⟩),
  (25, ⟨3, 72, (.strct [(0, 22), (1, 23), (2, 24)]), [.z 1, .z 9, .z 5]⟩),
  (26, ⟨3, 72, (.strct [(0, 22), (1, 23), (2, 24)]), [.z 1, .z 9, .z 5]⟩),
  (27, ⟨1, 8, .ref, [.d .n]⟩),
  (28, ⟨1, 24, (.slice 67), [.z 9]⟩),
  (29, ⟨1, 24, (.slice 65), [.z 5]⟩),
  (30, ⟨3, 72, (.strct [(0, 22), (1, 28), (2, 29)]), [.z 1, .z 9, .z 5]⟩),
  (31, ⟨3, 72, (.strct [(0, 22), (1, 28), (2, 29)]), [.z 1, .z 9, .z 5]⟩),
  (32, ⟨1, 8, .ref, [.d .n]⟩),
  (33, ⟨1, 8, .ref, [.d .n]⟩),
  (34, ⟨1, 8, .ref, [.d .n]⟩),
  (35, ⟨1, 8, .ref, [.d .n]⟩),
  (36, ⟨1, 8, .ref, [.d .n]⟩),
  (37, ⟨1, 24, (.slice 5), [.z 1]⟩),
  (38, ⟨1, 24, (.slice 43), [.z 4]⟩),
  (40, ⟨1, 8, .ref, [.d .n]⟩),
  (41, ⟨1, 24, (.slice 47), [.z 2]⟩),
  (42, ⟨4, 88, (.strct [(0, 9), (1, 31)]), [.d (.s ByteArray.empty), .z 1, .z 9, .z 5]⟩),
  (43, ⟨4, 88, (.strct [(0, 9), (1, 31)]), [.d (.s ByteArray.empty), .z 1, .z 9, .z 5]⟩),
  (44, ⟨1, 24, (.slice 86), [.z 3]⟩),
  (45, ⟨1, 8, .ref, [.d .n]⟩),
  (46, ⟨2, 40, (.strct [(0, 9), (1, 44)]), [.d (.s ByteArray.empty), .z 3]⟩),
  (47, ⟨2, 40, (.strct [(0, 9), (1, 44)]), [.d (.s ByteArray.empty), .z 3]⟩),
  (48, ⟨1, 8, .ref, [.d .n]⟩),
  (49, ⟨2, 16, (.strct [(0, 3), (1, 3)]), [.d (.i .i64 0), .d (.i .i64 0)]⟩),
  (50, ⟨2, 16, (.strct [(0, 3), (1, 3)]), [.d (.i .i64 0), .d (.i .i64 0)]⟩),
  (51, ⟨1, 8, .ref, [.d .n]⟩),
  (52, ⟨1, 8, .ref, [.d .n]⟩),
  (53, ⟨1, 24, (.slice 3), [.z 1]⟩),
  (54, ⟨4, 48, (.strct [(0, 3), (1, 3), (2, 53), (3, 3)]), [.d (.i .i64 0), .d (.i .i64 0), .z 1, .d (.i .i64 0)]⟩),
  (55, ⟨4, 48, (.strct [(0, 3), (1, 3), (2, 53), (3, 3)]), [.d (.i .i64 0), .d (.i .i64 0), .z 1, .d (.i .i64 0)]⟩),
  (56, ⟨1, 8, .ref, [.d .n]⟩),
  (57, ⟨1, 8, .ref, [.d .n]⟩),
  (58, ⟨1, 8, .ref, [.d .n]⟩),
  (59, ⟨1, 8, .ref, [.d .n]⟩),
  (60, ⟨1, 8, .ref, [.d .n]⟩),
  (61, ⟨1, 8, .ref, [.d .n]⟩),
  (62, ⟨1, 8, .ref, [.d .n]⟩),
  (63, ⟨1, 24, (.slice 130), [.z 2]⟩),
  (64, ⟨5, 72, (.strct [(0, 3), (1, 3), (2, 9), (3, 9), (4, 29)]), [.d (.i .i64 0), .d (.i .i64 0), .d (.s ByteArray.empty), .d (.s ByteArray.empty), .z 5]⟩),
  (65, ⟨5, 72, (.strct [(0, 3), (1, 3), (2, 9), (3, 9), (4, 29)]), [.d (.i .i64 0), .d (.i .i64 0), .d (.s ByteArray.empty), .d (.s ByteArray.empty), .z 5]⟩),
  (66, ⟨9, 128, (.strct [(0, 9), (1, 4), (2, 63), (3, 3), (4, 65)]), [.d (.s ByteArray.empty), .d (.b false), .z 2, .d (.i .i64 0), .d (.i .i64 0), .d (.i .i64 0), .d (.s ByteArray.empty), .d (.s ByteArray.empty), .z 5]⟩),
  (67, ⟨9, 128, (.strct [(0, 9), (1, 4), (2, 63), (3, 3), (4, 65)]), [.d (.s ByteArray.empty), .d (.b false), .z 2, .d (.i .i64 0), .d (.i .i64 0), .d (.i .i64 0), .d (.s ByteArray.empty), .d (.s ByteArray.empty), .z 5]⟩),
  (68, ⟨1, 8, .ref, [.d .n]⟩),
  (69, ⟨1, 8, .ref, [.d .n]⟩),
  (70, ⟨1, 8, .ref, [.d .n]⟩),
  (71, ⟨1, 8, .ref, [.d .n]⟩),
  (72, ⟨1, 8, .ref, [.d .n]⟩),
  (73, ⟨1, 8, .ref, [.d .n]⟩),
  (74, ⟨1, 8, .ref, [.d .n]⟩),
  (75, ⟨1, 8, .ref, [.d .n]⟩),
  (76, ⟨1, 8, .ref, [.d .n]⟩),
  (77, ⟨1, 8, .ref, [.d .n]⟩),
  (78, ⟨1, 8, .ref, [.d .n]⟩),
  (79, ⟨1, 8, .ref, [.d .n]⟩),
  (80, ⟨1, 8, .ref, [.d .n]⟩),
  (81, ⟨1, 8, .ref, [.d .n]⟩),
  (82, ⟨1, 8, .ref, [.d .n]⟩),
  (83, ⟨1, 8, .ref, [.d .n]⟩),
  (84, ⟨1, 8, .ref, [.d .n]⟩),
  (85, ⟨3, 48, (.strct [(0, 9), (1, 53), (2, 3)]), [.d (.s ByteArray.empty), .z 1, .d (.i .i64 0)]⟩),
  (86, ⟨3, 48, (.strct [(0, 9), (1, 53), (2, 3)]), [.d (.s ByteArray.empty), .z 1, .d (.i .i64 0)]⟩),
  (87, ⟨1, 8, .ref, [.d .n]⟩),
  (88, ⟨1, 8, .ref, [.d .n]⟩),
  (89, ⟨1, 8, .ref, [.d .n]⟩),
  (90, ⟨1, 8, .ref, [.d .n]⟩),
  (91, ⟨1, 8, .ref, [.d .n]⟩),
  (92, ⟨1, 8, .ref, [.d .n]⟩),
  (93, ⟨1, 8, .ref, [.d .n]⟩),
  (95, ⟨4, 96, (.strct [(0, 31), (3, 41)]), [.z 1, .z 9, .z 5, .z 2]⟩),
  (96, ⟨4, 96, (.strct [(0, 31), (3, 41)]), [.z 1, .z 9, .z 5, .z 2]⟩),
  (97, ⟨1, 8, .ref, [.d .n]⟩),
  (99, ⟨1, 8, .ref, [.d .n]⟩),
  (100, ⟨1, 8, .ref, [.d .n]⟩),
  (102, ⟨4, 64, (.strct [(0, 38), (1, 3), (2, 3), (3, 53)]), [.z 4, .d (.i .i64 0), .d (.i .i64 0), .z 1]⟩),
  (103, ⟨4, 64, (.strct [(0, 38), (1, 3), (2, 3), (3, 53)]), [.z 4, .d (.i .i64 0), .d (.i .i64 0), .z 1]⟩),
  (104, ⟨1, 8, .ref, [.d .n]⟩),
  (105, ⟨3, 40, (.strct [(0, 3), (1, 3), (2, 53)]), [.d (.i .i64 0), .d (.i .i64 0), .z 1]⟩),
  (106, ⟨3, 40, (.strct [(0, 3), (1, 3), (2, 53)]), [.d (.i .i64 0), .d (.i .i64 0), .z 1]⟩),
  (107, ⟨1, 8, .ref, [.d .n]⟩),
  (108, ⟨1, 24, (.slice 172), [.z 4]⟩),
  (109, ⟨5, 104, (.strct [(0, 31), (3, 108), (4, 3)]), [.z 1, .z 9, .z 5, .z 4, .d (.i .i64 0)]⟩),
  (110, ⟨5, 104, (.strct [(0, 31), (3, 108), (4, 3)]), [.z 1, .z 9, .z 5, .z 4, .d (.i .i64 0)]⟩),
  (111, ⟨1, 8, .ref, [.d .n]⟩),
  (112, ⟨1, 24, (.slice 219), [.z 2]⟩),
  (113, ⟨5, 72, (.strct [(0, 3), (1, 3), (2, 9), (3, 9), (4, 24)]), [.d (.i .i64 0), .d (.i .i64 0), .d (.s ByteArray.empty), .d (.s ByteArray.empty), .z 5]⟩),
  (114, ⟨5, 72, (.strct [(0, 3), (1, 3), (2, 9), (3, 9), (4, 24)]), [.d (.i .i64 0), .d (.i .i64 0), .d (.s ByteArray.empty), .d (.s ByteArray.empty), .z 5]⟩),
  (115, ⟨9, 128, (.strct [(0, 9), (1, 4), (2, 112), (3, 3), (4, 114)]), [.d (.s ByteArray.empty), .d (.b false), .z 2, .d (.i .i64 0), .d (.i .i64 0), .d (.i .i64 0), .d (.s ByteArray.empty), .d (.s ByteArray.empty), .z 5]⟩),
  (116, ⟨9, 128, (.strct [(0, 9), (1, 4), (2, 112), (3, 3), (4, 114)]), [.d (.s ByteArray.empty), .d (.b false), .z 2, .d (.i .i64 0), .d (.i .i64 0), .d (.i .i64 0), .d (.s ByteArray.empty), .d (.s ByteArray.empty), .z 5]⟩),
  (117, ⟨1, 8, .ref, [.d .n]⟩),
  (118, ⟨1, 8, .ref, [.d .n]⟩),
  (119, ⟨1, 8, .ref, [.d .n]⟩),
  (120, ⟨1, 8, .ref, [.d .n]⟩),
  (121, ⟨1, 8, .ref, [.d .n]⟩),
  (123, ⟨1, 8, .ref, [.d .n]⟩),
  (124, ⟨1, 8, .ref, [.d .n]⟩),
  (125, ⟨1, 8, .ref, [.d .n]⟩),
  (126, ⟨1, 8, .ref, [.d .n]⟩),
  (127, ⟨1, 8, .ref, [.d .n]⟩),
  (128, ⟨1, 8, .ref, [.d .n]⟩),
  (129, ⟨2, 24, (.strct [(0, 9), (1, 3)]), [.d (.s ByteArray.empty), .d (.i .i64 0)]⟩),
  (130, ⟨2, 24, (.strct [(0, 9), (1, 3)]), [.d (.s ByteArray.empty), .d (.i .i64 0)]⟩),
  (131, ⟨1, 8, .ref, [.d .n]⟩),
  (132, ⟨1, 8, .ref, [.d .n]⟩),
  (133, ⟨1, 8, .ref, [.d .n]⟩),
  (134, ⟨1, 8, .ref, [.d .n]⟩),
  (135, ⟨1, 8, .ref, [.d .n]⟩),
  (136, ⟨2, 32, (.strct [(0, 37), (1, 3)]), [.z 1, .d (.i .i64 0)]⟩),
  (137, ⟨2, 32, (.strct [(0, 37), (1, 3)]), [.z 1, .d (.i .i64 0)]⟩),
  (138, ⟨1, 24, (.slice 192), [.z 4]⟩),
  (139, ⟨1, 8, .ref, [.d .n]⟩),
  (140, ⟨1, 8, .ref, [.d .n]⟩),
  (141, ⟨1, 8, .ref, [.d .n]⟩),
  (142, ⟨1, 8, .ref, [.d .n]⟩),
  (143, ⟨1, 8, .ref, [.d .n]⟩),
  (144, ⟨1, 8, .ref, [.d .n]⟩),
  (145, ⟨1, 8, .ref, [.d .n]⟩),
  (147, ⟨1, 8, .ref, [.d .n]⟩),
  (148, ⟨1, 8, .ref, [.d .n]⟩),
  (149, ⟨1, 8, .ref, [.d .n]⟩),
  (150, ⟨1, 8, .ref, [.d .n]⟩),
  (152, ⟨1, 8, .ref, [.d .n]⟩),
  (153, ⟨1, 8, .ref, [.d .n]⟩),
  (154, ⟨1, 8, .ref, [.d .n]⟩),
  (155, ⟨4, 96, (.strct [(0, 31), (3, 41)]), [.z 1, .z 9, .z 5, .z 2]⟩),
  (156, ⟨4, 96, (.strct [(0, 31), (3, 41)]), [.z 1, .z 9, .z 5, .z 2]⟩),
  (157, ⟨1, 8, .ref, [.d .n]⟩),
  (158, ⟨1, 8, .ref, [.d .n]⟩),
  (159, ⟨1, 8, .ref, [.d .n]⟩),
  (160, ⟨1, 8, .ref, [.d .n]⟩),
  (161, ⟨1, 8, .ref, [.d .n]⟩),
  (162, ⟨1, 8, .ref, [.d .n]⟩),
  (163, ⟨2, 16, (.strct [(0, 3), (1, 3)]), [.d (.i .i64 0), .d (.i .i64 0)]⟩),
  (164, ⟨2, 16, (.strct [(0, 3), (1, 3)]), [.d (.i .i64 0), .d (.i .i64 0)]⟩),
  (166, ⟨1, 8, .ref, [.d .n]⟩),
  (167, ⟨1, 8, .ref, [.d .n]⟩),
  (168, ⟨1, 8, .ref, [.d .n]⟩),
  (169, ⟨1, 8, .ref, [.d .n]⟩),
  (170, ⟨1, 8, .ref, [.d .n]⟩),
  (171, ⟨4, 56, (.strct [(0, 9), (1, 106)]), [.d (.s ByteArray.empty), .d (.i .i64 0), .d (.i .i64 0), .z 1]⟩),
  (172, ⟨4, 56, (.strct [(0, 9), (1, 106)]), [.d (.s ByteArray.empty), .d (.i .i64 0), .d (.i .i64 0), .z 1]⟩),
  (173, ⟨1, 8, .ref, [.d .n]⟩),
  (174, ⟨1, 8, .ref, [.d .n]⟩),
  (175, ⟨1, 24, (.slice 106), [.z 3]⟩),
  (176, ⟨1, 8, .ref, [.d .n]⟩),
  (177, ⟨1, 8, .ref, [.d .n]⟩),
  (178, ⟨1, 8, .ref, [.d .n]⟩),
  (179, ⟨1, 8, .ref, [.d .n]⟩),
  (180, ⟨1, 8, .ref, [.d .n]⟩),
  (181, ⟨1, 8, .ref, [.d .n]⟩),
  (182, ⟨1, 8, .ref, [.d .n]⟩),
  (184, ⟨1, 8, .ref, [.d .n]⟩),
  (186, ⟨1, 8, .ref, [.d .n]⟩),
  (187, ⟨1, 8, .ref, [.d .n]⟩),
  (188, ⟨1, 8, .ref, [.d .n]⟩),
  (189, ⟨1, 8, .ref, [.d .n]⟩),
  (190, ⟨1, 8, .ref, [.d .n]⟩),
  (191, ⟨4, 64, (.strct [(0, 9), (1, 9), (2, 53), (3, 3)]), [.d (.s ByteArray.empty), .d (.s ByteArray.empty), .z 1, .d (.i .i64 0)]⟩),
  (192, ⟨4, 64, (.strct [(0, 9), (1, 9), (2, 53), (3, 3)]), [.d (.s ByteArray.empty), .d (.s ByteArray.empty), .z 1, .d (.i .i64 0)]⟩),
  (193, ⟨1, 8, .ref, [.d .n]⟩),
  (195, ⟨2, 32, (.strct [(0, 77), (1, 138)]), [.d .n, .z 4]⟩),
  (196, ⟨2, 32, (.strct [(0, 77), (1, 138)]), [.d .n, .z 4]⟩),
  (197, ⟨1, 8, .ref, [.d .n]⟩),
  (198, ⟨1, 8, .ref, [.d .n]⟩),
  (199, ⟨1, 8, .ref, [.d .n]⟩),
  (200, ⟨1, 8, .ref, [.d .n]⟩),
  (201, ⟨1, 8, .ref, [.d .n]⟩),
  (202, ⟨1, 8, .ref, [.d .n]⟩),
  (203, ⟨1, 8, .ref, [.d .n]⟩),
  (204, ⟨1, 8, .ref, [.d .n]⟩),
  (205, ⟨1, 8, .ref, [.d .n]⟩),
  (206, ⟨1, 8, .ref, [.d .n]⟩),
  (207, ⟨1, 8, .ref, [.d .n]⟩),
  (208, ⟨1, 8, .ref, [.d .n]⟩),
  (209, ⟨1, 8, (.int .u64), [.d (.i .u64 0)]⟩),
  (210, ⟨1, 8, .ref, [.d .n]⟩),
  (211, ⟨1, 8, .ref, [.d .n]⟩),
  (212, ⟨1, 8, .ref, [.d .n]⟩),
  (214, ⟨1, 8, .ref, [.d .n]⟩),
  (216, ⟨1, 8, .ref, [.d .n]⟩),
  (217, ⟨1, 8, .ref, [.d .n]⟩),
  (218, ⟨1, 8, .ref, [.d .n]⟩),
  (219, ⟨2, 24, (.strct [(0, 9), (1, 3)]), [.d (.s ByteArray.empty), .d (.i .i64 0)]⟩),
  (220, ⟨1, 8, .ref, [.d .n]⟩),
  (221, ⟨1, 8, .ref, [.d .n]⟩),
  (222, ⟨1, 8, .ref, [.d .n]⟩),
  (223, ⟨1, 8, .ref, [.d .n]⟩),
  (224, ⟨1, 8, .ref, [.d .n]⟩),
  (225, ⟨1, 8, .ref, [.d .n]⟩),
  (226, ⟨1, 8, .ref, [.d .n]⟩),
  (227, ⟨1, 8, .ref, [.d .n]⟩),
  (228, ⟨1, 8, .ref, [.d .n]⟩),
  (229, ⟨1, 8, .ref, [.d .n]⟩),
  (231, ⟨1, 8, .ref, [.d .n]⟩),
  (232, ⟨1, 8, .ref, [.d .n]⟩),
  (233, ⟨1, 8, .ref, [.d .n]⟩),
  (234, ⟨1, 8, .ref, [.d .n]⟩),
  (235, ⟨1, 8, .ref, [.d .n]⟩),
  (236, ⟨1, 8, (.int .i64), [.d (.i .i64 0)]⟩),
  (238, ⟨1, 8, .ref, [.d .n]⟩),
  (239, ⟨1, 8, .ref, [.d .n]⟩),
  (240, ⟨1, 8, .ref, [.d .n]⟩),
  (242, ⟨1, 8, .ref, [.d .n]⟩),
  (243, ⟨1, 8, .ref, [.d .n]⟩),
  (244, ⟨1, 4, (.int .u32), [.d (.i .u32 0)]⟩),
  (245, ⟨1, 8, .ref, [.d .n]⟩),
  (246, ⟨1, 8, (.int .u64), [.d (.i .u64 0)]⟩),
  (247, ⟨1, 8, .ref, [.d .n]⟩),
  (248, ⟨1, 8, .ref, [.d .n]⟩),
  (249, ⟨1, 8, .ref, [.d .n]⟩),
  (250, ⟨1, 8, .ref, [.d .n]⟩),
  (251, ⟨1, 8, .ref, [.d .n]⟩),
  (253, ⟨1, 8, .ref, [.d .n]⟩),
  (255, ⟨1, 8, .ref, [.d .n]⟩),
  (256, ⟨1, 8, (.int .u64), [.d (.i .u64 0)]⟩),
  (257, ⟨1, 8, .ref, [.d .n]⟩),
  (258, ⟨1, 8, .ref, [.d .n]⟩),
  (259, ⟨1, 8, .ref, [.d .n]⟩),
  (261, ⟨1, 8, .ref, [.d .n]⟩),
  (262, ⟨1, 8, .ref, [.d .n]⟩),
  (263, ⟨1, 8, .ref, [.d .n]⟩),
  (264, ⟨1, 8, .ref, [.d .n]⟩),
  (266, ⟨1, 8, .ref, [.d .n]⟩),
  (267, ⟨1, 24, (.slice 53), [.z 1]⟩),
  (268, ⟨1, 8, .ref, [.d .n]⟩)], maps := [] }
theorem tab_ok : tab.ok Go.Proofs.Tryz.prog = true := by decide +kernel
theorem ti1 : tab.ti 1 = some ⟨1, 8, .ref, [.d .n]⟩ := rfl
theorem kd1 : tab.kd 1 = some .ref := rfl
theorem ti2 : tab.ti 2 = some ⟨1, 8, (.int .i64), [.d (.i .i64 0)]⟩ := rfl
theorem kd2 : tab.kd 2 = some (.int .i64) := rfl
theorem ti3 : tab.ti 3 = some ⟨1, 8, (.int .i64), [.d (.i .i64 0)]⟩ := rfl
theorem kd3 : tab.kd 3 = some (.int .i64) := rfl
theorem ti4 : tab.ti 4 = some ⟨1, 1, .bool, [.d (.b false)]⟩ := rfl
theorem kd4 : tab.kd 4 = some .bool := rfl
theorem ti5 : tab.ti 5 = some ⟨1, 1, (.int .u8), [.d (.i .u8 0)]⟩ := rfl
theorem kd5 : tab.kd 5 = some (.int .u8) := rfl
theorem ti9 : tab.ti 9 = some ⟨1, 16, .str, [.d (.s ByteArray.empty)]⟩ := rfl
theorem kd9 : tab.kd 9 = some .str := rfl
theorem ti12 : tab.ti 12 = some ⟨1, 8, (.int .u64), [.d (.i .u64 0)]⟩ := rfl
theorem kd12 : tab.kd 12 = some (.int .u64) := rfl
theorem ti20 : tab.ti 20 = some ⟨1, 16, .ref, [.d .n]⟩ := rfl
theorem kd20 : tab.kd 20 = some .ref := rfl
theorem ti21 : tab.ti 21 = some ⟨1, 4, (.int .i32), [.d (.i .i32 0)]⟩ := rfl
theorem kd21 : tab.kd 21 = some (.int .i32) := rfl
theorem ti22 : tab.ti 22 = some ⟨1, 24, (.slice 9), [.z 1]⟩ := rfl
theorem kd22 : tab.kd 22 = some (.slice 9) := rfl
theorem ti23 : tab.ti 23 = some ⟨1, 24, (.slice 116), [.z 9]⟩ := rfl
theorem kd23 : tab.kd 23 = some (.slice 116) := rfl
theorem ti24 : tab.ti 24 = some ⟨1, 24, (.slice 114), [.z 5]⟩ := rfl
theorem kd24 : tab.kd 24 = some (.slice 114) := rfl
theorem ti25 : tab.ti 25 = some ⟨3, 72, (.strct [(0, 22), (1, 23), (2, 24)]), [.z 1, .z 9, .z 5]⟩ := rfl
theorem kd25 : tab.kd 25 = some (.strct [(0, 22), (1, 23), (2, 24)]) := rfl
theorem ti26 : tab.ti 26 = some ⟨3, 72, (.strct [(0, 22), (1, 23), (2, 24)]), [.z 1, .z 9, .z 5]⟩ := rfl
theorem kd26 : tab.kd 26 = some (.strct [(0, 22), (1, 23), (2, 24)]) := rfl
theorem ti27 : tab.ti 27 = some ⟨1, 8, .ref, [.d .n]⟩ := rfl
theorem kd27 : tab.kd 27 = some .ref := rfl
theorem ti28 : tab.ti 28 = some ⟨1, 24, (.slice 67), [.z 9]⟩ := rfl
theorem kd28 : tab.kd 28 = some (.slice 67) := rfl
theorem ti29 : tab.ti 29 = some ⟨1, 24, (.slice 65), [.z 5]⟩ := rfl
theorem kd29 : tab.kd 29 = some (.slice 65) := rfl
theorem ti30 : tab.ti 30 = some ⟨3, 72, (.strct [(0, 22), (1, 28), (2, 29)]), [.z 1, .z 9, .z 5]⟩ := rfl
theorem kd30 : tab.kd 30 = some (.strct [(0, 22), (1, 28), (2, 29)]) := rfl
theorem ti31 : tab.ti 31 = some ⟨3, 72, (.strct [(0, 22), (1, 28), (2, 29)]), [.z 1, .z 9, .z 5]⟩ := rfl
theorem kd31 : tab.kd 31 = some (.strct [(0, 22), (1, 28), (2, 29)]) := rfl
theorem ti32 : tab.ti 32 = some ⟨1, 8, .ref, [.d .n]⟩ := rfl
theorem kd32 : tab.kd 32 = some .ref := rfl
theorem ti33 : tab.ti 33 = some ⟨1, 8, .ref, [.d .n]⟩ := rfl
theorem kd33 : tab.kd 33 = some .ref := rfl
theorem ti34 : tab.ti 34 = some ⟨1, 8, .ref, [.d .n]⟩ := rfl
theorem kd34 : tab.kd 34 = some .ref := rfl
theorem ti35 : tab.ti 35 = some ⟨1, 8, .ref, [.d .n]⟩ := rfl
theorem kd35 : tab.kd 35 = some .ref := rfl
theorem ti36 : tab.ti 36 = some ⟨1, 8, .ref, [.d .n]⟩ := rfl
theorem kd36 : tab.kd 36 = some .ref := rfl
theorem ti37 : tab.ti 37 = some ⟨1, 24, (.slice 5), [.z 1]⟩ := rfl
theorem kd37 : tab.kd 37 = some (.slice 5) := rfl
theorem ti38 : tab.ti 38 = some ⟨1, 24, (.slice 43), [.z 4]⟩ := rfl
theorem kd38 : tab.kd 38 = some (.slice 43) := rfl
theorem ti40 : tab.ti 40 = some ⟨1, 8, .ref, [.d .n]⟩ := rfl
theorem kd40 : tab.kd 40 = some .ref := rfl
theorem ti41 : tab.ti 41 = some ⟨1, 24, (.slice 47), [.z 2]⟩ := rfl
theorem kd41 : tab.kd 41 = some (.slice 47) := rfl
theorem ti42 : tab.ti 42 = some ⟨4, 88, (.strct [(0, 9), (1, 31)]), [.d (.s ByteArray.empty), .z 1, .z 9, .z 5]⟩ := rfl
theorem kd42 : tab.kd 42 = some (.strct [(0, 9), (1, 31)]) := rfl
theorem ti43 : tab.ti 43 = some ⟨4, 88, (.strct [(0, 9), (1, 31)]), [.d (.s ByteArray.empty), .z 1, .z 9, .z 5]⟩ := rfl
theorem kd43 : tab.kd 43 = some (.strct [(0, 9), (1, 31)]) := rfl
theorem ti44 : tab.ti 44 = some ⟨1, 24, (.slice 86), [.z 3]⟩ := rfl
theorem kd44 : tab.kd 44 = some (.slice 86) := rfl
theorem ti45 : tab.ti 45 = some ⟨1, 8, .ref, [.d .n]⟩ := rfl
theorem kd45 : tab.kd 45 = some .ref := rfl
theorem ti46 : tab.ti 46 = some ⟨2, 40, (.strct [(0, 9), (1, 44)]), [.d (.s ByteArray.empty), .z 3]⟩ := rfl
theorem kd46 : tab.kd 46 = some (.strct [(0, 9), (1, 44)]) := rfl
theorem ti47 : tab.ti 47 = some ⟨2, 40, (.strct [(0, 9), (1, 44)]), [.d (.s ByteArray.empty), .z 3]⟩ := rfl
theorem kd47 : tab.kd 47 = some (.strct [(0, 9), (1, 44)]) := rfl
theorem ti48 : tab.ti 48 = some ⟨1, 8, .ref, [.d .n]⟩ := rfl
theorem kd48 : tab.kd 48 = some .ref := rfl
theorem ti49 : tab.ti 49 = some ⟨2, 16, (.strct [(0, 3), (1, 3)]), [.d (.i .i64 0), .d (.i .i64 0)]⟩ := rfl
theorem kd49 : tab.kd 49 = some (.strct [(0, 3), (1, 3)]) := rfl
theorem ti50 : tab.ti 50 = some ⟨2, 16, (.strct [(0, 3), (1, 3)]), [.d (.i .i64 0), .d (.i .i64 0)]⟩ := rfl
theorem kd50 : tab.kd 50 = some (.strct [(0, 3), (1, 3)]) := rfl
theorem ti51 : tab.ti 51 = some ⟨1, 8, .ref, [.d .n]⟩ := rfl
theorem kd51 : tab.kd 51 = some .ref := rfl
theorem ti52 : tab.ti 52 = some ⟨1, 8, .ref, [.d .n]⟩ := rfl
theorem kd52 : tab.kd 52 = some .ref := rfl
theorem ti53 : tab.ti 53 = some ⟨1, 24, (.slice 3), [.z 1]⟩ := rfl
theorem kd53 : tab.kd 53 = some (.slice 3) := rfl
theorem ti54 : tab.ti 54 = some ⟨4, 48, (.strct [(0, 3), (1, 3), (2, 53), (3, 3)]), [.d (.i .i64 0), .d (.i .i64 0), .z 1, .d (.i .i64 0)]⟩ := rfl
theorem kd54 : tab.kd 54 = some (.strct [(0, 3), (1, 3), (2, 53), (3, 3)]) := rfl
theorem ti55 : tab.ti 55 = some ⟨4, 48, (.strct [(0, 3), (1, 3), (2, 53), (3, 3)]), [.d (.i .i64 0), .d (.i .i64 0), .z 1, .d (.i .i64 0)]⟩ := rfl
theorem kd55 : tab.kd 55 = some (.strct [(0, 3), (1, 3), (2, 53), (3, 3)]) := rfl
theorem ti56 : tab.ti 56 = some ⟨1, 8, .ref, [.d .n]⟩ := rfl
theorem kd56 : tab.kd 56 = some .ref := rfl
theorem ti57 : tab.ti 57 = some ⟨1, 8, .ref, [.d .n]⟩ := rfl
theorem kd57 : tab.kd 57 = some .ref := rfl
theorem ti58 : tab.ti 58 = some ⟨1, 8, .ref, [.d .n]⟩ := rfl
theorem kd58 : tab.kd 58 = some .ref := rfl
theorem ti59 : tab.ti 59 = some ⟨1, 8, .ref, [.d .n]⟩ := rfl
theorem kd59 : tab.kd 59 = some .ref := rfl
theorem ti60 : tab.ti 60 = some ⟨1, 8, .ref, [.d .n]⟩ := rfl
theorem kd60 : tab.kd 60 = some .ref := rfl
theorem ti61 : tab.ti 61 = some ⟨1, 8, .ref, [.d .n]⟩ := rfl
theorem kd61 : tab.kd 61 = some .ref := rfl
theorem ti62 : tab.ti 62 = some ⟨1, 8, .ref, [.d .n]⟩ := rfl
theorem kd62 : tab.kd 62 = some .ref := rfl
theorem ti63 : tab.ti 63 = some ⟨1, 24, (.slice 130), [.z 2]⟩ := rfl
theorem kd63 : tab.kd 63 = some (.slice 130) := rfl
theorem ti64 : tab.ti 64 = some ⟨5, 72, (.strct [(0, 3), (1, 3), (2, 9), (3, 9), (4, 29)]), [.d (.i .i64 0), .d (.i .i64 0), .d (.s ByteArray.empty), .d (.s ByteArray.empty), .z 5]⟩ := rfl
theorem kd64 : tab.kd 64 = some (.strct [(0, 3), (1, 3), (2, 9), (3, 9), (4, 29)]) := rfl
theorem ti65 : tab.ti 65 = some ⟨5, 72, (.strct [(0, 3), (1, 3), (2, 9), (3, 9), (4, 29)]), [.d (.i .i64 0), .d (.i .i64 0), .d (.s ByteArray.empty), .d (.s ByteArray.empty), .z 5]⟩ := rfl
theorem kd65 : tab.kd 65 = some (.strct [(0, 3), (1, 3), (2, 9), (3, 9), (4, 29)]) := rfl
theorem ti66 : tab.ti 66 = some ⟨9, 128, (.strct [(0, 9), (1, 4), (2, 63), (3, 3), (4, 65)]), [.d (.s ByteArray.empty), .d (.b false), .z 2, .d (.i .i64 0), .d (.i .i64 0), .d (.i .i64 0), .d (.s ByteArray.empty), .d (.s ByteArray.empty), .z 5]⟩ := rfl
theorem kd66 : tab.kd 66 = some (.strct [(0, 9), (1, 4), (2, 63), (3, 3), (4, 65)]) := rfl
theorem ti67 : tab.ti 67 = some ⟨9, 128, (.strct [(0, 9), (1, 4), (2, 63), (3, 3), (4, 65)]), [.d (.s ByteArray.empty), .d (.b false), .z 2, .d (.i .i64 0), .d (.i .i64 0), .d (.i .i64 0), .d (.s ByteArray.empty), .d (.s ByteArray.empty), .z 5]⟩ := rfl
theorem kd67 : tab.kd 67 = some (.strct [(0, 9), (1, 4), (2, 63), (3, 3), (4, 65)]) := rfl
theorem ti68 : tab.ti 68 = some ⟨1, 8, .ref, [.d .n]⟩ := rfl
theorem kd68 : tab.kd 68 = some .ref := rfl
theorem ti69 : tab.ti 69 = some ⟨1, 8, .ref, [.d .n]⟩ := rfl
theorem kd69 : tab.kd 69 = some .ref := rfl
theorem ti70 : tab.ti 70 = some ⟨1, 8, .ref, [.d .n]⟩ := rfl
theorem kd70 : tab.kd 70 = some .ref := rfl
theorem ti71 : tab.ti 71 = some ⟨1, 8, .ref, [.d .n]⟩ := rfl
theorem kd71 : tab.kd 71 = some .ref := rfl
theorem ti72 : tab.ti 72 = some ⟨1, 8, .ref, [.d .n]⟩ := rfl
theorem kd72 : tab.kd 72 = some .ref := rfl
theorem ti73 : tab.ti 73 = some ⟨1, 8, .ref, [.d .n]⟩ := rfl
theorem kd73 : tab.kd 73 = some .ref := rfl
theorem ti74 : tab.ti 74 = some ⟨1, 8, .ref, [.d .n]⟩ := rfl
theorem kd74 : tab.kd 74 = some .ref := rfl
theorem ti75 : tab.ti 75 = some ⟨1, 8, .ref, [.d .n]⟩ := rfl
theorem kd75 : tab.kd 75 = some .ref := rfl
theorem ti76 : tab.ti 76 = some ⟨1, 8, .ref, [.d .n]⟩ := rfl
theorem kd76 : tab.kd 76 = some .ref := rfl
theorem ti77 : tab.ti 77 = some ⟨1, 8, .ref, [.d .n]⟩ := rfl
theorem kd77 : tab.kd 77 = some .ref := rfl
theorem ti78 : tab.ti 78 = some ⟨1, 8, .ref, [.d .n]⟩ := rfl
theorem kd78 : tab.kd 78 = some .ref := rfl
theorem ti79 : tab.ti 79 = some ⟨1, 8, .ref, [.d .n]⟩ := rfl
theorem kd79 : tab.kd 79 = some .ref := rfl
theorem ti80 : tab.ti 80 = some ⟨1, 8, .ref, [.d .n]⟩ := rfl
theorem kd80 : tab.kd 80 = some .ref := rfl
theorem ti81 : tab.ti 81 = some ⟨1, 8, .ref, [.d .n]⟩ := rfl
theorem kd81 : tab.kd 81 = some .ref := rfl
theorem ti82 : tab.ti 82 = some ⟨1, 8, .ref, [.d .n]⟩ := rfl
theorem kd82 : tab.kd 82 = some .ref := rfl
theorem ti83 : tab.ti 83 = some ⟨1, 8, .ref, [.d .n]⟩ := rfl
theorem kd83 : tab.kd 83 = some .ref := rfl
theorem ti84 : tab.ti 84 = some ⟨1, 8, .ref, [.d .n]⟩ := rfl
theorem kd84 : tab.kd 84 = some .ref := rfl
theorem ti85 : tab.ti 85 = some ⟨3, 48, (.strct [(0, 9), (1, 53), (2, 3)]), [.d (.s ByteArray.empty), .z 1, .d (.i .i64 0)]⟩ := rfl
theorem kd85 : tab.kd 85 = some (.strct [(0, 9), (1, 53), (2, 3)]) := rfl
theorem ti86 : tab.ti 86 = some ⟨3, 48, (.strct [(0, 9), (1, 53), (2, 3)]), [.d (.s ByteArray.empty), .z 1, .d (.i .i64 0)]⟩ := rfl
theorem kd86 : tab.kd 86 = some (.strct [(0, 9), (1, 53), (2, 3)]) := rfl
theorem ti87 : tab.ti 87 = some ⟨1, 8, .ref, [.d .n]⟩ := rfl
theorem kd87 : tab.kd 87 = some .ref := rfl
theorem ti88 : tab.ti 88 = some ⟨1, 8, .ref, [.d .n]⟩ := rfl
theorem kd88 : tab.kd 88 = some .ref := rfl
theorem ti89 : tab.ti 89 = some ⟨1, 8, .ref, [.d .n]⟩ := rfl
theorem kd89 : tab.kd 89 = some .ref := rfl
theorem ti90 : tab.ti 90 = some ⟨1, 8, .ref, [.d .n]⟩ := rfl
theorem kd90 : tab.kd 90 = some .ref := rfl
theorem ti91 : tab.ti 91 = some ⟨1, 8, .ref, [.d .n]⟩ := rfl
theorem kd91 : tab.kd 91 = some .ref := rfl
theorem ti92 : tab.ti 92 = some ⟨1, 8, .ref, [.d .n]⟩ := rfl
theorem kd92 : tab.kd 92 = some .ref := rfl
theorem ti93 : tab.ti 93 = some ⟨1, 8, .ref, [.d .n]⟩ := rfl
theorem kd93 : tab.kd 93 = some .ref := rfl
theorem ti95 : tab.ti 95 = some ⟨4, 96, (.strct [(0, 31), (3, 41)]), [.z 1, .z 9, .z 5, .z 2]⟩ := rfl
theorem kd95 : tab.kd 95 = some (.strct [(0, 31), (3, 41)]) := rfl
theorem ti96 : tab.ti 96 = some ⟨4, 96, (.strct [(0, 31), (3, 41)]), [.z 1, .z 9, .z 5, .z 2]⟩ := rfl
theorem kd96 : tab.kd 96 = some (.strct [(0, 31), (3, 41)]) := rfl
theorem ti97 : tab.ti 97 = some ⟨1, 8, .ref, [.d .n]⟩ := rfl
theorem kd97 : tab.kd 97 = some .ref := rfl
theorem ti99 : tab.ti 99 = some ⟨1, 8, .ref, [.d .n]⟩ := rfl
theorem kd99 : tab.kd 99 = some .ref := rfl
theorem ti100 : tab.ti 100 = some ⟨1, 8, .ref, [.d .n]⟩ := rfl
theorem kd100 : tab.kd 100 = some .ref := rfl
theorem ti102 : tab.ti 102 = some ⟨4, 64, (.strct [(0, 38), (1, 3), (2, 3), (3, 53)]), [.z 4, .d (.i .i64 0), .d (.i .i64 0), .z 1]⟩ := rfl
theorem kd102 : tab.kd 102 = some (.strct [(0, 38), (1, 3), (2, 3), (3, 53)]) := rfl
theorem ti103 : tab.ti 103 = some ⟨4, 64, (.strct [(0, 38), (1, 3), (2, 3), (3, 53)]), [.z 4, .d (.i .i64 0), .d (.i .i64 0), .z 1]⟩ := rfl
theorem kd103 : tab.kd 103 = some (.strct [(0, 38), (1, 3), (2, 3), (3, 53)]) := rfl
theorem ti104 : tab.ti 104 = some ⟨1, 8, .ref, [.d .n]⟩ := rfl
theorem kd104 : tab.kd 104 = some .ref := rfl
theorem ti105 : tab.ti 105 = some ⟨3, 40, (.strct [(0, 3), (1, 3), (2, 53)]), [.d (.i .i64 0), .d (.i .i64 0), .z 1]⟩ := rfl
theorem kd105 : tab.kd 105 = some (.strct [(0, 3), (1, 3), (2, 53)]) := rfl
theorem ti106 : tab.ti 106 = some ⟨3, 40, (.strct [(0, 3), (1, 3), (2, 53)]), [.d (.i .i64 0), .d (.i .i64 0), .z 1]⟩ := rfl
theorem kd106 : tab.kd 106 = some (.strct [(0, 3), (1, 3), (2, 53)]) := rfl
theorem ti107 : tab.ti 107 = some ⟨1, 8, .ref, [.d .n]⟩ := rfl
theorem kd107 : tab.kd 107 = some .ref := rfl
theorem ti108 : tab.ti 108 = some ⟨1, 24, (.slice 172), [.z 4]⟩ := rfl
theorem kd108 : tab.kd 108 = some (.slice 172) := rfl
theorem ti109 : tab.ti 109 = some ⟨5, 104, (.strct [(0, 31), (3, 108), (4, 3)]), [.z 1, .z 9, .z 5, .z 4, .d (.i .i64 0)]⟩ := rfl
theorem kd109 : tab.kd 109 = some (.strct [(0, 31), (3, 108), (4, 3)]) := rfl
theorem ti110 : tab.ti 110 = some ⟨5, 104, (.strct [(0, 31), (3, 108), (4, 3)]), [.z 1, .z 9, .z 5, .z 4, .d (.i .i64 0)]⟩ := rfl
theorem kd110 : tab.kd 110 = some (.strct [(0, 31), (3, 108), (4, 3)]) := rfl
theorem ti111 : tab.ti 111 = some ⟨1, 8, .ref, [.d .n]⟩ := rfl
theorem kd111 : tab.kd 111 = some .ref := rfl
theorem ti112 : tab.ti 112 = some ⟨1, 24, (.slice 219), [.z 2]⟩ := rfl
theorem kd112 : tab.kd 112 = some (.slice 219) := rfl
theorem ti113 : tab.ti 113 = some ⟨5, 72, (.strct [(0, 3), (1, 3), (2, 9), (3, 9), (4, 24)]), [.d (.i .i64 0), .d (.i .i64 0), .d (.s ByteArray.empty), .d (.s ByteArray.empty), .z 5]⟩ := rfl
theorem kd113 : tab.kd 113 = some (.strct [(0, 3), (1, 3), (2, 9), (3, 9), (4, 24)]) := rfl
theorem ti114 : tab.ti 114 = some ⟨5, 72, (.strct [(0, 3), (1, 3), (2, 9), (3, 9), (4, 24)]), [.d (.i .i64 0), .d (.i .i64 0), .d (.s ByteArray.empty), .d (.s ByteArray.empty), .z 5]⟩ := rfl
theorem kd114 : tab.kd 114 = some (.strct [(0, 3), (1, 3), (2, 9), (3, 9), (4, 24)]) := rfl
theorem ti115 : tab.ti 115 = some ⟨9, 128, (.strct [(0, 9), (1, 4), (2, 112), (3, 3), (4, 114)]), [.d (.s ByteArray.empty), .d (.b false), .z 2, .d (.i .i64 0), .d (.i .i64 0), .d (.i .i64 0), .d (.s ByteArray.empty), .d (.s ByteArray.empty), .z 5]⟩ := rfl
theorem kd115 : tab.kd 115 = some (.strct [(0, 9), (1, 4), (2, 112), (3, 3), (4, 114)]) := rfl
theorem ti116 : tab.ti 116 = some ⟨9, 128, (.strct [(0, 9), (1, 4), (2, 112), (3, 3), (4, 114)]), [.d (.s ByteArray.empty), .d (.b false), .z 2, .d (.i .i64 0), .d (.i .i64 0), .d (.i .i64 0), .d (.s ByteArray.empty), .d (.s ByteArray.empty), .z 5]⟩ := rfl
theorem kd116 : tab.kd 116 = some (.strct [(0, 9), (1, 4), (2, 112), (3, 3), (4, 114)]) := rfl
theorem ti117 : tab.ti 117 = some ⟨1, 8, .ref, [.d .n]⟩ := rfl
theorem kd117 : tab.kd 117 = some .ref := rfl
theorem ti118 : tab.ti 118 = some ⟨1, 8, .ref, [.d .n]⟩ := rfl
theorem kd118 : tab.kd 118 = some .ref := rfl
theorem ti119 : tab.ti 119 = some ⟨1, 8, .ref, [.d .n]⟩ := rfl
theorem kd119 : tab.kd 119 = some .ref := rfl
theorem ti120 : tab.ti 120 = some ⟨1, 8, .ref, [.d .n]⟩ := rfl
theorem kd120 : tab.kd 120 = some .ref := rfl
theorem ti121 : tab.ti 121 = some ⟨1, 8, .ref, [.d .n]⟩ := rfl
theorem kd121 : tab.kd 121 = some .ref := rfl
theorem ti123 : tab.ti 123 = some ⟨1, 8, .ref, [.d .n]⟩ := rfl
theorem kd123 : tab.kd 123 = some .ref := rfl
theorem ti124 : tab.ti 124 = some ⟨1, 8, .ref, [.d .n]⟩ := rfl
theorem kd124 : tab.kd 124 = some .ref := rfl
theorem ti125 : tab.ti 125 = some ⟨1, 8, .ref, [.d .n]⟩ := rfl
theorem kd125 : tab.kd 125 = some .ref := rfl
theorem ti126 : tab.ti 126 = some ⟨1, 8, .ref, [.d .n]⟩ := rfl
theorem kd126 : tab.kd 126 = some .ref := rfl
theorem ti127 : tab.ti 127 = some ⟨1, 8, .ref, [.d .n]⟩ := rfl
theorem kd127 : tab.kd 127 = some .ref := rfl
theorem ti128 : tab.ti 128 = some ⟨1, 8, .ref, [.d .n]⟩ := rfl
theorem kd128 : tab.kd 128 = some .ref := rfl
theorem ti129 : tab.ti 129 = some ⟨2, 24, (.strct [(0, 9), (1, 3)]), [.d (.s ByteArray.empty), .d (.i .i64 0)]⟩ := rfl
theorem kd129 : tab.kd 129 = some (.strct [(0, 9), (1, 3)]) := rfl
theorem ti130 : tab.ti 130 = some ⟨2, 24, (.strct [(0, 9), (1, 3)]), [.d (.s ByteArray.empty), .d (.i .i64 0)]⟩ := rfl
theorem kd130 : tab.kd 130 = some (.strct [(0, 9), (1, 3)]) := rfl
theorem ti131 : tab.ti 131 = some ⟨1, 8, .ref, [.d .n]⟩ := rfl
theorem kd131 : tab.kd 131 = some .ref := rfl
theorem ti132 : tab.ti 132 = some ⟨1, 8, .ref, [.d .n]⟩ := rfl
theorem kd132 : tab.kd 132 = some .ref := rfl
theorem ti133 : tab.ti 133 = some ⟨1, 8, .ref, [.d .n]⟩ := rfl
theorem kd133 : tab.kd 133 = some .ref := rfl
theorem ti134 : tab.ti 134 = some ⟨1, 8, .ref, [.d .n]⟩ := rfl
theorem kd134 : tab.kd 134 = some .ref := rfl
theorem ti135 : tab.ti 135 = some ⟨1, 8, .ref, [.d .n]⟩ := rfl
theorem kd135 : tab.kd 135 = some .ref := rfl
theorem ti136 : tab.ti 136 = some ⟨2, 32, (.strct [(0, 37), (1, 3)]), [.z 1, .d (.i .i64 0)]⟩ := rfl
theorem kd136 : tab.kd 136 = some (.strct [(0, 37), (1, 3)]) := rfl
theorem ti137 : tab.ti 137 = some ⟨2, 32, (.strct [(0, 37), (1, 3)]), [.z 1, .d (.i .i64 0)]⟩ := rfl
theorem kd137 : tab.kd 137 = some (.strct [(0, 37), (1, 3)]) := rfl
theorem ti138 : tab.ti 138 = some ⟨1, 24, (.slice 192), [.z 4]⟩ := rfl
theorem kd138 : tab.kd 138 = some (.slice 192) := rfl
theorem ti139 : tab.ti 139 = some ⟨1, 8, .ref, [.d .n]⟩ := rfl
theorem kd139 : tab.kd 139 = some .ref := rfl
theorem ti140 : tab.ti 140 = some ⟨1, 8, .ref, [.d .n]⟩ := rfl
theorem kd140 : tab.kd 140 = some .ref := rfl
theorem ti141 : tab.ti 141 = some ⟨1, 8, .ref, [.d .n]⟩ := rfl
theorem kd141 : tab.kd 141 = some .ref := rfl
theorem ti142 : tab.ti 142 = some ⟨1, 8, .ref, [.d .n]⟩ := rfl
theorem kd142 : tab.kd 142 = some .ref := rfl
theorem ti143 : tab.ti 143 = some ⟨1, 8, .ref, [.d .n]⟩ := rfl
theorem kd143 : tab.kd 143 = some .ref := rfl
theorem ti144 : tab.ti 144 = some ⟨1, 8, .ref, [.d .n]⟩ := rfl
theorem kd144 : tab.kd 144 = some .ref := rfl
theorem ti145 : tab.ti 145 = some ⟨1, 8, .ref, [.d .n]⟩ := rfl
theorem kd145 : tab.kd 145 = some .ref := rfl
theorem ti147 : tab.ti 147 = some ⟨1, 8, .ref, [.d .n]⟩ := rfl
theorem kd147 : tab.kd 147 = some .ref := rfl
theorem ti148 : tab.ti 148 = some ⟨1, 8, .ref, [.d .n]⟩ := rfl
theorem kd148 : tab.kd 148 = some .ref := rfl
theorem ti149 : tab.ti 149 = some ⟨1, 8, .ref, [.d .n]⟩ := rfl
theorem kd149 : tab.kd 149 = some .ref := rfl
theorem ti150 : tab.ti 150 = some ⟨1, 8, .ref, [.d .n]⟩ := rfl
theorem kd150 : tab.kd 150 = some .ref := rfl
theorem ti152 : tab.ti 152 = some ⟨1, 8, .ref, [.d .n]⟩ := rfl
theorem kd152 : tab.kd 152 = some .ref := rfl
theorem ti153 : tab.ti 153 = some ⟨1, 8, .ref, [.d .n]⟩ := rfl
theorem kd153 : tab.kd 153 = some .ref := rfl
theorem ti154 : tab.ti 154 = some ⟨1, 8, .ref, [.d .n]⟩ := rfl
theorem kd154 : tab.kd 154 = some .ref := rfl
theorem ti155 : tab.ti 155 = some ⟨4, 96, (.strct [(0, 31), (3, 41)]), [.z 1, .z 9, .z 5, .z 2]⟩ := rfl
theorem kd155 : tab.kd 155 = some (.strct [(0, 31), (3, 41)]) := rfl
theorem ti156 : tab.ti 156 = some ⟨4, 96, (.strct [(0, 31), (3, 41)]), [.z 1, .z 9, .z 5, .z 2]⟩ := rfl
theorem kd156 : tab.kd 156 = some (.strct [(0, 31), (3, 41)]) := rfl
theorem ti157 : tab.ti 157 = some ⟨1, 8, .ref, [.d .n]⟩ := rfl
theorem kd157 : tab.kd 157 = some .ref := rfl
theorem ti158 : tab.ti 158 = some ⟨1, 8, .ref, [.d .n]⟩ := rfl
theorem kd158 : tab.kd 158 = some .ref := rfl
theorem ti159 : tab.ti 159 = some ⟨1, 8, .ref, [.d .n]⟩ := rfl
theorem kd159 : tab.kd 159 = some .ref := rfl
theorem ti160 : tab.ti 160 = some ⟨1, 8, .ref, [.d .n]⟩ := rfl
theorem kd160 : tab.kd 160 = some .ref := rfl
theorem ti161 : tab.ti 161 = some ⟨1, 8, .ref, [.d .n]⟩ := rfl
theorem kd161 : tab.kd 161 = some .ref := rfl
theorem ti162 : tab.ti 162 = some ⟨1, 8, .ref, [.d .n]⟩ := rfl
theorem kd162 : tab.kd 162 = some .ref := rfl
theorem ti163 : tab.ti 163 = some ⟨2, 16, (.strct [(0, 3), (1, 3)]), [.d (.i .i64 0), .d (.i .i64 0)]⟩ := rfl
theorem kd163 : tab.kd 163 = some (.strct [(0, 3), (1, 3)]) := rfl
theorem ti164 : tab.ti 164 = some ⟨2, 16, (.strct [(0, 3), (1, 3)]), [.d (.i .i64 0), .d (.i .i64 0)]⟩ := rfl
theorem kd164 : tab.kd 164 = some (.strct [(0, 3), (1, 3)]) := rfl
theorem ti166 : tab.ti 166 = some ⟨1, 8, .ref, [.d .n]⟩ := rfl
theorem kd166 : tab.kd 166 = some .ref := rfl
theorem ti167 : tab.ti 167 = some ⟨1, 8, .ref, [.d .n]⟩ := rfl
theorem kd167 : tab.kd 167 = some .ref := rfl
theorem ti168 : tab.ti 168 = some ⟨1, 8, .ref, [.d .n]⟩ := rfl
theorem kd168 : tab.kd 168 = some .ref := rfl
theorem ti169 : tab.ti 169 = some ⟨1, 8, .ref, [.d .n]⟩ := rfl
theorem kd169 : tab.kd 169 = some .ref := rfl
theorem ti170 : tab.ti 170 = some ⟨1, 8, .ref, [.d .n]⟩ := rfl
theorem kd170 : tab.kd 170 = some .ref := rfl
theorem ti171 : tab.ti 171 = some ⟨4, 56, (.strct [(0, 9), (1, 106)]), [.d (.s ByteArray.empty), .d (.i .i64 0), .d (.i .i64 0), .z 1]⟩ := rfl
theorem kd171 : tab.kd 171 = some (.strct [(0, 9), (1, 106)]) := rfl
theorem ti172 : tab.ti 172 = some ⟨4, 56, (.strct [(0, 9), (1, 106)]), [.d (.s ByteArray.empty), .d (.i .i64 0), .d (.i .i64 0), .z 1]⟩ := rfl
theorem kd172 : tab.kd 172 = some (.strct [(0, 9), (1, 106)]) := rfl
theorem ti173 : tab.ti 173 = some ⟨1, 8, .ref, [.d .n]⟩ := rfl
theorem kd173 : tab.kd 173 = some .ref := rfl
theorem ti174 : tab.ti 174 = some ⟨1, 8, .ref, [.d .n]⟩ := rfl
theorem kd174 : tab.kd 174 = some .ref := rfl
theorem ti175 : tab.ti 175 = some ⟨1, 24, (.slice 106), [.z 3]⟩ := rfl
theorem kd175 : tab.kd 175 = some (.slice 106) := rfl
theorem ti176 : tab.ti 176 = some ⟨1, 8, .ref, [.d .n]⟩ := rfl
theorem kd176 : tab.kd 176 = some .ref := rfl
theorem ti177 : tab.ti 177 = some ⟨1, 8, .ref, [.d .n]⟩ := rfl
theorem kd177 : tab.kd 177 = some .ref := rfl
theorem ti178 : tab.ti 178 = some ⟨1, 8, .ref, [.d .n]⟩ := rfl
theorem kd178 : tab.kd 178 = some .ref := rfl
theorem ti179 : tab.ti 179 = some ⟨1, 8, .ref, [.d .n]⟩ := rfl
theorem kd179 : tab.kd 179 = some .ref := rfl
theorem ti180 : tab.ti 180 = some ⟨1, 8, .ref, [.d .n]⟩ := rfl
theorem kd180 : tab.kd 180 = some .ref := rfl
theorem ti181 : tab.ti 181 = some ⟨1, 8, .ref, [.d .n]⟩ := rfl
theorem kd181 : tab.kd 181 = some .ref := rfl
theorem ti182 : tab.ti 182 = some ⟨1, 8, .ref, [.d .n]⟩ := rfl
theorem kd182 : tab.kd 182 = some .ref := rfl
theorem ti184 : tab.ti 184 = some ⟨1, 8, .ref, [.d .n]⟩ := rfl
theorem kd184 : tab.kd 184 = some .ref := rfl
theorem ti186 : tab.ti 186 = some ⟨1, 8, .ref, [.d .n]⟩ := rfl
theorem kd186 : tab.kd 186 = some .ref := rfl
theorem ti187 : tab.ti 187 = some ⟨1, 8, .ref, [.d .n]⟩ := rfl
theorem kd187 : tab.kd 187 = some .ref := rfl
theorem ti188 : tab.ti 188 = some ⟨1, 8, .ref, [.d .n]⟩ := rfl
theorem kd188 : tab.kd 188 = some .ref := rfl
theorem ti189 : tab.ti 189 = some ⟨1, 8, .ref, [.d .n]⟩ := rfl
theorem kd189 : tab.kd 189 = some .ref := rfl
theorem ti190 : tab.ti 190 = some ⟨1, 8, .ref, [.d .n]⟩ := rfl
theorem kd190 : tab.kd 190 = some .ref := rfl
theorem ti191 : tab.ti 191 = some ⟨4, 64, (.strct [(0, 9), (1, 9), (2, 53), (3, 3)]), [.d (.s ByteArray.empty), .d (.s ByteArray.empty), .z 1, .d (.i .i64 0)]⟩ := rfl
theorem kd191 : tab.kd 191 = some (.strct [(0, 9), (1, 9), (2, 53), (3, 3)]) := rfl
theorem ti192 : tab.ti 192 = some ⟨4, 64, (.strct [(0, 9), (1, 9), (2, 53), (3, 3)]), [.d (.s ByteArray.empty), .d (.s ByteArray.empty), .z 1, .d (.i .i64 0)]⟩ := rfl
theorem kd192 : tab.kd 192 = some (.strct [(0, 9), (1, 9), (2, 53), (3, 3)]) := rfl
theorem ti193 : tab.ti 193 = some ⟨1, 8, .ref, [.d .n]⟩ := rfl
theorem kd193 : tab.kd 193 = some .ref := rfl
theorem ti195 : tab.ti 195 = some ⟨2, 32, (.strct [(0, 77), (1, 138)]), [.d .n, .z 4]⟩ := rfl
theorem kd195 : tab.kd 195 = some (.strct [(0, 77), (1, 138)]) := rfl
theorem ti196 : tab.ti 196 = some ⟨2, 32, (.strct [(0, 77), (1, 138)]), [.d .n, .z 4]⟩ := rfl
theorem kd196 : tab.kd 196 = some (.strct [(0, 77), (1, 138)]) := rfl
theorem ti197 : tab.ti 197 = some ⟨1, 8, .ref, [.d .n]⟩ := rfl
theorem kd197 : tab.kd 197 = some .ref := rfl
theorem ti198 : tab.ti 198 = some ⟨1, 8, .ref, [.d .n]⟩ := rfl
theorem kd198 : tab.kd 198 = some .ref := rfl
theorem ti199 : tab.ti 199 = some ⟨1, 8, .ref, [.d .n]⟩ := rfl
theorem kd199 : tab.kd 199 = some .ref := rfl
theorem ti200 : tab.ti 200 = some ⟨1, 8, .ref, [.d .n]⟩ := rfl
theorem kd200 : tab.kd 200 = some .ref := rfl
theorem ti201 : tab.ti 201 = some ⟨1, 8, .ref, [.d .n]⟩ := rfl
theorem kd201 : tab.kd 201 = some .ref := rfl
theorem ti202 : tab.ti 202 = some ⟨1, 8, .ref, [.d .n]⟩ := rfl
theorem kd202 : tab.kd 202 = some .ref := rfl
theorem ti203 : tab.ti 203 = some ⟨1, 8, .ref, [.d .n]⟩ := rfl
theorem kd203 : tab.kd 203 = some .ref := rfl
theorem ti204 : tab.ti 204 = some ⟨1, 8, .ref, [.d .n]⟩ := rfl
theorem kd204 : tab.kd 204 = some .ref := rfl
theorem ti205 : tab.ti 205 = some ⟨1, 8, .ref, [.d .n]⟩ := rfl
theorem kd205 : tab.kd 205 = some .ref := rfl
theorem ti206 : tab.ti 206 = some ⟨1, 8, .ref, [.d .n]⟩ := rfl
theorem kd206 : tab.kd 206 = some .ref := rfl
theorem ti207 : tab.ti 207 = some ⟨1, 8, .ref, [.d .n]⟩ := rfl
theorem kd207 : tab.kd 207 = some .ref := rfl
theorem ti208 : tab.ti 208 = some ⟨1, 8, .ref, [.d .n]⟩ := rfl
theorem kd208 : tab.kd 208 = some .ref := rfl
theorem ti209 : tab.ti 209 = some ⟨1, 8, (.int .u64), [.d (.i .u64 0)]⟩ := rfl
theorem kd209 : tab.kd 209 = some (.int .u64) := rfl
theorem ti210 : tab.ti 210 = some ⟨1, 8, .ref, [.d .n]⟩ := rfl
theorem kd210 : tab.kd 210 = some .ref := rfl
theorem ti211 : tab.ti 211 = some ⟨1, 8, .ref, [.d .n]⟩ := rfl
theorem kd211 : tab.kd 211 = some .ref := rfl
theorem ti212 : tab.ti 212 = some ⟨1, 8, .ref, [.d .n]⟩ := rfl
theorem kd212 : tab.kd 212 = some .ref := rfl
theorem ti214 : tab.ti 214 = some ⟨1, 8, .ref, [.d .n]⟩ := rfl
theorem kd214 : tab.kd 214 = some .ref := rfl
theorem ti216 : tab.ti 216 = some ⟨1, 8, .ref, [.d .n]⟩ := rfl
theorem kd216 : tab.kd 216 = some .ref := rfl
theorem ti217 : tab.ti 217 = some ⟨1, 8, .ref, [.d .n]⟩ := rfl
theorem kd217 : tab.kd 217 = some .ref := rfl
theorem ti218 : tab.ti 218 = some ⟨1, 8, .ref, [.d .n]⟩ := rfl
theorem kd218 : tab.kd 218 = some .ref := rfl
theorem ti219 : tab.ti 219 = some ⟨2, 24, (.strct [(0, 9), (1, 3)]), [.d (.s ByteArray.empty), .d (.i .i64 0)]⟩ := rfl
theorem kd219 : tab.kd 219 = some (.strct [(0, 9), (1, 3)]) := rfl
theorem ti220 : tab.ti 220 = some ⟨1, 8, .ref, [.d .n]⟩ := rfl
theorem kd220 : tab.kd 220 = some .ref := rfl
theorem ti221 : tab.ti 221 = some ⟨1, 8, .ref, [.d .n]⟩ := rfl
theorem kd221 : tab.kd 221 = some .ref := rfl
theorem ti222 : tab.ti 222 = some ⟨1, 8, .ref, [.d .n]⟩ := rfl
theorem kd222 : tab.kd 222 = some .ref := rfl
theorem ti223 : tab.ti 223 = some ⟨1, 8, .ref, [.d .n]⟩ := rfl
theorem kd223 : tab.kd 223 = some .ref := rfl
theorem ti224 : tab.ti 224 = some ⟨1, 8, .ref, [.d .n]⟩ := rfl
theorem kd224 : tab.kd 224 = some .ref := rfl
theorem ti225 : tab.ti 225 = some ⟨1, 8, .ref, [.d .n]⟩ := rfl
theorem kd225 : tab.kd 225 = some .ref := rfl
theorem ti226 : tab.ti 226 = some ⟨1, 8, .ref, [.d .n]⟩ := rfl
theorem kd226 : tab.kd 226 = some .ref := rfl
theorem ti227 : tab.ti 227 = some ⟨1, 8, .ref, [.d .n]⟩ := rfl
theorem kd227 : tab.kd 227 = some .ref := rfl
theorem ti228 : tab.ti 228 = some ⟨1, 8, .ref, [.d .n]⟩ := rfl
theorem kd228 : tab.kd 228 = some .ref := rfl
theorem ti229 : tab.ti 229 = some ⟨1, 8, .ref, [.d .n]⟩ := rfl
theorem kd229 : tab.kd 229 = some .ref := rfl
theorem ti231 : tab.ti 231 = some ⟨1, 8, .ref, [.d .n]⟩ := rfl
theorem kd231 : tab.kd 231 = some .ref := rfl
theorem ti232 : tab.ti 232 = some ⟨1, 8, .ref, [.d .n]⟩ := rfl
theorem kd232 : tab.kd 232 = some .ref := rfl
theorem ti233 : tab.ti 233 = some ⟨1, 8, .ref, [.d .n]⟩ := rfl
theorem kd233 : tab.kd 233 = some .ref := rfl
theorem ti234 : tab.ti 234 = some ⟨1, 8, .ref, [.d .n]⟩ := rfl
theorem kd234 : tab.kd 234 = some .ref := rfl
theorem ti235 : tab.ti 235 = some ⟨1, 8, .ref, [.d .n]⟩ := rfl
theorem kd235 : tab.kd 235 = some .ref := rfl
theorem ti236 : tab.ti 236 = some ⟨1, 8, (.int .i64), [.d (.i .i64 0)]⟩ := rfl
theorem kd236 : tab.kd 236 = some (.int .i64) := rfl
theorem ti238 : tab.ti 238 = some ⟨1, 8, .ref, [.d .n]⟩ := rfl
theorem kd238 : tab.kd 238 = some .ref := rfl
theorem ti239 : tab.ti 239 = some ⟨1, 8, .ref, [.d .n]⟩ := rfl
theorem kd239 : tab.kd 239 = some .ref := rfl
theorem ti240 : tab.ti 240 = some ⟨1, 8, .ref, [.d .n]⟩ := rfl
theorem kd240 : tab.kd 240 = some .ref := rfl
theorem ti242 : tab.ti 242 = some ⟨1, 8, .ref, [.d .n]⟩ := rfl
theorem kd242 : tab.kd 242 = some .ref := rfl
theorem ti243 : tab.ti 243 = some ⟨1, 8, .ref, [.d .n]⟩ := rfl
theorem kd243 : tab.kd 243 = some .ref := rfl
theorem ti244 : tab.ti 244 = some ⟨1, 4, (.int .u32), [.d (.i .u32 0)]⟩ := rfl
theorem kd244 : tab.kd 244 = some (.int .u32) := rfl
theorem ti245 : tab.ti 245 = some ⟨1, 8, .ref, [.d .n]⟩ := rfl
theorem kd245 : tab.kd 245 = some .ref := rfl
theorem ti246 : tab.ti 246 = some ⟨1, 8, (.int .u64), [.d (.i .u64 0)]⟩ := rfl
theorem kd246 : tab.kd 246 = some (.int .u64) := rfl
theorem ti247 : tab.ti 247 = some ⟨1, 8, .ref, [.d .n]⟩ := rfl
theorem kd247 : tab.kd 247 = some .ref := rfl
theorem ti248 : tab.ti 248 = some ⟨1, 8, .ref, [.d .n]⟩ := rfl
theorem kd248 : tab.kd 248 = some .ref := rfl
theorem ti249 : tab.ti 249 = some ⟨1, 8, .ref, [.d .n]⟩ := rfl
theorem kd249 : tab.kd 249 = some .ref := rfl
theorem ti250 : tab.ti 250 = some ⟨1, 8, .ref, [.d .n]⟩ := rfl
theorem kd250 : tab.kd 250 = some .ref := rfl
theorem ti251 : tab.ti 251 = some ⟨1, 8, .ref, [.d .n]⟩ := rfl
theorem kd251 : tab.kd 251 = some .ref := rfl
theorem ti253 : tab.ti 253 = some ⟨1, 8, .ref, [.d .n]⟩ := rfl
theorem kd253 : tab.kd 253 = some .ref := rfl
theorem ti255 : tab.ti 255 = some ⟨1, 8, .ref, [.d .n]⟩ := rfl
theorem kd255 : tab.kd 255 = some .ref := rfl
theorem ti256 : tab.ti 256 = some ⟨1, 8, (.int .u64), [.d (.i .u64 0)]⟩ := rfl
theorem kd256 : tab.kd 256 = some (.int .u64) := rfl
theorem ti257 : tab.ti 257 = some ⟨1, 8, .ref, [.d .n]⟩ := rfl
theorem kd257 : tab.kd 257 = some .ref := rfl
theorem ti258 : tab.ti 258 = some ⟨1, 8, .ref, [.d .n]⟩ := rfl
theorem kd258 : tab.kd 258 = some .ref := rfl
theorem ti259 : tab.ti 259 = some ⟨1, 8, .ref, [.d .n]⟩ := rfl
theorem kd259 : tab.kd 259 = some .ref := rfl
theorem ti261 : tab.ti 261 = some ⟨1, 8, .ref, [.d .n]⟩ := rfl
theorem kd261 : tab.kd 261 = some .ref := rfl
theorem ti262 : tab.ti 262 = some ⟨1, 8, .ref, [.d .n]⟩ := rfl
theorem kd262 : tab.kd 262 = some .ref := rfl
theorem ti263 : tab.ti 263 = some ⟨1, 8, .ref, [.d .n]⟩ := rfl
theorem kd263 : tab.kd 263 = some .ref := rfl
theorem ti264 : tab.ti 264 = some ⟨1, 8, .ref, [.d .n]⟩ := rfl
theorem kd264 : tab.kd 264 = some .ref := rfl
theorem ti266 : tab.ti 266 = some ⟨1, 8, .ref, [.d .n]⟩ := rfl
theorem kd266 : tab.kd 266 = some .ref := rfl
theorem ti267 : tab.ti 267 = some ⟨1, 24, (.slice 53), [.z 1]⟩ := rfl
theorem kd267 : tab.kd 267 = some (.slice 53) := rfl
theorem ti268 : tab.ti 268 = some ⟨1, 8, .ref, [.d .n]⟩ := rfl
theorem kd268 : tab.kd 268 = some .ref := rfl

set_option linter.defProp false
def tk := (And.intro (And.intro (And.intro (And.intro (And.intro (And.intro (And.intro (And.intro @ti1 (And.intro @kd1 @ti2)) (And.intro (And.intro @kd2 @ti3) (And.intro @kd3 @ti4))) (And.intro (And.intro @kd4 (And.intro @ti5 @kd5)) (And.intro (And.intro @ti9 @kd9) (And.intro @ti12 @kd12)))) (And.intro (And.intro (And.intro @ti20 (And.intro @kd20 @ti21)) (And.intro (And.intro @kd21 @ti22) (And.intro @kd22 @ti23))) (And.intro (And.intro (And.intro @kd23 @ti24) (And.intro @kd24 @ti25)) (And.intro (And.intro @kd25 @ti26) (And.intro @kd26 @ti27))))) (And.intro (And.intro (And.intro (And.intro @kd27 (And.intro @ti28 @kd28)) (And.intro (And.intro @ti29 @kd29) (And.intro @ti30 @kd30))) (And.intro (And.intro (And.intro @ti31 @kd31) (And.intro @ti32 @kd32)) (And.intro (And.intro @ti33 @kd33) (And.intro @ti34 @kd34)))) (And.intro (And.intro (And.intro @ti35 (And.intro @kd35 @ti36)) (And.intro (And.intro @kd36 @ti37) (And.intro @kd37 @ti38))) (And.intro (And.intro (And.intro @kd38 @ti40) (And.intro @kd40 @ti41)) (And.intro (And.intro @kd41 @ti42) (And.intro @kd42 @ti43)))))) (And.intro (And.intro (And.intro (And.intro (And.intro @kd43 (And.intro @ti44 @kd44)) (And.intro (And.intro @ti45 @kd45) (And.intro @ti46 @kd46))) (And.intro (And.intro @ti47 (And.intro @kd47 @ti48)) (And.intro (And.intro @kd48 @ti49) (And.intro @kd49 @ti50)))) (And.intro (And.intro (And.intro @kd50 (And.intro @ti51 @kd51)) (And.intro (And.intro @ti52 @kd52) (And.intro @ti53 @kd53))) (And.intro (And.intro (And.intro @ti54 @kd54) (And.intro @ti55 @kd55)) (And.intro (And.intro @ti56 @kd56) (And.intro @ti57 @kd57))))) (And.intro (And.intro (And.intro (And.intro @ti58 (And.intro @kd58 @ti59)) (And.intro (And.intro @kd59 @ti60) (And.intro @kd60 @ti61))) (And.intro (And.intro (And.intro @kd61 @ti62) (And.intro @kd62 @ti63)) (And.intro (And.intro @kd63 @ti64) (And.intro @kd64 @ti65)))) (And.intro (And.intro (And.intro @kd65 (And.intro @ti66 @kd66)) (And.intro (And.intro @ti67 @kd67) (And.intro @ti68 @kd68))) (And.intro (And.intro (And.intro @ti69 @kd69) (And.intro @ti70 @kd70)) (And.intro (And.intro @ti71 @kd71) (And.intro @ti72 @kd72))))))) (And.intro (And.intro (And.intro (And.intro (And.intro (And.intro @ti73 (And.intro @kd73 @ti74)) (And.intro (And.intro @kd74 @ti75) (And.intro @kd75 @ti76))) (And.intro (And.intro @kd76 (And.intro @ti77 @kd77)) (And.intro (And.intro @ti78 @kd78) (And.intro @ti79 @kd79)))) (And.intro (And.intro (And.intro @ti80 (And.intro @kd80 @ti81)) (And.intro (And.intro @kd81 @ti82) (And.intro @kd82 @ti83))) (And.intro (And.intro (And.intro @kd83 @ti84) (And.intro @kd84 @ti85)) (And.intro (And.intro @kd85 @ti86) (And.intro @kd86 @ti87))))) (And.intro (And.intro (And.intro (And.intro @kd87 (And.intro @ti88 @kd88)) (And.intro (And.intro @ti89 @kd89) (And.intro @ti90 @kd90))) (And.intro (And.intro (And.intro @ti91 @kd91) (And.intro @ti92 @kd92)) (And.intro (And.intro @ti93 @kd93) (And.intro @ti95 @kd95)))) (And.intro (And.intro (And.intro @ti96 (And.intro @kd96 @ti97)) (And.intro (And.intro @kd97 @ti99) (And.intro @kd99 @ti100))) (And.intro (And.intro (And.intro @kd100 @ti102) (And.intro @kd102 @ti103)) (And.intro (And.intro @kd103 @ti104) (And.intro @kd104 @ti105)))))) (And.intro (And.intro (And.intro (And.intro (And.intro @kd105 (And.intro @ti106 @kd106)) (And.intro (And.intro @ti107 @kd107) (And.intro @ti108 @kd108))) (And.intro (And.intro @ti109 (And.intro @kd109 @ti110)) (And.intro (And.intro @kd110 @ti111) (And.intro @kd111 @ti112)))) (And.intro (And.intro (And.intro @kd112 (And.intro @ti113 @kd113)) (And.intro (And.intro @ti114 @kd114) (And.intro @ti115 @kd115))) (And.intro (And.intro (And.intro @ti116 @kd116) (And.intro @ti117 @kd117)) (And.intro (And.intro @ti118 @kd118) (And.intro @ti119 @kd119))))) (And.intro (And.intro (And.intro (And.intro @ti120 (And.intro @kd120 @ti121)) (And.intro (And.intro @kd121 @ti123) (And.intro @kd123 @ti124))) (And.intro (And.intro (And.intro @kd124 @ti125) (And.intro @kd125 @ti126)) (And.intro (And.intro @kd126 @ti127) (And.intro @kd127 @ti128)))) (And.intro (And.intro (And.intro @kd128 (And.intro @ti129 @kd129)) (And.intro (And.intro @ti130 @kd130) (And.intro @ti131 @kd131))) (And.intro (And.intro (And.intro @ti132 @kd132) (And.intro @ti133 @kd133)) (And.intro (And.intro @ti134 @kd134) (And.intro @ti135 @kd135)))))))) (And.intro (And.intro (And.intro (And.intro (And.intro (And.intro (And.intro @ti136 (And.intro @kd136 @ti137)) (And.intro (And.intro @kd137 @ti138) (And.intro @kd138 @ti139))) (And.intro (And.intro @kd139 (And.intro @ti140 @kd140)) (And.intro (And.intro @ti141 @kd141) (And.intro @ti142 @kd142)))) (And.intro (And.intro (And.intro @ti143 (And.intro @kd143 @ti144)) (And.intro (And.intro @kd144 @ti145) (And.intro @kd145 @ti147))) (And.intro (And.intro (And.intro @kd147 @ti148) (And.intro @kd148 @ti149)) (And.intro (And.intro @kd149 @ti150) (And.intro @kd150 @ti152))))) (And.intro (And.intro (And.intro (And.intro @kd152 (And.intro @ti153 @kd153)) (And.intro (And.intro @ti154 @kd154) (And.intro @ti155 @kd155))) (And.intro (And.intro (And.intro @ti156 @kd156) (And.intro @ti157 @kd157)) (And.intro (And.intro @ti158 @kd158) (And.intro @ti159 @kd159)))) (And.intro (And.intro (And.intro @ti160 (And.intro @kd160 @ti161)) (And.intro (And.intro @kd161 @ti162) (And.intro @kd162 @ti163))) (And.intro (And.intro (And.intro @kd163 @ti164) (And.intro @kd164 @ti166)) (And.intro (And.intro @kd166 @ti167) (And.intro @kd167 @ti168)))))) (And.intro (And.intro (And.intro (And.intro (And.intro @kd168 (And.intro @ti169 @kd169)) (And.intro (And.intro @ti170 @kd170) (And.intro @ti171 @kd171))) (And.intro (And.intro @ti172 (And.intro @kd172 @ti173)) (And.intro (And.intro @kd173 @ti174) (And.intro @kd174 @ti175)))) (And.intro (And.intro (And.intro @kd175 (And.intro @ti176 @kd176)) (And.intro (And.intro @ti177 @kd177) (And.intro @ti178 @kd178))) (And.intro (And.intro (And.intro @ti179 @kd179) (And.intro @ti180 @kd180)) (And.intro (And.intro @ti181 @kd181) (And.intro @ti182 @kd182))))) (And.intro (And.intro (And.intro (And.intro @ti184 (And.intro @kd184 @ti186)) (And.intro (And.intro @kd186 @ti187) (And.intro @kd187 @ti188))) (And.intro (And.intro (And.intro @kd188 @ti189) (And.intro @kd189 @ti190)) (And.intro (And.intro @kd190 @ti191) (And.intro @kd191 @ti192)))) (And.intro (And.intro (And.intro @kd192 (And.intro @ti193 @kd193)) (And.intro (And.intro @ti195 @kd195) (And.intro @ti196 @kd196))) (And.intro (And.intro (And.intro @ti197 @kd197) (And.intro @ti198 @kd198)) (And.intro (And.intro @ti199 @kd199) (And.intro @ti200 @kd200))))))) (And.intro (And.intro (And.intro (And.intro (And.intro (And.intro @ti201 (And.intro @kd201 @ti202)) (And.intro (And.intro @kd202 @ti203) (And.intro @kd203 @ti204))) (And.intro (And.intro @kd204 (And.intro @ti205 @kd205)) (And.intro (And.intro @ti206 @kd206) (And.intro @ti207 @kd207)))) (And.intro (And.intro (And.intro @ti208 (And.intro @kd208 @ti209)) (And.intro (And.intro @kd209 @ti210) (And.intro @kd210 @ti211))) (And.intro (And.intro (And.intro @kd211 @ti212) (And.intro @kd212 @ti214)) (And.intro (And.intro @kd214 @ti216) (And.intro @kd216 @ti217))))) (And.intro (And.intro (And.intro (And.intro @kd217 (And.intro @ti218 @kd218)) (And.intro (And.intro @ti219 @kd219) (And.intro @ti220 @kd220))) (And.intro (And.intro (And.intro @ti221 @kd221) (And.intro @ti222 @kd222)) (And.intro (And.intro @ti223 @kd223) (And.intro @ti224 @kd224)))) (And.intro (And.intro (And.intro @ti225 (And.intro @kd225 @ti226)) (And.intro (And.intro @kd226 @ti227) (And.intro @kd227 @ti228))) (And.intro (And.intro (And.intro @kd228 @ti229) (And.intro @kd229 @ti231)) (And.intro (And.intro @kd231 @ti232) (And.intro @kd232 @ti233)))))) (And.intro (And.intro (And.intro (And.intro (And.intro @kd233 (And.intro @ti234 @kd234)) (And.intro (And.intro @ti235 @kd235) (And.intro @ti236 @kd236))) (And.intro (And.intro @ti238 (And.intro @kd238 @ti239)) (And.intro (And.intro @kd239 @ti240) (And.intro @kd240 @ti242)))) (And.intro (And.intro (And.intro @kd242 (And.intro @ti243 @kd243)) (And.intro (And.intro @ti244 @kd244) (And.intro @ti245 @kd245))) (And.intro (And.intro (And.intro @ti246 @kd246) (And.intro @ti247 @kd247)) (And.intro (And.intro @ti248 @kd248) (And.intro @ti249 @kd249))))) (And.intro (And.intro (And.intro (And.intro @ti250 (And.intro @kd250 @ti251)) (And.intro (And.intro @kd251 @ti253) (And.intro @kd253 @ti255))) (And.intro (And.intro (And.intro @kd255 @ti256) (And.intro @kd256 @ti257)) (And.intro (And.intro @kd257 @ti258) (And.intro @kd258 @ti259)))) (And.intro (And.intro (And.intro @kd259 (And.intro @ti261 @kd261)) (And.intro (And.intro @ti262 @kd262) (And.intro @ti263 @kd263))) (And.intro (And.intro (And.intro @ti264 @kd264) (And.intro @ti266 @kd266)) (And.intro (And.intro @ti267 @kd267) (And.intro @ti268 @kd268)))))))))
theorem mixed : prog.follows .mixedOrders = true := by decide +kernel
def md : Nat → Nat
  | 10 => 2
  | 28 => 4
  | 37 => 2
  | 38 => 2
  | 39 => 2
  | 77 => 3
  | 78 => 3
  | 83 => 1
  | 87 => 1
  | 90 => 3
  | 94 => 2
  | 164 => 3
  | 205 => 1
  | _ => 0
def sigs : Nat → Sig
  | 3 => ⟨TreeMod × Unit, Bool⟩
  | 4 => ⟨(List U8) × Unit, Bool⟩
  | 5 => ⟨TreeMod × Int × Unit, Int⟩
  | 6 => ⟨TreeMod × Unit, TreeMod⟩
  | 7 => ⟨TreeMod × Unit, TreeMod⟩
  | 8 => ⟨TreeMod × Unit, TreeMod⟩
  | 9 => ⟨TreeMod × TreeMod × Unit, Bool⟩
  | 10 => ⟨TreeMod × Int × Unit, Int × TreeMod⟩
  | 11 => ⟨TreeMod × Int × Unit, Int⟩
  | 12 => ⟨(List U8) × Unit, (List MeanMod) × Int⟩
  | 13 => ⟨TreeMod × Unit, (List FaceSig)⟩
  | 14 => ⟨TreeMod × TreeMod × Unit, Bool⟩
  | 15 => ⟨TreeMod × Unit, Int⟩
  | 16 => ⟨TreeMod × Unit, Int⟩
  | 17 => ⟨TreeMod × TreeMod × Unit, Bool⟩
  | 18 => ⟨TreeMod × (List TypeFace) × Unit, TypeFault⟩
  | 19 => ⟨TreeMod × (List TypeFace) × Unit, TypeFault⟩
  | 20 => ⟨(List FaceSig) × (List FaceSig) × Unit, Bool⟩
  | 21 => ⟨TreeMod × Unit, (List FaceSig)⟩
  | 22 => ⟨(List MeanMod) × Int × Unit, MeanEnd⟩
  | 23 => ⟨(List Int) × (List Int) × Int × Unit, Bool⟩
  | 24 => ⟨(List ByteArray) × Int × Unit, Int⟩
  | 25 => ⟨(List TreeFun) × Int × Unit, Int⟩
  | 26 => ⟨(List TreeExpr) × Int × Unit, Int⟩
  | 27 => ⟨TreeMod × Unit, Bool⟩
  | 28 => ⟨TreeExpr × Unit, TreeExpr⟩
  | 29 => ⟨(List ByteArray) × Unit, (List ByteArray)⟩
  | 30 => ⟨(List TreeFun) × Unit, (List TreeFun)⟩
  | 31 => ⟨(List TreeExpr) × Unit, (List TreeExpr)⟩
  | 32 => ⟨TreeMod × Unit, Bool⟩
  | 33 => ⟨TreeExpr × Unit, TreeExpr⟩
  | 34 => ⟨(List ByteArray) × (List ByteArray) × Unit, Bool⟩
  | 35 => ⟨(List TreeFun) × (List TreeFun) × Unit, Bool⟩
  | 36 => ⟨(List TreeExpr) × (List TreeExpr) × Unit, Bool⟩
  | 37 => ⟨(List ByteArray) × Int × Unit, Int × (List ByteArray)⟩
  | 38 => ⟨(List TreeFun) × Int × Unit, Int × (List TreeFun)⟩
  | 39 => ⟨(List TreeExpr) × Int × Unit, Int × (List TreeExpr)⟩
  | 40 => ⟨(List ByteArray) × Int × Unit, Int⟩
  | 41 => ⟨(List TreeFun) × Int × Unit, Int⟩
  | 42 => ⟨(List TreeExpr) × Int × Unit, Int⟩
  | 49 => ⟨(List FaceSig) × FaceSig × Unit, (List FaceSig)⟩
  | 50 => ⟨TreeFun × Unit, FaceSig⟩
  | 51 => ⟨(List ByteArray) × (List ByteArray) × Unit, Bool⟩
  | 52 => ⟨TreeFun × TreeFun × Unit, Bool⟩
  | 53 => ⟨TreeExpr × TreeExpr × Unit, Bool⟩
  | 54 => ⟨TreeMod × Unit, Int⟩
  | 55 => ⟨TreeMod × Unit, Int⟩
  | 56 => ⟨(List ByteArray) × (List ByteArray) × Unit, Bool⟩
  | 57 => ⟨(List TreeFun) × (List TreeFun) × Fv × Unit, Bool⟩
  | 58 => ⟨TreeFun × TreeFun × Unit, Bool⟩
  | 59 => ⟨(List TreeExpr) × (List TreeExpr) × Fv × Unit, Bool⟩
  | 60 => ⟨TreeExpr × TreeExpr × Unit, Bool⟩
  | 61 => ⟨(List TypeFace) × ByteArray × Unit, Bool⟩
  | 64 => ⟨TreeMod × (List TypeFace) × Unit, TypeFault⟩
  | 65 => ⟨TreeMod × Unit, (List FaceSig)⟩
  | 66 => ⟨(List MeanMod) × Int × Unit, Bool⟩
  | 70 => ⟨TreeFun × Int × Unit, Int⟩
  | 71 => ⟨TreeExpr × Int × Unit, Int⟩
  | 72 => ⟨(List ByteArray) × Unit, Bool⟩
  | 73 => ⟨TreeMod × Unit, Bool⟩
  | 74 => ⟨TreeFun × Unit, Bool⟩
  | 75 => ⟨TreeExpr × Unit, Bool⟩
  | 76 => ⟨ByteArray × Unit, Int⟩
  | 77 => ⟨TreeExpr × Unit, TreeExpr⟩
  | 78 => ⟨TreeExpr × Unit, TreeExpr⟩
  | 79 => ⟨TreeExpr × Unit, MeanVal × Bool⟩
  | 80 => ⟨TreeFun × Unit, TreeFun⟩
  | 81 => ⟨TreeExpr × Unit, TreeExpr⟩
  | 82 => ⟨(List ByteArray) × Unit, Bool⟩
  | 83 => ⟨(List TreeArg) × Unit, (List ByteArray)⟩
  | 84 => ⟨Int × Unit, Bool⟩
  | 85 => ⟨(List TreeArg) × Fv × Unit, Bool⟩
  | 86 => ⟨TreeArg × Unit, Bool⟩
  | 87 => ⟨TreeMod × Unit, (List TreeExpr)⟩
  | 88 => ⟨TreeExpr × Unit, Int × Int⟩
  | 89 => ⟨TreeExpr × Unit, Bool⟩
  | 90 => ⟨TreeExpr × Unit, TreeExpr⟩
  | 91 => ⟨TreeFun × TreeFun × Unit, Bool⟩
  | 92 => ⟨TreeExpr × TreeExpr × Unit, Bool⟩
  | 93 => ⟨Int × Unit, ByteArray⟩
  | 94 => ⟨(List TreeArg) × Int × Unit, Int × (List TreeArg)⟩
  | 95 => ⟨(List TreeArg) × Int × Unit, Int⟩
  | 96 => ⟨ByteArray × TreeMod × Unit, (List L22Sig)⟩
  | 99 => ⟨Int × Unit, TreeExpr⟩
  | 101 => ⟨TreeExpr × Unit, Int × Int⟩
  | 102 => ⟨(List TreeArg) × (List TreeArg) × Unit, Bool⟩
  | 103 => ⟨(List TreeArg) × ByteArray × Unit, Int × Int⟩
  | 106 => ⟨ByteArray × Unit, (List Int) × Int⟩
  | 107 => ⟨(List Int) × Int × (List Int) × Unit, Int × Int⟩
  | 108 => ⟨(List Int) × Unit, Int × Int⟩
  | 109 => ⟨TreeMod × (List TypeFace) × ByteArray × ByteArray × Unit, FaceSig × Bool⟩
  | 110 => ⟨(List TypeFace) × Fv × Unit, Bool⟩
  | 111 => ⟨TypeFace × Fv × Unit, Bool⟩
  | 112 => ⟨Typer × (List TreeArg) × TreeExpr × Unit, Int × Int⟩
  | 113 => ⟨TreeFun × Unit, FaceSig⟩
  | 115 => ⟨FaceSig × FaceSig × Unit, Int⟩
  | 116 => ⟨ByteArray × ByteArray × Unit, Int⟩
  | 117 => ⟨(List ByteArray) × ByteArray × Unit, Bool⟩
  | 118 => ⟨Int × Int × Int × Unit, Bool⟩
  | 120 => ⟨Int × Unit, MeanVal⟩
  | 121 => ⟨Bool × Unit, MeanVal⟩
  | 122 => ⟨(List Named) × Unit, Fv⟩
  | 124 => ⟨(List Named) × Unit, (List Named)⟩
  | 125 => ⟨MeanVal × Unit, Bool⟩
  | 129 => ⟨(List TreeArg) × Int × Unit, Int⟩
  | 130 => ⟨ByteArray × Unit, Bool⟩
  | 131 => ⟨Int × Unit, ByteArray⟩
  | 132 => ⟨TreeExpr × Unit, Bool⟩
  | 133 => ⟨Unit, (List ByteArray)⟩
  | 134 => ⟨ByteArray × (List MeanVal) × Unit, Bool⟩
  | 135 => ⟨ByteArray × (List MeanVal) × Unit, MeanVal × Int⟩
  | 136 => ⟨MeanVal × Unit, TreeExpr × Bool⟩
  | 137 => ⟨Int × Unit, MeanVal⟩
  | 138 => ⟨Bool × Unit, MeanVal⟩
  | 139 => ⟨(List TreeArg) × Unit, (List TreeArg)⟩
  | 140 => ⟨ByteArray × Unit, Bool⟩
  | 141 => ⟨(List TreeArg) × Fv × Unit, Int⟩
  | 142 => ⟨TreeExpr × Unit, Bool⟩
  | 143 => ⟨TreeExpr × Unit, TreeExpr × Bool⟩
  | 144 => ⟨(List TreeArg) × (List TreeArg) × Unit, Bool⟩
  | 147 => ⟨TreeFun × TreeExpr × TreeExpr × Unit, TreeExpr⟩
  | 149 => ⟨FaceSig × Unit, FaceSig⟩
  | 150 => ⟨(List TypeFace) × Fv × Unit, Int⟩
  | 151 => ⟨Typer × (List TreeArg) × TreeExpr × Unit, (List Int) × Int⟩
  | 152 => ⟨(List Int) × Unit, (List Int)⟩
  | 153 => ⟨(List TreeArg) × ByteArray × Unit, Int⟩
  | 154 => ⟨ByteArray × Unit, (List Int) × Int⟩
  | 155 => ⟨(List Int) × Int × Unit, (List Int)⟩
  | 156 => ⟨TreeMod × (List TypeFace) × ByteArray × ByteArray × Unit, FaceSig × Bool⟩
  | 157 => ⟨(List Int) × (List Int) × Unit, Bool⟩
  | 158 => ⟨(List TreeArg) × Unit, (List Int)⟩
  | 162 => ⟨(List ByteArray) × ByteArray × Unit, Int⟩
  | 164 => ⟨(List Int) × Unit, MeanVal⟩
  | 165 => ⟨ByteArray × (List MeanVal) × Unit, MeanVal × Int⟩
  | 166 => ⟨(List MeanMod) × ByteArray × Unit, TreeMod × Bool⟩
  | 167 => ⟨TreeMod × ByteArray × Unit, TreeFun × Bool⟩
  | 169 => ⟨TreeArg × Int × Unit, Int⟩
  | 170 => ⟨ByteArray × Unit, Bool⟩
  | 171 => ⟨TreeExpr × Bool × Bool × Bool × Unit, Bool⟩
  | 172 => ⟨ByteArray × Unit, Int⟩
  | 173 => ⟨Int × Int × Int × Unit, MeanVal × Int⟩
  | 174 => ⟨Int × (List MeanVal) × Unit, MeanVal × Int⟩
  | 175 => ⟨TreeArg × Unit, TreeArg⟩
  | 176 => ⟨ByteArray × Unit, Bool⟩
  | 177 => ⟨TreeExpr × Unit, Bool⟩
  | 178 => ⟨(List TreeExpr) × Fv × Unit, Bool⟩
  | 179 => ⟨TreeExpr × Unit, Bool⟩
  | 180 => ⟨TreeExpr × Unit, MeanVal × Bool⟩
  | 181 => ⟨MeanVal × Unit, TreeExpr × Bool⟩
  | 182 => ⟨TreeArg × TreeArg × Unit, Bool⟩
  | 185 => ⟨(List TreeArg) × Unit, (List TreeArg)⟩
  | 186 => ⟨(List TreeArg) × Unit, Fv⟩
  | 188 => ⟨(List TreeFun) × Fv × Unit, Int⟩
  | 189 => ⟨TreeFun × Fv × Unit, Bool⟩
  | 190 => ⟨TypeFace × Fv × Unit, Bool⟩
  | 191 => ⟨(List FaceSig) × Fv × Unit, Int⟩
  | 192 => ⟨FaceSig × Fv × Unit, Bool⟩
  | 193 => ⟨FaceSig × Unit, FaceSig⟩
  | 197 => ⟨(List FaceSig) × Int × Int × Fv × Unit, Int × Int⟩
  | 199 => ⟨(List FaceSig) × Int × Int × Fv × Unit, Bool⟩
  | 200 => ⟨(List FaceSig) × Int × Int × Int × Fv × Unit, Int⟩
  | 201 => ⟨(List FaceSig) × Int × Int × Int × Fv × Unit, Int × Bool⟩
  | 205 => ⟨(List MeanVal) × Unit, (List Int)⟩
  | 206 => ⟨ByteArray × (List MeanVal) × Unit, MeanVal × Int⟩
  | 207 => ⟨(List MeanMod) × Fv × Unit, Int⟩
  | 208 => ⟨MeanMod × Fv × Unit, Bool⟩
  | 209 => ⟨TreeFun × Fv × Unit, Bool⟩
  | 210 => ⟨(List Int) × Unit, MeanVal⟩
  | 211 => ⟨Int × Unit, Bool⟩
  | 212 => ⟨ByteArray × Unit, Int⟩
  | 213 => ⟨(List TreeExpr) × Fv × Unit, Int⟩
  | 222 => ⟨(List (List Int)) × Unit, (List Int)⟩
  | 223 => ⟨Int × Int × Unit, Bool⟩
  | 224 => ⟨ByteArray × Int × Int × Unit, MeanVal × Int⟩
  | 226 => ⟨(List Int) × Int × Unit, (List Int)⟩
  | _ => noSig
end Go.Fs.Se
