/- A part of the proof: an evaluator of the program's code over plain data, proved sound, and walks of the program's functions by it. No conditions beyond those in the theorems. -/
import Derived.Test.YtbgbnmghhmfihaaProg
import Derived.Test.YtbgbnmghhmfihaaLawGp14
set_option linter.unusedVariables false
set_option linter.unusedSimpArgs false
set_option linter.constructorNameAsVariable false
set_option linter.unusedSectionVars false
set_option linter.defProp false
set_option linter.unusedVariables false
namespace Go.Fs.Se
open Go.Proofs.Try (prog)
def tab : Tab := { types := [(1, ⟨1, 8, .ref, [.d .n]⟩),
  (2, ⟨1, 8, (.int .i64), [.d (.i .i64 0)]⟩),
  (3, ⟨1, 8, (.int .i64), [.d (.i .i64 0)]⟩),
  (4, ⟨1, 1, .bool, [.d (.b false)]⟩),
  (5, ⟨1, 1, (.int .u8), [.d (.i .u8 0)]⟩),
  (9, ⟨1, 16, .str, [.d (.s ByteArray.empty)]⟩),
  (12, ⟨1, 8, (.int .u64), [.d (.i .u64 0)]⟩),
  (20, ⟨1, 16, .ref, [.d .n]⟩),
  (21, ⟨1, 4, (.int .i32), [.d (.i .i32 0)]⟩),
  (22, ⟨1, 24, (.slice 72), [.z 5]⟩),
  (23, ⟨1, 8, .ref, [.d .n]⟩),
  (24, ⟨1, 24, (.slice 73), [.z 5]⟩),
  (25, ⟨1, 8, .ref, [.d .n]⟩),
  (26, ⟨1, 8, .ref, [.d .n]⟩),
  (27, ⟨1, 8, .ref, [.d .n]⟩),
  (28, ⟨1, 8, .ref, [.d .n]⟩),
  (29, ⟨1, 8, .ref, [.d .n]⟩),
  (30, ⟨1, 24, (.slice 111), [.z 6]⟩),
  (31, ⟨1, 24, (.slice 3), [.z 1]⟩),
  (32, ⟨2, 48, (.strct [(0, 30), (1, 31)]), [.z 6, .z 1]⟩),
  (33, ⟨2, 48, (.strct [(0, 30), (1, 31)]), [.z 6, .z 1]⟩),
  (34, ⟨1, 8, .ref, [.d .n]⟩),
  (35, ⟨1, 8, .ref, [.d .n]⟩),
  (36, ⟨1, 24, (.slice 89), [.z 6]⟩),
  (37, ⟨2, 48, (.strct [(0, 36), (1, 31)]), [.z 6, .z 1]⟩),
  (38, ⟨2, 48, (.strct [(0, 36), (1, 31)]), [.z 6, .z 1]⟩),
  (39, ⟨1, 8, .ref, [.d .n]⟩),
  (40, ⟨1, 8, .ref, [.d .n]⟩),
  (41, ⟨1, 8, .ref, [.d .n]⟩),
  (42, ⟨1, 8, .ref, [.d .n]⟩),
  (43, ⟨1, 8, .ref, [.d .n]⟩),
  (44, ⟨1, 8, .ref, [.d .n]⟩),
  (45, ⟨1, 8, .ref, [.d .n]⟩),
  (46, ⟨1, 24, (.slice 48), [.z 5]⟩),
  (47, ⟨5, 72, (.strct [(0, 3), (1, 3), (2, 9), (3, 9), (4, 46)]), [.d (.i .i64 0), .d (.i .i64 0), .d (.s ByteArray.empty), .d (.s ByteArray.empty), .z 5]⟩),
  (48, ⟨5, 72, (.strct [(0, 3), (1, 3), (2, 9), (3, 9), (4, 46)]), [.d (.i .i64 0), .d (.i .i64 0), .d (.s ByteArray.empty), .d (.s ByteArray.empty), .z 5]⟩),
  (49, ⟨1, 8, .ref, [.d .n]⟩),
  (50, ⟨1, 24, (.slice 52), [.z 5]⟩),
  (51, ⟨5, 72, (.strct [(0, 3), (1, 3), (2, 9), (3, 9), (4, 50)]), [.d (.i .i64 0), .d (.i .i64 0), .d (.s ByteArray.empty), .d (.s ByteArray.empty), .z 5]⟩),
  (52, ⟨5, 72, (.strct [(0, 3), (1, 3), (2, 9), (3, 9), (4, 50)]), [.d (.i .i64 0), .d (.i .i64 0), .d (.s ByteArray.empty), .d (.s ByteArray.empty), .z 5]⟩),
  (53, ⟨1, 8, .ref, [.d .n]⟩),
  (54, ⟨1, 8, .ref, [.d .n]⟩),
  (55, ⟨1, 8, .ref, [.d .n]⟩),
  (56, ⟨1, 8, .ref, [.d .n]⟩),
  (57, ⟨1, 8, .ref, [.d .n]⟩),
  (58, ⟨1, 24, (.slice 9), [.z 1]⟩),
  (59, ⟨1, 24, (.slice 137), [.z 9]⟩),
  (60, ⟨3, 72, (.strct [(0, 58), (1, 59), (2, 46)]), [.z 1, .z 9, .z 5]⟩),
  (61, ⟨3, 72, (.strct [(0, 58), (1, 59), (2, 46)]), [.z 1, .z 9, .z 5]⟩),
  (62, ⟨1, 8, .ref, [.d .n]⟩),
  (63, ⟨1, 8, .ref, [.d .n]⟩),
  (64, ⟨1, 24, (.slice 141), [.z 9]⟩),
  (65, ⟨3, 72, (.strct [(0, 58), (1, 64), (2, 50)]), [.z 1, .z 9, .z 5]⟩),
  (66, ⟨3, 72, (.strct [(0, 58), (1, 64), (2, 50)]), [.z 1, .z 9, .z 5]⟩),
  (67, ⟨1, 8, .ref, [.d .n]⟩),
  (68, ⟨1, 8, .ref, [.d .n]⟩),
  (69, ⟨1, 8, .ref, [.d .n]⟩),
  (70, ⟨1, 8, .ref, [.d .n]⟩),
  (71, ⟨5, 88, (.strct [(0, 9), (1, 9), (2, 58), (3, 9), (4, 9)]), [.d (.s ByteArray.empty), .d (.s ByteArray.empty), .z 1, .d (.s ByteArray.empty), .d (.s ByteArray.empty)]⟩),
  (72, ⟨5, 88, (.strct [(0, 9), (1, 9), (2, 58), (3, 9), (4, 9)]), [.d (.s ByteArray.empty), .d (.s ByteArray.empty), .z 1, .d (.s ByteArray.empty), .d (.s ByteArray.empty)]⟩),
  (73, ⟨5, 88, (.strct [(0, 9), (1, 9), (2, 58), (3, 9), (4, 9)]), [.d (.s ByteArray.empty), .d (.s ByteArray.empty), .z 1, .d (.s ByteArray.empty), .d (.s ByteArray.empty)]⟩),
  (74, ⟨1, 8, .ref, [.d .n]⟩),
  (75, ⟨1, 8, .ref, [.d .n]⟩),
  (76, ⟨1, 8, .ref, [.d .n]⟩),
  (77, ⟨1, 8, .ref, [.d .n]⟩),
  (78, ⟨1, 8, .ref, [.d .n]⟩),
  (79, ⟨1, 8, .ref, [.d .n]⟩),
  (80, ⟨1, 8, .ref, [.d .n]⟩),
  (81, ⟨1, 24, (.slice 4), [.z 1]⟩),
  (82, ⟨1, 8, .ref, [.d .n]⟩),
  (83, ⟨1, 8, .ref, [.d .n]⟩),
  (84, ⟨1, 8, .ref, [.d .n]⟩),
  (85, ⟨1, 8, .ref, [.d .n]⟩),
  (86, ⟨1, 8, .ref, [.d .n]⟩),
  (87, ⟨1, 24, (.slice 91), [.z 2]⟩),
  (88, ⟨6, 96, (.strct [(0, 9), (1, 9), (2, 31), (3, 3), (4, 3), (5, 87)]), [.d (.s ByteArray.empty), .d (.s ByteArray.empty), .z 1, .d (.i .i64 0), .d (.i .i64 0), .z 2]⟩),
  (89, ⟨6, 96, (.strct [(0, 9), (1, 9), (2, 31), (3, 3), (4, 3), (5, 87)]), [.d (.s ByteArray.empty), .d (.s ByteArray.empty), .z 1, .d (.i .i64 0), .d (.i .i64 0), .z 2]⟩),
  (90, ⟨2, 16, (.strct [(0, 3), (1, 3)]), [.d (.i .i64 0), .d (.i .i64 0)]⟩),
  (91, ⟨2, 16, (.strct [(0, 3), (1, 3)]), [.d (.i .i64 0), .d (.i .i64 0)]⟩),
  (92, ⟨1, 8, .ref, [.d .n]⟩),
  (93, ⟨1, 8, .ref, [.d .n]⟩),
  (94, ⟨1, 8, .ref, [.d .n]⟩),
  (95, ⟨1, 8, .ref, [.d .n]⟩),
  (96, ⟨1, 8, .ref, [.d .n]⟩),
  (97, ⟨1, 8, .ref, [.d .n]⟩),
  (98, ⟨1, 8, .ref, [.d .n]⟩),
  (99, ⟨1, 8, .ref, [.d .n]⟩),
  (100, ⟨1, 8, .ref, [.d .n]⟩),
  (101, ⟨1, 8, .ref, [.d .n]⟩),
  (102, ⟨1, 8, .ref, [.d .n]⟩),
  (103, ⟨1, 8, .ref, [.d .n]⟩),
  (104, ⟨1, 8, .ref, [.d .n]⟩),
  (105, ⟨1, 8, .ref, [.d .n]⟩),
  (107, ⟨1, 24, (.slice 5), [.z 1]⟩),
  (108, ⟨1, 8, .ref, [.d .n]⟩),
  (109, ⟨1, 24, (.slice 174), [.z 2]⟩),
  (110, ⟨6, 96, (.strct [(0, 9), (1, 9), (2, 31), (3, 3), (4, 3), (5, 109)]), [.d (.s ByteArray.empty), .d (.s ByteArray.empty), .z 1, .d (.i .i64 0), .d (.i .i64 0), .z 2]⟩),
  (111, ⟨6, 96, (.strct [(0, 9), (1, 9), (2, 31), (3, 3), (4, 3), (5, 109)]), [.d (.s ByteArray.empty), .d (.s ByteArray.empty), .z 1, .d (.i .i64 0), .d (.i .i64 0), .z 2]⟩),
  (112, ⟨1, 8, .ref, [.d .n]⟩),
  (113, ⟨1, 8, .ref, [.d .n]⟩),
  (114, ⟨6, 88, (.strct [(0, 9), (1, 4), (2, 31), (3, 3), (4, 3), (5, 87)]), [.d (.s ByteArray.empty), .d (.b false), .z 1, .d (.i .i64 0), .d (.i .i64 0), .z 2]⟩),
  (115, ⟨6, 88, (.strct [(0, 9), (1, 4), (2, 31), (3, 3), (4, 3), (5, 87)]), [.d (.s ByteArray.empty), .d (.b false), .z 1, .d (.i .i64 0), .d (.i .i64 0), .z 2]⟩),
  (116, ⟨1, 8, .ref, [.d .n]⟩),
  (117, ⟨1, 8, .ref, [.d .n]⟩),
  (118, ⟨1, 8, .ref, [.d .n]⟩),
  (119, ⟨1, 8, .ref, [.d .n]⟩),
  (120, ⟨1, 8, .ref, [.d .n]⟩),
  (121, ⟨1, 8, .ref, [.d .n]⟩),
  (122, ⟨1, 8, .ref, [.d .n]⟩),
  (123, ⟨1, 8, .ref, [.d .n]⟩),
  (124, ⟨1, 8, .ref, [.d .n]⟩),
  (125, ⟨1, 8, .ref, [.d .n]⟩),
  (127, ⟨1, 8, .ref, [.d .n]⟩),
  (128, ⟨1, 8, .ref, [.d .n]⟩),
  (129, ⟨3, 40, (.strct [(0, 3), (1, 3), (2, 31)]), [.d (.i .i64 0), .d (.i .i64 0), .z 1]⟩),
  (130, ⟨3, 40, (.strct [(0, 3), (1, 3), (2, 31)]), [.d (.i .i64 0), .d (.i .i64 0), .z 1]⟩),
  (132, ⟨1, 8, .ref, [.d .n]⟩),
  (133, ⟨1, 8, .ref, [.d .n]⟩),
  (134, ⟨1, 8, .ref, [.d .n]⟩),
  (135, ⟨1, 24, (.slice 183), [.z 2]⟩),
  (136, ⟨9, 128, (.strct [(0, 9), (1, 4), (2, 135), (3, 3), (4, 48)]), [.d (.s ByteArray.empty), .d (.b false), .z 2, .d (.i .i64 0), .d (.i .i64 0), .d (.i .i64 0), .d (.s ByteArray.empty), .d (.s ByteArray.empty), .z 5]⟩),
  (137, ⟨9, 128, (.strct [(0, 9), (1, 4), (2, 135), (3, 3), (4, 48)]), [.d (.s ByteArray.empty), .d (.b false), .z 2, .d (.i .i64 0), .d (.i .i64 0), .d (.i .i64 0), .d (.s ByteArray.empty), .d (.s ByteArray.empty), .z 5]⟩),
  (138, ⟨1, 8, .ref, [.d .n]⟩),
  (139, ⟨1, 24, (.slice 147), [.z 2]⟩),
  (140, ⟨9, 128, (.strct [(0, 9), (1, 4), (2, 139), (3, 3), (4, 52)]), [.d (.s ByteArray.empty), .d (.b false), .z 2, .d (.i .i64 0), .d (.i .i64 0), .d (.i .i64 0), .d (.s ByteArray.empty), .d (.s ByteArray.empty), .z 5]⟩),
  (141, ⟨9, 128, (.strct [(0, 9), (1, 4), (2, 139), (3, 3), (4, 52)]), [.d (.s ByteArray.empty), .d (.b false), .z 2, .d (.i .i64 0), .d (.i .i64 0), .d (.i .i64 0), .d (.s ByteArray.empty), .d (.s ByteArray.empty), .z 5]⟩),
  (142, ⟨1, 8, .ref, [.d .n]⟩),
  (143, ⟨1, 8, .ref, [.d .n]⟩),
  (144, ⟨1, 8, .ref, [.d .n]⟩),
  (145, ⟨1, 8, .ref, [.d .n]⟩),
  (146, ⟨2, 24, (.strct [(0, 9), (1, 3)]), [.d (.s ByteArray.empty), .d (.i .i64 0)]⟩),
  (147, ⟨2, 24, (.strct [(0, 9), (1, 3)]), [.d (.s ByteArray.empty), .d (.i .i64 0)]⟩),
  (148, ⟨1, 8, .ref, [.d .n]⟩),
  (149, ⟨1, 8, .ref, [.d .n]⟩),
  (150, ⟨1, 8, .ref, [.d .n]⟩),
  (151, ⟨1, 8, .ref, [.d .n]⟩),
  (152, ⟨1, 8, .ref, [.d .n]⟩),
  (153, ⟨1, 8, .ref, [.d .n]⟩),
  (154, ⟨1, 8, .ref, [.d .n]⟩),
  (155, ⟨1, 8, .ref, [.d .n]⟩),
  (156, ⟨1, 8, .ref, [.d .n]⟩),
  (157, ⟨1, 8, .ref, [.d .n]⟩),
  (158, ⟨1, 24, (.slice 130), [.z 3]⟩),
  (159, ⟨1, 8, .ref, [.d .n]⟩),
  (161, ⟨1, 8, .ref, [.d .n]⟩),
  (163, ⟨1, 8, .ref, [.d .n]⟩),
  (164, ⟨1, 8, .ref, [.d .n]⟩),
  (165, ⟨1, 8, .ref, [.d .n]⟩),
  (166, ⟨1, 8, .ref, [.d .n]⟩),
  (167, ⟨1, 8, .ref, [.d .n]⟩),
  (168, ⟨1, 8, .ref, [.d .n]⟩),
  (169, ⟨1, 8, .ref, [.d .n]⟩),
  (170, ⟨1, 8, .ref, [.d .n]⟩),
  (171, ⟨1, 8, .ref, [.d .n]⟩),
  (172, ⟨1, 8, .ref, [.d .n]⟩),
  (173, ⟨1, 8, .ref, [.d .n]⟩),
  (174, ⟨2, 16, (.strct [(0, 3), (1, 3)]), [.d (.i .i64 0), .d (.i .i64 0)]⟩),
  (175, ⟨1, 8, .ref, [.d .n]⟩),
  (176, ⟨1, 8, .ref, [.d .n]⟩),
  (178, ⟨1, 8, .ref, [.d .n]⟩),
  (179, ⟨1, 8, .ref, [.d .n]⟩),
  (180, ⟨1, 8, .ref, [.d .n]⟩),
  (181, ⟨1, 8, .ref, [.d .n]⟩),
  (182, ⟨1, 8, .ref, [.d .n]⟩),
  (183, ⟨2, 24, (.strct [(0, 9), (1, 3)]), [.d (.s ByteArray.empty), .d (.i .i64 0)]⟩),
  (184, ⟨1, 8, .ref, [.d .n]⟩),
  (185, ⟨1, 8, .ref, [.d .n]⟩),
  (186, ⟨1, 8, .ref, [.d .n]⟩),
  (187, ⟨1, 8, .ref, [.d .n]⟩),
  (188, ⟨1, 8, .ref, [.d .n]⟩),
  (189, ⟨1, 8, .ref, [.d .n]⟩),
  (190, ⟨1, 8, .ref, [.d .n]⟩),
  (191, ⟨1, 24, (.slice 31), [.z 1]⟩),
  (192, ⟨1, 8, .ref, [.d .n]⟩),
  (193, ⟨1, 8, .ref, [.d .n]⟩),
  (199, ⟨1, 4, (.int .u32), [.d (.i .u32 0)]⟩),
  (208, ⟨1, 8, .ref, [.d .n]⟩),
  (210, ⟨3, 48, (.strct [(0, 9), (1, 31), (2, 3)]), [.d (.s ByteArray.empty), .z 1, .d (.i .i64 0)]⟩),
  (211, ⟨3, 48, (.strct [(0, 9), (1, 31), (2, 3)]), [.d (.s ByteArray.empty), .z 1, .d (.i .i64 0)]⟩)], maps := [] }
theorem tab_ok : tab.ok Go.Proofs.Try.prog = true := by decide +kernel
theorem ti1 : tab.ti 1 = some ⟨1, 8, .ref, [.d .n]⟩ := rfl
theorem kd1 : tab.kd 1 = some .ref := rfl
theorem ti2 : tab.ti 2 = some ⟨1, 8, (.int .i64), [.d (.i .i64 0)]⟩ := rfl
theorem kd2 : tab.kd 2 = some (.int .i64) := rfl
theorem ti3 : tab.ti 3 = some ⟨1, 8, (.int .i64), [.d (.i .i64 0)]⟩ := rfl
theorem kd3 : tab.kd 3 = some (.int .i64) := rfl
theorem ti4 : tab.ti 4 = some ⟨1, 1, .bool, [.d (.b false)]⟩ := rfl
theorem kd4 : tab.kd 4 = some .bool := rfl
theorem ti5 : tab.ti 5 = some ⟨1, 1, (.int .u8), [.d (.i .u8 0)]⟩ := rfl
theorem kd5 : tab.kd 5 = some (.int .u8) := rfl
theorem ti9 : tab.ti 9 = some ⟨1, 16, .str, [.d (.s ByteArray.empty)]⟩ := rfl
theorem kd9 : tab.kd 9 = some .str := rfl
theorem ti12 : tab.ti 12 = some ⟨1, 8, (.int .u64), [.d (.i .u64 0)]⟩ := rfl
theorem kd12 : tab.kd 12 = some (.int .u64) := rfl
theorem ti20 : tab.ti 20 = some ⟨1, 16, .ref, [.d .n]⟩ := rfl
theorem kd20 : tab.kd 20 = some .ref := rfl
theorem ti21 : tab.ti 21 = some ⟨1, 4, (.int .i32), [.d (.i .i32 0)]⟩ := rfl
theorem kd21 : tab.kd 21 = some (.int .i32) := rfl
theorem ti22 : tab.ti 22 = some ⟨1, 24, (.slice 72), [.z 5]⟩ := rfl
theorem kd22 : tab.kd 22 = some (.slice 72) := rfl
theorem ti23 : tab.ti 23 = some ⟨1, 8, .ref, [.d .n]⟩ := rfl
theorem kd23 : tab.kd 23 = some .ref := rfl
theorem ti24 : tab.ti 24 = some ⟨1, 24, (.slice 73), [.z 5]⟩ := rfl
theorem kd24 : tab.kd 24 = some (.slice 73) := rfl
theorem ti25 : tab.ti 25 = some ⟨1, 8, .ref, [.d .n]⟩ := rfl
theorem kd25 : tab.kd 25 = some .ref := rfl
theorem ti26 : tab.ti 26 = some ⟨1, 8, .ref, [.d .n]⟩ := rfl
theorem kd26 : tab.kd 26 = some .ref := rfl
theorem ti27 : tab.ti 27 = some ⟨1, 8, .ref, [.d .n]⟩ := rfl
theorem kd27 : tab.kd 27 = some .ref := rfl
theorem ti28 : tab.ti 28 = some ⟨1, 8, .ref, [.d .n]⟩ := rfl
theorem kd28 : tab.kd 28 = some .ref := rfl
theorem ti29 : tab.ti 29 = some ⟨1, 8, .ref, [.d .n]⟩ := rfl
theorem kd29 : tab.kd 29 = some .ref := rfl
theorem ti30 : tab.ti 30 = some ⟨1, 24, (.slice 111), [.z 6]⟩ := rfl
theorem kd30 : tab.kd 30 = some (.slice 111) := rfl
theorem ti31 : tab.ti 31 = some ⟨1, 24, (.slice 3), [.z 1]⟩ := rfl
theorem kd31 : tab.kd 31 = some (.slice 3) := rfl
theorem ti32 : tab.ti 32 = some ⟨2, 48, (.strct [(0, 30), (1, 31)]), [.z 6, .z 1]⟩ := rfl
theorem kd32 : tab.kd 32 = some (.strct [(0, 30), (1, 31)]) := rfl
theorem ti33 : tab.ti 33 = some ⟨2, 48, (.strct [(0, 30), (1, 31)]), [.z 6, .z 1]⟩ := rfl
theorem kd33 : tab.kd 33 = some (.strct [(0, 30), (1, 31)]) := rfl
theorem ti34 : tab.ti 34 = some ⟨1, 8, .ref, [.d .n]⟩ := rfl
theorem kd34 : tab.kd 34 = some .ref := rfl
theorem ti35 : tab.ti 35 = some ⟨1, 8, .ref, [.d .n]⟩ := rfl
theorem kd35 : tab.kd 35 = some .ref := rfl
theorem ti36 : tab.ti 36 = some ⟨1, 24, (.slice 89), [.z 6]⟩ := rfl
theorem kd36 : tab.kd 36 = some (.slice 89) := rfl
theorem ti37 : tab.ti 37 = some ⟨2, 48, (.strct [(0, 36), (1, 31)]), [.z 6, .z 1]⟩ := rfl
theorem kd37 : tab.kd 37 = some (.strct [(0, 36), (1, 31)]) := rfl
theorem ti38 : tab.ti 38 = some ⟨2, 48, (.strct [(0, 36), (1, 31)]), [.z 6, .z 1]⟩ := rfl
theorem kd38 : tab.kd 38 = some (.strct [(0, 36), (1, 31)]) := rfl
theorem ti39 : tab.ti 39 = some ⟨1, 8, .ref, [.d .n]⟩ := rfl
theorem kd39 : tab.kd 39 = some .ref := rfl
theorem ti40 : tab.ti 40 = some ⟨1, 8, .ref, [.d .n]⟩ := rfl
theorem kd40 : tab.kd 40 = some .ref := rfl
theorem ti41 : tab.ti 41 = some ⟨1, 8, .ref, [.d .n]⟩ := rfl
theorem kd41 : tab.kd 41 = some .ref := rfl
theorem ti42 : tab.ti 42 = some ⟨1, 8, .ref, [.d .n]⟩ := rfl
theorem kd42 : tab.kd 42 = some .ref := rfl
theorem ti43 : tab.ti 43 = some ⟨1, 8, .ref, [.d .n]⟩ := rfl
theorem kd43 : tab.kd 43 = some .ref := rfl
theorem ti44 : tab.ti 44 = some ⟨1, 8, .ref, [.d .n]⟩ := rfl
theorem kd44 : tab.kd 44 = some .ref := rfl
theorem ti45 : tab.ti 45 = some ⟨1, 8, .ref, [.d .n]⟩ := rfl
theorem kd45 : tab.kd 45 = some .ref := rfl
theorem ti46 : tab.ti 46 = some ⟨1, 24, (.slice 48), [.z 5]⟩ := rfl
theorem kd46 : tab.kd 46 = some (.slice 48) := rfl
theorem ti47 : tab.ti 47 = some ⟨5, 72, (.strct [(0, 3), (1, 3), (2, 9), (3, 9), (4, 46)]), [.d (.i .i64 0), .d (.i .i64 0), .d (.s ByteArray.empty), .d (.s ByteArray.empty), .z 5]⟩ := rfl
theorem kd47 : tab.kd 47 = some (.strct [(0, 3), (1, 3), (2, 9), (3, 9), (4, 46)]) := rfl
theorem ti48 : tab.ti 48 = some ⟨5, 72, (.strct [(0, 3), (1, 3), (2, 9), (3, 9), (4, 46)]), [.d (.i .i64 0), .d (.i .i64 0), .d (.s ByteArray.empty), .d (.s ByteArray.empty), .z 5]⟩ := rfl
theorem kd48 : tab.kd 48 = some (.strct [(0, 3), (1, 3), (2, 9), (3, 9), (4, 46)]) := rfl
theorem ti49 : tab.ti 49 = some ⟨1, 8, .ref, [.d .n]⟩ := rfl
theorem kd49 : tab.kd 49 = some .ref := rfl
theorem ti50 : tab.ti 50 = some ⟨1, 24, (.slice 52), [.z 5]⟩ := rfl
theorem kd50 : tab.kd 50 = some (.slice 52) := rfl
theorem ti51 : tab.ti 51 = some ⟨5, 72, (.strct [(0, 3), (1, 3), (2, 9), (3, 9), (4, 50)]), [.d (.i .i64 0), .d (.i .i64 0), .d (.s ByteArray.empty), .d (.s ByteArray.empty), .z 5]⟩ := rfl
theorem kd51 : tab.kd 51 = some (.strct [(0, 3), (1, 3), (2, 9), (3, 9), (4, 50)]) := rfl
theorem ti52 : tab.ti 52 = some ⟨5, 72, (.strct [(0, 3), (1, 3), (2, 9), (3, 9), (4, 50)]), [.d (.i .i64 0), .d (.i .i64 0), .d (.s ByteArray.empty), .d (.s ByteArray.empty), .z 5]⟩ := rfl
theorem kd52 : tab.kd 52 = some (.strct [(0, 3), (1, 3), (2, 9), (3, 9), (4, 50)]) := rfl
theorem ti53 : tab.ti 53 = some ⟨1, 8, .ref, [.d .n]⟩ := rfl
theorem kd53 : tab.kd 53 = some .ref := rfl
theorem ti54 : tab.ti 54 = some ⟨1, 8, .ref, [.d .n]⟩ := rfl
theorem kd54 : tab.kd 54 = some .ref := rfl
theorem ti55 : tab.ti 55 = some ⟨1, 8, .ref, [.d .n]⟩ := rfl
theorem kd55 : tab.kd 55 = some .ref := rfl
theorem ti56 : tab.ti 56 = some ⟨1, 8, .ref, [.d .n]⟩ := rfl
theorem kd56 : tab.kd 56 = some .ref := rfl
theorem ti57 : tab.ti 57 = some ⟨1, 8, .ref, [.d .n]⟩ := rfl
theorem kd57 : tab.kd 57 = some .ref := rfl
theorem ti58 : tab.ti 58 = some ⟨1, 24, (.slice 9), [.z 1]⟩ := rfl
theorem kd58 : tab.kd 58 = some (.slice 9) := rfl
theorem ti59 : tab.ti 59 = some ⟨1, 24, (.slice 137), [.z 9]⟩ := rfl
theorem kd59 : tab.kd 59 = some (.slice 137) := rfl
theorem ti60 : tab.ti 60 = some ⟨3, 72, (.strct [(0, 58), (1, 59), (2, 46)]), [.z 1, .z 9, .z 5]⟩ := rfl
theorem kd60 : tab.kd 60 = some (.strct [(0, 58), (1, 59), (2, 46)]) := rfl
theorem ti61 : tab.ti 61 = some ⟨3, 72, (.strct [(0, 58), (1, 59), (2, 46)]), [.z 1, .z 9, .z 5]⟩ := rfl
theorem kd61 : tab.kd 61 = some (.strct [(0, 58), (1, 59), (2, 46)]) := rfl
theorem ti62 : tab.ti 62 = some ⟨1, 8, .ref, [.d .n]⟩ := rfl
theorem kd62 : tab.kd 62 = some .ref := rfl
theorem ti63 : tab.ti 63 = some ⟨1, 8, .ref, [.d .n]⟩ := rfl
theorem kd63 : tab.kd 63 = some .ref := rfl
theorem ti64 : tab.ti 64 = some ⟨1, 24, (.slice 141), [.z 9]⟩ := rfl
theorem kd64 : tab.kd 64 = some (.slice 141) := rfl
theorem ti65 : tab.ti 65 = some ⟨3, 72, (.strct [(0, 58), (1, 64), (2, 50)]), [.z 1, .z 9, .z 5]⟩ := rfl
theorem kd65 : tab.kd 65 = some (.strct [(0, 58), (1, 64), (2, 50)]) := rfl
theorem ti66 : tab.ti 66 = some ⟨3, 72, (.strct [(0, 58), (1, 64), (2, 50)]), [.z 1, .z 9, .z 5]⟩ := rfl
theorem kd66 : tab.kd 66 = some (.strct [(0, 58), (1, 64), (2, 50)]) := rfl
theorem ti67 : tab.ti 67 = some ⟨1, 8, .ref, [.d .n]⟩ := rfl
theorem kd67 : tab.kd 67 = some .ref := rfl
theorem ti68 : tab.ti 68 = some ⟨1, 8, .ref, [.d .n]⟩ := rfl
theorem kd68 : tab.kd 68 = some .ref := rfl
theorem ti69 : tab.ti 69 = some ⟨1, 8, .ref, [.d .n]⟩ := rfl
theorem kd69 : tab.kd 69 = some .ref := rfl
theorem ti70 : tab.ti 70 = some ⟨1, 8, .ref, [.d .n]⟩ := rfl
theorem kd70 : tab.kd 70 = some .ref := rfl
theorem ti71 : tab.ti 71 = some ⟨5, 88, (.strct [(0, 9), (1, 9), (2, 58), (3, 9), (4, 9)]), [.d (.s ByteArray.empty), .d (.s ByteArray.empty), .z 1, .d (.s ByteArray.empty), .d (.s ByteArray.empty)]⟩ := rfl
theorem kd71 : tab.kd 71 = some (.strct [(0, 9), (1, 9), (2, 58), (3, 9), (4, 9)]) := rfl
theorem ti72 : tab.ti 72 = some ⟨5, 88, (.strct [(0, 9), (1, 9), (2, 58), (3, 9), (4, 9)]), [.d (.s ByteArray.empty), .d (.s ByteArray.empty), .z 1, .d (.s ByteArray.empty), .d (.s ByteArray.empty)]⟩ := rfl
theorem kd72 : tab.kd 72 = some (.strct [(0, 9), (1, 9), (2, 58), (3, 9), (4, 9)]) := rfl
theorem ti73 : tab.ti 73 = some ⟨5, 88, (.strct [(0, 9), (1, 9), (2, 58), (3, 9), (4, 9)]), [.d (.s ByteArray.empty), .d (.s ByteArray.empty), .z 1, .d (.s ByteArray.empty), .d (.s ByteArray.empty)]⟩ := rfl
theorem kd73 : tab.kd 73 = some (.strct [(0, 9), (1, 9), (2, 58), (3, 9), (4, 9)]) := rfl
theorem ti74 : tab.ti 74 = some ⟨1, 8, .ref, [.d .n]⟩ := rfl
theorem kd74 : tab.kd 74 = some .ref := rfl
theorem ti75 : tab.ti 75 = some ⟨1, 8, .ref, [.d .n]⟩ := rfl
theorem kd75 : tab.kd 75 = some .ref := rfl
theorem ti76 : tab.ti 76 = some ⟨1, 8, .ref, [.d .n]⟩ := rfl
theorem kd76 : tab.kd 76 = some .ref := rfl
theorem ti77 : tab.ti 77 = some ⟨1, 8, .ref, [.d .n]⟩ := rfl
theorem kd77 : tab.kd 77 = some .ref := rfl
theorem ti78 : tab.ti 78 = some ⟨1, 8, .ref, [.d .n]⟩ := rfl
theorem kd78 : tab.kd 78 = some .ref := rfl
theorem ti79 : tab.ti 79 = some ⟨1, 8, .ref, [.d .n]⟩ := rfl
theorem kd79 : tab.kd 79 = some .ref := rfl
theorem ti80 : tab.ti 80 = some ⟨1, 8, .ref, [.d .n]⟩ := rfl
theorem kd80 : tab.kd 80 = some .ref := rfl
theorem ti81 : tab.ti 81 = some ⟨1, 24, (.slice 4), [.z 1]⟩ := rfl
theorem kd81 : tab.kd 81 = some (.slice 4) := rfl
theorem ti82 : tab.ti 82 = some ⟨1, 8, .ref, [.d .n]⟩ := rfl
theorem kd82 : tab.kd 82 = some .ref := rfl
theorem ti83 : tab.ti 83 = some ⟨1, 8, .ref, [.d .n]⟩ := rfl
theorem kd83 : tab.kd 83 = some .ref := rfl
theorem ti84 : tab.ti 84 = some ⟨1, 8, .ref, [.d .n]⟩ := rfl
theorem kd84 : tab.kd 84 = some .ref := rfl
theorem ti85 : tab.ti 85 = some ⟨1, 8, .ref, [.d .n]⟩ := rfl
theorem kd85 : tab.kd 85 = some .ref := rfl
theorem ti86 : tab.ti 86 = some ⟨1, 8, .ref, [.d .n]⟩ := rfl
theorem kd86 : tab.kd 86 = some .ref := rfl
theorem ti87 : tab.ti 87 = some ⟨1, 24, (.slice 91), [.z 2]⟩ := rfl
theorem kd87 : tab.kd 87 = some (.slice 91) := rfl
theorem ti88 : tab.ti 88 = some ⟨6, 96, (.strct [(0, 9), (1, 9), (2, 31), (3, 3), (4, 3), (5, 87)]), [.d (.s ByteArray.empty), .d (.s ByteArray.empty), .z 1, .d (.i .i64 0), .d (.i .i64 0), .z 2]⟩ := rfl
theorem kd88 : tab.kd 88 = some (.strct [(0, 9), (1, 9), (2, 31), (3, 3), (4, 3), (5, 87)]) := rfl
theorem ti89 : tab.ti 89 = some ⟨6, 96, (.strct [(0, 9), (1, 9), (2, 31), (3, 3), (4, 3), (5, 87)]), [.d (.s ByteArray.empty), .d (.s ByteArray.empty), .z 1, .d (.i .i64 0), .d (.i .i64 0), .z 2]⟩ := rfl
theorem kd89 : tab.kd 89 = some (.strct [(0, 9), (1, 9), (2, 31), (3, 3), (4, 3), (5, 87)]) := rfl
theorem ti90 : tab.ti 90 = some ⟨2, 16, (.strct [(0, 3), (1, 3)]), [.d (.i .i64 0), .d (.i .i64 0)]⟩ := rfl
theorem kd90 : tab.kd 90 = some (.strct [(0, 3), (1, 3)]) := rfl
theorem ti91 : tab.ti 91 = some ⟨2, 16, (.strct [(0, 3), (1, 3)]), [.d (.i .i64 0), .d (.i .i64 0)]⟩ := rfl
theorem kd91 : tab.kd 91 = some (.strct [(0, 3), (1, 3)]) := rfl
theorem ti92 : tab.ti 92 = some ⟨1, 8, .ref, [.d .n]⟩ := rfl
theorem kd92 : tab.kd 92 = some .ref := rfl
theorem ti93 : tab.ti 93 = some ⟨1, 8, .ref, [.d .n]⟩ := rfl
theorem kd93 : tab.kd 93 = some .ref := rfl
theorem ti94 : tab.ti 94 = some ⟨1, 8, .ref, [.d .n]⟩ := rfl
theorem kd94 : tab.kd 94 = some .ref := rfl
theorem ti95 : tab.ti 95 = some ⟨1, 8, .ref, [.d .n]⟩ := rfl
theorem kd95 : tab.kd 95 = some .ref := rfl
theorem ti96 : tab.ti 96 = some ⟨1, 8, .ref, [.d .n]⟩ := rfl
theorem kd96 : tab.kd 96 = some .ref := rfl
theorem ti97 : tab.ti 97 = some ⟨1, 8, .ref, [.d .n]⟩ := rfl
theorem kd97 : tab.kd 97 = some .ref := rfl
theorem ti98 : tab.ti 98 = some ⟨1, 8, .ref, [.d .n]⟩ := rfl
theorem kd98 : tab.kd 98 = some .ref := rfl
theorem ti99 : tab.ti 99 = some ⟨1, 8, .ref, [.d .n]⟩ := rfl
theorem kd99 : tab.kd 99 = some .ref := rfl
theorem ti100 : tab.ti 100 = some ⟨1, 8, .ref, [.d .n]⟩ := rfl
theorem kd100 : tab.kd 100 = some .ref := rfl
theorem ti101 : tab.ti 101 = some ⟨1, 8, .ref, [.d .n]⟩ := rfl
theorem kd101 : tab.kd 101 = some .ref := rfl
theorem ti102 : tab.ti 102 = some ⟨1, 8, .ref, [.d .n]⟩ := rfl
theorem kd102 : tab.kd 102 = some .ref := rfl
theorem ti103 : tab.ti 103 = some ⟨1, 8, .ref, [.d .n]⟩ := rfl
theorem kd103 : tab.kd 103 = some .ref := rfl
theorem ti104 : tab.ti 104 = some ⟨1, 8, .ref, [.d .n]⟩ := rfl
theorem kd104 : tab.kd 104 = some .ref := rfl
theorem ti105 : tab.ti 105 = some ⟨1, 8, .ref, [.d .n]⟩ := rfl
theorem kd105 : tab.kd 105 = some .ref := rfl
theorem ti107 : tab.ti 107 = some ⟨1, 24, (.slice 5), [.z 1]⟩ := rfl
theorem kd107 : tab.kd 107 = some (.slice 5) := rfl
theorem ti108 : tab.ti 108 = some ⟨1, 8, .ref, [.d .n]⟩ := rfl
theorem kd108 : tab.kd 108 = some .ref := rfl
theorem ti109 : tab.ti 109 = some ⟨1, 24, (.slice 174), [.z 2]⟩ := rfl
theorem kd109 : tab.kd 109 = some (.slice 174) := rfl
theorem ti110 : tab.ti 110 = some ⟨6, 96, (.strct [(0, 9), (1, 9), (2, 31), (3, 3), (4, 3), (5, 109)]), [.d (.s ByteArray.empty), .d (.s ByteArray.empty), .z 1, .d (.i .i64 0), .d (.i .i64 0), .z 2]⟩ := rfl
theorem kd110 : tab.kd 110 = some (.strct [(0, 9), (1, 9), (2, 31), (3, 3), (4, 3), (5, 109)]) := rfl
theorem ti111 : tab.ti 111 = some ⟨6, 96, (.strct [(0, 9), (1, 9), (2, 31), (3, 3), (4, 3), (5, 109)]), [.d (.s ByteArray.empty), .d (.s ByteArray.empty), .z 1, .d (.i .i64 0), .d (.i .i64 0), .z 2]⟩ := rfl
theorem kd111 : tab.kd 111 = some (.strct [(0, 9), (1, 9), (2, 31), (3, 3), (4, 3), (5, 109)]) := rfl
theorem ti112 : tab.ti 112 = some ⟨1, 8, .ref, [.d .n]⟩ := rfl
theorem kd112 : tab.kd 112 = some .ref := rfl
theorem ti113 : tab.ti 113 = some ⟨1, 8, .ref, [.d .n]⟩ := rfl
theorem kd113 : tab.kd 113 = some .ref := rfl
theorem ti114 : tab.ti 114 = some ⟨6, 88, (.strct [(0, 9), (1, 4), (2, 31), (3, 3), (4, 3), (5, 87)]), [.d (.s ByteArray.empty), .d (.b false), .z 1, .d (.i .i64 0), .d (.i .i64 0), .z 2]⟩ := rfl
theorem kd114 : tab.kd 114 = some (.strct [(0, 9), (1, 4), (2, 31), (3, 3), (4, 3), (5, 87)]) := rfl
theorem ti115 : tab.ti 115 = some ⟨6, 88, (.strct [(0, 9), (1, 4), (2, 31), (3, 3), (4, 3), (5, 87)]), [.d (.s ByteArray.empty), .d (.b false), .z 1, .d (.i .i64 0), .d (.i .i64 0), .z 2]⟩ := rfl
theorem kd115 : tab.kd 115 = some (.strct [(0, 9), (1, 4), (2, 31), (3, 3), (4, 3), (5, 87)]) := rfl
theorem ti116 : tab.ti 116 = some ⟨1, 8, .ref, [.d .n]⟩ := rfl
theorem kd116 : tab.kd 116 = some .ref := rfl
theorem ti117 : tab.ti 117 = some ⟨1, 8, .ref, [.d .n]⟩ := rfl
theorem kd117 : tab.kd 117 = some .ref := rfl
theorem ti118 : tab.ti 118 = some ⟨1, 8, .ref, [.d .n]⟩ := rfl
theorem kd118 : tab.kd 118 = some .ref := rfl
theorem ti119 : tab.ti 119 = some ⟨1, 8, .ref, [.d .n]⟩ := rfl
theorem kd119 : tab.kd 119 = some .ref := rfl
theorem ti120 : tab.ti 120 = some ⟨1, 8, .ref, [.d .n]⟩ := rfl
theorem kd120 : tab.kd 120 = some .ref := rfl
theorem ti121 : tab.ti 121 = some ⟨1, 8, .ref, [.d .n]⟩ := rfl
theorem kd121 : tab.kd 121 = some .ref := rfl
theorem ti122 : tab.ti 122 = some ⟨1, 8, .ref, [.d .n]⟩ := rfl
theorem kd122 : tab.kd 122 = some .ref := rfl
theorem ti123 : tab.ti 123 = some ⟨1, 8, .ref, [.d .n]⟩ := rfl
theorem kd123 : tab.kd 123 = some .ref := rfl
theorem ti124 : tab.ti 124 = some ⟨1, 8, .ref, [.d .n]⟩ := rfl
theorem kd124 : tab.kd 124 = some .ref := rfl
theorem ti125 : tab.ti 125 = some ⟨1, 8, .ref, [.d .n]⟩ := rfl
theorem kd125 : tab.kd 125 = some .ref := rfl
theorem ti127 : tab.ti 127 = some ⟨1, 8, .ref, [.d .n]⟩ := rfl
theorem kd127 : tab.kd 127 = some .ref := rfl
theorem ti128 : tab.ti 128 = some ⟨1, 8, .ref, [.d .n]⟩ := rfl
theorem kd128 : tab.kd 128 = some .ref := rfl
theorem ti129 : tab.ti 129 = some ⟨3, 40, (.strct [(0, 3), (1, 3), (2, 31)]), [.d (.i .i64 0), .d (.i .i64 0), .z 1]⟩ := rfl
theorem kd129 : tab.kd 129 = some (.strct [(0, 3), (1, 3), (2, 31)]) := rfl
theorem ti130 : tab.ti 130 = some ⟨3, 40, (.strct [(0, 3), (1, 3), (2, 31)]), [.d (.i .i64 0), .d (.i .i64 0), .z 1]⟩ := rfl
theorem kd130 : tab.kd 130 = some (.strct [(0, 3), (1, 3), (2, 31)]) := rfl
theorem ti132 : tab.ti 132 = some ⟨1, 8, .ref, [.d .n]⟩ := rfl
theorem kd132 : tab.kd 132 = some .ref := rfl
theorem ti133 : tab.ti 133 = some ⟨1, 8, .ref, [.d .n]⟩ := rfl
theorem kd133 : tab.kd 133 = some .ref := rfl
theorem ti134 : tab.ti 134 = some ⟨1, 8, .ref, [.d .n]⟩ := rfl
theorem kd134 : tab.kd 134 = some .ref := rfl
theorem ti135 : tab.ti 135 = some ⟨1, 24, (.slice 183), [.z 2]⟩ := rfl
theorem kd135 : tab.kd 135 = some (.slice 183) := rfl
theorem ti136 : tab.ti 136 = some ⟨9, 128, (.strct [(0, 9), (1, 4), (2, 135), (3, 3), (4, 48)]), [.d (.s ByteArray.empty), .d (.b false), .z 2, .d (.i .i64 0), .d (.i .i64 0), .d (.i .i64 0), .d (.s ByteArray.empty), .d (.s ByteArray.empty), .z 5]⟩ := rfl
theorem kd136 : tab.kd 136 = some (.strct [(0, 9), (1, 4), (2, 135), (3, 3), (4, 48)]) := rfl
theorem ti137 : tab.ti 137 = some ⟨9, 128, (.strct [(0, 9), (1, 4), (2, 135), (3, 3), (4, 48)]), [.d (.s ByteArray.empty), .d (.b false), .z 2, .d (.i .i64 0), .d (.i .i64 0), .d (.i .i64 0), .d (.s ByteArray.empty), .d (.s ByteArray.empty), .z 5]⟩ := rfl
theorem kd137 : tab.kd 137 = some (.strct [(0, 9), (1, 4), (2, 135), (3, 3), (4, 48)]) := rfl
theorem ti138 : tab.ti 138 = some ⟨1, 8, .ref, [.d .n]⟩ := rfl
theorem kd138 : tab.kd 138 = some .ref := rfl
theorem ti139 : tab.ti 139 = some ⟨1, 24, (.slice 147), [.z 2]⟩ := rfl
theorem kd139 : tab.kd 139 = some (.slice 147) := rfl
theorem ti140 : tab.ti 140 = some ⟨9, 128, (.strct [(0, 9), (1, 4), (2, 139), (3, 3), (4, 52)]), [.d (.s ByteArray.empty), .d (.b false), .z 2, .d (.i .i64 0), .d (.i .i64 0), .d (.i .i64 0), .d (.s ByteArray.empty), .d (.s ByteArray.empty), .z 5]⟩ := rfl
theorem kd140 : tab.kd 140 = some (.strct [(0, 9), (1, 4), (2, 139), (3, 3), (4, 52)]) := rfl
theorem ti141 : tab.ti 141 = some ⟨9, 128, (.strct [(0, 9), (1, 4), (2, 139), (3, 3), (4, 52)]), [.d (.s ByteArray.empty), .d (.b false), .z 2, .d (.i .i64 0), .d (.i .i64 0), .d (.i .i64 0), .d (.s ByteArray.empty), .d (.s ByteArray.empty), .z 5]⟩ := rfl
theorem kd141 : tab.kd 141 = some (.strct [(0, 9), (1, 4), (2, 139), (3, 3), (4, 52)]) := rfl
theorem ti142 : tab.ti 142 = some ⟨1, 8, .ref, [.d .n]⟩ := rfl
theorem kd142 : tab.kd 142 = some .ref := rfl
theorem ti143 : tab.ti 143 = some ⟨1, 8, .ref, [.d .n]⟩ := rfl
theorem kd143 : tab.kd 143 = some .ref := rfl
theorem ti144 : tab.ti 144 = some ⟨1, 8, .ref, [.d .n]⟩ := rfl
theorem kd144 : tab.kd 144 = some .ref := rfl
theorem ti145 : tab.ti 145 = some ⟨1, 8, .ref, [.d .n]⟩ := rfl
theorem kd145 : tab.kd 145 = some .ref := rfl
theorem ti146 : tab.ti 146 = some ⟨2, 24, (.strct [(0, 9), (1, 3)]), [.d (.s ByteArray.empty), .d (.i .i64 0)]⟩ := rfl
theorem kd146 : tab.kd 146 = some (.strct [(0, 9), (1, 3)]) := rfl
theorem ti147 : tab.ti 147 = some ⟨2, 24, (.strct [(0, 9), (1, 3)]), [.d (.s ByteArray.empty), .d (.i .i64 0)]⟩ := rfl
theorem kd147 : tab.kd 147 = some (.strct [(0, 9), (1, 3)]) := rfl
theorem ti148 : tab.ti 148 = some ⟨1, 8, .ref, [.d .n]⟩ := rfl
theorem kd148 : tab.kd 148 = some .ref := rfl
theorem ti149 : tab.ti 149 = some ⟨1, 8, .ref, [.d .n]⟩ := rfl
theorem kd149 : tab.kd 149 = some .ref := rfl
theorem ti150 : tab.ti 150 = some ⟨1, 8, .ref, [.d .n]⟩ := rfl
theorem kd150 : tab.kd 150 = some .ref := rfl
theorem ti151 : tab.ti 151 = some ⟨1, 8, .ref, [.d .n]⟩ := rfl
theorem kd151 : tab.kd 151 = some .ref := rfl
theorem ti152 : tab.ti 152 = some ⟨1, 8, .ref, [.d .n]⟩ := rfl
theorem kd152 : tab.kd 152 = some .ref := rfl
theorem ti153 : tab.ti 153 = some ⟨1, 8, .ref, [.d .n]⟩ := rfl
theorem kd153 : tab.kd 153 = some .ref := rfl
theorem ti154 : tab.ti 154 = some ⟨1, 8, .ref, [.d .n]⟩ := rfl
theorem kd154 : tab.kd 154 = some .ref := rfl
theorem ti155 : tab.ti 155 = some ⟨1, 8, .ref, [.d .n]⟩ := rfl
theorem kd155 : tab.kd 155 = some .ref := rfl
theorem ti156 : tab.ti 156 = some ⟨1, 8, .ref, [.d .n]⟩ := rfl
theorem kd156 : tab.kd 156 = some .ref := rfl
theorem ti157 : tab.ti 157 = some ⟨1, 8, .ref, [.d .n]⟩ := rfl
theorem kd157 : tab.kd 157 = some .ref := rfl
theorem ti158 : tab.ti 158 = some ⟨1, 24, (.slice 130), [.z 3]⟩ := rfl
theorem kd158 : tab.kd 158 = some (.slice 130) := rfl
theorem ti159 : tab.ti 159 = some ⟨1, 8, .ref, [.d .n]⟩ := rfl
theorem kd159 : tab.kd 159 = some .ref := rfl
theorem ti161 : tab.ti 161 = some ⟨1, 8, .ref, [.d .n]⟩ := rfl
theorem kd161 : tab.kd 161 = some .ref := rfl
theorem ti163 : tab.ti 163 = some ⟨1, 8, .ref, [.d .n]⟩ := rfl
theorem kd163 : tab.kd 163 = some .ref := rfl
theorem ti164 : tab.ti 164 = some ⟨1, 8, .ref, [.d .n]⟩ := rfl
theorem kd164 : tab.kd 164 = some .ref := rfl
theorem ti165 : tab.ti 165 = some ⟨1, 8, .ref, [.d .n]⟩ := rfl
theorem kd165 : tab.kd 165 = some .ref := rfl
theorem ti166 : tab.ti 166 = some ⟨1, 8, .ref, [.d .n]⟩ := rfl
theorem kd166 : tab.kd 166 = some .ref := rfl
theorem ti167 : tab.ti 167 = some ⟨1, 8, .ref, [.d .n]⟩ := rfl
theorem kd167 : tab.kd 167 = some .ref := rfl
theorem ti168 : tab.ti 168 = some ⟨1, 8, .ref, [.d .n]⟩ := rfl
theorem kd168 : tab.kd 168 = some .ref := rfl
theorem ti169 : tab.ti 169 = some ⟨1, 8, .ref, [.d .n]⟩ := rfl
theorem kd169 : tab.kd 169 = some .ref := rfl
theorem ti170 : tab.ti 170 = some ⟨1, 8, .ref, [.d .n]⟩ := rfl
theorem kd170 : tab.kd 170 = some .ref := rfl
theorem ti171 : tab.ti 171 = some ⟨1, 8, .ref, [.d .n]⟩ := rfl
theorem kd171 : tab.kd 171 = some .ref := rfl
theorem ti172 : tab.ti 172 = some ⟨1, 8, .ref, [.d .n]⟩ := rfl
theorem kd172 : tab.kd 172 = some .ref := rfl
theorem ti173 : tab.ti 173 = some ⟨1, 8, .ref, [.d .n]⟩ := rfl
theorem kd173 : tab.kd 173 = some .ref := rfl
theorem ti174 : tab.ti 174 = some ⟨2, 16, (.strct [(0, 3), (1, 3)]), [.d (.i .i64 0), .d (.i .i64 0)]⟩ := rfl
theorem kd174 : tab.kd 174 = some (.strct [(0, 3), (1, 3)]) := rfl
theorem ti175 : tab.ti 175 = some ⟨1, 8, .ref, [.d .n]⟩ := rfl
theorem kd175 : tab.kd 175 = some .ref := rfl
theorem ti176 : tab.ti 176 = some ⟨1, 8, .ref, [.d .n]⟩ := rfl
theorem kd176 : tab.kd 176 = some .ref := rfl
theorem ti178 : tab.ti 178 = some ⟨1, 8, .ref, [.d .n]⟩ := rfl
theorem kd178 : tab.kd 178 = some .ref := rfl
theorem ti179 : tab.ti 179 = some ⟨1, 8, .ref, [.d .n]⟩ := rfl
theorem kd179 : tab.kd 179 = some .ref := rfl
theorem ti180 : tab.ti 180 = some ⟨1, 8, .ref, [.d .n]⟩ := rfl
theorem kd180 : tab.kd 180 = some .ref := rfl
theorem ti181 : tab.ti 181 = some ⟨1, 8, .ref, [.d .n]⟩ := rfl
theorem kd181 : tab.kd 181 = some .ref := rfl
theorem ti182 : tab.ti 182 = some ⟨1, 8, .ref, [.d .n]⟩ := rfl
theorem kd182 : tab.kd 182 = some .ref := rfl
theorem ti183 : tab.ti 183 = some ⟨2, 24, (.strct [(0, 9), (1, 3)]), [.d (.s ByteArray.empty), .d (.i .i64 0)]⟩ := rfl
theorem kd183 : tab.kd 183 = some (.strct [(0, 9), (1, 3)]) := rfl
theorem ti184 : tab.ti 184 = some ⟨1, 8, .ref, [.d .n]⟩ := rfl
theorem kd184 : tab.kd 184 = some .ref := rfl
theorem ti185 : tab.ti 185 = some ⟨1, 8, .ref, [.d .n]⟩ := rfl
theorem kd185 : tab.kd 185 = some .ref := rfl
theorem ti186 : tab.ti 186 = some ⟨1, 8, .ref, [.d .n]⟩ := rfl
theorem kd186 : tab.kd 186 = some .ref := rfl
theorem ti187 : tab.ti 187 = some ⟨1, 8, .ref, [.d .n]⟩ := rfl
theorem kd187 : tab.kd 187 = some .ref := rfl
theorem ti188 : tab.ti 188 = some ⟨1, 8, .ref, [.d .n]⟩ := rfl
theorem kd188 : tab.kd 188 = some .ref := rfl
theorem ti189 : tab.ti 189 = some ⟨1, 8, .ref, [.d .n]⟩ := rfl
theorem kd189 : tab.kd 189 = some .ref := rfl
theorem ti190 : tab.ti 190 = some ⟨1, 8, .ref, [.d .n]⟩ := rfl
theorem kd190 : tab.kd 190 = some .ref := rfl
theorem ti191 : tab.ti 191 = some ⟨1, 24, (.slice 31), [.z 1]⟩ := rfl
theorem kd191 : tab.kd 191 = some (.slice 31) := rfl
theorem ti192 : tab.ti 192 = some ⟨1, 8, .ref, [.d .n]⟩ := rfl
theorem kd192 : tab.kd 192 = some .ref := rfl
theorem ti193 : tab.ti 193 = some ⟨1, 8, .ref, [.d .n]⟩ := rfl
theorem kd193 : tab.kd 193 = some .ref := rfl
theorem ti199 : tab.ti 199 = some ⟨1, 4, (.int .u32), [.d (.i .u32 0)]⟩ := rfl
theorem kd199 : tab.kd 199 = some (.int .u32) := rfl
theorem ti208 : tab.ti 208 = some ⟨1, 8, .ref, [.d .n]⟩ := rfl
theorem kd208 : tab.kd 208 = some .ref := rfl
theorem ti210 : tab.ti 210 = some ⟨3, 48, (.strct [(0, 9), (1, 31), (2, 3)]), [.d (.s ByteArray.empty), .z 1, .d (.i .i64 0)]⟩ := rfl
theorem kd210 : tab.kd 210 = some (.strct [(0, 9), (1, 31), (2, 3)]) := rfl
theorem ti211 : tab.ti 211 = some ⟨3, 48, (.strct [(0, 9), (1, 31), (2, 3)]), [.d (.s ByteArray.empty), .z 1, .d (.i .i64 0)]⟩ := rfl
theorem kd211 : tab.kd 211 = some (.strct [(0, 9), (1, 31), (2, 3)]) := rfl

set_option linter.defProp false
def tk := (And.intro (And.intro (And.intro (And.intro (And.intro (And.intro (And.intro (And.intro @ti1 @kd1) (And.intro @ti2 (And.intro @kd2 @ti3))) (And.intro (And.intro @kd3 (And.intro @ti4 @kd4)) (And.intro @ti5 (And.intro @kd5 @ti9)))) (And.intro (And.intro (And.intro @kd9 @ti12) (And.intro @kd12 (And.intro @ti20 @kd20))) (And.intro (And.intro @ti21 (And.intro @kd21 @ti22)) (And.intro @kd22 (And.intro @ti23 @kd23))))) (And.intro (And.intro (And.intro (And.intro @ti24 @kd24) (And.intro @ti25 (And.intro @kd25 @ti26))) (And.intro (And.intro @kd26 (And.intro @ti27 @kd27)) (And.intro @ti28 (And.intro @kd28 @ti29)))) (And.intro (And.intro (And.intro @kd29 @ti30) (And.intro @kd30 (And.intro @ti31 @kd31))) (And.intro (And.intro @ti32 (And.intro @kd32 @ti33)) (And.intro @kd33 (And.intro @ti34 @kd34)))))) (And.intro (And.intro (And.intro (And.intro (And.intro @ti35 @kd35) (And.intro @ti36 (And.intro @kd36 @ti37))) (And.intro (And.intro @kd37 (And.intro @ti38 @kd38)) (And.intro @ti39 (And.intro @kd39 @ti40)))) (And.intro (And.intro (And.intro @kd40 @ti41) (And.intro @kd41 (And.intro @ti42 @kd42))) (And.intro (And.intro @ti43 (And.intro @kd43 @ti44)) (And.intro @kd44 (And.intro @ti45 @kd45))))) (And.intro (And.intro (And.intro (And.intro @ti46 @kd46) (And.intro @ti47 (And.intro @kd47 @ti48))) (And.intro (And.intro @kd48 (And.intro @ti49 @kd49)) (And.intro @ti50 (And.intro @kd50 @ti51)))) (And.intro (And.intro (And.intro @kd51 (And.intro @ti52 @kd52)) (And.intro @ti53 (And.intro @kd53 @ti54))) (And.intro (And.intro @kd54 (And.intro @ti55 @kd55)) (And.intro @ti56 (And.intro @kd56 @ti57))))))) (And.intro (And.intro (And.intro (And.intro (And.intro (And.intro @kd57 @ti58) (And.intro @kd58 (And.intro @ti59 @kd59))) (And.intro (And.intro @ti60 (And.intro @kd60 @ti61)) (And.intro @kd61 (And.intro @ti62 @kd62)))) (And.intro (And.intro (And.intro @ti63 @kd63) (And.intro @ti64 (And.intro @kd64 @ti65))) (And.intro (And.intro @kd65 (And.intro @ti66 @kd66)) (And.intro @ti67 (And.intro @kd67 @ti68))))) (And.intro (And.intro (And.intro (And.intro @kd68 @ti69) (And.intro @kd69 (And.intro @ti70 @kd70))) (And.intro (And.intro @ti71 (And.intro @kd71 @ti72)) (And.intro @kd72 (And.intro @ti73 @kd73)))) (And.intro (And.intro (And.intro @ti74 (And.intro @kd74 @ti75)) (And.intro @kd75 (And.intro @ti76 @kd76))) (And.intro (And.intro @ti77 (And.intro @kd77 @ti78)) (And.intro @kd78 (And.intro @ti79 @kd79)))))) (And.intro (And.intro (And.intro (And.intro (And.intro @ti80 @kd80) (And.intro @ti81 (And.intro @kd81 @ti82))) (And.intro (And.intro @kd82 (And.intro @ti83 @kd83)) (And.intro @ti84 (And.intro @kd84 @ti85)))) (And.intro (And.intro (And.intro @kd85 @ti86) (And.intro @kd86 (And.intro @ti87 @kd87))) (And.intro (And.intro @ti88 (And.intro @kd88 @ti89)) (And.intro @kd89 (And.intro @ti90 @kd90))))) (And.intro (And.intro (And.intro (And.intro @ti91 @kd91) (And.intro @ti92 (And.intro @kd92 @ti93))) (And.intro (And.intro @kd93 (And.intro @ti94 @kd94)) (And.intro @ti95 (And.intro @kd95 @ti96)))) (And.intro (And.intro (And.intro @kd96 (And.intro @ti97 @kd97)) (And.intro @ti98 (And.intro @kd98 @ti99))) (And.intro (And.intro @kd99 (And.intro @ti100 @kd100)) (And.intro @ti101 (And.intro @kd101 @ti102)))))))) (And.intro (And.intro (And.intro (And.intro (And.intro (And.intro (And.intro @kd102 @ti103) (And.intro @kd103 (And.intro @ti104 @kd104))) (And.intro (And.intro @ti105 (And.intro @kd105 @ti107)) (And.intro @kd107 (And.intro @ti108 @kd108)))) (And.intro (And.intro (And.intro @ti109 @kd109) (And.intro @ti110 (And.intro @kd110 @ti111))) (And.intro (And.intro @kd111 (And.intro @ti112 @kd112)) (And.intro @ti113 (And.intro @kd113 @ti114))))) (And.intro (And.intro (And.intro (And.intro @kd114 @ti115) (And.intro @kd115 (And.intro @ti116 @kd116))) (And.intro (And.intro @ti117 (And.intro @kd117 @ti118)) (And.intro @kd118 (And.intro @ti119 @kd119)))) (And.intro (And.intro (And.intro @ti120 @kd120) (And.intro @ti121 (And.intro @kd121 @ti122))) (And.intro (And.intro @kd122 (And.intro @ti123 @kd123)) (And.intro @ti124 (And.intro @kd124 @ti125)))))) (And.intro (And.intro (And.intro (And.intro (And.intro @kd125 @ti127) (And.intro @kd127 (And.intro @ti128 @kd128))) (And.intro (And.intro @ti129 (And.intro @kd129 @ti130)) (And.intro @kd130 (And.intro @ti132 @kd132)))) (And.intro (And.intro (And.intro @ti133 @kd133) (And.intro @ti134 (And.intro @kd134 @ti135))) (And.intro (And.intro @kd135 (And.intro @ti136 @kd136)) (And.intro @ti137 (And.intro @kd137 @ti138))))) (And.intro (And.intro (And.intro (And.intro @kd138 @ti139) (And.intro @kd139 (And.intro @ti140 @kd140))) (And.intro (And.intro @ti141 (And.intro @kd141 @ti142)) (And.intro @kd142 (And.intro @ti143 @kd143)))) (And.intro (And.intro (And.intro @ti144 (And.intro @kd144 @ti145)) (And.intro @kd145 (And.intro @ti146 @kd146))) (And.intro (And.intro @ti147 (And.intro @kd147 @ti148)) (And.intro @kd148 (And.intro @ti149 @kd149))))))) (And.intro (And.intro (And.intro (And.intro (And.intro (And.intro @ti150 @kd150) (And.intro @ti151 (And.intro @kd151 @ti152))) (And.intro (And.intro @kd152 (And.intro @ti153 @kd153)) (And.intro @ti154 (And.intro @kd154 @ti155)))) (And.intro (And.intro (And.intro @kd155 @ti156) (And.intro @kd156 (And.intro @ti157 @kd157))) (And.intro (And.intro @ti158 (And.intro @kd158 @ti159)) (And.intro @kd159 (And.intro @ti161 @kd161))))) (And.intro (And.intro (And.intro (And.intro @ti163 @kd163) (And.intro @ti164 (And.intro @kd164 @ti165))) (And.intro (And.intro @kd165 (And.intro @ti166 @kd166)) (And.intro @ti167 (And.intro @kd167 @ti168)))) (And.intro (And.intro (And.intro @kd168 (And.intro @ti169 @kd169)) (And.intro @ti170 (And.intro @kd170 @ti171))) (And.intro (And.intro @kd171 (And.intro @ti172 @kd172)) (And.intro @ti173 (And.intro @kd173 @ti174)))))) (And.intro (And.intro (And.intro (And.intro (And.intro @kd174 @ti175) (And.intro @kd175 (And.intro @ti176 @kd176))) (And.intro (And.intro @ti178 (And.intro @kd178 @ti179)) (And.intro @kd179 (And.intro @ti180 @kd180)))) (And.intro (And.intro (And.intro @ti181 @kd181) (And.intro @ti182 (And.intro @kd182 @ti183))) (And.intro (And.intro @kd183 (And.intro @ti184 @kd184)) (And.intro @ti185 (And.intro @kd185 @ti186))))) (And.intro (And.intro (And.intro (And.intro @kd186 @ti187) (And.intro @kd187 (And.intro @ti188 @kd188))) (And.intro (And.intro @ti189 (And.intro @kd189 @ti190)) (And.intro @kd190 (And.intro @ti191 @kd191)))) (And.intro (And.intro (And.intro @ti192 (And.intro @kd192 @ti193)) (And.intro @kd193 (And.intro @ti199 @kd199))) (And.intro (And.intro @ti208 (And.intro @kd208 @ti210)) (And.intro @kd210 (And.intro @ti211 @kd211)))))))))
theorem mixed : prog.follows .mixedOrders = true := by decide +kernel
def md : Nat → Nat
  | 13 => 2
  | 21 => 2
  | 22 => 2
  | 32 => 2
  | 45 => 2
  | 56 => 2
  | 64 => 4
  | 69 => 2
  | 97 => 2
  | 104 => 3
  | 105 => 3
  | 109 => 3
  | 116 => 1
  | 120 => 1
  | 173 => 1
  | 176 => 3
  | _ => 0
def sigs : Nat → Sig
  | 3 => ⟨(List KeepRec) × Unit, Bool⟩
  | 4 => ⟨LinkImage × Unit, Bool⟩
  | 5 => ⟨LinkImage × Unit, Bool⟩
  | 6 => ⟨TreeExpr × Unit, Bool⟩
  | 7 => ⟨TreeMod × Unit, Bool⟩
  | 8 => ⟨(List KeepRec) × Int × Unit, Int⟩
  | 9 => ⟨(List KeepRec) × Unit, (List KeepRec)⟩
  | 10 => ⟨(List KeepRec) × Unit, (List KeepRec)⟩
  | 11 => ⟨(List KeepRec) × Unit, (List KeepRec)⟩
  | 12 => ⟨(List KeepRec) × (List KeepRec) × Unit, Bool⟩
  | 13 => ⟨(List KeepRec) × Int × Unit, Int × (List KeepRec)⟩
  | 14 => ⟨(List KeepRec) × Int × Unit, Int⟩
  | 15 => ⟨LinkImage × Int × Unit, Int⟩
  | 16 => ⟨LinkImage × Unit, (List Int)⟩
  | 17 => ⟨LinkImage × Unit, LinkImage⟩
  | 18 => ⟨LinkImage × Unit, (List Int)⟩
  | 19 => ⟨(List Int) × (List Int) × Unit, Bool⟩
  | 20 => ⟨LinkImage × LinkImage × Unit, Bool⟩
  | 21 => ⟨LinkImage × Int × Unit, Int × LinkImage⟩
  | 22 => ⟨(List Int) × Int × Unit, Int × (List Int)⟩
  | 23 => ⟨(List Int) × Int × Unit, Int⟩
  | 24 => ⟨LinkImage × Unit, LinkImage⟩
  | 25 => ⟨LinkImage × Unit, LinkImage⟩
  | 26 => ⟨LinkImage × Int × Unit, Int⟩
  | 27 => ⟨TreeExpr × Int × Unit, Int⟩
  | 28 => ⟨TreeExpr × Unit, TreeExpr⟩
  | 29 => ⟨TreeExpr × Unit, TreeExpr⟩
  | 30 => ⟨TreeExpr × Unit, TreeExpr⟩
  | 31 => ⟨TreeExpr × TreeExpr × Unit, Bool⟩
  | 32 => ⟨TreeExpr × Int × Unit, Int × TreeExpr⟩
  | 33 => ⟨TreeExpr × Int × Unit, Int⟩
  | 34 => ⟨TreeMod × Int × Unit, Int⟩
  | 35 => ⟨TreeMod × Unit, Int⟩
  | 36 => ⟨TreeMod × Unit, TreeMod⟩
  | 37 => ⟨TreeMod × Unit, Int⟩
  | 38 => ⟨TreeMod × TreeMod × Unit, Bool⟩
  | 39 => ⟨KeepRec × Int × Unit, Int⟩
  | 40 => ⟨KeepRec × Unit, KeepRec⟩
  | 41 => ⟨KeepRec × Unit, KeepRec⟩
  | 42 => ⟨(List KeepRec) × Unit, (List KeepRec)⟩
  | 43 => ⟨KeepRec × KeepRec × Unit, Bool⟩
  | 44 => ⟨Int × Unit, ByteArray⟩
  | 45 => ⟨(List ByteArray) × Int × Unit, Int × (List ByteArray)⟩
  | 46 => ⟨(List ByteArray) × Int × Unit, Int⟩
  | 47 => ⟨(List LinkFun) × Int × Unit, Int⟩
  | 48 => ⟨(List Int) × Int × Unit, Int⟩
  | 49 => ⟨LinkImage × Unit, Bool⟩
  | 50 => ⟨LinkImage × Unit, (List Bool)⟩
  | 51 => ⟨(List LinkFun) × Unit, (List LinkFun)⟩
  | 52 => ⟨(List Int) × Unit, (List Int)⟩
  | 53 => ⟨LinkImage × Unit, Bool⟩
  | 54 => ⟨LinkImage × Unit, (List Int)⟩
  | 55 => ⟨(List LinkFun) × (List LinkFun) × Unit, Bool⟩
  | 56 => ⟨(List LinkFun) × Int × Unit, Int × (List LinkFun)⟩
  | 57 => ⟨(List Int) × Int × Unit, Int⟩
  | 58 => ⟨LinkImage × Unit, LinkImage⟩
  | 59 => ⟨Int × Int × Unit, Bool⟩
  | 60 => ⟨(List Int) × Int × Unit, Int⟩
  | 61 => ⟨(List LinkFun) × Int × Unit, Int⟩
  | 62 => ⟨(List TreeExpr) × Int × Unit, Int⟩
  | 63 => ⟨TreeExpr × Unit, Bool⟩
  | 64 => ⟨TreeExpr × Unit, TreeExpr⟩
  | 65 => ⟨(List TreeExpr) × Unit, (List TreeExpr)⟩
  | 66 => ⟨TreeExpr × Unit, Bool⟩
  | 67 => ⟨TreeExpr × Unit, TreeExpr⟩
  | 68 => ⟨(List TreeExpr) × (List TreeExpr) × Unit, Bool⟩
  | 69 => ⟨(List TreeExpr) × Int × Unit, Int × (List TreeExpr)⟩
  | 70 => ⟨(List TreeExpr) × Int × Unit, Int⟩
  | 71 => ⟨(List ByteArray) × Int × Unit, Int⟩
  | 72 => ⟨(List TreeFun) × Int × Unit, Int⟩
  | 73 => ⟨TreeMod × Unit, Bool⟩
  | 74 => ⟨TreeMod × Unit, Int⟩
  | 75 => ⟨TreeMod × Unit, TreeMod⟩
  | 76 => ⟨(List ByteArray) × Unit, (List ByteArray)⟩
  | 77 => ⟨(List TreeFun) × Unit, (List TreeFun)⟩
  | 78 => ⟨TreeMod × Unit, Bool⟩
  | 79 => ⟨TreeMod × Unit, Int⟩
  | 80 => ⟨TreeMod × Unit, TreeMod⟩
  | 81 => ⟨(List ByteArray) × (List ByteArray) × Unit, Bool⟩
  | 82 => ⟨(List TreeFun) × (List TreeFun) × Unit, Bool⟩
  | 83 => ⟨KeepRec × Unit, KeepRec⟩
  | 84 => ⟨LinkFun × Int × Unit, Int⟩
  | 85 => ⟨ByteArray × Unit, Bool⟩
  | 86 => ⟨CodeFun × Unit, Bool⟩
  | 87 => ⟨LinkFun × Unit, LinkFun⟩
  | 88 => ⟨ByteArray × Unit, Bool⟩
  | 89 => ⟨ByteArray × (List Int) × Int × Int × Unit, Bool⟩
  | 90 => ⟨(List CodeIns) × Fv × Unit, Bool⟩
  | 91 => ⟨CodeIns × Unit, Bool⟩
  | 92 => ⟨CodeIns × Unit, Bool⟩
  | 93 => ⟨(List Int) × Fv × Unit, Bool⟩
  | 94 => ⟨Int × Fv × Unit, Bool⟩
  | 95 => ⟨(List Int) × Unit, (List Int)⟩
  | 96 => ⟨LinkFun × LinkFun × Unit, Bool⟩
  | 97 => ⟨(List CodeIns) × Int × Unit, Int × (List CodeIns)⟩
  | 98 => ⟨(List CodeIns) × Unit, (List CodeIns)⟩
  | 99 => ⟨Int × Int × Int × Unit, Bool⟩
  | 100 => ⟨(List CodeIns) × Int × Unit, Int⟩
  | 101 => ⟨TreeExpr × Unit, Int × Int⟩
  | 102 => ⟨TreeExpr × Unit, Bool⟩
  | 103 => ⟨ByteArray × Unit, Int⟩
  | 104 => ⟨TreeExpr × Unit, TreeExpr⟩
  | 105 => ⟨TreeExpr × Unit, TreeExpr⟩
  | 106 => ⟨TreeExpr × Unit, MeanVal × Bool⟩
  | 107 => ⟨TreeExpr × Unit, Int × Int⟩
  | 108 => ⟨TreeExpr × Unit, Bool⟩
  | 109 => ⟨TreeExpr × Unit, TreeExpr⟩
  | 110 => ⟨TreeFun × Int × Unit, Int⟩
  | 111 => ⟨(List ByteArray) × Unit, Bool⟩
  | 112 => ⟨TreeMod × Unit, Bool⟩
  | 113 => ⟨TreeFun × Unit, Bool⟩
  | 114 => ⟨TreeFun × Unit, TreeFun⟩
  | 115 => ⟨(List ByteArray) × Unit, Bool⟩
  | 116 => ⟨(List TreeArg) × Unit, (List ByteArray)⟩
  | 117 => ⟨Int × Unit, Bool⟩
  | 118 => ⟨(List TreeArg) × Fv × Unit, Bool⟩
  | 119 => ⟨TreeArg × Unit, Bool⟩
  | 120 => ⟨TreeMod × Unit, (List TreeExpr)⟩
  | 121 => ⟨TreeFun × TreeFun × Unit, Bool⟩
  | 122 => ⟨(List ByteArray) × Unit, (List ByteArray)⟩
  | 123 => ⟨(List CodeIns) × Int × Unit, Int⟩
  | 124 => ⟨ByteArray × Unit, Bool⟩
  | 125 => ⟨ByteArray × Unit, Bool⟩
  | 126 => ⟨Int × Unit, ByteArray⟩
  | 127 => ⟨CodeIns × Unit, Bool⟩
  | 128 => ⟨(List CodeIns) × Unit, (List CodeIns)⟩
  | 129 => ⟨ByteArray × Unit, Bool⟩
  | 130 => ⟨(List Int) × Unit, Bool⟩
  | 131 => ⟨(List CodeIns) × Fv × Unit, Int⟩
  | 132 => ⟨Int × Unit, Bool⟩
  | 133 => ⟨(List Int) × Fv × Unit, Int⟩
  | 134 => ⟨(List CodeIns) × (List CodeIns) × Unit, Bool⟩
  | 135 => ⟨TreeExpr × Unit, Bool⟩
  | 136 => ⟨Unit, (List ByteArray)⟩
  | 137 => ⟨ByteArray × (List MeanVal) × Unit, Bool⟩
  | 138 => ⟨ByteArray × (List MeanVal) × Unit, MeanVal × Int⟩
  | 139 => ⟨MeanVal × Unit, TreeExpr × Bool⟩
  | 140 => ⟨Int × Unit, MeanVal⟩
  | 141 => ⟨Bool × Unit, MeanVal⟩
  | 142 => ⟨TreeExpr × Unit, Bool⟩
  | 143 => ⟨(List TreeExpr) × Fv × Unit, Bool⟩
  | 144 => ⟨TreeExpr × Unit, Bool⟩
  | 145 => ⟨TreeExpr × Unit, TreeExpr × Bool⟩
  | 146 => ⟨(List TreeArg) × Int × Unit, Int⟩
  | 147 => ⟨(List TreeArg) × Unit, (List TreeArg)⟩
  | 148 => ⟨(List ByteArray) × ByteArray × Unit, Bool⟩
  | 149 => ⟨(List TreeArg) × Fv × Unit, Int⟩
  | 150 => ⟨(List TreeArg) × (List TreeArg) × Unit, Bool⟩
  | 151 => ⟨CodeIns × Unit, CodeIns⟩
  | 152 => ⟨Int × Unit, Bool⟩
  | 153 => ⟨CodeIns × CodeIns × Unit, Bool⟩
  | 154 => ⟨TreeExpr × Bool × Bool × Bool × Unit, Bool⟩
  | 155 => ⟨ByteArray × Unit, Int⟩
  | 156 => ⟨ByteArray × Unit, (List Int) × Int⟩
  | 157 => ⟨Int × Int × Int × Unit, MeanVal × Int⟩
  | 158 => ⟨Int × (List MeanVal) × Unit, MeanVal × Int⟩
  | 159 => ⟨ByteArray × Unit, Int⟩
  | 160 => ⟨(List TreeExpr) × Fv × Unit, Int⟩
  | 161 => ⟨TreeExpr × Unit, MeanVal × Bool⟩
  | 162 => ⟨ByteArray × (List MeanVal) × Unit, MeanVal × Int⟩
  | 163 => ⟨MeanVal × Unit, TreeExpr × Bool⟩
  | 164 => ⟨TreeArg × Int × Unit, Int⟩
  | 165 => ⟨TreeArg × Unit, TreeArg⟩
  | 166 => ⟨(List ByteArray) × ByteArray × Unit, Int⟩
  | 167 => ⟨TreeArg × TreeArg × Unit, Bool⟩
  | 168 => ⟨(List Int) × Unit, MeanVal⟩
  | 169 => ⟨Int × Unit, MeanVal⟩
  | 170 => ⟨Bool × Unit, MeanVal⟩
  | 171 => ⟨ByteArray × Unit, (List Int) × Int⟩
  | 172 => ⟨(List Int) × (List Int) × Unit, Bool⟩
  | 173 => ⟨(List MeanVal) × Unit, (List Int)⟩
  | 174 => ⟨ByteArray × (List MeanVal) × Unit, MeanVal × Int⟩
  | 175 => ⟨(List (List Int)) × Unit, (List Int)⟩
  | 176 => ⟨(List Int) × Unit, MeanVal⟩
  | 177 => ⟨ByteArray × Int × Int × Unit, MeanVal × Int⟩
  | 178 => ⟨(List Int) × Int × Unit, (List Int)⟩
  | _ => noSig
end Go.Fs.Se

set_option linter.unusedVariables false
namespace Go.Fs.Se
open Go.Proofs.Try (prog)
def lv0 : Nat → Nat → List Nat
  | 8, 5 => [0, 1, 5]
  | 9, 5 => [0, 3, 4]
  | 9, 9 => [0, 3, 4, 5, 6]
  | 10, 3 => [0, 3, 4]
  | 12, 4 => [0, 1, 5]
  | 13, 2 => [0, 1, 5]
  | 14, 2 => [0, 1, 5]
  | 16, 6 => [3, 4, 5]
  | 19, 4 => [0, 1, 5]
  | 22, 2 => [0, 1, 5]
  | 23, 2 => [0, 1, 5]
  | 24, 6 => [1, 2, 3, 4, 5]
  | 24, 12 => [1, 2, 3, 4, 5, 6, 7, 8]
  | 24, 21 => [1, 2, 3, 4, 10]
  | 25, 6 => [1, 2, 3, 4, 5, 22, 23, 24]
  | 25, 10 => [1, 2, 3, 4, 5, 8, 22, 23, 24, 34, 35, 36]
  | 25, 18 => [2, 3, 4, 5, 68, 69, 70]
  | 42, 3 => [0, 3, 4, 11, 12, 13]
  | 42, 8 => [3, 4, 23, 24, 25]
  | 44, 4 => [0, 3]
  | 45, 2 => [0, 1, 5]
  | 46, 2 => [0, 1, 5]
  | 47, 5 => [0, 1, 5]
  | 49, 5 => [1, 3, 4]
  | 49, 12 => [1, 6]
  | 50, 3 => [1, 3, 4]
  | 50, 7 => [1, 3, 5]
  | 50, 10 => [1, 3, 5, 6]
  | 50, 13 => [1, 3, 5, 6, 7]
  | 51, 3 => [0, 3, 4]
  | 52, 3 => [0, 3, 4]
  | 53, 3 => [1, 3, 7, 8, 9]
  | 54, 3 => [1, 3, 4]
  | 54, 9 => [1, 3, 4, 38, 39, 40]
  | 54, 16 => [8, 62, 63, 64]
  | 55, 4 => [0, 1, 5]
  | 56, 2 => [0, 1, 5]
  | 57, 2 => [0, 1, 5]
  | 58, 3 => [2, 3, 11, 12, 13]
  | 60, 2 => [0, 1, 7, 8]
  | 61, 2 => [0, 1, 5]
  | 62, 5 => [0, 1, 5]
  | 64, 3 => [1, 2, 3, 4]
  | 65, 3 => [0, 3, 4]
  | 67, 3 => [2, 3, 16, 17, 18]
  | 68, 4 => [0, 1, 5]
  | 69, 2 => [0, 1, 5]
  | 70, 2 => [0, 1, 5]
  | 71, 5 => [0, 1, 5]
  | 72, 5 => [0, 1, 5]
  | 73, 5 => [1, 3, 4]
  | 74, 3 => [1, 3, 4]
  | 74, 8 => [1, 3, 7]
  | 75, 5 => [1, 2, 3, 4]
  | 75, 12 => [1, 2, 3, 6]
  | 76, 3 => [0, 3, 4]
  | 77, 3 => [0, 3, 4]
  | 78, 5 => [1, 3, 4, 35, 36, 37]
  | 78, 12 => [3, 4, 70, 71, 72]
  | 79, 3 => [3, 9, 10, 11]
  | 80, 5 => [1, 2, 3, 18, 19, 20]
  | 80, 11 => [2, 3, 41, 42, 43]
  | 81, 4 => [0, 1, 5]
  | 82, 4 => [0, 1, 5]
  | 85, 4 => [0, 3]
  | 86, 4 => [1, 3]
  | 86, 9 => [1, 4]
  | 88, 2 => [0, 5, 6]
  | 97, 2 => [0, 1, 5]
  | 100, 2 => [0, 1, 5]
  | 101, 4 => [1, 4, 5, 6]
  | 102, 4 => [1, 3]
  | 103, 3 => [0, 3, 4]
  | 105, 3 => [1, 2, 3, 4]
  | 107, 3 => [4, 5, 11, 12, 13]
  | 111, 2 => [0, 3]
  | 111, 7 => [0, 3, 4]
  | 112, 3 => [1, 3, 4]
  | 113, 4 => [1, 3]
  | 113, 9 => [1, 3, 4]
  | 115, 2 => [0, 5, 6, 7]
  | 116, 3 => [3, 7, 8, 9]
  | 120, 3 => [1, 3, 8, 9, 10]
  | 124, 3 => [0, 3, 4]
  | 128, 3 => [0, 3, 4]
  | 131, 2 => [0, 1, 7, 8]
  | 133, 2 => [0, 1, 7, 8]
  | 134, 4 => [0, 1, 5]
  | 137, 5 => [1, 5, 7]
  | 145, 3 => [1, 2, 4, 13, 14, 15]
  | 146, 5 => [0, 1, 5]
  | 147, 3 => [0, 3, 4]
  | 149, 2 => [0, 1, 7, 8]
  | 150, 4 => [0, 1, 5]
  | 160, 2 => [0, 1, 7, 8]
  | 166, 2 => [0, 1, 7, 8]
  | 172, 4 => [0, 1, 12, 13]
  | 173, 3 => [3, 7, 8, 9]
  | 175, 3 => [0, 3, 9, 10, 11]
  | 175, 11 => [6, 25, 26, 27]
  | _, _ => []
def plT : Nat → List (Nat × List Nat)
  | 4 => [(10, [0, 3])]
  | 5 => [(10, [0, 3])]
  | 6 => [(10, [0, 3])]
  | 7 => [(10, [0, 3])]
  | 24 => [(8, [0, 9, 1009, 2009, 3009, 4009, 5009, 6009, 7009]), (23, [0, 9, 10, 1009, 1010])]
  | 25 => [(3, [0, 2, 2000, 2004]), (13, [0, 7, 1007, 2007]), (20, [0, 6, 1006, 2006])]
  | 35 => [(3, [0, 2000])]
  | 37 => [(3, [0, 2000])]
  | 58 => [(5, [0, 3000, 4000, 6003])]
  | 67 => [(5, [0, 4, 5, 1004, 1005])]
  | 75 => [(14, [0, 8, 9, 1008, 1009])]
  | 80 => [(7, [0, 1000, 2000, 4000, 4001, 5000, 5001, 7004]), (13, [0, 4, 5, 1004, 1005])]
  | 109 => [(2, [0])]
  | 138 => [(3, [0])]
  | 139 => [(4, [0, 7, 7009])]
  | 158 => [(7, [0, 1000, 3000, 3001, 4000, 4001, 5000, 5001, 6000, 6001])]
  | 163 => [(4, [0, 7, 7009])]
  | 174 => [(14, [7, 999999]), (28, [0])]
  | _ => []
def lvT (f n : Nat) : List Nat := if 5000 ≤ n then ((plT f).lookup (n - 5000)).getD [] else lv0 f n
theorem lv_pl (f id : Nat) : lvT f (rkey id) = ((plT f).lookup id).getD [] := by unfold lvT rkey; rw [if_pos (by omega), Nat.add_sub_cancel_left]
noncomputable def M : Prm := { P := prog, T := tab, given := fun _ => none, mode := md, achk := fun f => sigA (sigs f), chk := fun f => sigR (sigs f), lv := lvT }
theorem mok : PrmOK M := ⟨tab_ok, mixed, fun f s h => by cases h⟩
theorem E0_T (aa : AV) : (envOf M aa).T = tab := rfl
theorem E0_aa (aa : AV) : (envOf M aa).aa = aa := rfl
theorem M_T : M.T = tab := rfl
theorem M_lv : M.lv = lvT := rfl
theorem M_chk (f : Nat) : M.chk f = sigR (sigs f) := rfl
set_option linter.defProp false
def seS := And.intro tk (And.intro tyS (And.intro @E0_T (And.intro @E0_aa (And.intro M_T M_lv))))
end Go.Fs.Se
