/- The types of the program, as a table. Maps from texts, as lists: plain Lean. Conditions: as each says. Rows of structs as rows of cells: plain Lean. Conditions: none. Values and items as trees, and what they are in memory. Conditions: none. Dictionaries in memory; dict.uses: the walk. Conditions: as each says. dict.leads: plain Lean and the walk. Conditions: as each says. dict.leads: the walk. Conditions: as each says. Functions of Go's library, over abstract values. Functions of Go's library, over abstract values: beginnings of texts. Texts as lists of characters: plain Lean, no program. Conditions: as each says. Lex: blanks. Lex: is a character a blank? Lex: digits, numbers. Lex: Name. dict.vocabs: the walk. Conditions: as each says. The reference's trees, and what trees are as such. Conditions: none. dict.calls, dict.within: the walks. Conditions: what the function that is handed in does is known. Lex: text: the string that begins at a place. -/
import Derived.Test.YtonkeklageehbaaGreatDoorX6
import Derived.Test.YtonkeklageehbaaGreatDoorProg
import Derived.Test.YtonkeklageehbaaGreatDoorX5
import Derived.Lib.TrimUEq
set_option linter.all false
set_option maxRecDepth 20000
namespace Go.Proofs.YtonkeklageehbaaGreatDoor
open Go Go.Av
def tb : Tab := [(1, ⟨.func, 1, 8, [.nilf], false, none⟩),
  (2, ⟨.int .i64, 1, 8, [.int .i64 0], true, none⟩),
  (3, ⟨.int .i64, 1, 8, [.int .i64 0], true, none⟩),
  (4, ⟨.bool, 1, 1, [.bool false], true, none⟩),
  (5, ⟨.int .u8, 1, 1, [.int .u8 0], true, none⟩),
  (6, ⟨.int .u8, 1, 1, [.int .u8 0], true, none⟩),
  (7, ⟨.struct [⟨0, 1, false, 2⟩, ⟨1, 1, false, 3⟩, ⟨2, 1, false, 4⟩, ⟨3, 1, false, 6⟩], 4, 24, [.int .i64 0, .int .i64 0, .bool false, .int .u8 0], false, none⟩),
  (8, ⟨.struct [⟨0, 1, false, 2⟩, ⟨1, 1, false, 3⟩, ⟨2, 1, false, 4⟩, ⟨3, 1, false, 6⟩], 4, 24, [.int .i64 0, .int .i64 0, .bool false, .int .u8 0], false, none⟩),
  (9, ⟨.str, 1, 16, [.str []], true, none⟩),
  (10, ⟨.str, 1, 16, [.str []], true, none⟩),
  (11, ⟨.str, 1, 16, [.str []], true, none⟩),
  (12, ⟨.int .u64, 1, 8, [.int .u64 0], true, none⟩),
  (13, ⟨.struct [⟨0, 1, false, 9⟩, ⟨1, 1, false, 12⟩], 2, 24, [.str [], .int .u64 0], false, none⟩),
  (14, ⟨.struct [⟨0, 1, false, 9⟩, ⟨1, 1, false, 12⟩], 2, 24, [.str [], .int .u64 0], false, none⟩),
  (15, ⟨.ptr 291, 1, 8, [.nilp], false, none⟩),
  (16, ⟨.ptr 294, 1, 8, [.nilp], false, none⟩),
  (17, ⟨.ptr 303, 1, 8, [.nilp], false, none⟩),
  (18, ⟨.struct [⟨0, 1, false, 17⟩], 1, 8, [.nilp], false, none⟩),
  (19, ⟨.struct [⟨0, 1, false, 17⟩], 1, 8, [.nilp], false, none⟩),
  (20, ⟨.iface, 1, 16, [.nili], false, none⟩),
  (21, ⟨.int .i32, 1, 4, [.int .i32 0], true, none⟩),
  (22, ⟨.slice 82, 1, 24, [.nils], false, none⟩),
  (23, ⟨.slice 87, 1, 24, [.nils], false, none⟩),
  (24, ⟨.struct [⟨0, 1, false, 22⟩, ⟨1, 1, false, 23⟩], 2, 48, [.nils, .nils], false, none⟩),
  (25, ⟨.struct [⟨0, 1, false, 22⟩, ⟨1, 1, false, 23⟩], 2, 48, [.nils, .nils], false, none⟩),
  (26, ⟨.func, 1, 8, [.nilf], false, none⟩),
  (27, ⟨.slice 83, 1, 24, [.nils], false, none⟩),
  (28, ⟨.slice 77, 1, 24, [.nils], false, none⟩),
  (29, ⟨.struct [⟨0, 1, false, 27⟩, ⟨1, 1, false, 28⟩], 2, 48, [.nils, .nils], false, none⟩),
  (30, ⟨.struct [⟨0, 1, false, 27⟩, ⟨1, 1, false, 28⟩], 2, 48, [.nils, .nils], false, none⟩),
  (31, ⟨.func, 1, 8, [.nilf], false, none⟩),
  (32, ⟨.slice 53, 1, 24, [.nils], false, none⟩),
  (33, ⟨.int .i64, 1, 8, [.int .i64 0], true, none⟩),
  (35, ⟨.func, 1, 8, [.nilf], false, none⟩),
  (36, ⟨.slice 100, 1, 24, [.nils], false, none⟩),
  (38, ⟨.func, 1, 8, [.nilf], false, none⟩),
  (39, ⟨.func, 1, 8, [.nilf], false, none⟩),
  (40, ⟨.func, 1, 8, [.nilf], false, none⟩),
  (41, ⟨.func, 1, 8, [.nilf], false, none⟩),
  (42, ⟨.func, 1, 8, [.nilf], false, none⟩),
  (43, ⟨.slice 104, 1, 24, [.nils], false, none⟩),
  (44, ⟨.slice 94, 1, 24, [.nils], false, none⟩),
  (45, ⟨.func, 1, 8, [.nilf], false, none⟩),
  (46, ⟨.func, 1, 8, [.nilf], false, none⟩),
  (47, ⟨.slice 57, 1, 24, [.nils], false, none⟩),
  (49, ⟨.func, 1, 8, [.nilf], false, none⟩),
  (50, ⟨.slice 109, 1, 24, [.nils], false, none⟩),
  (51, ⟨.func, 1, 8, [.nilf], false, none⟩),
  (52, ⟨.struct [⟨0, 1, false, 9⟩, ⟨1, 1, false, 47⟩], 2, 40, [.str [], .nils], false, none⟩),
  (53, ⟨.struct [⟨0, 1, false, 9⟩, ⟨1, 1, false, 47⟩], 2, 40, [.str [], .nils], false, none⟩),
  (54, ⟨.iface, 1, 16, [.nili], false, none⟩),
  (55, ⟨.iface, 1, 16, [.nili], false, none⟩),
  (56, ⟨.struct [⟨0, 1, false, 3⟩, ⟨1, 1, false, 3⟩, ⟨2, 1, false, 55⟩], 3, 32, [.int .i64 0, .int .i64 0, .nili], false, none⟩),
  (57, ⟨.struct [⟨0, 1, false, 3⟩, ⟨1, 1, false, 3⟩, ⟨2, 1, false, 55⟩], 3, 32, [.int .i64 0, .int .i64 0, .nili], false, none⟩),
  (58, ⟨.slice 55, 1, 24, [.nils], false, none⟩),
  (59, ⟨.struct [⟨0, 1, false, 58⟩], 1, 24, [.nils], false, none⟩),
  (60, ⟨.struct [⟨0, 1, false, 58⟩], 1, 24, [.nils], false, none⟩),
  (62, ⟨.struct [⟨0, 1, false, 2⟩], 1, 8, [.int .i64 0], true, none⟩),
  (63, ⟨.struct [⟨0, 1, false, 2⟩], 1, 8, [.int .i64 0], true, none⟩),
  (64, ⟨.func, 1, 8, [.nilf], false, none⟩),
  (65, ⟨.func, 1, 8, [.nilf], false, none⟩),
  (66, ⟨.func, 1, 8, [.nilf], false, none⟩),
  (67, ⟨.func, 1, 8, [.nilf], false, none⟩),
  (68, ⟨.func, 1, 8, [.nilf], false, none⟩),
  (69, ⟨.func, 1, 8, [.nilf], false, none⟩),
  (71, ⟨.func, 1, 8, [.nilf], false, none⟩),
  (72, ⟨.struct [⟨0, 1, false, 3⟩, ⟨1, 1, false, 3⟩], 2, 16, [.int .i64 0, .int .i64 0], true, none⟩),
  (73, ⟨.struct [⟨0, 1, false, 3⟩, ⟨1, 1, false, 3⟩], 2, 16, [.int .i64 0, .int .i64 0], true, none⟩),
  (74, ⟨.struct [⟨0, 1, false, 9⟩, ⟨1, 2, true, 73⟩, ⟨3, 1, false, 44⟩], 4, 56, [.str [], .int .i64 0, .int .i64 0, .nils], false, none⟩),
  (75, ⟨.struct [⟨0, 1, false, 9⟩, ⟨1, 2, true, 73⟩, ⟨3, 1, false, 44⟩], 4, 56, [.str [], .int .i64 0, .int .i64 0, .nils], false, none⟩),
  (76, ⟨.struct [⟨0, 1, false, 9⟩, ⟨1, 4, true, 75⟩], 5, 72, [.str [], .str [], .int .i64 0, .int .i64 0, .nils], false, none⟩),
  (77, ⟨.struct [⟨0, 1, false, 9⟩, ⟨1, 4, true, 75⟩], 5, 72, [.str [], .str [], .int .i64 0, .int .i64 0, .nils], false, none⟩),
  (78, ⟨.struct [⟨0, 1, false, 9⟩], 1, 16, [.str []], true, none⟩),
  (79, ⟨.struct [⟨0, 1, false, 9⟩], 1, 16, [.str []], true, none⟩),
  (80, ⟨.slice 9, 1, 24, [.nils], false, none⟩),
  (81, ⟨.struct [⟨0, 1, false, 9⟩, ⟨1, 1, false, 80⟩], 2, 40, [.str [], .nils], false, none⟩),
  (82, ⟨.struct [⟨0, 1, false, 9⟩, ⟨1, 1, false, 80⟩], 2, 40, [.str [], .nils], false, none⟩),
  (83, ⟨.struct [⟨0, 1, false, 9⟩, ⟨1, 1, false, 80⟩], 2, 40, [.str [], .nils], false, none⟩),
  (84, ⟨.struct [⟨0, 1, false, 9⟩, ⟨1, 1, false, 3⟩, ⟨2, 1, false, 3⟩, ⟨3, 1, false, 43⟩], 4, 56, [.str [], .int .i64 0, .int .i64 0, .nils], false, none⟩),
  (85, ⟨.struct [⟨0, 1, false, 9⟩, ⟨1, 1, false, 3⟩, ⟨2, 1, false, 3⟩, ⟨3, 1, false, 43⟩], 4, 56, [.str [], .int .i64 0, .int .i64 0, .nils], false, none⟩),
  (86, ⟨.struct [⟨0, 1, false, 9⟩, ⟨1, 4, true, 85⟩], 5, 72, [.str [], .str [], .int .i64 0, .int .i64 0, .nils], false, none⟩),
  (87, ⟨.struct [⟨0, 1, false, 9⟩, ⟨1, 4, true, 85⟩], 5, 72, [.str [], .str [], .int .i64 0, .int .i64 0, .nils], false, none⟩),
  (88, ⟨.func, 1, 8, [.nilf], false, none⟩),
  (89, ⟨.func, 1, 8, [.nilf], false, none⟩),
  (90, ⟨.map 9 3, 1, 8, [.nilm], false, none⟩),
  (92, ⟨.func, 1, 8, [.nilf], false, none⟩),
  (93, ⟨.iface, 1, 16, [.nili], false, none⟩),
  (94, ⟨.iface, 1, 16, [.nili], false, none⟩),
  (96, ⟨.func, 1, 8, [.nilf], false, none⟩),
  (98, ⟨.func, 1, 8, [.nilf], false, none⟩),
  (99, ⟨.struct [⟨0, 1, false, 9⟩, ⟨1, 1, false, 50⟩], 2, 40, [.str [], .nils], false, none⟩),
  (100, ⟨.struct [⟨0, 1, false, 9⟩, ⟨1, 1, false, 50⟩], 2, 40, [.str [], .nils], false, none⟩),
  (101, ⟨.func, 1, 8, [.nilf], false, none⟩),
  (102, ⟨.func, 1, 8, [.nilf], false, none⟩),
  (103, ⟨.struct [⟨0, 1, false, 3⟩, ⟨1, 1, false, 2⟩, ⟨2, 1, false, 9⟩, ⟨3, 1, false, 43⟩], 4, 56, [.int .i64 0, .int .i64 0, .str [], .nils], false, none⟩),
  (104, ⟨.struct [⟨0, 1, false, 3⟩, ⟨1, 1, false, 2⟩, ⟨2, 1, false, 9⟩, ⟨3, 1, false, 43⟩], 4, 56, [.int .i64 0, .int .i64 0, .str [], .nils], false, none⟩),
  (105, ⟨.func, 1, 8, [.nilf], false, none⟩),
  (106, ⟨.func, 1, 8, [.nilf], false, none⟩),
  (107, ⟨.func, 1, 8, [.nilf], false, none⟩),
  (108, ⟨.struct [⟨0, 1, false, 3⟩, ⟨1, 1, false, 3⟩, ⟨2, 4, true, 104⟩], 6, 72, [.int .i64 0, .int .i64 0, .int .i64 0, .int .i64 0, .str [], .nils], false, none⟩),
  (109, ⟨.struct [⟨0, 1, false, 3⟩, ⟨1, 1, false, 3⟩, ⟨2, 4, true, 104⟩], 6, 72, [.int .i64 0, .int .i64 0, .int .i64 0, .int .i64 0, .str [], .nils], false, none⟩),
  (110, ⟨.func, 1, 8, [.nilf], false, none⟩),
  (111, ⟨.func, 1, 8, [.nilf], false, none⟩),
  (112, ⟨.func, 1, 8, [.nilf], false, none⟩),
  (113, ⟨.func, 1, 8, [.nilf], false, none⟩),
  (114, ⟨.func, 1, 8, [.nilf], false, none⟩),
  (116, ⟨.func, 1, 8, [.nilf], false, none⟩),
  (117, ⟨.func, 1, 8, [.nilf], false, none⟩),
  (118, ⟨.func, 1, 8, [.nilf], false, none⟩),
  (119, ⟨.func, 1, 8, [.nilf], false, none⟩),
  (120, ⟨.func, 1, 8, [.nilf], false, none⟩),
  (121, ⟨.func, 1, 8, [.nilf], false, none⟩),
  (122, ⟨.func, 1, 8, [.nilf], false, none⟩),
  (123, ⟨.func, 1, 8, [.nilf], false, none⟩),
  (124, ⟨.ptr 131, 1, 8, [.nilp], false, none⟩),
  (125, ⟨.func, 1, 8, [.nilf], false, none⟩),
  (127, ⟨.map 9 80, 1, 8, [.nilm], false, none⟩),
  (128, ⟨.map 9 77, 1, 8, [.nilm], false, none⟩),
  (129, ⟨.slice 166, 1, 24, [.nils], false, none⟩),
  (130, ⟨.struct [⟨0, 2, true, 30⟩, ⟨2, 1, false, 127⟩, ⟨3, 1, false, 128⟩, ⟨4, 1, false, 129⟩], 5, 88, [.nils, .nils, .nilm, .nilm, .nils], false, none⟩),
  (131, ⟨.struct [⟨0, 2, true, 30⟩, ⟨2, 1, false, 127⟩, ⟨3, 1, false, 128⟩, ⟨4, 1, false, 129⟩], 5, 88, [.nils, .nils, .nilm, .nilm, .nils], false, none⟩),
  (132, ⟨.func, 1, 8, [.nilf], false, none⟩),
  (133, ⟨.func, 1, 8, [.nilf], false, none⟩),
  (134, ⟨.func, 1, 8, [.nilf], false, none⟩),
  (135, ⟨.struct [⟨0, 1, false, 55⟩], 1, 16, [.nili], false, none⟩),
  (136, ⟨.struct [⟨0, 1, false, 55⟩], 1, 16, [.nili], false, none⟩),
  (138, ⟨.func, 1, 8, [.nilf], false, none⟩),
  (140, ⟨.func, 1, 8, [.nilf], false, none⟩),
  (141, ⟨.func, 1, 8, [.nilf], false, none⟩),
  (142, ⟨.func, 1, 8, [.nilf], false, none⟩),
  (143, ⟨.func, 1, 8, [.nilf], false, none⟩),
  (144, ⟨.func, 1, 8, [.nilf], false, none⟩),
  (145, ⟨.func, 1, 8, [.nilf], false, none⟩),
  (146, ⟨.func, 1, 8, [.nilf], false, none⟩),
  (147, ⟨.struct [⟨0, 1, false, 44⟩], 1, 24, [.nils], false, none⟩),
  (148, ⟨.struct [⟨0, 1, false, 44⟩], 1, 24, [.nils], false, none⟩),
  (149, ⟨.func, 1, 8, [.nilf], false, none⟩),
  (150, ⟨.func, 1, 8, [.nilf], false, none⟩),
  (151, ⟨.struct [⟨0, 1, false, 9⟩], 1, 16, [.str []], true, none⟩),
  (152, ⟨.struct [⟨0, 1, false, 9⟩], 1, 16, [.str []], true, none⟩),
  (153, ⟨.struct [⟨0, 1, false, 4⟩], 1, 1, [.bool false], true, none⟩),
  (154, ⟨.struct [⟨0, 1, false, 4⟩], 1, 1, [.bool false], true, none⟩),
  (155, ⟨.func, 1, 8, [.nilf], false, none⟩),
  (156, ⟨.struct [⟨0, 1, false, 3⟩], 1, 8, [.int .i64 0], true, none⟩),
  (157, ⟨.struct [⟨0, 1, false, 3⟩], 1, 8, [.int .i64 0], true, none⟩),
  (158, ⟨.func, 1, 8, [.nilf], false, none⟩),
  (159, ⟨.func, 1, 8, [.nilf], false, none⟩),
  (161, ⟨.func, 1, 8, [.nilf], false, none⟩),
  (162, ⟨.func, 1, 8, [.nilf], false, none⟩),
  (163, ⟨.map 9 4, 1, 8, [.nilm], false, none⟩),
  (164, ⟨.func, 1, 8, [.nilf], false, none⟩),
  (165, ⟨.struct [⟨0, 1, false, 9⟩, ⟨1, 2, true, 73⟩], 3, 32, [.str [], .int .i64 0, .int .i64 0], true, none⟩),
  (166, ⟨.struct [⟨0, 1, false, 9⟩, ⟨1, 2, true, 73⟩], 3, 32, [.str [], .int .i64 0, .int .i64 0], true, none⟩),
  (167, ⟨.func, 1, 8, [.nilf], false, none⟩),
  (169, ⟨.func, 1, 8, [.nilf], false, none⟩),
  (170, ⟨.ptr 25, 1, 8, [.nilp], false, none⟩),
  (171, ⟨.func, 1, 8, [.nilf], false, none⟩),
  (172, ⟨.func, 1, 8, [.nilf], false, none⟩),
  (173, ⟨.func, 1, 8, [.nilf], false, none⟩),
  (174, ⟨.func, 1, 8, [.nilf], false, none⟩),
  (175, ⟨.func, 1, 8, [.nilf], false, none⟩),
  (177, ⟨.func, 1, 8, [.nilf], false, none⟩),
  (178, ⟨.slice 217, 1, 24, [.nils], false, none⟩),
  (179, ⟨.func, 1, 8, [.nilf], false, none⟩),
  (180, ⟨.func, 1, 8, [.nilf], false, none⟩),
  (181, ⟨.func, 1, 8, [.nilf], false, none⟩),
  (182, ⟨.func, 1, 8, [.nilf], false, none⟩),
  (183, ⟨.ptr 3, 1, 8, [.nilp], false, none⟩),
  (184, ⟨.func, 1, 8, [.nilf], false, none⟩),
  (186, ⟨.func, 1, 8, [.nilf], false, none⟩),
  (187, ⟨.func, 1, 8, [.nilf], false, none⟩),
  (188, ⟨.func, 1, 8, [.nilf], false, none⟩),
  (189, ⟨.func, 1, 8, [.nilf], false, none⟩),
  (190, ⟨.func, 1, 8, [.nilf], false, none⟩),
  (192, ⟨.func, 1, 8, [.nilf], false, none⟩),
  (193, ⟨.ptr 197, 1, 8, [.nilp], false, none⟩),
  (194, ⟨.map 9 73, 1, 8, [.nilm], false, none⟩),
  (195, ⟨.slice 233, 1, 24, [.nils], false, none⟩),
  (196, ⟨.struct [⟨0, 1, false, 194⟩, ⟨1, 1, false, 183⟩, ⟨2, 1, false, 3⟩, ⟨3, 1, false, 195⟩], 4, 48, [.nilm, .nilp, .int .i64 0, .nils], false, none⟩),
  (197, ⟨.struct [⟨0, 1, false, 194⟩, ⟨1, 1, false, 183⟩, ⟨2, 1, false, 3⟩, ⟨3, 1, false, 195⟩], 4, 48, [.nilm, .nilp, .int .i64 0, .nils], false, none⟩),
  (198, ⟨.func, 1, 8, [.nilf], false, none⟩),
  (200, ⟨.struct [⟨0, 1, false, 33⟩], 1, 8, [.int .i64 0], true, none⟩),
  (201, ⟨.struct [⟨0, 1, false, 33⟩], 1, 8, [.int .i64 0], true, none⟩),
  (203, ⟨.func, 1, 8, [.nilf], false, none⟩),
  (205, ⟨.func, 1, 8, [.nilf], false, none⟩),
  (206, ⟨.slice 209, 1, 24, [.nils], false, none⟩),
  (207, ⟨.func, 1, 8, [.nilf], false, none⟩),
  (208, ⟨.struct [⟨0, 1, false, 21⟩, ⟨1, 1, false, 3⟩, ⟨2, 1, false, 3⟩, ⟨3, 1, false, 4⟩], 4, 32, [.int .i32 0, .int .i64 0, .int .i64 0, .bool false], true, none⟩),
  (209, ⟨.struct [⟨0, 1, false, 21⟩, ⟨1, 1, false, 3⟩, ⟨2, 1, false, 3⟩, ⟨3, 1, false, 4⟩], 4, 32, [.int .i32 0, .int .i64 0, .int .i64 0, .bool false], true, none⟩),
  (210, ⟨.int .u64, 1, 8, [.int .u64 0], true, none⟩),
  (212, ⟨.func, 1, 8, [.nilf], false, none⟩),
  (214, ⟨.func, 1, 8, [.nilf], false, none⟩),
  (215, ⟨.func, 1, 8, [.nilf], false, none⟩),
  (216, ⟨.struct [⟨0, 1, false, 9⟩, ⟨1, 1, false, 3⟩, ⟨2, 1, false, 3⟩], 3, 32, [.str [], .int .i64 0, .int .i64 0], true, none⟩),
  (217, ⟨.struct [⟨0, 1, false, 9⟩, ⟨1, 1, false, 3⟩, ⟨2, 1, false, 3⟩], 3, 32, [.str [], .int .i64 0, .int .i64 0], true, none⟩),
  (218, ⟨.ptr 221, 1, 8, [.nilp], false, none⟩),
  (219, ⟨.slice 245, 1, 24, [.nils], false, none⟩),
  (220, ⟨.struct [⟨0, 1, false, 178⟩, ⟨1, 1, false, 3⟩, ⟨2, 1, false, 219⟩, ⟨3, 1, false, 33⟩, ⟨4, 1, false, 3⟩], 5, 72, [.nils, .int .i64 0, .nils, .int .i64 0, .int .i64 0], false, none⟩),
  (221, ⟨.struct [⟨0, 1, false, 178⟩, ⟨1, 1, false, 3⟩, ⟨2, 1, false, 219⟩, ⟨3, 1, false, 33⟩, ⟨4, 1, false, 3⟩], 5, 72, [.nils, .int .i64 0, .nils, .int .i64 0, .int .i64 0], false, none⟩),
  (222, ⟨.func, 1, 8, [.nilf], false, none⟩),
  (223, ⟨.func, 1, 8, [.nilf], false, none⟩),
  (224, ⟨.func, 1, 8, [.nilf], false, none⟩),
  (225, ⟨.func, 1, 8, [.nilf], false, none⟩),
  (227, ⟨.func, 1, 8, [.nilf], false, none⟩),
  (229, ⟨.func, 1, 8, [.nilf], false, none⟩),
  (230, ⟨.func, 1, 8, [.nilf], false, none⟩),
  (231, ⟨.func, 1, 8, [.nilf], false, none⟩),
  (232, ⟨.struct [⟨0, 1, false, 4⟩, ⟨1, 1, false, 44⟩], 2, 32, [.bool false, .nils], false, none⟩),
  (233, ⟨.struct [⟨0, 1, false, 4⟩, ⟨1, 1, false, 44⟩], 2, 32, [.bool false, .nils], false, none⟩),
  (234, ⟨.func, 1, 8, [.nilf], false, none⟩),
  (235, ⟨.func, 1, 8, [.nilf], false, none⟩),
  (236, ⟨.other, 256, 256, [], false, some (256, 5)⟩),
  (237, ⟨.func, 1, 8, [.nilf], false, none⟩),
  (238, ⟨.func, 1, 8, [.nilf], false, none⟩),
  (239, ⟨.slice 3, 1, 24, [.nils], false, none⟩),
  (241, ⟨.func, 1, 8, [.nilf], false, none⟩),
  (242, ⟨.func, 1, 8, [.nilf], false, none⟩),
  (243, ⟨.func, 1, 8, [.nilf], false, none⟩),
  (244, ⟨.struct [⟨0, 1, false, 4⟩, ⟨1, 1, false, 43⟩], 2, 32, [.bool false, .nils], false, none⟩),
  (245, ⟨.struct [⟨0, 1, false, 4⟩, ⟨1, 1, false, 43⟩], 2, 32, [.bool false, .nils], false, none⟩),
  (246, ⟨.func, 1, 8, [.nilf], false, none⟩),
  (247, ⟨.struct [⟨0, 1, false, 5⟩, ⟨1, 1, false, 5⟩], 2, 2, [.int .u8 0, .int .u8 0], true, none⟩),
  (248, ⟨.struct [⟨0, 1, false, 5⟩, ⟨1, 1, false, 5⟩], 2, 2, [.int .u8 0, .int .u8 0], true, none⟩),
  (249, ⟨.other, 32, 32, [], false, some (16, 248)⟩),
  (250, ⟨.int .u64, 1, 8, [.int .u64 0], true, none⟩),
  (252, ⟨.func, 1, 8, [.nilf], false, none⟩),
  (253, ⟨.slice 21, 1, 24, [.nils], false, none⟩),
  (254, ⟨.func, 1, 8, [.nilf], false, none⟩),
  (255, ⟨.map 9 239, 1, 8, [.nilm], false, none⟩),
  (256, ⟨.func, 1, 8, [.nilf], false, none⟩),
  (257, ⟨.func, 1, 8, [.nilf], false, none⟩),
  (258, ⟨.func, 1, 8, [.nilf], false, none⟩),
  (259, ⟨.slice 261, 1, 24, [.nils], false, none⟩),
  (260, ⟨.struct [⟨0, 1, false, 3⟩, ⟨1, 1, false, 3⟩], 2, 16, [.int .i64 0, .int .i64 0], true, none⟩),
  (261, ⟨.struct [⟨0, 1, false, 3⟩, ⟨1, 1, false, 3⟩], 2, 16, [.int .i64 0, .int .i64 0], true, none⟩),
  (262, ⟨.int .u32, 1, 4, [.int .u32 0], true, none⟩),
  (263, ⟨.func, 1, 8, [.nilf], false, none⟩),
  (264, ⟨.ptr 274, 1, 8, [.nilp], false, none⟩),
  (265, ⟨.func, 1, 8, [.nilf], false, none⟩),
  (266, ⟨.func, 1, 8, [.nilf], false, none⟩),
  (267, ⟨.func, 1, 8, [.nilf], false, none⟩),
  (268, ⟨.func, 1, 8, [.nilf], false, none⟩),
  (269, ⟨.func, 1, 8, [.nilf], false, none⟩),
  (270, ⟨.func, 1, 8, [.nilf], false, none⟩),
  (271, ⟨.slice 277, 1, 24, [.nils], false, none⟩),
  (272, ⟨.slice 280, 1, 24, [.nils], false, none⟩),
  (273, ⟨.struct [⟨0, 1, false, 271⟩, ⟨1, 1, false, 272⟩, ⟨2, 1, false, 3⟩], 3, 56, [.nils, .nils, .int .i64 0], false, none⟩),
  (274, ⟨.struct [⟨0, 1, false, 271⟩, ⟨1, 1, false, 272⟩, ⟨2, 1, false, 3⟩], 3, 56, [.nils, .nils, .int .i64 0], false, none⟩),
  (275, ⟨.int .u16, 1, 2, [.int .u16 0], true, none⟩),
  (276, ⟨.struct [⟨0, 1, false, 275⟩, ⟨1, 1, false, 275⟩, ⟨2, 1, false, 275⟩], 3, 6, [.int .u16 0, .int .u16 0, .int .u16 0], true, none⟩),
  (277, ⟨.struct [⟨0, 1, false, 275⟩, ⟨1, 1, false, 275⟩, ⟨2, 1, false, 275⟩], 3, 6, [.int .u16 0, .int .u16 0, .int .u16 0], true, none⟩),
  (278, ⟨.func, 1, 8, [.nilf], false, none⟩),
  (279, ⟨.struct [⟨0, 1, false, 262⟩, ⟨1, 1, false, 262⟩, ⟨2, 1, false, 262⟩], 3, 12, [.int .u32 0, .int .u32 0, .int .u32 0], true, none⟩),
  (280, ⟨.struct [⟨0, 1, false, 262⟩, ⟨1, 1, false, 262⟩, ⟨2, 1, false, 262⟩], 3, 12, [.int .u32 0, .int .u32 0, .int .u32 0], true, none⟩),
  (281, ⟨.func, 1, 8, [.nilf], false, none⟩),
  (282, ⟨.func, 1, 8, [.nilf], false, none⟩),
  (284, ⟨.func, 1, 8, [.nilf], false, none⟩),
  (285, ⟨.ptr 277, 1, 8, [.nilp], false, none⟩),
  (286, ⟨.ptr 280, 1, 8, [.nilp], false, none⟩),
  (288, ⟨.func, 1, 8, [.nilf], false, none⟩),
  (289, ⟨.func, 1, 8, [.nilf], false, none⟩),
  (290, ⟨.struct [⟨0, 1, false, 17⟩, ⟨1, 1, false, 17⟩, ⟨2, 1, false, 17⟩, ⟨3, 1, false, 9⟩], 4, 40, [.nilp, .nilp, .nilp, .str []], false, none⟩),
  (291, ⟨.struct [⟨0, 1, false, 17⟩, ⟨1, 1, false, 17⟩, ⟨2, 1, false, 17⟩, ⟨3, 1, false, 9⟩], 4, 40, [.nilp, .nilp, .nilp, .str []], false, none⟩),
  (292, ⟨.other, 0, 0, [], false, some (0, 16)⟩),
  (295, ⟨.func, 1, 8, [.nilf], false, none⟩),
  (296, ⟨.int .u8, 1, 1, [.int .u8 0], true, none⟩),
  (297, ⟨.int .u8, 1, 1, [.int .u8 0], true, none⟩),
  (298, ⟨.func, 1, 8, [.nilf], false, none⟩),
  (299, ⟨.ptr 5, 1, 8, [.nilp], false, none⟩),
  (300, ⟨.int .i32, 1, 4, [.int .i32 0], true, none⟩),
  (301, ⟨.int .i32, 1, 4, [.int .i32 0], true, none⟩),
  (302, ⟨.struct [⟨0, 1, false, 12⟩, ⟨1, 1, false, 12⟩, ⟨2, 1, false, 262⟩, ⟨3, 1, false, 296⟩, ⟨4, 1, false, 5⟩, ⟨5, 1, false, 5⟩, ⟨6, 1, false, 297⟩, ⟨7, 1, false, 298⟩, ⟨8, 1, false, 299⟩, ⟨9, 1, false, 300⟩, ⟨10, 1, false, 301⟩], 11, 48, [.int .u64 0, .int .u64 0, .int .u32 0, .int .u8 0, .int .u8 0, .int .u8 0, .int .u8 0, .nilf, .nilp, .int .i32 0, .int .i32 0], false, none⟩),
  (303, ⟨.struct [⟨0, 1, false, 12⟩, ⟨1, 1, false, 12⟩, ⟨2, 1, false, 262⟩, ⟨3, 1, false, 296⟩, ⟨4, 1, false, 5⟩, ⟨5, 1, false, 5⟩, ⟨6, 1, false, 297⟩, ⟨7, 1, false, 298⟩, ⟨8, 1, false, 299⟩, ⟨9, 1, false, 300⟩, ⟨10, 1, false, 301⟩], 11, 48, [.int .u64 0, .int .u64 0, .int .u32 0, .int .u8 0, .int .u8 0, .int .u8 0, .int .u8 0, .nilf, .nilp, .int .i32 0, .int .i32 0], false, none⟩)]
theorem tb_tab : tabB Tryz.prog tb = true := by kernel_rfl
theorem tb_rt : Tryz.prog.underlying Tryz.prog.rt.typeAssertionError = some (.pointer 291) := by kernel_rfl
theorem tb_mixed : Tryz.prog.follows .mixedOrders = true := by kernel_rfl
theorem tb_ok : ProgOk Tryz.prog tb where
  tab := tb_tab
  rt := ⟨_, tb_rt⟩
  mixed := tb_mixed
end Go.Proofs.YtonkeklageehbaaGreatDoor

namespace Go.Proofs.YtonkeklageehbaaGreatDoor
open Go Go.Av
/-- Where a key stands, and its value. -/
def idxA {α : Type} : List (List UInt8 × α) → List UInt8 → Nat → Option (Nat × α)
  | [], _, _ => none
  | e :: r, k, i => if k = e.1 then some (i, e.2) else idxA r k (i + 1)
def getA {α : Type} (l : List (List UInt8 × α)) (k : List UInt8) : Option α := (idxA l k 0).map (·.2)
def putA {α : Type} (l : List (List UInt8 × α)) (k : List UInt8) (v : α) : List (List UInt8 × α) := match idxA l k 0 with
  | some p => l.set p.1 (k, v)
  | none => l ++ [(k, v)]
def entA {α : Type} (f : α → AV) (l : List (List UInt8 × α)) : List (AV × AV) := l.map fun p => (.str p.1, f p.2)
@[simp] theorem entA_length {α : Type} (f : α → AV) (l : List (List UInt8 × α)) : (entA f l).length = l.length := by simp [entA]
theorem mapFind_A {α : Type} (f : α → AV) (k : List UInt8) : ∀ (l : List (List UInt8 × α)) (i : Nat), mapFind (entA f l) (.str k) i = some ((idxA l k i).map fun p => (p.1, f p.2))
  | [], i => rfl
  | e :: r, i => by
    show (match some (decide (k = e.1)) with
      | some true => some (some (i, f e.2))
      | some false => mapFind (entA f r) (.str k) (i + 1)
      | none => none) = _
    rw [idxA]
    by_cases h : k = e.1
    · rw [decide_eq_true h, if_pos h]; rfl
    · rw [decide_eq_false h, if_neg h]; exact mapFind_A f k r (i + 1)
theorem idxA_shift {α : Type} (k : List UInt8) : ∀ (l : List (List UInt8 × α)) (i : Nat), idxA l k i = (idxA l k 0).map fun p => (p.1 + i, p.2)
  | [], i => rfl
  | e :: r, i => by
    rw [idxA, idxA]
    by_cases h : k = e.1
    · rw [if_pos h, if_pos h]; simp
    · rw [if_neg h, if_neg h, idxA_shift k r (i + 1), idxA_shift k r (0 + 1)]
      rw [Option.map_map]
      congr 1
      funext p
      simp; omega
theorem getA_cons {α : Type} (e : List UInt8 × α) (r : List (List UInt8 × α)) (k : List UInt8) : getA (e :: r) k = if k = e.1 then some e.2 else getA r k := by
  unfold getA
  rw [idxA]
  by_cases h : k = e.1
  · rw [if_pos h, if_pos h]; rfl
  · rw [if_neg h, if_neg h, idxA_shift k r (0 + 1), Option.map_map]; rfl
theorem getA_mem {α : Type} {k : List UInt8} {v : α} : ∀ {l : List (List UInt8 × α)}, getA l k = some v → (k, v) ∈ l
  | [], h => by simp [getA, idxA] at h
  | e :: r, h => by
    rw [getA_cons] at h
    by_cases hk : k = e.1
    · rw [if_pos hk] at h
      obtain rfl : e.2 = v := Option.some.inj h
      rw [hk]; exact List.mem_cons_self ..
    · rw [if_neg hk] at h
      exact List.mem_cons_of_mem _ (getA_mem h)
theorem idxA_none {α : Type} {l : List (List UInt8 × α)} {k : List UInt8} : idxA l k 0 = none ↔ getA l k = none := by
  unfold getA; simp
theorem getA_put {α : Type} (k k' : List UInt8) (v : α) : ∀ (l : List (List UInt8 × α)), getA (putA l k v) k' = if k' = k then some v else getA l k'
  | [] => by
    unfold putA
    rw [show idxA ([] : List (List UInt8 × α)) k 0 = none from rfl]
    simp only [List.nil_append, getA_cons]
  | e :: r => by
    have ih := getA_put k k' v r
    by_cases h : k = e.1
    · have : putA (e :: r) k v = (k, v) :: r := by
        unfold putA
        rw [idxA, if_pos h]; rfl
      rw [this, getA_cons, getA_cons]
      by_cases h2 : k' = k
      · rw [if_pos h2, if_pos h2]
      · rw [if_neg h2, if_neg h2, if_neg (fun e2 => h2 (e2.trans h.symm))]
    · have : putA (e :: r) k v = e :: putA r k v := by
        unfold putA
        rw [idxA, if_neg h, idxA_shift k r (0 + 1)]
        cases hq : idxA r k 0 with
        | none => rfl
        | some p => rfl
      rw [this, getA_cons, getA_cons, ih]
      by_cases h2 : k' = e.1
      · rw [if_pos h2, if_pos h2, if_neg (fun e2 => h (e2.symm.trans h2))]
      · rw [if_neg h2, if_neg h2]
theorem putA_keys {α : Type} (k : List UInt8) (v : α) (l : List (List UInt8 × α)) : (putA l k v).length ≤ l.length + 1 := by
  unfold putA; split <;> simp
end Go.Proofs.YtonkeklageehbaaGreatDoor

namespace Go.Proofs.YtonkeklageehbaaGreatDoor
open Go Go.Av
theorem flat_drop {α β : Type} (f : α → List β) (c : Nat) (hf : ∀ x, (f x).length = c) : ∀ {l : List α} {k : Nat} {x : α}, l[k]? = some x → (l.flatMap f).drop (mulN k c) = f x ++ (l.drop (k + 1)).flatMap f
  | [], _, _, h => by simp at h
  | y :: l, 0, x, h => by
    simp at h; subst h
    rw [mulN_eq, Nat.zero_mul]; rfl
  | y :: l, k + 1, x, h => by
    have ih := flat_drop f c hf (l := l) (k := k) (x := x) (by simpa using h)
    rw [mulN_eq] at ih ⊢
    rw [List.flatMap_cons, show (k + 1) * c = (f y).length + k * c by rw [hf, Nat.succ_mul]; omega, ← List.drop_drop, List.drop_left]
    exact ih
theorem flat_len {α β : Type} (f : α → List β) (c : Nat) (hf : ∀ x, (f x).length = c) (l : List α) : (l.flatMap f).length = l.length * c := by
  induction l with
  | nil => simp
  | cons x r ih => rw [List.flatMap_cons, List.length_append, hf, ih, List.length_cons, Nat.succ_mul]; omega
end Go.Proofs.YtonkeklageehbaaGreatDoor

namespace Go.Proofs.YtonkeklageehbaaGreatDoor
open Go Go.Av
/-- A value or an item; 'call': an item that is a Call, items that are Pushes stand as their values; 'none': nil; 'odd': of another dynamic type. -/
inductive Tree where
  | none
  | int (n : Int)
  | str (s : List UInt8)
  | bool (b : Bool)
  | list (l : List Tree)
  | quot (l : List Tree)
  | box (n : Int)
  | call (s : List UInt8)
  | odd (t : Nat) (v : AV)
mutual
def valAV : Tree → AV
  | .none => .nili
  | .int n => .iface 63 (.agg [.int .i64 n])
  | .str s => .iface 152 (.agg [.str s])
  | .bool b => .iface 154 (.agg [.bool b])
  | .list l => .iface 60 (.agg [.fz (valAVs l) l.length false])
  | .quot l => .iface 148 (.agg [.fz (itemAVs l) l.length false])
  | .box n => .iface 157 (.agg [.int .i64 n])
  | .call _ => .nili
  | .odd t v => .iface t v
def valAVs : List Tree → List AV
  | [] => []
  | t :: r => valAV t :: valAVs r
def itemAVs : List Tree → List AV
  | [] => []
  | t :: r => (match t with
    | .none => .nili
    | .call s => .iface 79 (.agg [.str s])
    | .odd t v => .iface t v
    | .int n => .iface 136 (.agg [.iface 63 (.agg [.int .i64 n])])
    | .str s => .iface 136 (.agg [.iface 152 (.agg [.str s])])
    | .bool b => .iface 136 (.agg [.iface 154 (.agg [.bool b])])
    | .list l => .iface 136 (.agg [.iface 60 (.agg [.fz (valAVs l) l.length false])])
    | .quot l => .iface 136 (.agg [.iface 148 (.agg [.fz (itemAVs l) l.length false])])
    | .box n => .iface 136 (.agg [.iface 157 (.agg [.int .i64 n])])) :: itemAVs r
end
/-- An item. -/
def itemAV (t : Tree) : AV := match t with
  | .none => .nili
  | .call s => .iface 79 (.agg [.str s])
  | .odd t v => .iface t v
  | t => .iface 136 (.agg [valAV t])
theorem itemAVs_cons (t : Tree) (r : List Tree) : itemAVs (t :: r) = itemAV t :: itemAVs r := by
  cases t <;> simp [itemAVs, itemAV, valAV]
theorem itemAVs_map : ∀ l : List Tree, itemAVs l = l.map itemAV
  | [] => by simp [itemAVs]
  | t :: r => by rw [itemAVs_cons, itemAVs_map r]; rfl
theorem valAVs_map : ∀ l : List Tree, valAVs l = l.map valAV
  | [] => by simp [valAVs]
  | t :: r => by rw [valAVs, valAVs_map r]; rfl
@[simp] theorem itemAVs_length (l : List Tree) : (itemAVs l).length = l.length := by simp [itemAVs_map]
@[simp] theorem valAVs_length (l : List Tree) : (valAVs l).length = l.length := by simp [valAVs_map]
theorem itemAVs_snoc (l : List Tree) (t : Tree) : itemAVs (l ++ [t]) = itemAVs l ++ [itemAV t] := by simp [itemAVs_map]
theorem valAV_one' (t : Tree) : (valAV t).one = true := by cases t <;> rfl
theorem itemAV_one (t : Tree) : (itemAV t).one = true := by cases t <;> rfl
end Go.Proofs.YtonkeklageehbaaGreatDoor

namespace Go.Proofs.YtonkeklageehbaaGreatDoor
open Go Go.Av
structure VocT where
  name : List UInt8
  uses : List (List UInt8)
structure WordT where
  vocab : List UInt8
  name : List UInt8
  inn : Int
  out : Int
  body : List Tree
structure DictT where
  vocs : List VocT
  words : List WordT
def usV (u : List (List UInt8)) : AV := .fz (u.map .str) u.length false
def vocC (v : VocT) : List AV := [.str v.name, usV v.uses]
def wordC (w : WordT) : List AV := [.str w.vocab, .str w.name, .int .i64 w.inn, .int .i64 w.out, .fz (itemAVs w.body) w.body.length false]
theorem vocC_len (v : VocT) : (vocC v).length = 2 := rfl
theorem wordC_len (w : WordT) : (wordC w).length = 5 := rfl
def dictC (d : DictT) : List AV := [.fz (d.vocs.flatMap vocC) d.vocs.length false, .fz (d.words.flatMap wordC) d.words.length false]
def usesN (l : List VocT) : List (List UInt8 × List (List UInt8)) := l.foldl (fun m v => putA m v.name v.uses) []
theorem usesN_snoc (l : List VocT) (v : VocT) : usesN (l ++ [v]) = putA (usesN l) v.name v.uses := by simp [usesN]
theorem take_snoc {α : Type} {l : List α} {k : Nat} {x : α} (h : l[k]? = some x) : l.take (k + 1) = l.take k ++ [x] := by rw [List.take_add_one, h]; rfl
/-- What an update does to the entries. -/
theorem ent_put {α : Type} (f : α → AV) (l : List (List UInt8 × α)) (k : List UInt8) (v : α) : (∃ i w, idxA l k 0 = some (i, w) ∧ (entA f l).set i (.str k, f v) = entA f (putA l k v)) ∨ (idxA l k 0 = none ∧ entA f l ++ [(.str k, f v)] = entA f (putA l k v)) := by
  cases h : idxA l k 0 with
  | some p =>
    left
    refine ⟨p.1, p.2, rfl, ?_⟩
    unfold putA
    rw [h]
    unfold entA
    rw [List.map_set]
  | none =>
    right
    refine ⟨rfl, ?_⟩
    unfold putA
    rw [h]
    unfold entA
    simp
theorem f_uses (d : DictT) (hv : d.vocs.length ≤ 4000000000000) : ACalls Tryz.prog 72 [.agg (dictC d)] [] fun out st' => ∃ b, out = .ret (.mapr b) ∧ st' = [(b, .map (entA usV (usesN d.vocs)))] := by
  obtain ⟨vs, ws⟩ := d
  show ACalls Tryz.prog 72 [.agg [.fz (vs.flatMap vocC) vs.length false, .fz (ws.flatMap wordC) ws.length false]] [] _
  dsimp only at hv
  refine ACalls.of_W tb_ok (fn := Tryz.f72) (n := 21) (by kernel_rfl) rfl (by kernel_rfl) rfl rfl (by simp) (go ?_)
  refine VAll.mk (fun b1 => go ?_)
  refine VAll.mk (fun bm => go ?_)
  refine VLoop.mk [10] Nat (fun k => [.int .i64 k]) (fun k => [(bm, .map (entA usV (usesN (vs.take k))))]) (fun k => k ≤ vs.length) (fun k => vs.length - k) 0 ?_ ?_
  · exact ⟨Nat.zero_le _, rfl, .cons 0 rfl .nil⟩
  intro k hk
  refine go ?_
  refine fork (fun hlt => go ?_) (fun hlt => go ?_)
  · have hlt : k < vs.length := by omega
    obtain ⟨x, hx⟩ : ∃ x, vs[k]? = some x := ⟨vs[k], by simp [hlt]⟩
    have hd := flat_drop vocC 2 vocC_len hx
    have hts := take_snoc hx
    obtain ⟨nm, us⟩ := x
    have d0 : (List.drop (mulN k 2) (vs.flatMap vocC)).take 2 = [.str nm, usV us] := by rw [hd]; rfl
    refine VTake.mk _ d0 rfl (go ?_)
    refine VAll.mk (fun b5 => go ?_)
    rcases ent_put usV (usesN (vs.take k)) nm us with ⟨i, w, h1, h2⟩ | ⟨h1, h2⟩
    · refine VMap.mk _ (by rw [mapFind_A, h1]) (go ?_)
      refine ⟨k + 1, by omega, by omega, rfl, ?_⟩
      rw [hts, usesN_snoc, ← h2]
      exact .cons 1 rfl .nil
    · refine VMap.mk _ (by rw [mapFind_A, h1]) (go ?_)
      refine ⟨k + 1, by omega, by omega, rfl, ?_⟩
      rw [hts, usesN_snoc, ← h2]
      exact .cons 1 rfl .nil
  · obtain rfl : k = vs.length := by omega
    rw [List.take_length]
    refine VRet.mk _ (.cons 0 rfl .nil) ⟨bm, rfl, rfl⟩
end Go.Proofs.YtonkeklageehbaaGreatDoor

namespace Go.Proofs.YtonkeklageehbaaGreatDoor
open Go Go.Av
abbrev Txt := List UInt8
/-- The names that were seen. -/
def seenE (s : List Txt) : List (AV × AV) := entA (fun _ : Unit => AV.bool true) (s.map fun x => (x, ()))
theorem idxA_seen (k : Txt) : ∀ (s : List Txt) (i : Nat), ((idxA (s.map fun x => (x, ())) k i).isSome = true ↔ k ∈ s)
  | [], i => by simp [idxA]
  | x :: r, i => by
    rw [List.map_cons, idxA]
    by_cases h : k = x
    · rw [if_pos h]; simp [h]
    · rw [if_neg h, idxA_seen k r (i + 1)]; simp [h]
theorem seen_find (k : Txt) (s : List Txt) : (k ∈ s ∧ ∃ i, mapFind (seenE s) (.str k) 0 = some (some (i, .bool true))) ∨ (k ∉ s ∧ mapFind (seenE s) (.str k) 0 = some none) := by
  have h := idxA_seen k s 0
  unfold seenE
  rw [mapFind_A]
  cases hq : idxA (s.map fun x => (x, ())) k 0 with
  | some p => left; rw [hq] at h; exact ⟨h.1 rfl, p.1, rfl⟩
  | none => right; rw [hq] at h; exact ⟨fun hm => by simpa using h.2 hm, rfl⟩
theorem seenE_snoc (s : List Txt) (k : Txt) : seenE s ++ [(.str k, .bool true)] = seenE (s ++ [k]) := by simp [seenE, entA]
def scanF (rec : Txt → List Txt → Bool × List Txt) (tgt : Txt) : List Txt → List Txt → Bool × List Txt
  | [], s => (false, s)
  | u :: r, s => if u = tgt then (true, s) else if (rec u s).1 = true then (true, (rec u s).2) else scanF rec tgt r (rec u s).2
def leadsF (m : List (Txt × List Txt)) (tgt : Txt) : Nat → Txt → List Txt → Bool × List Txt
  | 0, _, s => (false, s)
  | n + 1, k, s => if k ∈ s then (false, s) else scanF (leadsF m tgt n) tgt ((getA m k).getD []) (s ++ [k])
/-- How many keys were not seen. -/
def keysLeft (m : List (Txt × List Txt)) (s : List Txt) : Nat := (m.filter fun e => !s.contains e.1).length
theorem keysLeft_mono {m : List (Txt × List Txt)} {s t : List Txt} (h : ∀ x ∈ s, x ∈ t) : keysLeft m t ≤ keysLeft m s := by
  unfold keysLeft
  induction m with
  | nil => simp
  | cons e r ih =>
    simp only [List.filter_cons]
    by_cases h1 : e.1 ∈ s
    · have h2 := h _ h1
      simp [h1, h2]; simpa using ih
    · by_cases h2 : e.1 ∈ t
      · simp [h1, h2]
        have := ih
        simp at this; omega
      · simp [h1, h2]; simpa using ih
theorem keysLeft_add {m : List (Txt × List Txt)} {s : List Txt} {k : Txt} {v : List Txt} (hk : getA m k = some v) (hs : k ∉ s) : keysLeft m (s ++ [k]) < keysLeft m s := by
  have hm := getA_mem hk
  clear hk
  unfold keysLeft
  induction m with
  | nil => cases hm
  | cons e r ih =>
    simp only [List.filter_cons]
    have hle : keysLeft r (s ++ [k]) ≤ keysLeft r s := keysLeft_mono fun x hx => List.mem_append_left _ hx
    unfold keysLeft at hle
    rcases List.mem_cons.1 hm with rfl | hm
    · simp [hs]
      simp at hle; omega
    · have ih := ih hm
      by_cases h1 : e.1 ∈ s
      · simp [h1]; simpa using ih
      · by_cases h2 : e.1 = k
        · simp [h2, hs]; simp at hle; omega
        · simp [h1, h2]; simpa using ih
theorem scan_sub {rec : Txt → List Txt → Bool × List Txt} (hr : ∀ u s, ∀ x ∈ s, x ∈ (rec u s).2) (tgt : Txt) : ∀ (us s : List Txt), ∀ x ∈ s, x ∈ (scanF rec tgt us s).2
  | [], s, x, h => h
  | u :: r, s, x, h => by
    rw [scanF]
    split
    · exact h
    · split
      · exact hr u s x h
      · exact scan_sub hr tgt r _ x (hr u s x h)
theorem leads_sub (m : List (Txt × List Txt)) (tgt : Txt) : ∀ (n : Nat) (k : Txt) (s : List Txt), ∀ x ∈ s, x ∈ (leadsF m tgt n k s).2
  | 0, _, _, _, h => h
  | n + 1, k, s, x, h => by
    rw [leadsF]
    split
    · exact h
    · exact scan_sub (fun u s x hx => leads_sub m tgt n u s x hx) tgt _ _ x (List.mem_append_left _ h)
end Go.Proofs.YtonkeklageehbaaGreatDoor

namespace Go.Proofs.YtonkeklageehbaaGreatDoor
open Go Go.Av
def capS (b6 b4 b7 bm bs : Nat) (tgt : Txt) (mo : AObj) (s : List Txt) : St := [(b6, .box [.str tgt]), (b4, .box [.mapr bm]), (b7, .box [.mapr bs]), (bm, mo), (bs, .map (seenE s))]
def LeadC (bm bs : Nat) (tgt : Txt) (mo : AObj) (rec : Txt → List Txt → Bool × List Txt) (u : Txt) (s : List Txt) : Prop :=
  ACalls Tryz.prog 73 [.mapr bm, .str u, .str tgt, .mapr bs] [(bm, mo), (bs, .map (seenE s))] fun out st => out = .ret (.bool (rec u s).1) ∧ st = [(bm, mo), (bs, .map (seenE (rec u s).2))]
theorem f_leads1 (b6 b4 b7 bm bs : Nat) (tgt : Txt) (mo : AObj) (rec : Txt → List Txt → Bool × List Txt) (u : Txt) (s : List Txt) (H : LeadC bm bs tgt mo rec u s) :
    ACalls Tryz.prog 98 [.str u, .ptr b6 0, .ptr b4 0, .ptr b7 0] (capS b6 b4 b7 bm bs tgt mo s) fun out st =>
      (u = tgt ∧ out = .ret (.bool true) ∧ st = capS b6 b4 b7 bm bs tgt mo s) ∨ (u ≠ tgt ∧ out = .ret (.bool (rec u s).1) ∧ st = capS b6 b4 b7 bm bs tgt mo (rec u s).2) := by
  unfold capS
  refine ACalls.of_W tb_ok (fn := Tryz.f98) (n := 16) (by kernel_rfl) rfl (by kernel_rfl) rfl rfl (by simp) (go ?_)
  refine fork (fun h => go ?_) (fun h => go ?_)
  · exact VRet.mk _ (VSel.refl _) (.inl ⟨h, rfl, rfl⟩)
  · refine ACalls.usep (R := [(b6, .box [.str tgt]), (b4, .box [.mapr bm]), (b7, .box [.mapr bs])]) H (by exact List.perm_append_comm) ?_
    rintro out s' ⟨rfl, rfl⟩
    refine go ?_
    exact VRet.mk _ (VSel.refl _) (.inr ⟨h, rfl, rfl⟩)
theorem f_idx (b6 b4 b7 bm bs : Nat) (tgt : Txt) (mo : AObj) (rec : Txt → List Txt → Bool × List Txt) (Pr : List Txt → Prop) (hP : ∀ u s, Pr s → Pr (rec u s).2) (H : ∀ u s, Pr s → LeadC bm bs tgt mo rec u s) (us : List Txt) (hu : us.length ≤ 1000000000000000) (s : List Txt) (hs : Pr s) :
    ACalls Tryz.prog 122 [usV us, .fn (.func 98) [] [.ptr b6 0, .ptr b4 0, .ptr b7 0]] (capS b6 b4 b7 bm bs tgt mo s) fun out st =>
      ∃ i : Int, out = .ret (.int .i64 i) ∧ decide (0 ≤ i) = (scanF rec tgt us s).1 ∧ st = capS b6 b4 b7 bm bs tgt mo (scanF rec tgt us s).2 := by
  unfold usV
  refine ACalls.of_W tb_ok (fn := Tryz.f122) (n := 19) (by kernel_rfl) rfl (by kernel_rfl) rfl rfl (by simp) (go ?_)
  refine VLoop.mk [8] (Nat × List Txt) (fun i => [.int .i64 i.1]) (fun i => capS b6 b4 b7 bm bs tgt mo i.2) (fun i => i.1 ≤ us.length ∧ Pr i.2 ∧ scanF rec tgt (us.drop i.1) i.2 = scanF rec tgt us s) (fun i => us.length - i.1) (0, s) ?_ ?_
  · exact ⟨⟨Nat.zero_le _, hs, rfl⟩, rfl, VSel.refl _⟩
  rintro ⟨k, t⟩ ⟨hk, ht, hI⟩
  dsimp only at hk ht hI ⊢
  refine go ?_
  refine fork (fun hlt => go ?_) (fun hlt => go ?_)
  · have hlt : k < us.length := by omega
    obtain ⟨x, hx⟩ : ∃ x, us[k]? = some x := ⟨us[k], by simp [hlt]⟩
    have hd : us.drop k = x :: us.drop (k + 1) := by
      rw [List.drop_eq_getElem_cons hlt]
      rw [List.getElem?_eq_getElem hlt] at hx
      rw [Option.some.inj hx]
    refine VNth.mk (.str x) (by rw [List.getElem?_drop]; show (us.map AV.str)[k + 0]? = _; simp [hx]) (go ?_)
    refine ACalls.mono (f_leads1 b6 b4 b7 bm bs tgt mo rec x t (H x t ht)) ?_
    rw [hd, scanF] at hI
    rintro out st' (⟨h, rfl, rfl⟩ | ⟨h, rfl, rfl⟩)
    · rw [if_pos h] at hI
      refine go ?_
      refine VRet.mk _ (VSel.refl _) ⟨(k : Int), rfl, ?_, ?_⟩
      · rw [← hI]; simp
      · rw [← hI]
    · rw [if_neg h] at hI
      cases hr : (rec x t).1 with
      | true =>
        rw [hr, if_pos rfl] at hI
        refine go ?_
        refine VRet.mk _ (VSel.refl _) ⟨(k : Int), rfl, ?_, ?_⟩
        · rw [← hI]; simp
        · rw [← hI]
      | false =>
        rw [hr, if_neg (by simp)] at hI
        refine go ?_
        exact ⟨(k + 1, (rec x t).2), ⟨by dsimp only; omega, hP _ _ ht, hI⟩, by dsimp only; omega, rfl, VSel.refl _⟩
  · have : k = us.length := by omega
    subst this
    rw [List.drop_length, scanF] at hI
    refine VRet.mk _ (VSel.refl _) ⟨-1, rfl, ?_, ?_⟩
    · rw [← hI]; rfl
    · rw [← hI]
theorem f_cont (b6 b4 b7 bm bs : Nat) (tgt : Txt) (mo : AObj) (rec : Txt → List Txt → Bool × List Txt) (Pr : List Txt → Prop) (hP : ∀ u s, Pr s → Pr (rec u s).2) (H : ∀ u s, Pr s → LeadC bm bs tgt mo rec u s) (us : List Txt) (hu : us.length ≤ 1000000000000000) (s : List Txt) (hs : Pr s) :
    ACalls Tryz.prog 97 [usV us, .fn (.func 98) [] [.ptr b6 0, .ptr b4 0, .ptr b7 0]] (capS b6 b4 b7 bm bs tgt mo s) fun out st =>
      out = .ret (.bool (scanF rec tgt us s).1) ∧ st = capS b6 b4 b7 bm bs tgt mo (scanF rec tgt us s).2 := by
  have h := f_idx b6 b4 b7 bm bs tgt mo rec Pr hP H us hu s hs
  generalize scanF rec tgt us s = r at h
  unfold usV at h ⊢
  refine ACalls.of_W tb_ok (fn := Tryz.f97) (n := 9) (by kernel_rfl) rfl (by kernel_rfl) rfl rfl (by simp) (go ?_)
  refine ACalls.mono h ?_
  rintro out st' ⟨i, rfl, hi, rfl⟩
  refine go ?_
  refine VRet.mk _ (VSel.refl _) ⟨?_, rfl⟩
  exact congrArg (fun b => AOut.ret (.bool b)) hi
theorem f_contN (f : AV) (hg : ∃ k a b, f = .fn k a b) : Av.Fn Tryz.prog 97 [.fz [] 0 false, f] (.bool false) := by
  obtain ⟨k, a, b, rfl⟩ := hg
  have h : Av.Fn Tryz.prog 122 [.fz [] 0 false, .fn k a b] (.int .i64 (-1)) := by
    refine ACalls.of_W tb_ok (fn := Tryz.f122) (n := 19) (by kernel_rfl) rfl (by kernel_rfl) rfl rfl (by simp) (go ?_)
    refine VLoop.un 1 [8] (go ?_)
    refine VRet.mk [] .nil ?_
    exact ⟨rfl, rfl⟩
  refine ACalls.of_W tb_ok (fn := Tryz.f97) (n := 9) (by kernel_rfl) rfl (by kernel_rfl) rfl rfl (by simp) (go ?_)
  refine Fn.use (h) (go ?_)
  refine VRet.mk [] .nil ?_
  exact ⟨rfl, rfl⟩

theorem f_lead (bm bs : Nat) (tgt : Txt) (m : List (Txt × List Txt)) (hm : ∀ e ∈ m, e.2.length ≤ 1000000000000000) (mo : AObj) (hmo : mo = .map (entA usV m) ∨ ∃ a c, mo = .mapS (entA usV m) a c) :
    ∀ (n : Nat) (k : Txt) (s : List Txt), keysLeft m s < n → LeadC bm bs tgt mo (leadsF m tgt n) k s
  | 0, _, _, h => absurd h (Nat.not_lt_zero _)
  | n + 1, k, s, h => by
    have ih := f_lead bm bs tgt m hm mo hmo n
    unfold LeadC
    rcases hmo with rfl | ⟨a, c, rfl⟩
    · refine ACalls.of_W tb_ok (fn := Tryz.f73) (n := 19) (by kernel_rfl) rfl (by kernel_rfl) rfl rfl (by simp) (go ?_)
      refine VAll.mk (fun b4 => go ?_)
      refine VAll.mk (fun b6 => go ?_)
      refine VAll.mk (fun b7 => go ?_)
      rcases seen_find k s with ⟨h1, i, h2⟩ | ⟨h1, h2⟩
      · refine VMap.mk _ h2 (go ?_)
        refine VRet.mk _ (.cons 3 rfl (.cons 3 rfl .nil)) ⟨?_, ?_⟩
        · rw [leadsF, if_pos h1]
        · rw [leadsF, if_pos h1]
      · refine VMap.mk _ h2 (go ?_)
        refine VMap.mk _ h2 (go ?_)
        rw [leadsF, if_neg h1]
        cases hg : getA m k with
        | none =>
          have h3 : mapFind (entA usV m) (.str k) 0 = some none := by rw [mapFind_A, idxA_none.2 hg]; rfl
          refine VMap.mk _ h3 (go ?_)
          refine Fn.use (f_contN _ ⟨_, _, _, rfl⟩) (go ?_)
          refine VRet.mk _ (.cons 3 rfl (.cons 3 rfl .nil)) ⟨rfl, ?_⟩
          exact congrArg (fun e => [(bm, _), (bs, AObj.map e)]) (seenE_snoc s k)
        | some us =>
          obtain ⟨j, hj⟩ : ∃ j, idxA m k 0 = some (j, us) := by
            unfold getA at hg
            cases hq : idxA m k 0 with
            | none => rw [hq] at hg; cases hg
            | some p => rw [hq] at hg; obtain ⟨p1, p2⟩ := p; exact ⟨p1, by rw [show p2 = us from Option.some.inj hg]⟩
          have h3 : mapFind (entA usV m) (.str k) 0 = some (some (j, usV us)) := by rw [mapFind_A, hj]; rfl
          refine VMap.mk _ h3 (go ?_)
          rw [seenE_snoc]
          have hk2 := keysLeft_add hg h1
          refine ACalls.use (R := []) (f_cont b6 b4 b7 bm bs tgt _ (leadsF m tgt n) (fun t => keysLeft m t < n) (fun u t ht => Nat.lt_of_le_of_lt (keysLeft_mono (leads_sub m tgt n u t)) ht) (fun u t ht => ih u t ht) us (hm _ (getA_mem hg)) (s ++ [k]) (by omega)) ?_ ?_
          · rw [List.append_nil]; exact List.perm_middle (l₁ := [_, _])
          · rintro out s' ⟨rfl, rfl⟩
            unfold capS
            refine go ?_
            exact VRet.mk _ (.cons 3 rfl (.cons 3 rfl .nil)) ⟨rfl, rfl⟩
    · refine ACalls.of_W tb_ok (fn := Tryz.f73) (n := 19) (by kernel_rfl) rfl (by kernel_rfl) rfl rfl (by simp) (go ?_)
      refine VAll.mk (fun b4 => go ?_)
      refine VAll.mk (fun b6 => go ?_)
      refine VAll.mk (fun b7 => go ?_)
      rcases seen_find k s with ⟨h1, i, h2⟩ | ⟨h1, h2⟩
      · refine VMap.mk _ h2 (go ?_)
        refine VRet.mk _ (.cons 3 rfl (.cons 3 rfl .nil)) ⟨?_, ?_⟩
        · rw [leadsF, if_pos h1]
        · rw [leadsF, if_pos h1]
      · refine VMap.mk _ h2 (go ?_)
        refine VMap.mk _ h2 (go ?_)
        rw [leadsF, if_neg h1]
        cases hg : getA m k with
        | none =>
          have h3 : mapFind (entA usV m) (.str k) 0 = some none := by rw [mapFind_A, idxA_none.2 hg]; rfl
          refine VMap.mk _ h3 (go ?_)
          refine Fn.use (f_contN _ ⟨_, _, _, rfl⟩) (go ?_)
          refine VRet.mk _ (.cons 3 rfl (.cons 3 rfl .nil)) ⟨rfl, ?_⟩
          exact congrArg (fun e => [(bm, _), (bs, AObj.map e)]) (seenE_snoc s k)
        | some us =>
          obtain ⟨j, hj⟩ : ∃ j, idxA m k 0 = some (j, us) := by
            unfold getA at hg
            cases hq : idxA m k 0 with
            | none => rw [hq] at hg; cases hg
            | some p => rw [hq] at hg; obtain ⟨p1, p2⟩ := p; exact ⟨p1, by rw [show p2 = us from Option.some.inj hg]⟩
          have h3 : mapFind (entA usV m) (.str k) 0 = some (some (j, usV us)) := by rw [mapFind_A, hj]; rfl
          refine VMap.mk _ h3 (go ?_)
          rw [seenE_snoc]
          have hk2 := keysLeft_add hg h1
          refine ACalls.use (R := []) (f_cont b6 b4 b7 bm bs tgt _ (leadsF m tgt n) (fun t => keysLeft m t < n) (fun u t ht => Nat.lt_of_le_of_lt (keysLeft_mono (leads_sub m tgt n u t)) ht) (fun u t ht => ih u t ht) us (hm _ (getA_mem hg)) (s ++ [k]) (by omega)) ?_ ?_
          · rw [List.append_nil]; exact List.perm_middle (l₁ := [_, _])
          · rintro out s' ⟨rfl, rfl⟩
            unfold capS
            refine go ?_
            exact VRet.mk _ (.cons 3 rfl (.cons 3 rfl .nil)) ⟨rfl, rfl⟩
end Go.Proofs.YtonkeklageehbaaGreatDoor

namespace Go.Proofs.YtonkeklageehbaaGreatDoor
open Go Go.Av
theorem fn_IndexByte (l : List UInt8) (c : Int) : Av.Fn Tryz.prog 152 [.str l, .int .u8 c] (.int .i64 (Lib.indexByte l c.toNat.toUInt8)) := by
  refine Fn.of_calls (fn := Tryz.f152) (by kernel_rfl) rfl (by kernel_rfl) ?_
  intro W w g us hl hr hb
  obtain ⟨u1, _, rfl, ⟨h1, _⟩, u2, _, rfl, ⟨h2, _⟩, h3⟩ := hr
  have h1 : u1 = _ := h1; have h2 : u2 = _ := h2; have h3 : _ = [] := h3
  subst h1; subst h2; subst h3
  refine (Tryz.strings_IndexByte ⟨⟨l⟩⟩ c w).mono fun e w' ⟨h1, h2⟩ => ?_
  subst h2
  exact ⟨_, h1, rfl, RowKit.Below.refl _ _⟩
theorem fn_ValidRune (r : Int) : Av.Fn Tryz.prog 153 [.int .i32 r] (.bool (Lib.validRune r)) := by
  refine Fn.of_calls (fn := Tryz.f153) (by kernel_rfl) rfl (by kernel_rfl) ?_
  intro W w g us hl hr hb
  obtain ⟨u1, _, rfl, ⟨h1, _⟩, h3⟩ := hr
  have h1 : u1 = _ := h1; have h3 : _ = [] := h3
  subst h1; subst h3
  refine (Tryz.utf8_ValidRune r w).mono fun e w' ⟨h1, h2⟩ => ?_
  subst h2
  exact ⟨_, h1, rfl, RowKit.Below.refl _ _⟩
theorem fn_Cutover (n : Int) (h0 : 0 ≤ n) (h1 : n < 4611686018427387904) : Av.Fn Tryz.prog 154 [.int .i64 n] (.int .i64 ((n + 16) / 8)) := by
  refine Fn.of_calls (fn := Tryz.f154) (by kernel_rfl) rfl (by kernel_rfl) ?_
  intro W w g us hl hr hb
  obtain ⟨u1, _, rfl, ⟨h1, _⟩, h3⟩ := hr
  have h1 : u1 = _ := h1; have h3 : _ = [] := h3
  subst h1; subst h3
  refine (Tryz.bytealg_Cutover n (by assumption) (by assumption) w).mono fun e w' ⟨h1, h2⟩ => ?_
  subst h2
  exact ⟨_, h1, rfl, RowKit.Below.refl _ _⟩
theorem fn_Decode (l : List UInt8) : Av.Fn Tryz.prog 120 [.str l] (.tup [.int .i32 (Lib.decodeGo ⟨⟨l⟩⟩).1, .int .i64 (Lib.decodeGo ⟨⟨l⟩⟩).2]) := by
  refine Fn.of_calls (fn := Tryz.f120) (by kernel_rfl) rfl (by kernel_rfl) ?_
  intro W w g us hl hr hb
  obtain ⟨u1, _, rfl, ⟨h1, _⟩, h3⟩ := hr
  have h1 : u1 = _ := h1; have h3 : _ = [] := h3
  subst h1; subst h3
  refine (Tryz.utf8_DecodeRuneInString ⟨⟨l⟩⟩ w (hl.now hb (by kernel_rfl) (by kernel_rfl))).mono fun e w' ⟨h1, h2⟩ => ?_
  exact ⟨_, h1, ⟨_, rfl, _, _, rfl, ⟨rfl, by simp⟩, _, _, rfl, ⟨rfl, by simp⟩, rfl⟩, h2⟩
end Go.Proofs.YtonkeklageehbaaGreatDoor

namespace Go.Proofs.YtonkeklageehbaaGreatDoor
open Go Go.Av
/-- Does a text begin with another? -/
def begins (s p : List UInt8) : Bool := decide (p.length ≤ s.length) && decide (s.take p.length = p)
theorem fn_sHasPrefix (s p : List UInt8) : Av.Fn Tryz.prog 138 [.str s, .str p] (.bool (begins s p)) := by
  refine ACalls.of_W tb_ok (fn := Tryz.f138) (n := 18) (by kernel_rfl) rfl (by kernel_rfl) rfl rfl (by simp) (go ?_)
  refine fork (fun h => go ?_) (fun h => go ?_)
  · refine VRet.mk [] .nil ?_
    simp [begins, Int.ofNat_le.1 h]
  · refine VRet.mk [] .nil ?_
    simp [begins]
    omega
theorem fn_HasPrefix (s p : List UInt8) : Av.Fn Tryz.prog 119 [.str s, .str p] (.bool (begins s p)) := by
  refine ACalls.of_W tb_ok (fn := Tryz.f119) (n := 8) (by kernel_rfl) rfl (by kernel_rfl) rfl rfl (by simp) (go ?_)
  refine Fn.use (fn_sHasPrefix s p) (go ?_)
  refine VRet.mk [] .nil ?_
  simp
end Go.Proofs.YtonkeklageehbaaGreatDoor

namespace Go.Av
open Go

/-- The first character of a text, and how many bytes it has. -/
def dec (l : List UInt8) : Nat × Nat := Utf8.decode ⟨⟨l⟩⟩ 0
theorem dec_at (l : List UInt8) (p : Nat) : Utf8.decode ⟨⟨l⟩⟩ p = dec (l.drop p) := (Lib.decodeL_drop ⟨⟨l⟩⟩ p).symm
theorem dec_N (l : List UInt8) : dec l = Lib.decodeN l.length (l.getD 0 0).toNat (l.getD 1 0).toNat (l.getD 2 0).toNat (l.getD 3 0).toNat := Lib.decodeL_N l
theorem dec_pos (l : List UInt8) (h : l ≠ []) : 1 ≤ (dec l).2 ∧ (dec l).2 ≤ l.length ∧ (dec l).2 ≤ 4 ∧ (dec l).1 ≤ 1114111 := by
  have hl : 1 ≤ l.length := by cases l with | nil => exact absurd rfl h | cons => simp
  rw [dec_N]
  unfold Lib.decodeN
  repeat' split
  all_goals simp only
  all_goals omega
/-- The characters of a text, each with how many bytes it has. -/
def runesN : Nat → List UInt8 → List (Nat × Nat)
  | 0, _ => []
  | n + 1, l => if l = [] then [] else dec l :: runesN n (l.drop (dec l).2)
def runes (l : List UInt8) : List (Nat × Nat) := runesN l.length l
theorem runesN_eq : ∀ (n : Nat) (l : List UInt8), l.length ≤ n → runesN n l = runesN l.length l
  | 0, l, h => by have : l = [] := List.length_eq_zero_iff.1 (by omega); subst this; rfl
  | n + 1, l, h => by
    by_cases e : l = []
    · subst e; simp [runesN]
    · obtain ⟨h1, h2, _⟩ := dec_pos l e
      obtain ⟨m, hm⟩ : ∃ m, l.length = m + 1 := ⟨l.length - 1, by omega⟩
      rw [hm]
      simp only [runesN, e, if_false]
      have h3 : (l.drop (dec l).2).length ≤ m := by rw [List.length_drop]; omega
      rw [runesN_eq n _ (by rw [List.length_drop]; omega), runesN_eq m _ h3]
@[simp] theorem runes_nil : runes [] = [] := rfl
theorem runes_cons {l : List UInt8} (h : l ≠ []) : runes l = dec l :: runes (l.drop (dec l).2) := by
  obtain ⟨h1, h2, _⟩ := dec_pos l h
  obtain ⟨m, hm⟩ : ∃ m, l.length = m + 1 := ⟨l.length - 1, by omega⟩
  unfold runes
  rw [hm]
  simp only [runesN, h, if_false]
  rw [runesN_eq m _ (by rw [List.length_drop]; omega)]
theorem runes_ind {C : List UInt8 → Prop} (h0 : C []) (h1 : ∀ l, l ≠ [] → C (l.drop (dec l).2) → C l) : ∀ l, C l := by
  intro l
  induction hn : l.length using Nat.strongRecOn generalizing l with
  | _ n ih =>
    by_cases e : l = []
    · rw [e]; exact h0
    · obtain ⟨h2, h3, _⟩ := dec_pos l e
      exact h1 l e (ih _ (by rw [List.length_drop]; omega) _ rfl)
end Go.Av

namespace Go.Proofs.YtonkeklageehbaaGreatDoor
open Go Go.Av
/-- The blanks, as a text. -/
def blanks : List UInt8 := [9, 10, 13, 32, 194, 160, 227, 128, 128]
def blankB (r : Int) : Bool := decide (r = 9) || decide (r = 10) || decide (r = 13) || decide (r = 32) || decide (r = 160) || decide (r = 12288)
theorem ascii_blank : ∀ n : Fin 128, (decide (0 ≤ Lib.indexByte blanks (UInt8.ofNat n.1)) = blankB n.1) := by decide +kernel
def posn (i : Nat) : Nat := [0, 1, 2, 3, 4, 6, 9].getD i 9
theorem posn_next : ∀ i : Fin 6, (Utf8.decode ⟨⟨blanks⟩⟩ (posn i.1)).1 < 13000 ∧ posn i.1 + (Utf8.decode ⟨⟨blanks⟩⟩ (posn i.1)).2 = posn (i.1 + 1) ∧ posn i.1 < 9 := by decide +kernel
theorem f37_ascii (r : Int) (h0 : 0 ≤ r) (h1 : r < 128) : ∃ k : Int, decide (0 ≤ k) = blankB r ∧ Av.Fn Tryz.prog 137 [.str blanks, .int .i32 r] (.int .i64 k) := by
  refine ⟨Lib.indexByte blanks r.toNat.toUInt8, ?_, ?_⟩
  · have := ascii_blank ⟨r.toNat, by omega⟩
    simp only [show ((r.toNat : Nat) : Int) = r by omega] at this
    exact this
  · refine ACalls.of_W tb_ok (fn := Tryz.f137) (n := 187) (by kernel_rfl) rfl (by kernel_rfl) rfl rfl (by simp) (go ?_)
    refine fork (fun h2 => go ?_) (fun h2 => go ?_)
    · refine fork (fun h3 => go ?_) (fun h3 => go ?_)
      · refine Fn.use (fn_IndexByte blanks r) (go ?_)
        refine VRet.mk [] .nil ?_
        simp
      · omega
    · omega
theorem f37_bad : Av.Fn Tryz.prog 137 [.str blanks, .int .i32 65533] (.int .i64 (-1)) := by
  refine ACalls.of_W tb_ok (fn := Tryz.f137) (n := 187) (by kernel_rfl) rfl (by kernel_rfl) rfl rfl (by simp) (go ?_)
  refine VAll.mk (fun b => go ?_)
  refine VLoop.mk [] Nat (fun _ => []) (fun i => [(b, .siter blanks (posn i))]) (fun i => i ≤ 6) (fun i => 6 - i) 0 ?_ ?_
  · exact ⟨by omega, rfl, .cons 0 rfl .nil⟩
  intro i hi
  refine go ?_
  refine fork (fun h => go ?_) (fun h => go ?_)
  · have hi6 : i < 6 := by
      rcases Nat.lt_or_ge i 6 with h6 | h6
      · exact h6
      · obtain rfl : i = 6 := by omega
        exact absurd h (by decide)
    obtain ⟨h1, h2, h3⟩ := posn_next ⟨i, hi6⟩
    dsimp only at h1 h2 h3
    generalize Utf8.decode ⟨⟨blanks⟩⟩ (posn i) = c at *
    refine go ?_
    refine fork (fun h4 => go ?_) (fun h4 => go ?_)
    · omega
    · exact ⟨i + 1, by omega, by omega, rfl, .cons 0 (by rw [h2]; rfl) .nil⟩
  · refine VRet.mk [] .nil ?_
    simp
theorem f37_invalid (r : Int) (h0 : 128 ≤ r) (h1 : r ≠ 65533) (h3 : Lib.validRune r = false) : Av.Fn Tryz.prog 137 [.str blanks, .int .i32 r] (.int .i64 (-1)) := by
  refine ACalls.of_W tb_ok (fn := Tryz.f137) (n := 187) (by kernel_rfl) rfl (by kernel_rfl) rfl rfl (by simp) (go ?_)
  refine fork (fun h4 => go ?_) (fun h4 => go ?_)
  · refine fork (fun h5 => go ?_) (fun h5 => go ?_)
    · omega
    · refine fork (fun h6 => go ?_) (fun h6 => go ?_)
      · omega
      · have h := fn_ValidRune r
        rw [h3] at h
        refine Fn.use (h) (go ?_)
        refine VRet.mk [] .nil ?_
        simp
  · omega








theorem blanks_other {c : UInt8} (hc : 128 ≤ c.toNat ∧ c.toNat < 192 ∧ c.toNat ≠ 160 ∧ c.toNat ≠ 128) (k : Nat) : Lib.indexByte (List.drop k blanks) (c.toNat : Int).toNat.toUInt8 = -1 := by
  have key : ∀ n : Fin 256, (128 ≤ n.1 ∧ n.1 < 192 ∧ n.1 ≠ 160 ∧ n.1 ≠ 128) → ∀ k : Fin 10, Lib.indexByte (List.drop k.1 blanks) n.1.toUInt8 = -1 := by decide +kernel
  have h := key ⟨c.toNat, c.toNat_lt⟩ hc
  by_cases hk : k < 10
  · exact h ⟨k, hk⟩
  · rw [List.drop_eq_nil_of_le (by simp [blanks]; omega)]; rfl
theorem f37_2a (r : Int) (e : UInt8) (h0 : 128 ≤ r) (h1 : r ≠ 65533) (h3 : Lib.validRune r = true) (hE : (Utf8.encode r).data.toList = [e, 160]) :
    Av.Fn Tryz.prog 137 [.str blanks, .int .i32 r] (.int .i64 (if e.toNat = 194 then 4 else -1)) := by
  refine ACalls.of_W tb_ok (fn := Tryz.f137) (n := 187) (by kernel_rfl) rfl (by kernel_rfl) rfl rfl (by simp) (go ?_)
  refine fork (fun h4 => go ?_) (fun h4 => go ?_)
  · refine fork (fun h5 => go ?_) (fun h5 => go ?_)
    · omega
    · refine fork (fun h6 => go ?_) (fun h6 => go ?_)
      · omega
      · have h := fn_ValidRune r
        rw [h3] at h
        refine Fn.use (h) (go ?_)
        refine VSem.scope 1 ?_
        refine go ?_
        rw [hE]
        refine go ?_
        refine VInt.to (1) (by simp) (by omega) (by omega) (go ?_)
        refine VLoop.un 5 [9, 10] ?_
        refine go ?_
        refine VSem.scope 1 ?_
        refine go ?_
        refine VQ.mk (.int .i64 3) (by refine go ?_; refine Fn.use (fn_IndexByte _ _) (go ?_); exact ⟨congrArg _ (by show Lib.indexByte (List.drop 2 blanks) 160 = 3; decide +kernel), rfl⟩) (go ?_)
        refine VLoop.un 5 [12] ?_
        refine go ?_
        refine fork (fun h7 => go ?_) (fun h7 => go ?_)
        · have h7 : ¬ (194 : Int) = e.toNat := h7
          rw [if_neg (by omega)]
          refine Fn.use (fn_Cutover _ (by decide) (by decide)) (go ?_)
          refine VSem.scope 1 ?_
          refine go ?_
          refine VQ.mk (.int .i64 (-1)) (by refine go ?_; refine Fn.use (fn_IndexByte _ _) (go ?_); exact ⟨congrArg _ (by show Lib.indexByte (List.drop 7 blanks) 160 = -1; decide +kernel), rfl⟩) (go ?_)
          refine VRet.mk [] .nil ?_
          simp
        · refine VRet.mk [] .nil ?_
          have h7 : (194 : Int) = e.toNat := h7
          rw [if_pos (by omega)]
          simp
  · omega
theorem f37_2b (r : Int) (e : UInt8) (h0 : 128 ≤ r) (h1 : r ≠ 65533) (h3 : Lib.validRune r = true) (hE : (Utf8.encode r).data.toList = [e, 128]) (he : 194 ≤ e.toNat ∧ e.toNat < 224) :
    Av.Fn Tryz.prog 137 [.str blanks, .int .i32 r] (.int .i64 (-1)) := by
  refine ACalls.of_W tb_ok (fn := Tryz.f137) (n := 187) (by kernel_rfl) rfl (by kernel_rfl) rfl rfl (by simp) (go ?_)
  refine fork (fun h4 => go ?_) (fun h4 => go ?_)
  · refine fork (fun h5 => go ?_) (fun h5 => go ?_)
    · omega
    · refine fork (fun h6 => go ?_) (fun h6 => go ?_)
      · omega
      · have h := fn_ValidRune r
        rw [h3] at h
        refine Fn.use (h) (go ?_)
        refine VSem.scope 1 ?_
        refine go ?_
        rw [hE]
        refine go ?_
        refine VInt.to (1) (by simp) (by omega) (by omega) (go ?_)
        refine VLoop.un 5 [9, 10] ?_
        refine go ?_
        refine VSem.scope 1 ?_
        refine go ?_
        refine VQ.mk (.int .i64 5) (by refine go ?_; refine Fn.use (fn_IndexByte _ _) (go ?_); exact ⟨congrArg _ (by show Lib.indexByte (List.drop 2 blanks) 128 = 5; decide +kernel), rfl⟩) (go ?_)
        refine VLoop.un 5 [12] ?_
        refine go ?_
        refine fork (fun h7 => go ?_) (fun h7 => go ?_)
        · refine Fn.use (fn_Cutover _ (by decide) (by decide)) (go ?_)
          refine VSem.scope 1 ?_
          refine go ?_
          refine VLoop.un 5 [12] ?_
          refine go ?_
          refine fork (fun h8 => go ?_) (fun h8 => go ?_)
          · refine Fn.use (fn_Cutover _ (by decide) (by decide)) (go ?_)
            refine VRet.mk [] .nil ?_
            simp
          · exfalso
            have h8 : (128 : Int) = e.toNat := h8
            omega
        · exfalso
          have h7 : (227 : Int) = e.toNat := h7
          omega
  · omega
theorem f37_3a (r : Int) (e e' : UInt8) (h0 : 128 ≤ r) (h1 : r ≠ 65533) (h3 : Lib.validRune r = true) (hE : (Utf8.encode r).data.toList = [e, e', 160]) (he : 128 ≤ e'.toNat ∧ e'.toNat < 192) :
    Av.Fn Tryz.prog 137 [.str blanks, .int .i32 r] (.int .i64 (-1)) := by
  refine ACalls.of_W tb_ok (fn := Tryz.f137) (n := 187) (by kernel_rfl) rfl (by kernel_rfl) rfl rfl (by simp) (go ?_)
  refine fork (fun h4 => go ?_) (fun h4 => go ?_)
  · refine fork (fun h5 => go ?_) (fun h5 => go ?_)
    · omega
    · refine fork (fun h6 => go ?_) (fun h6 => go ?_)
      · omega
      · have h := fn_ValidRune r
        rw [h3] at h
        refine Fn.use (h) (go ?_)
        refine VSem.scope 1 ?_
        refine go ?_
        rw [hE]
        refine go ?_
        refine VInt.to (2) (by simp) (by omega) (by omega) (go ?_)
        refine VLoop.un 5 [9, 10] ?_
        refine go ?_
        refine VSem.scope 1 ?_
        refine go ?_
        refine VQ.mk (.int .i64 2) (by refine go ?_; refine Fn.use (fn_IndexByte _ _) (go ?_); exact ⟨congrArg _ (by show Lib.indexByte (List.drop 3 blanks) 160 = 2; decide +kernel), rfl⟩) (go ?_)
        refine VLoop.un 5 [12] ?_
        refine go ?_
        refine fork (fun h7 => go ?_) (fun h7 => go ?_)
        · refine Fn.use (fn_Cutover _ (by decide) (by decide)) (go ?_)
          refine VSem.scope 1 ?_
          refine go ?_
          refine VQ.mk (.int .i64 (-1)) (by refine go ?_; refine Fn.use (fn_IndexByte _ _) (go ?_); exact ⟨congrArg _ (by show Lib.indexByte (List.drop 7 blanks) 160 = -1; decide +kernel), rfl⟩) (go ?_)
          refine VRet.mk [] .nil ?_
          simp
        · exfalso
          have h7 : (194 : Int) = e'.toNat := h7
          omega
  · omega
theorem f37_3b (r : Int) (e e' : UInt8) (h0 : 128 ≤ r) (h1 : r ≠ 65533) (h3 : Lib.validRune r = true) (hE : (Utf8.encode r).data.toList = [e, e', 128]) (he : 128 ≤ e'.toNat ∧ e'.toNat < 192) :
    Av.Fn Tryz.prog 137 [.str blanks, .int .i32 r] (.int .i64 (if e.toNat = 227 ∧ e'.toNat = 128 then 6 else -1)) := by
  refine ACalls.of_W tb_ok (fn := Tryz.f137) (n := 187) (by kernel_rfl) rfl (by kernel_rfl) rfl rfl (by simp) (go ?_)
  refine fork (fun h4 => go ?_) (fun h4 => go ?_)
  · refine fork (fun h5 => go ?_) (fun h5 => go ?_)
    · omega
    · refine fork (fun h6 => go ?_) (fun h6 => go ?_)
      · omega
      · have h := fn_ValidRune r
        rw [h3] at h
        refine Fn.use (h) (go ?_)
        refine VSem.scope 1 ?_
        refine go ?_
        rw [hE]
        refine go ?_
        refine VInt.to (2) (by simp) (by omega) (by omega) (go ?_)
        refine VLoop.un 5 [9, 10] ?_
        refine go ?_
        refine VSem.scope 1 ?_
        refine go ?_
        refine VQ.mk (.int .i64 4) (by refine go ?_; refine Fn.use (fn_IndexByte _ _) (go ?_); exact ⟨congrArg _ (by show Lib.indexByte (List.drop 3 blanks) 128 = 4; decide +kernel), rfl⟩) (go ?_)
        refine VLoop.un 5 [12] ?_
        refine go ?_
        refine fork (fun h7 => go ?_) (fun h7 => go ?_)
        · refine Fn.use (fn_Cutover _ (by decide) (by decide)) (go ?_)
          refine VSem.scope 1 ?_
          refine go ?_
          refine VLoop.un 5 [12] ?_
          refine go ?_
          refine fork (fun h8 => go ?_) (fun h8 => go ?_)
          · have h8 : ¬ (128 : Int) = e'.toNat := h8
            rw [if_neg (by omega)]
            refine Fn.use (fn_Cutover _ (by decide) (by decide)) (go ?_)
            refine VRet.mk [] .nil ?_
            simp
          · have h8 : (128 : Int) = e'.toNat := h8
            refine fork (fun h9 => go ?_) (fun h9 => go ?_)
            · have h9 : ¬ (227 : Int) = e.toNat := h9
              rw [if_neg (by omega)]
              refine Fn.use (fn_Cutover _ (by decide) (by decide)) (go ?_)
              refine VRet.mk [] .nil ?_
              simp
            · have h9 : (227 : Int) = e.toNat := h9
              rw [if_pos (by omega)]
              refine VRet.mk [] .nil ?_
              simp
        · exfalso
          have h7 : (227 : Int) = e'.toNat := h7
          omega
  · omega
theorem f37_4a (r : Int) (e e'' e' : UInt8) (h0 : 128 ≤ r) (h1 : r ≠ 65533) (h3 : Lib.validRune r = true) (hE : (Utf8.encode r).data.toList = [e, e'', e', 160]) (he : 128 ≤ e'.toNat ∧ e'.toNat < 192) :
    Av.Fn Tryz.prog 137 [.str blanks, .int .i32 r] (.int .i64 (-1)) := by
  refine ACalls.of_W tb_ok (fn := Tryz.f137) (n := 187) (by kernel_rfl) rfl (by kernel_rfl) rfl rfl (by simp) (go ?_)
  refine fork (fun h4 => go ?_) (fun h4 => go ?_)
  · refine fork (fun h5 => go ?_) (fun h5 => go ?_)
    · omega
    · refine fork (fun h6 => go ?_) (fun h6 => go ?_)
      · omega
      · have h := fn_ValidRune r
        rw [h3] at h
        refine Fn.use (h) (go ?_)
        refine VSem.scope 1 ?_
        refine go ?_
        rw [hE]
        refine go ?_
        refine VInt.to (3) (by simp) (by omega) (by omega) (go ?_)
        refine VLoop.un 5 [9, 10] ?_
        refine go ?_
        refine VSem.scope 1 ?_
        refine go ?_
        refine VQ.mk (.int .i64 1) (by refine go ?_; refine Fn.use (fn_IndexByte _ _) (go ?_); exact ⟨congrArg _ (by show Lib.indexByte (List.drop 4 blanks) 160 = 1; decide +kernel), rfl⟩) (go ?_)
        refine VLoop.un 5 [12] ?_
        refine go ?_
        refine fork (fun h7 => go ?_) (fun h7 => go ?_)
        · refine Fn.use (fn_Cutover _ (by decide) (by decide)) (go ?_)
          refine VSem.scope 1 ?_
          refine go ?_
          refine VQ.mk (.int .i64 (-1)) (by refine go ?_; refine Fn.use (fn_IndexByte _ _) (go ?_); exact ⟨congrArg _ (by show Lib.indexByte (List.drop 7 blanks) 160 = -1; decide +kernel), rfl⟩) (go ?_)
          refine VRet.mk [] .nil ?_
          simp
        · exfalso
          have h7 : (194 : Int) = e'.toNat := h7
          omega
  · omega
theorem f37_4b (r : Int) (e e'' e' : UInt8) (h0 : 128 ≤ r) (h1 : r ≠ 65533) (h3 : Lib.validRune r = true) (hE : (Utf8.encode r).data.toList = [e, e'', e', 128]) (he : 128 ≤ e'.toNat ∧ e'.toNat < 192) (he' : 128 ≤ e''.toNat ∧ e''.toNat < 192) :
    Av.Fn Tryz.prog 137 [.str blanks, .int .i32 r] (.int .i64 (-1)) := by
  refine ACalls.of_W tb_ok (fn := Tryz.f137) (n := 187) (by kernel_rfl) rfl (by kernel_rfl) rfl rfl (by simp) (go ?_)
  refine fork (fun h4 => go ?_) (fun h4 => go ?_)
  · refine fork (fun h5 => go ?_) (fun h5 => go ?_)
    · omega
    · refine fork (fun h6 => go ?_) (fun h6 => go ?_)
      · omega
      · have h := fn_ValidRune r
        rw [h3] at h
        refine Fn.use (h) (go ?_)
        refine VSem.scope 1 ?_
        refine go ?_
        rw [hE]
        refine go ?_
        refine VInt.to (3) (by simp) (by omega) (by omega) (go ?_)
        refine VLoop.un 5 [9, 10] ?_
        refine go ?_
        refine VSem.scope 1 ?_
        refine go ?_
        refine VQ.mk (.int .i64 3) (by refine go ?_; refine Fn.use (fn_IndexByte _ _) (go ?_); exact ⟨congrArg _ (by show Lib.indexByte (List.drop 4 blanks) 128 = 3; decide +kernel), rfl⟩) (go ?_)
        refine VLoop.un 5 [12] ?_
        refine go ?_
        refine fork (fun h7 => go ?_) (fun h7 => go ?_)
        · refine Fn.use (fn_Cutover _ (by decide) (by decide)) (go ?_)
          refine VSem.scope 1 ?_
          refine go ?_
          refine VLoop.un 5 [12] ?_
          refine go ?_
          refine fork (fun h8 => go ?_) (fun h8 => go ?_)
          · refine Fn.use (fn_Cutover _ (by decide) (by decide)) (go ?_)
            refine VRet.mk [] .nil ?_
            simp
          · refine fork (fun h9 => go ?_) (fun h9 => go ?_)
            · refine Fn.use (fn_Cutover _ (by decide) (by decide)) (go ?_)
              refine VRet.mk [] .nil ?_
              simp
            · exfalso
              have h9 : (227 : Int) = e''.toNat := h9
              omega
        · exfalso
          have h7 : (227 : Int) = e'.toNat := h7
          omega
  · omega
theorem f37_2c (r : Int) (e c : UInt8) (h0 : 128 ≤ r) (h1 : r ≠ 65533) (h3 : Lib.validRune r = true) (hE : (Utf8.encode r).data.toList = [e, c]) (hc : 128 ≤ c.toNat ∧ c.toNat < 192 ∧ c.toNat ≠ 160 ∧ c.toNat ≠ 128) :
    Av.Fn Tryz.prog 137 [.str blanks, .int .i32 r] (.int .i64 (-1)) := by
  refine ACalls.of_W tb_ok (fn := Tryz.f137) (n := 187) (by kernel_rfl) rfl (by kernel_rfl) rfl rfl (by simp) (go ?_)
  refine fork (fun h4 => go ?_) (fun h4 => go ?_)
  · refine fork (fun h5 => go ?_) (fun h5 => go ?_)
    · omega
    · refine fork (fun h6 => go ?_) (fun h6 => go ?_)
      · omega
      · have h := fn_ValidRune r
        rw [h3] at h
        refine Fn.use (h) (go ?_)
        refine VSem.scope 1 ?_
        refine go ?_
        rw [hE]
        refine go ?_
        refine VInt.to (1) (by simp) (by omega) (by omega) (go ?_)
        refine VLoop.un 5 [9, 10] ?_
        refine go ?_
        refine VSem.scope 1 ?_
        refine go ?_
        refine fork (fun h7 => go ?_) (fun h7 => go ?_)
        · refine VQ.mk (.int .i64 (-1)) (by refine go ?_; refine Fn.use (fn_IndexByte _ _) (go ?_); exact ⟨congrArg _ (by show Lib.indexByte (List.drop 2 blanks) (c.toNat : Int).toNat.toUInt8 = -1; exact blanks_other hc 2), rfl⟩) (go ?_)
          refine VRet.mk [] .nil ?_
          simp
        · exfalso
          have h7 : (10 : Int) = c.toNat := h7
          omega
  · omega
theorem f37_3c (r : Int) (e e' c : UInt8) (h0 : 128 ≤ r) (h1 : r ≠ 65533) (h3 : Lib.validRune r = true) (hE : (Utf8.encode r).data.toList = [e, e', c]) (hc : 128 ≤ c.toNat ∧ c.toNat < 192 ∧ c.toNat ≠ 160 ∧ c.toNat ≠ 128) :
    Av.Fn Tryz.prog 137 [.str blanks, .int .i32 r] (.int .i64 (-1)) := by
  refine ACalls.of_W tb_ok (fn := Tryz.f137) (n := 187) (by kernel_rfl) rfl (by kernel_rfl) rfl rfl (by simp) (go ?_)
  refine fork (fun h4 => go ?_) (fun h4 => go ?_)
  · refine fork (fun h5 => go ?_) (fun h5 => go ?_)
    · omega
    · refine fork (fun h6 => go ?_) (fun h6 => go ?_)
      · omega
      · have h := fn_ValidRune r
        rw [h3] at h
        refine Fn.use (h) (go ?_)
        refine VSem.scope 1 ?_
        refine go ?_
        rw [hE]
        refine go ?_
        refine VInt.to (2) (by simp) (by omega) (by omega) (go ?_)
        refine VLoop.un 5 [9, 10] ?_
        refine go ?_
        refine VSem.scope 1 ?_
        refine go ?_
        refine fork (fun h7 => go ?_) (fun h7 => go ?_)
        · refine VQ.mk (.int .i64 (-1)) (by refine go ?_; refine Fn.use (fn_IndexByte _ _) (go ?_); exact ⟨congrArg _ (by show Lib.indexByte (List.drop 3 blanks) (c.toNat : Int).toNat.toUInt8 = -1; exact blanks_other hc 3), rfl⟩) (go ?_)
          refine VRet.mk [] .nil ?_
          simp
        · exfalso
          have h7 : (13 : Int) = c.toNat := h7
          omega
  · omega
theorem f37_4c (r : Int) (e e'' e' c : UInt8) (h0 : 128 ≤ r) (h1 : r ≠ 65533) (h3 : Lib.validRune r = true) (hE : (Utf8.encode r).data.toList = [e, e'', e', c]) (hc : 128 ≤ c.toNat ∧ c.toNat < 192 ∧ c.toNat ≠ 160 ∧ c.toNat ≠ 128) :
    Av.Fn Tryz.prog 137 [.str blanks, .int .i32 r] (.int .i64 (-1)) := by
  refine ACalls.of_W tb_ok (fn := Tryz.f137) (n := 187) (by kernel_rfl) rfl (by kernel_rfl) rfl rfl (by simp) (go ?_)
  refine fork (fun h4 => go ?_) (fun h4 => go ?_)
  · refine fork (fun h5 => go ?_) (fun h5 => go ?_)
    · omega
    · refine fork (fun h6 => go ?_) (fun h6 => go ?_)
      · omega
      · have h := fn_ValidRune r
        rw [h3] at h
        refine Fn.use (h) (go ?_)
        refine VSem.scope 1 ?_
        refine go ?_
        rw [hE]
        refine go ?_
        refine VInt.to (3) (by simp) (by omega) (by omega) (go ?_)
        refine VLoop.un 5 [9, 10] ?_
        refine go ?_
        refine VSem.scope 1 ?_
        refine go ?_
        refine fork (fun h7 => go ?_) (fun h7 => go ?_)
        · refine VQ.mk (.int .i64 (-1)) (by refine go ?_; refine Fn.use (fn_IndexByte _ _) (go ?_); exact ⟨congrArg _ (by show Lib.indexByte (List.drop 4 blanks) (c.toNat : Int).toNat.toUInt8 = -1; exact blanks_other hc 4), rfl⟩) (go ?_)
          refine VRet.mk [] .nil ?_
          simp
        · exfalso
          have h7 : (32 : Int) = c.toNat := h7
          omega
  · omega
end Go.Proofs.YtonkeklageehbaaGreatDoor

namespace Go.Proofs.YtonkeklageehbaaGreatDoor
open Go Go.Av
theorem ofNat_toNat {n : Nat} (h : n < 256) : (UInt8.ofNat n).toNat = n := by simp; omega
theorem f37_of (r : Int) (hr : 0 ≤ r ∧ r ≤ 1114111) : ∃ k : Int, decide (0 ≤ k) = blankB r ∧ Av.Fn Tryz.prog 137 [.str blanks, .int .i32 r] (.int .i64 k) := by
  by_cases h1 : r < 128
  · exact f37_ascii r hr.1 h1
  by_cases h2 : r = 65533
  · exact ⟨-1, by subst h2; decide, by subst h2; exact f37_bad⟩
  cases h3 : Lib.validRune r with
  | false =>
    refine ⟨-1, ?_, f37_invalid r (by omega) h2 h3⟩
    simp [Lib.validRune] at h3
    simp [blankB]
    omega
  | true =>
    have hv : Utf8.valid r = true := by
      simp [Lib.validRune] at h3
      simp [Utf8.valid]; omega
    obtain ⟨n, rfl⟩ : ∃ n : Nat, r = n := ⟨r.toNat, by omega⟩
    have hn : (n : Int).toNat = n := by omega
    by_cases c2 : n < 2048
    · have hE : (Utf8.encode n).data.toList = [UInt8.ofNat (192 + n / 64), UInt8.ofNat (128 + n % 64)] := by
        simp only [Utf8.encode, hv, if_true, hn]
        rw [if_neg (by omega), if_pos (by omega)]
      by_cases ca : n % 64 = 32
      · rw [ca] at hE
        refine ⟨_, ?_, f37_2a n _ (by omega) h2 h3 hE⟩
        rw [ofNat_toNat (by omega)]
        by_cases hh : 192 + n / 64 = 194
        · rw [if_pos hh]; simp [blankB]; omega
        · rw [if_neg hh]; simp [blankB]; omega
      by_cases cb : n % 64 = 0
      · rw [cb] at hE
        refine ⟨_, ?_, f37_2b n _ (by omega) h2 h3 hE (by rw [ofNat_toNat (by omega)]; omega)⟩
        simp [blankB]; omega
      · refine ⟨_, ?_, f37_2c n _ _ (by omega) h2 h3 hE (by rw [ofNat_toNat (by omega)]; omega)⟩
        simp [blankB]; omega
    by_cases c3 : n < 65536
    · have hE : (Utf8.encode n).data.toList = [UInt8.ofNat (224 + n / 4096), UInt8.ofNat (128 + n / 64 % 64), UInt8.ofNat (128 + n % 64)] := by
        simp only [Utf8.encode, hv, if_true, hn]
        rw [if_neg (by omega), if_neg (by omega), if_pos (by omega)]
      by_cases ca : n % 64 = 32
      · rw [ca] at hE
        refine ⟨_, ?_, f37_3a n _ _ (by omega) h2 h3 hE (by rw [ofNat_toNat (by omega)]; omega)⟩
        simp [blankB]; omega
      by_cases cb : n % 64 = 0
      · rw [cb] at hE
        refine ⟨_, ?_, f37_3b n _ _ (by omega) h2 h3 hE (by rw [ofNat_toNat (by omega)]; omega)⟩
        rw [ofNat_toNat (by omega), ofNat_toNat (by omega)]
        by_cases hh : 224 + n / 4096 = 227 ∧ 128 + n / 64 % 64 = 128
        · rw [if_pos hh]; simp [blankB]; omega
        · rw [if_neg hh]; simp [blankB]; omega
      · refine ⟨_, ?_, f37_3c n _ _ _ (by omega) h2 h3 hE (by rw [ofNat_toNat (by omega)]; omega)⟩
        simp [blankB]; omega
    · have hE : (Utf8.encode n).data.toList = [UInt8.ofNat (240 + n / 262144), UInt8.ofNat (128 + n / 4096 % 64), UInt8.ofNat (128 + n / 64 % 64), UInt8.ofNat (128 + n % 64)] := by
        simp only [Utf8.encode, hv, if_true, hn]
        rw [if_neg (by omega), if_neg (by omega), if_neg (by omega)]
      by_cases ca : n % 64 = 32
      · rw [ca] at hE
        refine ⟨_, ?_, f37_4a n _ _ _ (by omega) h2 h3 hE (by rw [ofNat_toNat (by omega)]; omega)⟩
        simp [blankB]; omega
      by_cases cb : n % 64 = 0
      · rw [cb] at hE
        refine ⟨_, ?_, f37_4b n _ _ _ (by omega) h2 h3 hE (by rw [ofNat_toNat (by omega)]; omega) (by rw [ofNat_toNat (by omega)]; omega)⟩
        simp [blankB]; omega
      · refine ⟨_, ?_, f37_4c n _ _ _ _ (by omega) h2 h3 hE (by rw [ofNat_toNat (by omega)]; omega)⟩
        simp [blankB]; omega
theorem f30_of (r : Int) (hr : 0 ≤ r ∧ r ≤ 1114111) : Av.Fn Tryz.prog 118 [.str blanks, .int .i32 r] (.bool (blankB r)) := by
  obtain ⟨k, h1, h2⟩ := f37_of r hr
  refine ACalls.of_W tb_ok (fn := Tryz.f118) (n := 9) (by kernel_rfl) rfl (by kernel_rfl) rfl rfl (by simp) (go ?_)
  refine Fn.use (h2) (go ?_)
  refine VRet.mk [] .nil ?_
  simp [← h1]
theorem f18_of (r : Int) (hr : 0 ≤ r ∧ r ≤ 1114111) : Av.Fn Tryz.prog 92 [.int .i32 r] (.bool (blankB r)) := by
  refine ACalls.of_W tb_ok (fn := Tryz.f92) (n := 5) (by kernel_rfl) rfl (by kernel_rfl) rfl rfl (by simp) (go ?_)
  refine Fn.use (f30_of r hr) (go ?_)
  refine VRet.mk [] .nil ?_
  simp
end Go.Proofs.YtonkeklageehbaaGreatDoor

namespace Go.Proofs.YtonkeklageehbaaGreatDoor
open Go Go.Av
def zeros : List Int := [48, 1632, 65296]
def digOf (r : Int) : List Int → AV
  | [] => .tup [.int .i64 0, .int .i32 0, .bool false]
  | z :: l => if z ≤ r ∧ r ≤ z + 9 then .tup [.int .i64 (r - z), .int .i32 z, .bool true] else digOf r l
theorem f29_of (r : Int) (hr : -2147483648 ≤ r ∧ r ≤ 2147483647) : Av.Fn Tryz.prog 121 [.int .i32 r] (digOf r zeros) := by
  refine ACalls.of_W tb_ok (fn := Tryz.f121) (n := 28) (by kernel_rfl) rfl (by kernel_rfl) rfl rfl (by simp) (go ?_)
  refine VLoop.mk [9] Nat (fun i => [.int .i64 i]) (fun _ => []) (fun i => i ≤ 3 ∧ digOf r zeros = digOf r (zeros.drop i)) (fun i => 3 - i) 0 ?_ ?_
  · exact ⟨⟨by omega, rfl⟩, rfl, .nil⟩
  intro i ⟨hi, he⟩
  refine go ?_
  refine fork (fun h => go ?_) (fun h => go ?_)
  · obtain ⟨z, hz, hz1, hz2⟩ : ∃ z, ([.int .i32 48, .int .i32 1632, .int .i32 65296] : List AV)[i]? = some (.int .i32 z) ∧ (48 ≤ z ∧ z ≤ 65296) ∧ digOf r (zeros.drop i) = digOf r (z :: zeros.drop (i + 1)) := by
      obtain rfl | rfl | rfl : i = 0 ∨ i = 1 ∨ i = 2 := by omega
      · exact ⟨48, rfl, by omega, rfl⟩
      · exact ⟨1632, rfl, by omega, rfl⟩
      · exact ⟨65296, rfl, by omega, rfl⟩
    refine VNth.mk (.int .i32 z) (by simpa using hz) ?_
    refine go ?_
    rw [hz2, digOf] at he
    refine fork (fun h2 => go ?_) (fun h2 => go ?_)
    · refine fork (fun h3 => go ?_) (fun h3 => go ?_)
      · refine VRet.mk [] .nil ?_
        simp only [he]
        rw [if_pos (by omega)]
        simp
      · rw [if_neg (by omega)] at he
        exact ⟨i + 1, ⟨by omega, he⟩, by omega, rfl, .nil⟩
    · rw [if_neg (by omega)] at he
      exact ⟨i + 1, ⟨by omega, he⟩, by omega, rfl, .nil⟩
  · refine VRet.mk [] .nil ?_
    obtain rfl : i = 3 := by omega
    rw [he]
    simp [zeros, digOf]
end Go.Proofs.YtonkeklageehbaaGreatDoor

namespace Go.Proofs.YtonkeklageehbaaGreatDoor
open Go Go.Av
/-- A character as a digit: its value, its script's nought. -/
def digR (r : Int) : Option (Int × Int) :=
  if 48 ≤ r ∧ r ≤ 57 then some (r - 48, 48) else if 1632 ≤ r ∧ r ≤ 1641 then some (r - 1632, 1632) else if 65296 ≤ r ∧ r ≤ 65305 then some (r - 65296, 65296) else none
def digV : Option (Int × Int) → AV
  | none => .tup [.int .i64 0, .int .i32 0, .bool false]
  | some (d, z) => .tup [.int .i64 d, .int .i32 z, .bool true]
theorem digOf_eq (r : Int) : digOf r zeros = digV (digR r) := by
  simp only [digOf, zeros, digR]
  repeat' split
  all_goals first | rfl | omega
theorem digR_bound {r d z : Int} (h : digR r = some (d, z)) : 0 ≤ d ∧ d ≤ 9 ∧ 48 ≤ z ∧ z ≤ 65296 ∧ r = z + d := by
  unfold digR at h
  repeat' split at h
  all_goals simp at h
  all_goals omega
/-- The digits of a number, one behind the other: what has been read, is it small enough, its script. -/
def digLoop : List Nat → Int → Bool → Int → Option (Int × Bool × Int)
  | [], n, ok, z => some (n, ok, z)
  | r :: rs, n, ok, z => match digR r with
    | none => none
    | some (d, z') => if 0 ≤ z ∧ z' ≠ z then none else
      if n > (1152921504606846976 - d) / 10 then digLoop rs d false z' else digLoop rs (10 * n + d) ok z'
def minusB (l : List UInt8) : Bool := begins l [45] || begins l [226, 136, 146]
def digitsR (l : List UInt8) : Int × Bool × Bool :=
  match digLoop ((runes (if minusB l then l.drop (dec l).2 else l)).map (·.1)) 0 true (-1) with
  | none => (0, false, false)
  | some (n, ok, z) => (if minusB l then -n else n, decide (0 ≤ z), ok && decide ((if minusB l then -n else n) ≤ 1152921504606846975))
theorem decodeGo_eq {l : List UInt8} (h : l ≠ []) : Lib.decodeGo ⟨⟨l⟩⟩ = dec l := by
  unfold Lib.decodeGo dec
  rw [if_neg]
  intro e
  exact h (List.length_eq_zero_iff.1 e)
theorem begins_ne {l p : List UInt8} (hp : p ≠ []) (h : begins l p = true) : l ≠ [] := by
  intro e; subst e
  simp [begins] at h
  exact hp h
theorem digitsR_some {l l' : List UInt8} {n z : Int} {ok : Bool} (hl : l' = if minusB l then l.drop (dec l).2 else l) (h : digLoop ((runes l').map (·.1)) 0 true (-1) = some (n, ok, z)) :
    digitsR l = (if minusB l then -n else n, decide (0 ≤ z), ok && decide ((if minusB l then -n else n) ≤ 1152921504606846975)) := by
  subst hl; simp only [digitsR, h]
theorem digitsR_none {l l' : List UInt8} (hl : l' = if minusB l then l.drop (dec l).2 else l) (h : digLoop ((runes l').map (·.1)) 0 true (-1) = none) : digitsR l = (0, false, false) := by
  subst hl; simp only [digitsR, h]
theorem f29_digR (r : Int) (hr : -2147483648 ≤ r ∧ r ≤ 2147483647) : Av.Fn Tryz.prog 121 [.int .i32 r] (digV (digR r)) := by
  rw [← digOf_eq]; exact f29_of r hr

structure DigI where
  p : Nat
  n : Int
  ok : Bool
  z : Int


theorem f17_of (l : List UInt8) : Av.Fn Tryz.prog 93 [.str l] (.tup [.int .i64 (digitsR l).1, .bool (digitsR l).2.1, .bool (digitsR l).2.2]) := by
  refine ACalls.of_W tb_ok (fn := Tryz.f93) (n := 72) (by kernel_rfl) rfl (by kernel_rfl) rfl rfl (by simp) (go ?_)
  have g1 := fn_HasPrefix l [45]
  have g2 := fn_HasPrefix l [226, 136, 146]
  cases h1 : begins l [45] with
  | true =>
    rw [h1] at g1
    refine Fn.use (g1) (go ?_)
    have hne := begins_ne (by simp) h1
    have hd := dec_pos l hne
    have hm : minusB l = true := by simp [minusB, h1]
    have fd := fn_Decode l
    rw [decodeGo_eq hne] at fd
    refine Fn.use (fd) (go ?_)
    obtain ⟨l', hl'⟩ : ∃ l', l' = l.drop (dec l).2 := ⟨_, rfl⟩
    rw [← hl']
    replace hl' : l' = if minusB l then l.drop (dec l).2 else l := by rw [if_pos hm]; exact hl'
    refine go ?_
    refine VAll.mk (fun b => go ?_)
    refine VLoop.mk [2, 4, 8] DigI (fun i => [.int .i64 i.n, .bool i.ok, .int .i32 i.z]) (fun i => [(b, .siter l' i.p)])
      (fun i => i.p ≤ l'.length ∧ (0 ≤ i.n ∧ i.n ≤ 1152921504606846976) ∧ (-1 ≤ i.z ∧ i.z ≤ 65296) ∧ digLoop ((runes (l'.drop i.p)).map (·.1)) i.n i.ok i.z = digLoop ((runes l').map (·.1)) 0 true (-1)) (fun i => l'.length - i.p) ⟨0, 0, true, -1⟩ ?_ ?_
    · exact ⟨⟨by simp, by simp, by simp, by simp⟩, rfl, .cons 0 rfl .nil⟩
    rintro ⟨p, n, ok, z⟩ ⟨hp, hn, hz, hI⟩
    dsimp only at hp hn hz hI ⊢
    refine go ?_
    refine fork (fun hlt => go ?_) (fun hlt => go ?_)
    · have hne' : l'.drop p ≠ [] := by simp; omega
      have hc := dec_pos _ hne'
      have hru := runes_cons hne'
      rw [← dec_at] at hc hru
      generalize hdc : Utf8.decode ⟨⟨l'⟩⟩ p = c
      rw [hdc] at hc hru
      rw [List.length_drop] at hc
      rw [List.drop_drop] at hru
      rw [hru, List.map_cons, digLoop] at hI
      obtain ⟨r, k⟩ := c
      dsimp only at hc hru hI ⊢
      refine Fn.use (f29_digR r (by omega)) (go ?_)
      cases hd : digR r with
      | none =>
        rw [hd] at hI
        dsimp only at hI
        refine go ?_
        refine VRet.mk [] .nil ?_
        rw [digitsR_none (l := l) hl' hI.symm]
        simp
      | some dz =>
        obtain ⟨d, z'⟩ := dz
        have hb := digR_bound hd
        rw [hd] at hI
        dsimp only at hI
        refine go ?_
        refine fork (fun hz0 => go ?_) (fun hz0 => go ?_)
        · refine fork (fun hz1 => go ?_) (fun hz1 => go ?_)
          · rw [if_pos ⟨hz0, hz1⟩] at hI
            refine VRet.mk [] .nil ?_
            rw [digitsR_none (l := l) hl' hI.symm]
            simp
          · have hz1 : z' = z := hz1
            rw [if_neg (by simp [hz1])] at hI
            rw [Int.tdiv_eq_ediv_of_nonneg (by omega)]
            refine go ?_
            refine fork (fun hgt => go ?_) (fun hgt => go ?_)
            · rw [if_pos (by omega)] at hI
              refine ⟨⟨p + k, 10 * 0 + d, false, z'⟩, ⟨?_, ?_, ?_, ?_⟩, ?_, rfl, .cons 0 rfl .nil⟩
              · dsimp only; omega
              · dsimp only; omega
              · dsimp only; omega
              · dsimp only; rw [show (10 * 0 + d : Int) = d by omega]; exact hI
              · dsimp only; omega
            · rw [if_neg (by omega)] at hI
              refine ⟨⟨p + k, 10 * n + d, ok, z'⟩, ⟨?_, ?_, ?_, ?_⟩, ?_, rfl, .cons 0 rfl .nil⟩
              · dsimp only; omega
              · dsimp only; omega
              · dsimp only; omega
              · exact hI
              · dsimp only; omega
        · rw [if_neg (fun h => hz0 h.1)] at hI
          rw [Int.tdiv_eq_ediv_of_nonneg (by omega)]
          refine go ?_
          refine fork (fun hgt => go ?_) (fun hgt => go ?_)
          · rw [if_pos (by omega)] at hI
            refine ⟨⟨p + k, 10 * 0 + d, false, z'⟩, ⟨?_, ?_, ?_, ?_⟩, ?_, rfl, .cons 0 rfl .nil⟩
            · dsimp only; omega
            · dsimp only; omega
            · dsimp only; omega
            · dsimp only; rw [show (10 * 0 + d : Int) = d by omega]; exact hI
            · dsimp only; omega
          · rw [if_neg (by omega)] at hI
            refine ⟨⟨p + k, 10 * n + d, ok, z'⟩, ⟨?_, ?_, ?_, ?_⟩, ?_, rfl, .cons 0 rfl .nil⟩
            · dsimp only; omega
            · dsimp only; omega
            · dsimp only; omega
            · exact hI
            · dsimp only; omega
    · rw [List.drop_eq_nil_of_le (by omega), runes_nil, List.map_nil, digLoop] at hI
      rw [digitsR_some (l := l) hl' hI.symm]
      cases hok : ok with
      | true =>
        refine go ?_
        refine VRet.mk [] .nil ?_
        simp [hm]
      | false =>
        refine go ?_
        refine VRet.mk [] .nil ?_
        simp [hm]
  | false =>
    rw [h1] at g1
    refine Fn.use (g1) (go ?_)
    cases h2 : begins l [226, 136, 146] with
    | true =>
      rw [h2] at g2
      refine Fn.use (g2) (go ?_)
      have hne := begins_ne (by simp) h2
      have hd := dec_pos l hne
      have hm : minusB l = true := by simp [minusB, h2]
      have fd := fn_Decode l
      rw [decodeGo_eq hne] at fd
      refine Fn.use (fd) (go ?_)
      obtain ⟨l', hl'⟩ : ∃ l', l' = l.drop (dec l).2 := ⟨_, rfl⟩
      rw [← hl']
      replace hl' : l' = if minusB l then l.drop (dec l).2 else l := by rw [if_pos hm]; exact hl'
      refine go ?_
      refine VAll.mk (fun b => go ?_)
      refine VLoop.mk [2, 4, 8] DigI (fun i => [.int .i64 i.n, .bool i.ok, .int .i32 i.z]) (fun i => [(b, .siter l' i.p)])
        (fun i => i.p ≤ l'.length ∧ (0 ≤ i.n ∧ i.n ≤ 1152921504606846976) ∧ (-1 ≤ i.z ∧ i.z ≤ 65296) ∧ digLoop ((runes (l'.drop i.p)).map (·.1)) i.n i.ok i.z = digLoop ((runes l').map (·.1)) 0 true (-1)) (fun i => l'.length - i.p) ⟨0, 0, true, -1⟩ ?_ ?_
      · exact ⟨⟨by simp, by simp, by simp, by simp⟩, rfl, .cons 0 rfl .nil⟩
      rintro ⟨p, n, ok, z⟩ ⟨hp, hn, hz, hI⟩
      dsimp only at hp hn hz hI ⊢
      refine go ?_
      refine fork (fun hlt => go ?_) (fun hlt => go ?_)
      · have hne' : l'.drop p ≠ [] := by simp; omega
        have hc := dec_pos _ hne'
        have hru := runes_cons hne'
        rw [← dec_at] at hc hru
        generalize hdc : Utf8.decode ⟨⟨l'⟩⟩ p = c
        rw [hdc] at hc hru
        rw [List.length_drop] at hc
        rw [List.drop_drop] at hru
        rw [hru, List.map_cons, digLoop] at hI
        obtain ⟨r, k⟩ := c
        dsimp only at hc hru hI ⊢
        refine Fn.use (f29_digR r (by omega)) (go ?_)
        cases hd : digR r with
        | none =>
          rw [hd] at hI
          dsimp only at hI
          refine go ?_
          refine VRet.mk [] .nil ?_
          rw [digitsR_none (l := l) hl' hI.symm]
          simp
        | some dz =>
          obtain ⟨d, z'⟩ := dz
          have hb := digR_bound hd
          rw [hd] at hI
          dsimp only at hI
          refine go ?_
          refine fork (fun hz0 => go ?_) (fun hz0 => go ?_)
          · refine fork (fun hz1 => go ?_) (fun hz1 => go ?_)
            · rw [if_pos ⟨hz0, hz1⟩] at hI
              refine VRet.mk [] .nil ?_
              rw [digitsR_none (l := l) hl' hI.symm]
              simp
            · have hz1 : z' = z := hz1
              rw [if_neg (by simp [hz1])] at hI
              rw [Int.tdiv_eq_ediv_of_nonneg (by omega)]
              refine go ?_
              refine fork (fun hgt => go ?_) (fun hgt => go ?_)
              · rw [if_pos (by omega)] at hI
                refine ⟨⟨p + k, 10 * 0 + d, false, z'⟩, ⟨?_, ?_, ?_, ?_⟩, ?_, rfl, .cons 0 rfl .nil⟩
                · dsimp only; omega
                · dsimp only; omega
                · dsimp only; omega
                · dsimp only; rw [show (10 * 0 + d : Int) = d by omega]; exact hI
                · dsimp only; omega
              · rw [if_neg (by omega)] at hI
                refine ⟨⟨p + k, 10 * n + d, ok, z'⟩, ⟨?_, ?_, ?_, ?_⟩, ?_, rfl, .cons 0 rfl .nil⟩
                · dsimp only; omega
                · dsimp only; omega
                · dsimp only; omega
                · exact hI
                · dsimp only; omega
          · rw [if_neg (fun h => hz0 h.1)] at hI
            rw [Int.tdiv_eq_ediv_of_nonneg (by omega)]
            refine go ?_
            refine fork (fun hgt => go ?_) (fun hgt => go ?_)
            · rw [if_pos (by omega)] at hI
              refine ⟨⟨p + k, 10 * 0 + d, false, z'⟩, ⟨?_, ?_, ?_, ?_⟩, ?_, rfl, .cons 0 rfl .nil⟩
              · dsimp only; omega
              · dsimp only; omega
              · dsimp only; omega
              · dsimp only; rw [show (10 * 0 + d : Int) = d by omega]; exact hI
              · dsimp only; omega
            · rw [if_neg (by omega)] at hI
              refine ⟨⟨p + k, 10 * n + d, ok, z'⟩, ⟨?_, ?_, ?_, ?_⟩, ?_, rfl, .cons 0 rfl .nil⟩
              · dsimp only; omega
              · dsimp only; omega
              · dsimp only; omega
              · exact hI
              · dsimp only; omega
      · rw [List.drop_eq_nil_of_le (by omega), runes_nil, List.map_nil, digLoop] at hI
        rw [digitsR_some (l := l) hl' hI.symm]
        cases hok : ok with
        | true =>
          refine go ?_
          refine VRet.mk [] .nil ?_
          simp [hm]
        | false =>
          refine go ?_
          refine VRet.mk [] .nil ?_
          simp [hm]
    | false =>
      rw [h2] at g2
      refine Fn.use (g2) (go ?_)
      have hm : minusB l = false := by simp [minusB, h1, h2]
      have hl' : l = if minusB l then l.drop (dec l).2 else l := by simp [hm]
      refine VAll.mk (fun b => go ?_)
      refine VLoop.mk [2, 4, 8] DigI (fun i => [.int .i64 i.n, .bool i.ok, .int .i32 i.z]) (fun i => [(b, .siter l i.p)])
        (fun i => i.p ≤ l.length ∧ (0 ≤ i.n ∧ i.n ≤ 1152921504606846976) ∧ (-1 ≤ i.z ∧ i.z ≤ 65296) ∧ digLoop ((runes (l.drop i.p)).map (·.1)) i.n i.ok i.z = digLoop ((runes l).map (·.1)) 0 true (-1)) (fun i => l.length - i.p) ⟨0, 0, true, -1⟩ ?_ ?_
      · exact ⟨⟨by simp, by simp, by simp, by simp⟩, rfl, .cons 0 rfl .nil⟩
      rintro ⟨p, n, ok, z⟩ ⟨hp, hn, hz, hI⟩
      dsimp only at hp hn hz hI ⊢
      refine go ?_
      refine fork (fun hlt => go ?_) (fun hlt => go ?_)
      · have hne' : l.drop p ≠ [] := by simp; omega
        have hc := dec_pos _ hne'
        have hru := runes_cons hne'
        rw [← dec_at] at hc hru
        generalize hdc : Utf8.decode ⟨⟨l⟩⟩ p = c
        rw [hdc] at hc hru
        rw [List.length_drop] at hc
        rw [List.drop_drop] at hru
        rw [hru, List.map_cons, digLoop] at hI
        obtain ⟨r, k⟩ := c
        dsimp only at hc hru hI ⊢
        refine Fn.use (f29_digR r (by omega)) (go ?_)
        cases hd : digR r with
        | none =>
          rw [hd] at hI
          dsimp only at hI
          refine go ?_
          refine VRet.mk [] .nil ?_
          rw [digitsR_none (l := l) hl' hI.symm]
          simp
        | some dz =>
          obtain ⟨d, z'⟩ := dz
          have hb := digR_bound hd
          rw [hd] at hI
          dsimp only at hI
          refine go ?_
          refine fork (fun hz0 => go ?_) (fun hz0 => go ?_)
          · refine fork (fun hz1 => go ?_) (fun hz1 => go ?_)
            · rw [if_pos ⟨hz0, hz1⟩] at hI
              refine VRet.mk [] .nil ?_
              rw [digitsR_none (l := l) hl' hI.symm]
              simp
            · have hz1 : z' = z := hz1
              rw [if_neg (by simp [hz1])] at hI
              rw [Int.tdiv_eq_ediv_of_nonneg (by omega)]
              refine go ?_
              refine fork (fun hgt => go ?_) (fun hgt => go ?_)
              · rw [if_pos (by omega)] at hI
                refine ⟨⟨p + k, 10 * 0 + d, false, z'⟩, ⟨?_, ?_, ?_, ?_⟩, ?_, rfl, .cons 0 rfl .nil⟩
                · dsimp only; omega
                · dsimp only; omega
                · dsimp only; omega
                · dsimp only; rw [show (10 * 0 + d : Int) = d by omega]; exact hI
                · dsimp only; omega
              · rw [if_neg (by omega)] at hI
                refine ⟨⟨p + k, 10 * n + d, ok, z'⟩, ⟨?_, ?_, ?_, ?_⟩, ?_, rfl, .cons 0 rfl .nil⟩
                · dsimp only; omega
                · dsimp only; omega
                · dsimp only; omega
                · exact hI
                · dsimp only; omega
          · rw [if_neg (fun h => hz0 h.1)] at hI
            rw [Int.tdiv_eq_ediv_of_nonneg (by omega)]
            refine go ?_
            refine fork (fun hgt => go ?_) (fun hgt => go ?_)
            · rw [if_pos (by omega)] at hI
              refine ⟨⟨p + k, 10 * 0 + d, false, z'⟩, ⟨?_, ?_, ?_, ?_⟩, ?_, rfl, .cons 0 rfl .nil⟩
              · dsimp only; omega
              · dsimp only; omega
              · dsimp only; omega
              · dsimp only; rw [show (10 * 0 + d : Int) = d by omega]; exact hI
              · dsimp only; omega
            · rw [if_neg (by omega)] at hI
              refine ⟨⟨p + k, 10 * n + d, ok, z'⟩, ⟨?_, ?_, ?_, ?_⟩, ?_, rfl, .cons 0 rfl .nil⟩
              · dsimp only; omega
              · dsimp only; omega
              · dsimp only; omega
              · exact hI
              · dsimp only; omega
      · rw [List.drop_eq_nil_of_le (by omega), runes_nil, List.map_nil, digLoop] at hI
        rw [digitsR_some (l := l) hl' hI.symm]
        cases hok : ok with
        | true =>
          refine go ?_
          refine VRet.mk [] .nil ?_
          simp [hm]
        | false =>
          refine go ?_
          refine VRet.mk [] .nil ?_
          simp [hm]
end Go.Proofs.YtonkeklageehbaaGreatDoor

namespace Go.Proofs.YtonkeklageehbaaGreatDoor
open Go Go.Av
/-- May a character stand in a name? -/
def okCh (first : Bool) (r : Nat) : Bool := !(decide (r = 65533) || blankB r || decide (r < 32) || decide (r = 127) || (first && decide (r = 34)))
def okAll : Bool → List Nat → Bool
  | _, [] => true
  | f, r :: rs => okCh f r && okAll false rs
def chars (l : List UInt8) : List Nat := (runes l).map (·.1)
def nameR (l : List UInt8) : Bool := okAll true (chars l) && (decide (1 ≤ (chars l).length) && decide ((chars l).length ≤ 32) && decide (l ≠ [33]) && !(digitsR l).2.1)
theorem chars_cons {l : List UInt8} (h : l ≠ []) : chars l = (dec l).1 :: chars (l.drop (dec l).2) := by simp [chars, runes_cons h]
theorem nameR_bad {l : List UInt8} (h : okAll true (chars l) = false) : nameR l = false := by simp [nameR, h]


theorem f11_of (l : List UInt8) (hlen : l.length ≤ 4611686018427387904) : Av.Fn Tryz.prog 67 [.str l] (.bool (nameR l)) := by
  refine ACalls.of_W tb_ok (fn := Tryz.f67) (n := 59) (by kernel_rfl) rfl (by kernel_rfl) rfl rfl (by simp) (go ?_)
  refine VAll.mk (fun b => go ?_)
  refine VLoop.mk [3] (Nat × Nat) (fun i => [.int .i64 i.2]) (fun i => [(b, .siter l i.1)])
    (fun i => i.1 ≤ l.length ∧ i.2 ≤ i.1 ∧ (okAll (decide (i.1 = 0)) (chars (l.drop i.1)) = okAll true (chars l) ∧ i.2 + (chars (l.drop i.1)).length = (chars l).length)) (fun i => l.length - i.1) ⟨0, 0⟩ ?_ ?_
  · exact ⟨⟨by simp, by simp, by simp, by simp⟩, rfl, .cons 0 rfl .nil⟩
  rintro ⟨p, n⟩ ⟨hp, hn, hI⟩
  dsimp only at hp hn hI ⊢
  refine go ?_
  refine fork (fun hlt => go ?_) (fun hlt => go ?_)
  · have hne' : l.drop p ≠ [] := by simp; omega
    have hc := dec_pos _ hne'
    rw [chars_cons hne', List.length_drop] at *
    rw [← dec_at] at hc hI
    generalize hdc : Utf8.decode ⟨⟨l⟩⟩ p = c
    rw [hdc] at hc hI
    rw [List.drop_drop] at hI
    obtain ⟨r, k⟩ := c
    dsimp only at hc hI ⊢
    refine fork (fun a1 => go ?_) (fun a1 => go ?_)
    · have a1 : r = 65533 := by omega
      refine VRet.mk [] .nil ?_
      rw [nameR_bad (by rw [← hI.1]; simp [okAll, okCh, a1])]
      simp
    · have hb := f18_of r (by omega)
      cases a2 : blankB r with
      | true =>
        rw [a2] at hb
        refine Fn.use (hb) (go ?_)
        refine VRet.mk [] .nil ?_
        rw [nameR_bad (by rw [← hI.1]; simp [okAll, okCh, a2])]
        simp
      | false =>
        rw [a2] at hb
        refine Fn.use (hb) (go ?_)
        refine fork (fun a3 => go ?_) (fun a3 => go ?_)
        · have a3 : r < 32 := by omega
          refine VRet.mk [] .nil ?_
          rw [nameR_bad (by rw [← hI.1]; simp [okAll, okCh, a3])]
          simp
        · have a3 : ¬ r < 32 := by omega
          refine fork (fun a4 => go ?_) (fun a4 => go ?_)
          · have a4 : r = 127 := by omega
            refine VRet.mk [] .nil ?_
            rw [nameR_bad (by rw [← hI.1]; simp [okAll, okCh, a4])]
            simp
          · have a4 : ¬ r = 127 := by omega
            have a1 : ¬ r = 65533 := by omega
            refine fork (fun a5 => go ?_) (fun a5 => go ?_)
            · have a5 : p = 0 := by omega
              refine fork (fun a6 => go ?_) (fun a6 => go ?_)
              · have a6 : r = 34 := by omega
                refine VRet.mk [] .nil ?_
                rw [nameR_bad (by rw [← hI.1]; simp [okAll, okCh, a5, a6])]
                simp
              · have a6 : ¬ r = 34 := by omega
                refine ⟨⟨p + k, n + 1⟩, ⟨?_, ?_, ?_⟩, ?_, rfl, .cons 0 rfl .nil⟩
                · dsimp only; omega
                · dsimp only; omega
                · dsimp only
                  refine ⟨?_, ?_⟩
                  · rw [← hI.1, okAll, decide_eq_false (show ¬ p + k = 0 by omega)]
                    have : okCh (decide (p = 0)) r = true := by simp [okCh, a1, a2, a3, a4, a6]; try omega
                    rw [this, Bool.true_and]
                  · rw [← hI.2, List.length_cons]; omega
                · dsimp only; omega
            · have a5 : ¬ p = 0 := by omega
              refine ⟨⟨p + k, n + 1⟩, ⟨?_, ?_, ?_⟩, ?_, rfl, .cons 0 rfl .nil⟩
              · dsimp only; omega
              · dsimp only; omega
              · dsimp only
                refine ⟨?_, ?_⟩
                · rw [← hI.1, okAll, decide_eq_false (show ¬ p + k = 0 by omega)]
                  have : okCh (decide (p = 0)) r = true := by simp [okCh, a1, a2, a3, a4, a5]; try omega
                  rw [this, Bool.true_and]
                · rw [← hI.2, List.length_cons]; omega
              · dsimp only; omega
  · have h17 := f17_of l
    rw [List.drop_eq_nil_of_le (by omega)] at hI
    have hok : okAll true (chars l) = true := by rw [← hI.1]; rfl
    have hct : (chars l).length = n := by rw [← hI.2]; simp [chars]
    cases hd : (digitsR l).2.1 with
    | true =>
      rw [hd] at h17
      refine Fn.use (h17) (go ?_)
      refine fork (fun b1 => go ?_) (fun b1 => go ?_)
      · refine fork (fun b2 => go ?_) (fun b2 => go ?_)
        · refine fork (fun b3 => go ?_) (fun b3 => go ?_)
          · refine VRet.mk [] .nil ?_
            simp [nameR, hok, hct, hd]
          · refine VRet.mk [] .nil ?_
            simp [nameR, hok, hct, hd]
        · refine VRet.mk [] .nil ?_
          simp [nameR, hok, hct, hd]
      · refine VRet.mk [] .nil ?_
        simp [nameR, hok, hct, hd]
    | false =>
      rw [hd] at h17
      refine Fn.use (h17) (go ?_)
      refine fork (fun b1 => go ?_) (fun b1 => go ?_)
      · refine fork (fun b2 => go ?_) (fun b2 => go ?_)
        · refine fork (fun b3 => go ?_) (fun b3 => go ?_)
          · refine VRet.mk [] .nil ?_
            simp [nameR, hok, hct, hd]
            exact ⟨⟨by omega, by omega⟩, b3⟩
          · refine VRet.mk [] .nil ?_
            simp [nameR, hok, hct, hd]
            exact fun _ _ => b3
        · refine VRet.mk [] .nil ?_
          simp [nameR, hok, hct, hd]
          intros; omega
      · refine VRet.mk [] .nil ?_
        simp [nameR, hok, hct, hd]
        intros; omega
end Go.Proofs.YtonkeklageehbaaGreatDoor

namespace Go.Proofs.YtonkeklageehbaaGreatDoor
open Go Go.Av
def usesOk (m : List (Txt × List Txt)) : List Txt → List Txt → Bool
  | _, [] => true
  | s, u :: r => (getA m u).isSome && !s.contains u && usesOk m (s ++ [u]) r
def vocOkR (vs : List VocT) (m : List (Txt × List Txt)) (k : Nat) (v : VocT) : Bool :=
  nameR v.name && (k == 0 || !(Op.bytesLess v.name ((vs.map (·.name)).getD (k - 1) []) || decide (v.name = (vs.map (·.name)).getD (k - 1) []))) && usesOk m [] v.uses
def vocsOk (vs : List VocT) (m : List (Txt × List Txt)) : Bool := (List.range vs.length).all fun i => match vs[i]? with
  | some v => vocOkR vs m i v
  | none => true
def noCycle (m : List (Txt × List Txt)) : Bool := m.all fun e => !(leadsF m e.1 (m.length + 1) e.1 []).1
def vocabsR (d : DictT) : Bool := decide (d.vocs.length ≤ 64) && vocsOk d.vocs (usesN d.vocs) && noCycle (usesN d.vocs)
theorem vocs_false {vs : List VocT} {m : List (Txt × List Txt)} {i : Nat} {v : VocT} (h : vs[i]? = some v) (hc : vocOkR vs m i v = false) : vocsOk vs m = false := by
  unfold vocsOk
  rw [List.all_eq_false]
  refine ⟨i, List.mem_range.2 (List.getElem?_eq_some_iff.1 h).1, ?_⟩
  rw [h]; simp [hc]
theorem vocs_true {vs : List VocT} {m : List (Txt × List Txt)} (h : ∀ i v, vs[i]? = some v → vocOkR vs m i v = true) : vocsOk vs m = true := by
  unfold vocsOk
  rw [List.all_eq_true]
  intro i hi
  cases hc : vs[i]? with
  | none => rfl
  | some c => exact h i c hc
theorem find_get {m : List (Txt × List Txt)} (k : Txt) : (∃ us i, getA m k = some us ∧ mapFind (entA usV m) (.str k) 0 = some (some (i, usV us))) ∨ (getA m k = none ∧ mapFind (entA usV m) (.str k) 0 = some none) := by
  rw [mapFind_A]
  unfold getA
  cases idxA m k 0 with
  | some p => left; exact ⟨p.2, p.1, rfl, rfl⟩
  | none => right; exact ⟨rfl, rfl⟩
theorem uses_len {vs : List VocT} (h : ∀ v ∈ vs, v.uses.length ≤ 1000000000000000) : ∀ e ∈ usesN vs, e.2.length ≤ 1000000000000000 := by
  have key : ∀ (l : List VocT) (a : List (Txt × List Txt)), (∀ v ∈ l, v.uses.length ≤ 1000000000000000) → (∀ e ∈ a, e.2.length ≤ 1000000000000000) → ∀ e ∈ l.foldl (fun m v => putA m v.name v.uses) a, e.2.length ≤ 1000000000000000 := by
    intro l
    induction l with
    | nil => intro a _ ha; exact ha
    | cons v r ih =>
      intro a hl ha
      rw [List.foldl_cons]
      refine ih _ (fun x hx => hl x (List.mem_cons_of_mem _ hx)) fun e he => ?_
      unfold putA at he
      split at he
      · rcases List.mem_or_eq_of_mem_set he with he | rfl
        · exact ha e he
        · exact hl v (List.mem_cons_self ..)
      · rcases List.mem_append.1 he with he | he
        · exact ha e he
        · rw [List.mem_singleton.1 he]; exact hl v (List.mem_cons_self ..)
  exact key vs [] h (by simp)
theorem keysLeft_le (m : List (Txt × List Txt)) (s : List Txt) : keysLeft m s ≤ m.length := List.length_filter_le ..
/-- How many stamps were not seen. -/
def cntL (l s : List Nat) : Nat := (l.filter fun e => !s.contains e).length
theorem cntL_mono {l s : List Nat} {x : Nat} : cntL l (s ++ [x]) ≤ cntL l s := by
  unfold cntL
  induction l with
  | nil => simp
  | cons e r ih =>
    simp only [List.filter_cons]
    by_cases h1 : e ∈ s
    · simp [h1]; simpa using ih
    · by_cases h2 : e = x
      · simp [h2]
        have := ih
        simp at this
        by_cases h3 : x ∈ s
        · simp [h3]; omega
        · simp [h3]; omega
      · simp [h1, h2]; simpa using ih
theorem cntL_add {l s : List Nat} {x : Nat} (hx : x ∈ l) (hs : x ∉ s) : cntL l (s ++ [x]) < cntL l s := by
  induction l with
  | nil => cases hx
  | cons e r ih =>
    have hle := cntL_mono (l := r) (s := s) (x := x)
    unfold cntL at ih hle ⊢
    simp only [List.filter_cons]
    by_cases h2 : e = x
    · subst h2
      simp [hs]
      simp at hle; omega
    · have ih := ih (by simpa [Ne.symm h2] using hx)
      by_cases h1 : e ∈ s
      · simp [h1]; simpa using ih
      · simp [h1, h2]; simpa using ih

set_option maxHeartbeats 2000000 in
theorem f_vocabs (d : DictT) (hv : d.vocs.length ≤ 4000000000000) (hu : ∀ v ∈ d.vocs, v.uses.length ≤ 1000000000000000) (hn : ∀ v ∈ d.vocs, v.name.length ≤ 140737488351232) :
    ACalls Tryz.prog 47 [.agg (dictC d)] [] fun out st' => out = .ret (.bool (vocabsR d)) ∧ st' = [] := by
  have fu := f_uses d hv
  have hml := uses_len hu
  unfold vocabsR
  obtain ⟨vs, ws⟩ := d
  dsimp only at fu hv hu hn hml ⊢
  have hdc : dictC ⟨vs, ws⟩ = [.fz (vs.flatMap vocC) vs.length false, .fz (ws.flatMap wordC) ws.length false] := rfl
  rw [hdc] at fu ⊢
  generalize hm : usesN vs = m at fu hml ⊢
  refine ACalls.of_W tb_ok (fn := Tryz.f47) (n := 82) (by kernel_rfl) rfl (by kernel_rfl) rfl rfl (by simp) (go ?_)
  refine VAll.mk (fun b1 => go ?_)
  refine ACalls.use (R := [(b1, .box [.fz (vs.flatMap vocC) vs.length false, .fz (ws.flatMap wordC) ws.length false])]) fu (by exact List.Perm.refl _) ?_
  rintro out s' ⟨bm, rfl, rfl⟩
  refine go ?_
  refine fork (fun hbig => go ?_) (fun hbig => go ?_)
  · refine VRet.mk [] .nil ?_
    rw [decide_eq_false (by omega)]
    exact ⟨rfl, rfl⟩
  have hv64 : vs.length ≤ 64 := by omega
  rw [decide_eq_true hv64, Bool.true_and]
  refine VLoop.mk [21] Nat (fun k => [.int .i64 k]) (fun _ => [(bm, .map (entA usV m)), (b1, .box [.fz (vs.flatMap vocC) vs.length false, .fz (ws.flatMap wordC) ws.length false])]) (fun k => k ≤ vs.length ∧ ∀ i v, i < k → vs[i]? = some v → vocOkR vs m i v = true) (fun k => vs.length - k) 0 ?_ ?_
  · exact ⟨⟨Nat.zero_le _, fun i v h => absurd h (Nat.not_lt_zero _)⟩, rfl, VSel.refl _⟩
  rintro k ⟨hk, hI⟩
  dsimp only at hk hI ⊢
  refine go ?_
  refine fork (fun hlt => go ?_) (fun hlt => go ?_)
  · have hlt : k < vs.length := by omega
    obtain ⟨x, hx⟩ : ∃ x, vs[k]? = some x := ⟨vs[k], by simp [hlt]⟩
    have hN := f11_of x.name (by have := hn x (List.mem_of_getElem? hx); omega)
    have hux := hu x (List.mem_of_getElem? hx)
    have hd := flat_drop vocC 2 vocC_len hx
    have hbad : vocOkR vs m k x = false → vocsOk vs m = false := vocs_false hx
    have hgood : vocOkR vs m k x = true → k + 1 ≤ vs.length ∧ ∀ i v, i < k + 1 → vs[i]? = some v → vocOkR vs m i v = true := by
      intro h
      refine ⟨by omega, fun i c hi hic => ?_⟩
      by_cases e : i = k
      · subst e; rw [hx] at hic; cases hic; exact h
      · exact hI i c (by omega) hic
    obtain ⟨nm, us⟩ := x
    unfold vocOkR at hbad hgood
    dsimp only at hN hux hbad hgood
    have d0 : (List.drop (mulN k 2) (vs.flatMap vocC)).take 2 = [.str nm, usV us] := by rw [hd]; rfl
    refine VTake.mk _ d0 rfl (go ?_)
    refine VAll.mk (fun b5 => go ?_)
    cases hnm : nameR nm with
    | false =>
      rw [hnm] at hN hbad
      refine VQ.mk (.bool false) (by refine go ?_; refine Fn.use hN (go ?_); exact ⟨rfl, rfl⟩) (go ?_)
      refine VRet.mk [] .nil ?_
      rw [hbad (by simp), Bool.false_and]
      exact ⟨rfl, rfl⟩
    | true =>
      rw [hnm] at hN hbad hgood
      refine VQ.mk (.bool true) (by refine go ?_; refine Fn.use hN (go ?_); exact ⟨rfl, rfl⟩) (go ?_)
      cases hk0 : decide (0 < k) with
      | false =>
        have hk0 : k = 0 := by simpa using hk0
        subst hk0
        refine VIf.no (by simp) (go ?_)
        have hbad : usesOk m [] us = false → vocsOk vs m = false := fun h => hbad (by rw [h]; simp)
        have hgood : usesOk m [] us = true → 0 + 1 ≤ vs.length ∧ ∀ i v, i < 0 + 1 → vs[i]? = some v → vocOkR vs m i v = true := fun h => hgood (by rw [h]; simp)
        refine VAll.mk (fun b6 => go ?_)
        refine VLoop.mk [50] Nat (fun j => [.int .i64 j]) (fun j => [(b6, .map (seenE (us.take j))), (bm, .map (entA usV m)), (b1, .box [.fz (vs.flatMap vocC) vs.length false, .fz (ws.flatMap wordC) ws.length false])]) (fun j => j ≤ us.length ∧ usesOk m (us.take j) (us.drop j) = usesOk m [] us) (fun j => us.length - j) 0 ?_ ?_
        · exact ⟨⟨Nat.zero_le _, rfl⟩, rfl, .cons 0 rfl (.cons 1 rfl (.cons 1 rfl .nil))⟩
        rintro j ⟨hj, hJ⟩
        dsimp only at hj hJ ⊢
        refine go ?_
        refine fork (fun hjl => go ?_) (fun hjl => go ?_)
        · have hjl : j < us.length := by omega
          obtain ⟨y, hy⟩ : ∃ y, us[j]? = some y := ⟨us[j], by simp [hjl]⟩
          have hjd : us.drop j = y :: us.drop (j + 1) := by
            rw [List.drop_eq_getElem_cons hjl]
            rw [List.getElem?_eq_getElem hjl] at hy
            rw [Option.some.inj hy]
          have hjt := take_snoc hy
          rw [hjd, usesOk] at hJ
          refine VNth.mk (.str y) (by rw [List.getElem?_drop]; show (us.map AV.str)[j + 0]? = _; simp [hy]) (go ?_)
          rcases find_get (m := m) y with ⟨w, q, g1, g2⟩ | ⟨g1, g2⟩
          · rw [g1] at hJ
            refine VMap.mk _ g2 (go ?_)
            rcases seen_find y (us.take j) with ⟨h1, q2, h2⟩ | ⟨h1, h2⟩
            · refine VMap.mk _ h2 (go ?_)
              refine VRet.mk [] .nil ?_
              rw [hbad (by rw [← hJ]; simp [h1]), Bool.false_and]
              exact ⟨rfl, rfl⟩
            · refine VMap.mk _ h2 (go ?_)
              refine VMap.mk _ h2 (go ?_)
              refine ⟨j + 1, ⟨by omega, ?_⟩, by omega, rfl, ?_⟩
              · rw [hjt, ← hJ]; simp [h1]
              · rw [hjt, ← seenE_snoc]
                exact VSel.refl _
          · rw [g1] at hJ
            refine VMap.mk _ g2 (go ?_)
            refine VRet.mk [] .nil ?_
            rw [hbad (by rw [← hJ]; rfl), Bool.false_and]
            exact ⟨rfl, rfl⟩
        · have : j = us.length := by omega
          subst this
          rw [List.drop_length, usesOk] at hJ
          exact ⟨0 + 1, hgood hJ.symm, by omega, rfl, .cons 1 rfl (.cons 1 rfl .nil)⟩
      | true =>
        have hk0 : 0 < k := by simpa using hk0
        obtain ⟨y, hy⟩ : ∃ y, vs[k - 1]? = some y := ⟨_, List.getElem?_eq_getElem (show k - 1 < vs.length by omega)⟩
        have hg : (vs.map (·.name)).getD (k - 1) [] = y.name := by rw [List.getD_eq_getElem?_getD, List.getElem?_map, hy]; rfl
        rw [hg] at hbad hgood
        have hyd := flat_drop vocC 2 vocC_len hy
        have e1 : (List.drop 0 (List.drop (mulN (k - 1) 2) (vs.flatMap vocC)))[0]? = some (.str y.name) := by rw [List.drop_zero, hyd]; rfl
        have hkb : (k == 0) = false := by simp; omega
        rw [hkb] at hbad hgood
        refine VIf.yes (by simp; omega) (go ?_)
        refine VQ.mk (.fzp (List.drop (mulN (k - 1) 2) (vs.flatMap vocC))) (by refine go ?_; exact VIdx.at (k - 1) (by omega) (by omega) ⟨rfl, rfl⟩) (go ?_)
        refine VQ.mk (.str y.name) (by refine go ?_; refine VNth.mk _ e1 (go ?_); exact ⟨rfl, rfl⟩) (go ?_)
        cases hlt2 : (Op.bytesLess nm y.name || decide (nm = y.name)) with
        | true =>
          refine VIf.yes rfl (go ?_)
          refine VRet.mk [] .nil ?_
          rw [hbad (by rw [hlt2]; simp), Bool.false_and]
          exact ⟨rfl, rfl⟩
        | false =>
          refine VIf.no rfl (go ?_)
          have hbad : usesOk m [] us = false → vocsOk vs m = false := fun h => hbad (by rw [h]; simp)
          have hgood : usesOk m [] us = true → k + 1 ≤ vs.length ∧ ∀ i v, i < k + 1 → vs[i]? = some v → vocOkR vs m i v = true := fun h => hgood (by rw [h, hlt2]; rfl)
          refine VAll.mk (fun b6 => go ?_)
          refine VLoop.mk [50] Nat (fun j => [.int .i64 j]) (fun j => [(b6, .map (seenE (us.take j))), (bm, .map (entA usV m)), (b1, .box [.fz (vs.flatMap vocC) vs.length false, .fz (ws.flatMap wordC) ws.length false])]) (fun j => j ≤ us.length ∧ usesOk m (us.take j) (us.drop j) = usesOk m [] us) (fun j => us.length - j) 0 ?_ ?_
          · exact ⟨⟨Nat.zero_le _, rfl⟩, rfl, .cons 0 rfl (.cons 1 rfl (.cons 1 rfl .nil))⟩
          rintro j ⟨hj, hJ⟩
          dsimp only at hj hJ ⊢
          refine go ?_
          refine fork (fun hjl => go ?_) (fun hjl => go ?_)
          · have hjl : j < us.length := by omega
            obtain ⟨y, hy⟩ : ∃ y, us[j]? = some y := ⟨us[j], by simp [hjl]⟩
            have hjd : us.drop j = y :: us.drop (j + 1) := by
              rw [List.drop_eq_getElem_cons hjl]
              rw [List.getElem?_eq_getElem hjl] at hy
              rw [Option.some.inj hy]
            have hjt := take_snoc hy
            rw [hjd, usesOk] at hJ
            refine VNth.mk (.str y) (by rw [List.getElem?_drop]; show (us.map AV.str)[j + 0]? = _; simp [hy]) (go ?_)
            rcases find_get (m := m) y with ⟨w, q, g1, g2⟩ | ⟨g1, g2⟩
            · rw [g1] at hJ
              refine VMap.mk _ g2 (go ?_)
              rcases seen_find y (us.take j) with ⟨h1, q2, h2⟩ | ⟨h1, h2⟩
              · refine VMap.mk _ h2 (go ?_)
                refine VRet.mk [] .nil ?_
                rw [hbad (by rw [← hJ]; simp [h1]), Bool.false_and]
                exact ⟨rfl, rfl⟩
              · refine VMap.mk _ h2 (go ?_)
                refine VMap.mk _ h2 (go ?_)
                refine ⟨j + 1, ⟨by omega, ?_⟩, by omega, rfl, ?_⟩
                · rw [hjt, ← hJ]; simp [h1]
                · rw [hjt, ← seenE_snoc]
                  exact VSel.refl _
            · rw [g1] at hJ
              refine VMap.mk _ g2 (go ?_)
              refine VRet.mk [] .nil ?_
              rw [hbad (by rw [← hJ]; rfl), Bool.false_and]
              exact ⟨rfl, rfl⟩
          · have : j = us.length := by omega
            subst this
            rw [List.drop_length, usesOk] at hJ
            exact ⟨k + 1, hgood hJ.symm, by omega, rfl, .cons 1 rfl (.cons 1 rfl .nil)⟩
  · have : k = vs.length := by omega
    subst this
    have hs : vocsOk vs m = true := vocs_true fun i c h => hI i c (List.getElem?_eq_some_iff.1 h).1 h
    rw [hs, Bool.true_and]
    refine VStamp.mk fun st0 ck hbl hbn hbc => go ?_
    refine VAll.mk (fun it => go ?_)
    refine VLoop.mk [] (List Nat) (fun _ => []) (fun sn => [(it, .miter bm ck sn ck), (bm, .mapS (entA usV m) st0 ck)]) (fun sn => ∀ (i : Nat) (e : Txt × List Txt) (x : Nat), m[i]? = some e → st0[i]? = some x → x ∈ sn → (leadsF m e.1 (m.length + 1) e.1 []).1 = false) (fun sn => cntL st0 sn) [] ?_ ?_
    · exact ⟨fun i e x _ _ h => (by cases h), rfl, .cons 0 rfl (.cons 0 rfl .nil)⟩
    intro sn hsn
    refine go ?_
    refine ⟨fun hov => go ?_, fun i e x he hx hns => ?_⟩
    · refine VRet.mk [] .nil ?_
      have hno : noCycle m = true := by
        unfold noCycle
        rw [List.all_eq_true]
        intro e he
        obtain ⟨i, hi, hie⟩ := List.mem_iff_getElem.1 he
        have hl : i < st0.length := by rw [hbl]; simpa using hi
        rw [hsn i e st0[i] (by rw [List.getElem?_eq_getElem hi, hie]) (List.getElem?_eq_getElem hl) (hov _ (List.getElem_mem hl))]
        rfl
      rw [hno]
      exact ⟨rfl, rfl⟩
    · have hlen : i < m.length := by
        have := (List.getElem?_eq_some_iff.1 he).1
        simpa using this
      obtain ⟨a, ha⟩ : ∃ a, m[i]? = some a := ⟨m[i], by simp [hlen]⟩
      obtain rfl : e = (.str a.1, usV a.2) := by
        unfold entA at he
        rw [List.getElem?_map, ha] at he
        exact (Option.some.inj he).symm
      refine go ?_
      refine VEntry.mk i _ x he hx (by simp) (go ?_)
      refine VAll.mk (fun b8 => go ?_)
      refine ACalls.use (R := [(it, .miter bm ck (sn ++ [x]) ck)]) (f_lead bm b8 a.1 m hml (.mapS (entA usV m) st0 ck) (.inr ⟨_, _, rfl⟩) (m.length + 1) a.1 [] (Nat.lt_succ_of_le (keysLeft_le m []))) (by exact List.perm_append_comm (l₁ := [_])) ?_
      rintro out s' ⟨rfl, rfl⟩
      cases hr : (leadsF m a.1 (m.length + 1) a.1 []).1 with
      | true =>
        refine go ?_
        refine VRet.mk [] .nil ?_
        have hno : noCycle m = false := by
          unfold noCycle
          rw [List.all_eq_false]
          exact ⟨a, List.mem_of_getElem? ha, by rw [hr]; simp⟩
        rw [hno]
        exact ⟨rfl, rfl⟩
      | false =>
        refine go ?_
        refine ⟨sn ++ [x], ?_, cntL_add (List.mem_of_getElem? hx) hns, rfl, .cons 2 rfl (.cons 0 rfl .nil)⟩
        intro i2 e2 x2 h1 h2 h3
        rcases List.mem_append.1 h3 with h3 | h3
        · exact hsn i2 e2 x2 h1 h2 h3
        · obtain rfl : x2 = x := List.mem_singleton.1 h3
          have hi2 : i2 = i := by
            have q1 := (List.getElem?_eq_some_iff.1 h2)
            have q2 := (List.getElem?_eq_some_iff.1 hx)
            obtain ⟨p1, p2⟩ := q1
            obtain ⟨p3, p4⟩ := q2
            exact (List.getElem_inj hbn).1 (p2.trans p4.symm)
          subst hi2
          rw [ha] at h1
          obtain rfl : a = e2 := Option.some.inj h1
          exact hr
end Go.Proofs.YtonkeklageehbaaGreatDoor

namespace Go.Proofs.YtonkeklageehbaaGreatDoor
open Go Go.Av
/-- A tree of the reference: its kind, number, text and list. -/
inductive RV where
  | mk (k n : Int) (s : List UInt8) (l : List RV)
mutual
def rvAV : RV → List AV
  | .mk k n s l => [.int .i64 k, .int .i64 n, .str s, .fz (rvsC l) l.length false]
def rvsC : List RV → List AV
  | [] => []
  | v :: r => rvAV v ++ rvsC r
end
def RV.cells (v : RV) : List AV := rvAV v
@[simp] theorem rvAV_length (v : RV) : (rvAV v).length = 4 := by cases v; simp [rvAV]
@[simp] theorem rvsC_length : ∀ l : List RV, (rvsC l).length = l.length * 4
  | [] => by simp [rvsC]
  | v :: r => by rw [rvsC, List.length_append, rvAV_length, rvsC_length r, List.length_cons]; omega
theorem rvsC_app (a b : List RV) : rvsC (a ++ b) = rvsC a ++ rvsC b := by
  induction a with
  | nil => simp [rvsC]
  | cons v r ih => simp [rvsC, ih]
theorem rvsC_at : ∀ {l : List RV} {r : List AV} {i : Nat} {v : RV}, l[i]? = some v → ((rvsC l ++ r).drop (i * 4)).take 4 = rvAV v
  | [], _, _, _, h => by simp at h
  | x :: l, r, 0, v, h => by
    simp at h; subst h
    obtain ⟨k, n, s, l'⟩ := x
    simp [rvsC, rvAV]
  | x :: l, r, i + 1, v, h => by
    have := rvsC_at (l := l) (r := r) (i := i) (v := v) (by simpa using h)
    rw [← this, show (i + 1) * 4 = 4 + i * 4 by omega, ← List.drop_drop, rvsC, List.append_assoc, List.drop_left' (rvAV_length x)]
mutual
/-- No dynamic type but the six and the two; and no list of more than 2^40. -/
def Tree.clean : Tree → Bool
  | .odd _ _ => false
  | .list l => decide (l.length ≤ 2513169434916) && cleanAll l
  | .quot l => decide (l.length ≤ 2513169434916) && cleanAll l
  | _ => true
def cleanAll : List Tree → Bool
  | [] => true
  | t :: r => t.clean && cleanAll r
end
mutual
def Tree.depth : Tree → Nat
  | .list l => depthAll l + 1
  | .quot l => depthAll l + 1
  | _ => 0
def depthAll : List Tree → Nat
  | [] => 0
  | t :: r => max t.depth (depthAll r)
end
mutual
/-- The tree of a value. -/
def valRV : Tree → RV
  | .int n => .mk 1 n [] []
  | .str s => .mk 2 0 s []
  | .bool b => .mk 3 (if b then 1 else 0) [] []
  | .list l => .mk 4 0 [] (valRVs l)
  | .quot l => .mk 5 0 [] (itemRVs l)
  | .box n => .mk 6 n [] []
  | .none => .mk 8 0 [] []
  | .call _ => .mk 8 0 [] []
  | .odd _ _ => .mk 8 0 [] []
def valRVs : List Tree → List RV
  | [] => []
  | t :: r => valRV t :: valRVs r
def itemRVs : List Tree → List RV
  | [] => []
  | t :: r => (match t with
    | .call s => .mk 7 0 s []
    | .int n => .mk 1 n [] []
    | .str s => .mk 2 0 s []
    | .bool b => .mk 3 (if b then 1 else 0) [] []
    | .list l => .mk 4 0 [] (valRVs l)
    | .quot l => .mk 5 0 [] (itemRVs l)
    | .box n => .mk 6 n [] []
    | .none => .mk 8 0 [] []
    | .odd _ _ => .mk 8 0 [] []) :: itemRVs r
end
/-- The tree of an item. -/
def itemRV (t : Tree) : RV := match t with
  | .call s => .mk 7 0 s []
  | t => valRV t
theorem itemRVs_cons (t : Tree) (r : List Tree) : itemRVs (t :: r) = itemRV t :: itemRVs r := by
  cases t <;> simp [itemRVs, itemRV, valRV]
theorem itemRVs_map : ∀ l : List Tree, itemRVs l = l.map itemRV
  | [] => by simp [itemRVs]
  | t :: r => by rw [itemRVs_cons, itemRVs_map r]; rfl
theorem valRVs_map : ∀ l : List Tree, valRVs l = l.map valRV
  | [] => by simp [valRVs]
  | t :: r => by rw [valRVs, valRVs_map r]; rfl
@[simp] theorem itemRVs_length (l : List Tree) : (itemRVs l).length = l.length := by simp [itemRVs_map]
@[simp] theorem valRVs_length (l : List Tree) : (valRVs l).length = l.length := by simp [valRVs_map]
theorem cleanAll_at : ∀ {l : List Tree} {i : Nat} {t : Tree}, cleanAll l = true → l[i]? = some t → t.clean = true
  | [], _, _, _, h => by simp at h
  | x :: l, 0, t, hc, h => by simp at h; subst h; simp [cleanAll] at hc; exact hc.1
  | x :: l, i + 1, t, hc, h => by simp [cleanAll] at hc; exact cleanAll_at hc.2 (by simpa using h)
theorem depthAll_at : ∀ {l : List Tree} {i : Nat} {t : Tree}, l[i]? = some t → t.depth ≤ depthAll l
  | [], _, _, h => by simp at h
  | x :: l, 0, t, h => by simp at h; subst h; rw [depthAll]; omega
  | x :: l, i + 1, t, h => by
    have := depthAll_at (l := l) (i := i) (t := t) (by simpa using h)
    rw [depthAll]; omega
/-- The size of lists, everywhere. -/
theorem take_succ_at {α : Type} {l : List α} {i : Nat} {x : α} (h : l[i]? = some x) : l.take (i + 1) = l.take i ++ [x] := by
  rw [List.take_add_one, h]; rfl
end Go.Proofs.YtonkeklageehbaaGreatDoor

namespace Go.Proofs.YtonkeklageehbaaGreatDoor
open Go Go.Av
theorem VSel.skip1 (x : Nat × AObj) : ∀ (st : St), VSel st (x :: st)
  | [] => .nil
  | y :: r => .cons 1 rfl (VSel.skip1 x r)
mutual
/-- The names that are called in a value. -/
def callsV : Tree → List (List UInt8)
  | .quot l => callsIs l
  | .list l => callsVs l
  | .none => []
  | .int _ => []
  | .str _ => []
  | .bool _ => []
  | .box _ => []
  | .call _ => []
  | .odd _ _ => []
def callsVs : List Tree → List (List UInt8)
  | [] => []
  | t :: r => callsV t ++ callsVs r
def callsIs : List Tree → List (List UInt8)
  | [] => []
  | t :: r => (match t with
    | .call s => [s]
    | .quot l => callsIs l
    | .list l => callsVs l
    | .none => []
    | .int _ => []
    | .str _ => []
    | .bool _ => []
    | .box _ => []
    | .odd _ _ => []) ++ callsIs r
end
def isCallT : Tree → Bool
  | .call _ => true
  | _ => false
def callsI (t : Tree) : List (List UInt8) := match t with
  | .call s => [s]
  | t => callsV t
theorem callsIs_cons (t : Tree) (r : List Tree) : callsIs (t :: r) = callsI t ++ callsIs r := by
  cases t <;> simp [callsIs, callsI, callsV]
section
variable (f : FuncId) (c1 c2 c3 : Nat) {σ : Type} (S : σ → St) (step : σ → List UInt8 → σ)
def DEachC : Prop := ∀ (s : List UInt8) (x : σ), ACalls Tryz.prog f [.str s, .ptr c1 0, .ptr c2 0, .ptr c3 0] (S x) fun out st => out = .ret (.tup []) ∧ st = S (step x s)
def DWithC (t : Tree) : Prop := ∀ x : σ, ACalls Tryz.prog 123 [valAV t, .fn (.func f) [] [.ptr c1 0, .ptr c2 0, .ptr c3 0]] (S x) fun out st => out = .ret (.tup []) ∧ st = S ((callsV t).foldl step x)
def DCallsC (l : List Tree) : Prop := ∀ x : σ, ACalls Tryz.prog 99 [.fz (itemAVs l) l.length false, .fn (.func f) [] [.ptr c1 0, .ptr c2 0, .ptr c3 0]] (S x) fun out st => out = .ret (.tup []) ∧ st = S ((callsIs l).foldl step x)
end

theorem f_calls (f : FuncId) (c1 c2 c3 : Nat) {σ : Type} (S : σ → St) (step : σ → List UInt8 → σ) (hE : DEachC f c1 c2 c3 S step) (l : List Tree) (hl : l.length ≤ 2513169434916) (hcl : cleanAll l = true)
    (hw : ∀ (i : Nat) t, l[i]? = some t → isCallT t = false → DWithC f c1 c2 c3 S step t) : DCallsC f c1 c2 c3 S step l := by
  intro x
  refine ACalls.of_W tb_ok (fn := Tryz.f99) (n := 30) (by kernel_rfl) rfl (by kernel_rfl) rfl rfl (by simp) (go ?_)
  refine VLoop.mk [10] (Nat × σ) (fun i => [.int .i64 i.1]) (fun i => S i.2) (fun i => i.1 ≤ l.length ∧ (callsIs (l.drop i.1)).foldl step i.2 = (callsIs l).foldl step x) (fun i => l.length - i.1) (0, x) ?_ ?_
  · exact ⟨⟨Nat.zero_le _, rfl⟩, rfl, VSel.refl _⟩
  rintro ⟨k, y⟩ ⟨hk, hI⟩
  dsimp only at hk hI ⊢
  refine go ?_
  refine fork (fun hlt => go ?_) (fun hlt => go ?_)
  · have hlt : k < l.length := by omega
    obtain ⟨t, hx⟩ : ∃ t, l[k]? = some t := ⟨l[k], by simp [hlt]⟩
    have hd : l.drop k = t :: l.drop (k + 1) := by
      rw [List.drop_eq_getElem_cons hlt]
      rw [List.getElem?_eq_getElem hlt] at hx
      rw [Option.some.inj hx]
    have hv : (itemAVs l)[k]? = some (itemAV t) := by rw [itemAVs_map]; simp [hx]
    cases t with
    | odd u v => exact absurd (cleanAll_at hcl hx) (by simp [Tree.clean])
    | none =>
      refine VNth.mk _ (by rw [List.getElem?_drop]; exact hv) (go ?_)
      refine ⟨(k + 1, y), ⟨by dsimp only; omega, ?_⟩, by dsimp only; omega, rfl, VSel.refl _⟩
      dsimp only
      rw [← hI, hd, callsIs_cons, List.foldl_append]; rfl
    | call s =>
      refine VNth.mk _ (by rw [List.getElem?_drop]; exact hv) (go ?_)
      refine VAll.mk (fun b6 => go ?_)
      refine ACalls.usep (R := [(b6, .box [.str s])]) (hE s y) (List.perm_append_singleton _ _) ?_
      rintro out st' ⟨rfl, rfl⟩
      refine go ?_
      refine ⟨(k + 1, step y s), ⟨by dsimp only; omega, ?_⟩, by dsimp only; omega, rfl, VSel.skip1 _ _⟩
      dsimp only
      rw [← hI, hd, callsIs_cons, List.foldl_append]; rfl
    | int n =>
      refine VNth.mk _ (by rw [List.getElem?_drop]; exact hv) (go ?_)
      refine VAll.mk (fun b7 => go ?_)
      refine ACalls.usep (R := [(b7, .box [valAV (.int n)])]) (hw k _ hx rfl y) (List.perm_append_singleton _ _) ?_
      rintro out st' ⟨rfl, rfl⟩
      refine go ?_
      refine ⟨(k + 1, (callsV (.int n)).foldl step y), ⟨by dsimp only; omega, ?_⟩, by dsimp only; omega, rfl, VSel.skip1 _ _⟩
      dsimp only
      rw [← hI, hd, callsIs_cons, List.foldl_append]; rfl
    | str s =>
      refine VNth.mk _ (by rw [List.getElem?_drop]; exact hv) (go ?_)
      refine VAll.mk (fun b7 => go ?_)
      refine ACalls.usep (R := [(b7, .box [valAV (.str s)])]) (hw k _ hx rfl y) (List.perm_append_singleton _ _) ?_
      rintro out st' ⟨rfl, rfl⟩
      refine go ?_
      refine ⟨(k + 1, (callsV (.str s)).foldl step y), ⟨by dsimp only; omega, ?_⟩, by dsimp only; omega, rfl, VSel.skip1 _ _⟩
      dsimp only
      rw [← hI, hd, callsIs_cons, List.foldl_append]; rfl
    | bool b =>
      refine VNth.mk _ (by rw [List.getElem?_drop]; exact hv) (go ?_)
      refine VAll.mk (fun b7 => go ?_)
      refine ACalls.usep (R := [(b7, .box [valAV (.bool b)])]) (hw k _ hx rfl y) (List.perm_append_singleton _ _) ?_
      rintro out st' ⟨rfl, rfl⟩
      refine go ?_
      refine ⟨(k + 1, (callsV (.bool b)).foldl step y), ⟨by dsimp only; omega, ?_⟩, by dsimp only; omega, rfl, VSel.skip1 _ _⟩
      dsimp only
      rw [← hI, hd, callsIs_cons, List.foldl_append]; rfl
    | box n =>
      refine VNth.mk _ (by rw [List.getElem?_drop]; exact hv) (go ?_)
      refine VAll.mk (fun b7 => go ?_)
      refine ACalls.usep (R := [(b7, .box [valAV (.box n)])]) (hw k _ hx rfl y) (List.perm_append_singleton _ _) ?_
      rintro out st' ⟨rfl, rfl⟩
      refine go ?_
      refine ⟨(k + 1, (callsV (.box n)).foldl step y), ⟨by dsimp only; omega, ?_⟩, by dsimp only; omega, rfl, VSel.skip1 _ _⟩
      dsimp only
      rw [← hI, hd, callsIs_cons, List.foldl_append]; rfl
    | list m =>
      refine VNth.mk _ (by rw [List.getElem?_drop]; exact hv) (go ?_)
      refine VAll.mk (fun b7 => go ?_)
      refine ACalls.usep (R := [(b7, .box [valAV (.list m)])]) (hw k _ hx rfl y) (List.perm_append_singleton _ _) ?_
      rintro out st' ⟨rfl, rfl⟩
      refine go ?_
      refine ⟨(k + 1, (callsV (.list m)).foldl step y), ⟨by dsimp only; omega, ?_⟩, by dsimp only; omega, rfl, VSel.skip1 _ _⟩
      dsimp only
      rw [← hI, hd, callsIs_cons, List.foldl_append]; rfl
    | quot m =>
      refine VNth.mk _ (by rw [List.getElem?_drop]; exact hv) (go ?_)
      refine VAll.mk (fun b7 => go ?_)
      refine ACalls.usep (R := [(b7, .box [valAV (.quot m)])]) (hw k _ hx rfl y) (List.perm_append_singleton _ _) ?_
      rintro out st' ⟨rfl, rfl⟩
      refine go ?_
      refine ⟨(k + 1, (callsV (.quot m)).foldl step y), ⟨by dsimp only; omega, ?_⟩, by dsimp only; omega, rfl, VSel.skip1 _ _⟩
      dsimp only
      rw [← hI, hd, callsIs_cons, List.foldl_append]; rfl
  · have : k = l.length := by omega
    subst this
    rw [List.drop_length, callsIs] at hI
    exact VRet.mk _ (VSel.refl _) ⟨rfl, by rw [← hI]; rfl⟩

theorem f_withinQ (f : FuncId) (c1 c2 c3 : Nat) {σ : Type} (S : σ → St) (step : σ → List UInt8 → σ) (l : List Tree) (h : DCallsC f c1 c2 c3 S step l) : DWithC f c1 c2 c3 S step (.quot l) := by
  intro x
  rw [valAV, callsV]
  refine ACalls.of_W tb_ok (fn := Tryz.f123) (n := 30) (by kernel_rfl) rfl (by kernel_rfl) rfl rfl (by simp) (go ?_)
  refine VAll.mk (fun b4 => go ?_)
  refine ACalls.usep (R := [(b4, .box [.fz (itemAVs l) l.length false])]) (h x) (List.perm_append_singleton _ _) ?_
  rintro out st' ⟨rfl, rfl⟩
  refine go ?_
  exact VRet.mk _ (VSel.skip1 _ _) ⟨rfl, rfl⟩
theorem f_withinL (f : FuncId) (c1 c2 c3 : Nat) {σ : Type} (S : σ → St) (step : σ → List UInt8 → σ) (l : List Tree) (hl : l.length ≤ 2513169434916) (h : ∀ (i : Nat) t, l[i]? = some t → DWithC f c1 c2 c3 S step t) : DWithC f c1 c2 c3 S step (.list l) := by
  intro x
  rw [valAV, callsV]
  refine ACalls.of_W tb_ok (fn := Tryz.f123) (n := 30) (by kernel_rfl) rfl (by kernel_rfl) rfl rfl (by simp) (go ?_)
  refine VAll.mk (fun b5 => go ?_)
  refine VLoop.mk [22] (Nat × σ) (fun i => [.int .i64 i.1]) (fun i => S i.2) (fun i => i.1 ≤ l.length ∧ (callsVs (l.drop i.1)).foldl step i.2 = (callsVs l).foldl step x) (fun i => l.length - i.1) (0, x) ?_ ?_
  · exact ⟨⟨Nat.zero_le _, rfl⟩, rfl, VSel.skip1 _ _⟩
  rintro ⟨k, y⟩ ⟨hk, hI⟩
  dsimp only at hk hI ⊢
  refine go ?_
  refine fork (fun hlt => go ?_) (fun hlt => go ?_)
  · have hlt : k < l.length := by omega
    obtain ⟨t, hx⟩ : ∃ t, l[k]? = some t := ⟨l[k], by simp [hlt]⟩
    have hd : l.drop k = t :: l.drop (k + 1) := by
      rw [List.drop_eq_getElem_cons hlt]
      rw [List.getElem?_eq_getElem hlt] at hx
      rw [Option.some.inj hx]
    have hv : (valAVs l)[k]? = some (valAV t) := by rw [valAVs_map]; simp [hx]
    have hh := h k t hx y
    refine VNth.mk _ (by rw [List.getElem?_drop]; exact hv) (go ?_)
    generalize valAV t = v at hh
    refine ACalls.mono hh ?_
    rintro out st' ⟨rfl, rfl⟩
    refine go ?_
    refine ⟨(k + 1, (callsV t).foldl step y), ⟨by dsimp only; omega, ?_⟩, by dsimp only; omega, rfl, VSel.refl _⟩
    dsimp only
    rw [← hI, hd, callsVs, List.foldl_append]
  · have : k = l.length := by omega
    subst this
    rw [List.drop_length, callsVs] at hI
    exact VRet.mk _ (VSel.refl _) ⟨rfl, by rw [← hI]; rfl⟩
theorem f_within (f : FuncId) (c1 c2 c3 : Nat) {σ : Type} (S : σ → St) (step : σ → List UInt8 → σ) (hE : DEachC f c1 c2 c3 S step) (n : Nat) : ∀ t : Tree, t.depth < n → t.clean = true → DWithC f c1 c2 c3 S step t := by
  induction n with
  | zero => intro t h; omega
  | succ n ih =>
    intro t hd hc
    cases t with
    | odd u v => simp [Tree.clean] at hc
    | none =>
      intro x
      rw [valAV, callsV]
      refine ACalls.of_W tb_ok (fn := Tryz.f123) (n := 30) (by kernel_rfl) rfl (by kernel_rfl) rfl rfl (by simp) (go ?_)
      exact VRet.mk _ (VSel.refl _) ⟨rfl, rfl⟩
    | call s =>
      intro x
      rw [valAV, callsV]
      refine ACalls.of_W tb_ok (fn := Tryz.f123) (n := 30) (by kernel_rfl) rfl (by kernel_rfl) rfl rfl (by simp) (go ?_)
      exact VRet.mk _ (VSel.refl _) ⟨rfl, rfl⟩
    | int n =>
      intro x
      rw [valAV, callsV]
      refine ACalls.of_W tb_ok (fn := Tryz.f123) (n := 30) (by kernel_rfl) rfl (by kernel_rfl) rfl rfl (by simp) (go ?_)
      exact VRet.mk _ (VSel.refl _) ⟨rfl, rfl⟩
    | str s =>
      intro x
      rw [valAV, callsV]
      refine ACalls.of_W tb_ok (fn := Tryz.f123) (n := 30) (by kernel_rfl) rfl (by kernel_rfl) rfl rfl (by simp) (go ?_)
      exact VRet.mk _ (VSel.refl _) ⟨rfl, rfl⟩
    | bool b =>
      intro x
      rw [valAV, callsV]
      refine ACalls.of_W tb_ok (fn := Tryz.f123) (n := 30) (by kernel_rfl) rfl (by kernel_rfl) rfl rfl (by simp) (go ?_)
      exact VRet.mk _ (VSel.refl _) ⟨rfl, rfl⟩
    | box n =>
      intro x
      rw [valAV, callsV]
      refine ACalls.of_W tb_ok (fn := Tryz.f123) (n := 30) (by kernel_rfl) rfl (by kernel_rfl) rfl rfl (by simp) (go ?_)
      exact VRet.mk _ (VSel.refl _) ⟨rfl, rfl⟩
    | list l =>
      simp only [Tree.clean, Bool.and_eq_true, decide_eq_true_eq] at hc
      rw [Tree.depth] at hd
      exact f_withinL f c1 c2 c3 S step l hc.1 fun i t ht => ih t (by have := depthAll_at ht; omega) (cleanAll_at hc.2 ht)
    | quot l =>
      simp only [Tree.clean, Bool.and_eq_true, decide_eq_true_eq] at hc
      rw [Tree.depth] at hd
      exact f_withinQ f c1 c2 c3 S step l (f_calls f c1 c2 c3 S step hE l hc.1 hc.2 fun i t ht _ => ih t (by have := depthAll_at ht; omega) (cleanAll_at hc.2 ht))
theorem f_callsAll (f : FuncId) (c1 c2 c3 : Nat) {σ : Type} (S : σ → St) (step : σ → List UInt8 → σ) (hE : DEachC f c1 c2 c3 S step) {l : List Tree} (hl : l.length ≤ 2513169434916) (hcl : cleanAll l = true) : DCallsC f c1 c2 c3 S step l :=
  f_calls f c1 c2 c3 S step hE l hl hcl fun i t ht _ => f_within f c1 c2 c3 S step hE (t.depth + 1) t (by omega) (cleanAll_at hcl ht)
end Go.Proofs.YtonkeklageehbaaGreatDoor

namespace Go.Proofs.YtonkeklageehbaaGreatDoor
open Go Go.Av
def bytesC (l : List UInt8) : List AV := l.map fun c => .int .u8 c.toNat
@[simp] theorem bytesC_length (l : List UInt8) : (bytesC l).length = l.length := by simp [bytesC]
/-- A slice that grows: nil, or an object of one's own. -/
def accV (o : Option Nat) (n : Nat) : AV := match o with
  | none => .nils
  | some b => .own b n
def accS (o : Option Nat) (esz : Nat) (cells : List AV) : St := match o with
  | none => []
  | some b => [(b, .arr esz cells 0)]
end Go.Proofs.YtonkeklageehbaaGreatDoor
