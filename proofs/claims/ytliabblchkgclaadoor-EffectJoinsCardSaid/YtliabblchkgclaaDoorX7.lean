/- The types of the program, as a table. Functions of Go's library, over abstract values. Values and items as trees, and what they are in memory. Conditions: none. The reference's trees, and what trees are as such. Conditions: none. Functions of Go's library, over abstract values: beginnings of texts. Texts as lists of characters: plain Lean, no program. Conditions: as each says. Lex: text: the string that begins at a place. The trees of values and items: the walks. Conditions: as each says. strings.IndexFunc and strings.TrimLeftFunc, at a function with a contract. Texts that stand one behind the other, and bytes that belong to no character. Conditions: as each says. Lex: fault. Lex: blanks. Lex: is a character a blank? Lex: digits, numbers. Lex: Name. The tokens of a text, as plain Lean tells them. Conditions: none. Effects: what effect.Of computes, in plain Lean. Conditions: none. Effects: the names of the primitives, and their effects: strings.Fields, strings.Cut, effect.Names, effect.Prim. Conditions: as each says. -/
import Derived.Test.YtliabblchkgclaaDoorX4
import Derived.Test.YtliabblchkgclaaDoorProg
import Derived.Test.YtliabblchkgclaaDoorX5
import Derived.Lib.TrimUEq
import Derived.Lib.Fields
import Derived.Test.YtliabblchkgclaaDoorX6
set_option linter.all false
set_option maxRecDepth 20000
namespace Go.Proofs.YtliabblchkgclaaDoor
open Go Go.Av
def tb : Tab := [(1, ⟨.func, 1, 8, [.nilf], false, none⟩),
  (2, ⟨.int .i64, 1, 8, [.int .i64 0], true, none⟩),
  (3, ⟨.int .i64, 1, 8, [.int .i64 0], true, none⟩),
  (4, ⟨.bool, 1, 1, [.bool false], true, none⟩),
  (5, ⟨.int .u8, 1, 1, [.int .u8 0], true, none⟩),
  (6, ⟨.int .u8, 1, 1, [.int .u8 0], true, none⟩),
  (7, ⟨.struct [⟨0, 1, false, 2⟩, ⟨1, 1, false, 3⟩, ⟨2, 1, false, 4⟩, ⟨3, 1, false, 6⟩], 4, 24, [.int .i64 0, .int .i64 0, .bool false, .int .u8 0], false, none⟩),
  (8, ⟨.struct [⟨0, 1, false, 2⟩, ⟨1, 1, false, 3⟩, ⟨2, 1, false, 4⟩, ⟨3, 1, false, 6⟩], 4, 24, [.int .i64 0, .int .i64 0, .bool false, .int .u8 0], false, none⟩),
  (9, ⟨.str, 1, 16, [.str []], true, none⟩),
  (10, ⟨.str, 1, 16, [.str []], true, none⟩),
  (11, ⟨.str, 1, 16, [.str []], true, none⟩),
  (12, ⟨.int .u64, 1, 8, [.int .u64 0], true, none⟩),
  (13, ⟨.struct [⟨0, 1, false, 9⟩, ⟨1, 1, false, 12⟩], 2, 24, [.str [], .int .u64 0], false, none⟩),
  (14, ⟨.struct [⟨0, 1, false, 9⟩, ⟨1, 1, false, 12⟩], 2, 24, [.str [], .int .u64 0], false, none⟩),
  (15, ⟨.ptr 172, 1, 8, [.nilp], false, none⟩),
  (16, ⟨.ptr 175, 1, 8, [.nilp], false, none⟩),
  (17, ⟨.ptr 184, 1, 8, [.nilp], false, none⟩),
  (18, ⟨.struct [⟨0, 1, false, 17⟩], 1, 8, [.nilp], false, none⟩),
  (19, ⟨.struct [⟨0, 1, false, 17⟩], 1, 8, [.nilp], false, none⟩),
  (20, ⟨.iface, 1, 16, [.nili], false, none⟩),
  (21, ⟨.int .i32, 1, 4, [.int .i32 0], true, none⟩),
  (22, ⟨.slice 28, 1, 24, [.nils], false, none⟩),
  (23, ⟨.func, 1, 8, [.nilf], false, none⟩),
  (24, ⟨.iface, 1, 16, [.nili], false, none⟩),
  (25, ⟨.iface, 1, 16, [.nili], false, none⟩),
  (26, ⟨.func, 1, 8, [.nilf], false, none⟩),
  (27, ⟨.struct [⟨0, 1, false, 3⟩, ⟨1, 1, false, 2⟩, ⟨2, 1, false, 9⟩, ⟨3, 1, false, 22⟩], 4, 56, [.int .i64 0, .int .i64 0, .str [], .nils], false, none⟩),
  (28, ⟨.struct [⟨0, 1, false, 3⟩, ⟨1, 1, false, 2⟩, ⟨2, 1, false, 9⟩, ⟨3, 1, false, 22⟩], 4, 56, [.int .i64 0, .int .i64 0, .str [], .nils], false, none⟩),
  (29, ⟨.struct [⟨0, 1, false, 3⟩, ⟨1, 1, false, 3⟩], 2, 16, [.int .i64 0, .int .i64 0], true, none⟩),
  (30, ⟨.struct [⟨0, 1, false, 3⟩, ⟨1, 1, false, 3⟩], 2, 16, [.int .i64 0, .int .i64 0], true, none⟩),
  (31, ⟨.int .i64, 1, 8, [.int .i64 0], true, none⟩),
  (33, ⟨.func, 1, 8, [.nilf], false, none⟩),
  (34, ⟨.slice 25, 1, 24, [.nils], false, none⟩),
  (35, ⟨.func, 1, 8, [.nilf], false, none⟩),
  (36, ⟨.struct [⟨0, 1, false, 9⟩], 1, 16, [.str []], true, none⟩),
  (37, ⟨.struct [⟨0, 1, false, 9⟩], 1, 16, [.str []], true, none⟩),
  (39, ⟨.func, 1, 8, [.nilf], false, none⟩),
  (40, ⟨.func, 1, 8, [.nilf], false, none⟩),
  (41, ⟨.slice 47, 1, 24, [.nils], false, none⟩),
  (42, ⟨.slice 45, 1, 24, [.nils], false, none⟩),
  (43, ⟨.func, 1, 8, [.nilf], false, none⟩),
  (44, ⟨.struct [⟨0, 1, false, 9⟩, ⟨1, 2, true, 30⟩], 3, 32, [.str [], .int .i64 0, .int .i64 0], true, none⟩),
  (45, ⟨.struct [⟨0, 1, false, 9⟩, ⟨1, 2, true, 30⟩], 3, 32, [.str [], .int .i64 0, .int .i64 0], true, none⟩),
  (46, ⟨.struct [⟨0, 1, false, 9⟩, ⟨1, 1, false, 3⟩, ⟨2, 1, false, 3⟩], 3, 32, [.str [], .int .i64 0, .int .i64 0], true, none⟩),
  (47, ⟨.struct [⟨0, 1, false, 9⟩, ⟨1, 1, false, 3⟩, ⟨2, 1, false, 3⟩], 3, 32, [.str [], .int .i64 0, .int .i64 0], true, none⟩),
  (48, ⟨.func, 1, 8, [.nilf], false, none⟩),
  (49, ⟨.func, 1, 8, [.nilf], false, none⟩),
  (50, ⟨.func, 1, 8, [.nilf], false, none⟩),
  (51, ⟨.func, 1, 8, [.nilf], false, none⟩),
  (52, ⟨.func, 1, 8, [.nilf], false, none⟩),
  (54, ⟨.func, 1, 8, [.nilf], false, none⟩),
  (55, ⟨.iface, 1, 16, [.nili], false, none⟩),
  (56, ⟨.iface, 1, 16, [.nili], false, none⟩),
  (57, ⟨.func, 1, 8, [.nilf], false, none⟩),
  (58, ⟨.struct [⟨0, 1, false, 56⟩], 1, 16, [.nili], false, none⟩),
  (59, ⟨.struct [⟨0, 1, false, 56⟩], 1, 16, [.nili], false, none⟩),
  (60, ⟨.func, 1, 8, [.nilf], false, none⟩),
  (61, ⟨.ptr 66, 1, 8, [.nilp], false, none⟩),
  (62, ⟨.map 9 30, 1, 8, [.nilm], false, none⟩),
  (63, ⟨.ptr 3, 1, 8, [.nilp], false, none⟩),
  (64, ⟨.slice 100, 1, 24, [.nils], false, none⟩),
  (65, ⟨.struct [⟨0, 1, false, 62⟩, ⟨1, 1, false, 63⟩, ⟨2, 1, false, 3⟩, ⟨3, 1, false, 64⟩], 4, 48, [.nilm, .nilp, .int .i64 0, .nils], false, none⟩),
  (66, ⟨.struct [⟨0, 1, false, 62⟩, ⟨1, 1, false, 63⟩, ⟨2, 1, false, 3⟩, ⟨3, 1, false, 64⟩], 4, 48, [.nilm, .nilp, .int .i64 0, .nils], false, none⟩),
  (67, ⟨.func, 1, 8, [.nilf], false, none⟩),
  (68, ⟨.struct [⟨0, 1, false, 31⟩], 1, 8, [.int .i64 0], true, none⟩),
  (69, ⟨.struct [⟨0, 1, false, 31⟩], 1, 8, [.int .i64 0], true, none⟩),
  (71, ⟨.func, 1, 8, [.nilf], false, none⟩),
  (72, ⟨.func, 1, 8, [.nilf], false, none⟩),
  (73, ⟨.func, 1, 8, [.nilf], false, none⟩),
  (74, ⟨.func, 1, 8, [.nilf], false, none⟩),
  (75, ⟨.func, 1, 8, [.nilf], false, none⟩),
  (76, ⟨.func, 1, 8, [.nilf], false, none⟩),
  (77, ⟨.func, 1, 8, [.nilf], false, none⟩),
  (78, ⟨.slice 9, 1, 24, [.nils], false, none⟩),
  (79, ⟨.func, 1, 8, [.nilf], false, none⟩),
  (81, ⟨.func, 1, 8, [.nilf], false, none⟩),
  (82, ⟨.struct [⟨0, 1, false, 2⟩], 1, 8, [.int .i64 0], true, none⟩),
  (83, ⟨.struct [⟨0, 1, false, 2⟩], 1, 8, [.int .i64 0], true, none⟩),
  (84, ⟨.struct [⟨0, 1, false, 9⟩], 1, 16, [.str []], true, none⟩),
  (85, ⟨.struct [⟨0, 1, false, 9⟩], 1, 16, [.str []], true, none⟩),
  (86, ⟨.struct [⟨0, 1, false, 4⟩], 1, 1, [.bool false], true, none⟩),
  (87, ⟨.struct [⟨0, 1, false, 4⟩], 1, 1, [.bool false], true, none⟩),
  (88, ⟨.slice 56, 1, 24, [.nils], false, none⟩),
  (89, ⟨.func, 1, 8, [.nilf], false, none⟩),
  (90, ⟨.struct [⟨0, 1, false, 88⟩], 1, 24, [.nils], false, none⟩),
  (91, ⟨.struct [⟨0, 1, false, 88⟩], 1, 24, [.nils], false, none⟩),
  (92, ⟨.struct [⟨0, 1, false, 34⟩], 1, 24, [.nils], false, none⟩),
  (93, ⟨.struct [⟨0, 1, false, 34⟩], 1, 24, [.nils], false, none⟩),
  (94, ⟨.struct [⟨0, 1, false, 3⟩], 1, 8, [.int .i64 0], true, none⟩),
  (95, ⟨.struct [⟨0, 1, false, 3⟩], 1, 8, [.int .i64 0], true, none⟩),
  (96, ⟨.func, 1, 8, [.nilf], false, none⟩),
  (99, ⟨.struct [⟨0, 1, false, 4⟩, ⟨1, 1, false, 34⟩], 2, 32, [.bool false, .nils], false, none⟩),
  (100, ⟨.struct [⟨0, 1, false, 4⟩, ⟨1, 1, false, 34⟩], 2, 32, [.bool false, .nils], false, none⟩),
  (101, ⟨.func, 1, 8, [.nilf], false, none⟩),
  (102, ⟨.func, 1, 8, [.nilf], false, none⟩),
  (103, ⟨.func, 1, 8, [.nilf], false, none⟩),
  (104, ⟨.slice 107, 1, 24, [.nils], false, none⟩),
  (105, ⟨.func, 1, 8, [.nilf], false, none⟩),
  (106, ⟨.struct [⟨0, 1, false, 21⟩, ⟨1, 1, false, 3⟩, ⟨2, 1, false, 3⟩, ⟨3, 1, false, 4⟩], 4, 32, [.int .i32 0, .int .i64 0, .int .i64 0, .bool false], true, none⟩),
  (107, ⟨.struct [⟨0, 1, false, 21⟩, ⟨1, 1, false, 3⟩, ⟨2, 1, false, 3⟩, ⟨3, 1, false, 4⟩], 4, 32, [.int .i32 0, .int .i64 0, .int .i64 0, .bool false], true, none⟩),
  (108, ⟨.func, 1, 8, [.nilf], false, none⟩),
  (109, ⟨.slice 3, 1, 24, [.nils], false, none⟩),
  (111, ⟨.func, 1, 8, [.nilf], false, none⟩),
  (112, ⟨.other, 256, 256, [], false, some (256, 5)⟩),
  (113, ⟨.func, 1, 8, [.nilf], false, none⟩),
  (114, ⟨.func, 1, 8, [.nilf], false, none⟩),
  (116, ⟨.func, 1, 8, [.nilf], false, none⟩),
  (117, ⟨.func, 1, 8, [.nilf], false, none⟩),
  (118, ⟨.map 9 109, 1, 8, [.nilm], false, none⟩),
  (119, ⟨.func, 1, 8, [.nilf], false, none⟩),
  (120, ⟨.func, 1, 8, [.nilf], false, none⟩),
  (121, ⟨.func, 1, 8, [.nilf], false, none⟩),
  (122, ⟨.int .u64, 1, 8, [.int .u64 0], true, none⟩),
  (124, ⟨.func, 1, 8, [.nilf], false, none⟩),
  (125, ⟨.func, 1, 8, [.nilf], false, none⟩),
  (126, ⟨.slice 128, 1, 24, [.nils], false, none⟩),
  (127, ⟨.struct [⟨0, 1, false, 3⟩, ⟨1, 1, false, 3⟩], 2, 16, [.int .i64 0, .int .i64 0], true, none⟩),
  (128, ⟨.struct [⟨0, 1, false, 3⟩, ⟨1, 1, false, 3⟩], 2, 16, [.int .i64 0, .int .i64 0], true, none⟩),
  (129, ⟨.int .u32, 1, 4, [.int .u32 0], true, none⟩),
  (130, ⟨.func, 1, 8, [.nilf], false, none⟩),
  (131, ⟨.ptr 138, 1, 8, [.nilp], false, none⟩),
  (132, ⟨.func, 1, 8, [.nilf], false, none⟩),
  (133, ⟨.func, 1, 8, [.nilf], false, none⟩),
  (134, ⟨.func, 1, 8, [.nilf], false, none⟩),
  (135, ⟨.slice 141, 1, 24, [.nils], false, none⟩),
  (136, ⟨.slice 144, 1, 24, [.nils], false, none⟩),
  (137, ⟨.struct [⟨0, 1, false, 135⟩, ⟨1, 1, false, 136⟩, ⟨2, 1, false, 3⟩], 3, 56, [.nils, .nils, .int .i64 0], false, none⟩),
  (138, ⟨.struct [⟨0, 1, false, 135⟩, ⟨1, 1, false, 136⟩, ⟨2, 1, false, 3⟩], 3, 56, [.nils, .nils, .int .i64 0], false, none⟩),
  (139, ⟨.int .u16, 1, 2, [.int .u16 0], true, none⟩),
  (140, ⟨.struct [⟨0, 1, false, 139⟩, ⟨1, 1, false, 139⟩, ⟨2, 1, false, 139⟩], 3, 6, [.int .u16 0, .int .u16 0, .int .u16 0], true, none⟩),
  (141, ⟨.struct [⟨0, 1, false, 139⟩, ⟨1, 1, false, 139⟩, ⟨2, 1, false, 139⟩], 3, 6, [.int .u16 0, .int .u16 0, .int .u16 0], true, none⟩),
  (142, ⟨.func, 1, 8, [.nilf], false, none⟩),
  (143, ⟨.struct [⟨0, 1, false, 129⟩, ⟨1, 1, false, 129⟩, ⟨2, 1, false, 129⟩], 3, 12, [.int .u32 0, .int .u32 0, .int .u32 0], true, none⟩),
  (144, ⟨.struct [⟨0, 1, false, 129⟩, ⟨1, 1, false, 129⟩, ⟨2, 1, false, 129⟩], 3, 12, [.int .u32 0, .int .u32 0, .int .u32 0], true, none⟩),
  (145, ⟨.func, 1, 8, [.nilf], false, none⟩),
  (146, ⟨.func, 1, 8, [.nilf], false, none⟩),
  (147, ⟨.func, 1, 8, [.nilf], false, none⟩),
  (148, ⟨.int .u64, 1, 8, [.int .u64 0], true, none⟩),
  (149, ⟨.func, 1, 8, [.nilf], false, none⟩),
  (150, ⟨.struct [⟨0, 1, false, 5⟩, ⟨1, 1, false, 5⟩], 2, 2, [.int .u8 0, .int .u8 0], true, none⟩),
  (151, ⟨.struct [⟨0, 1, false, 5⟩, ⟨1, 1, false, 5⟩], 2, 2, [.int .u8 0, .int .u8 0], true, none⟩),
  (152, ⟨.other, 32, 32, [], false, some (16, 151)⟩),
  (154, ⟨.ptr 141, 1, 8, [.nilp], false, none⟩),
  (155, ⟨.ptr 144, 1, 8, [.nilp], false, none⟩),
  (157, ⟨.func, 1, 8, [.nilf], false, none⟩),
  (159, ⟨.func, 1, 8, [.nilf], false, none⟩),
  (160, ⟨.func, 1, 8, [.nilf], false, none⟩),
  (161, ⟨.func, 1, 8, [.nilf], false, none⟩),
  (162, ⟨.func, 1, 8, [.nilf], false, none⟩),
  (164, ⟨.func, 1, 8, [.nilf], false, none⟩),
  (166, ⟨.func, 1, 8, [.nilf], false, none⟩),
  (167, ⟨.func, 1, 8, [.nilf], false, none⟩),
  (168, ⟨.func, 1, 8, [.nilf], false, none⟩),
  (169, ⟨.slice 21, 1, 24, [.nils], false, none⟩),
  (170, ⟨.func, 1, 8, [.nilf], false, none⟩),
  (171, ⟨.struct [⟨0, 1, false, 17⟩, ⟨1, 1, false, 17⟩, ⟨2, 1, false, 17⟩, ⟨3, 1, false, 9⟩], 4, 40, [.nilp, .nilp, .nilp, .str []], false, none⟩),
  (172, ⟨.struct [⟨0, 1, false, 17⟩, ⟨1, 1, false, 17⟩, ⟨2, 1, false, 17⟩, ⟨3, 1, false, 9⟩], 4, 40, [.nilp, .nilp, .nilp, .str []], false, none⟩),
  (173, ⟨.other, 0, 0, [], false, some (0, 16)⟩),
  (176, ⟨.func, 1, 8, [.nilf], false, none⟩),
  (177, ⟨.int .u8, 1, 1, [.int .u8 0], true, none⟩),
  (178, ⟨.int .u8, 1, 1, [.int .u8 0], true, none⟩),
  (179, ⟨.func, 1, 8, [.nilf], false, none⟩),
  (180, ⟨.ptr 5, 1, 8, [.nilp], false, none⟩),
  (181, ⟨.int .i32, 1, 4, [.int .i32 0], true, none⟩),
  (182, ⟨.int .i32, 1, 4, [.int .i32 0], true, none⟩),
  (183, ⟨.struct [⟨0, 1, false, 12⟩, ⟨1, 1, false, 12⟩, ⟨2, 1, false, 129⟩, ⟨3, 1, false, 177⟩, ⟨4, 1, false, 5⟩, ⟨5, 1, false, 5⟩, ⟨6, 1, false, 178⟩, ⟨7, 1, false, 179⟩, ⟨8, 1, false, 180⟩, ⟨9, 1, false, 181⟩, ⟨10, 1, false, 182⟩], 11, 48, [.int .u64 0, .int .u64 0, .int .u32 0, .int .u8 0, .int .u8 0, .int .u8 0, .int .u8 0, .nilf, .nilp, .int .i32 0, .int .i32 0], false, none⟩),
  (184, ⟨.struct [⟨0, 1, false, 12⟩, ⟨1, 1, false, 12⟩, ⟨2, 1, false, 129⟩, ⟨3, 1, false, 177⟩, ⟨4, 1, false, 5⟩, ⟨5, 1, false, 5⟩, ⟨6, 1, false, 178⟩, ⟨7, 1, false, 179⟩, ⟨8, 1, false, 180⟩, ⟨9, 1, false, 181⟩, ⟨10, 1, false, 182⟩], 11, 48, [.int .u64 0, .int .u64 0, .int .u32 0, .int .u8 0, .int .u8 0, .int .u8 0, .int .u8 0, .nilf, .nilp, .int .i32 0, .int .i32 0], false, none⟩)]
theorem tb_tab : tabB Tryd.prog tb = true := by kernel_rfl
theorem tb_rt : Tryd.prog.underlying Tryd.prog.rt.typeAssertionError = some (.pointer 172) := by kernel_rfl
theorem tb_mixed : Tryd.prog.follows .mixedOrders = true := by kernel_rfl
theorem tb_ok : ProgOk Tryd.prog tb where
  tab := tb_tab
  rt := ⟨_, tb_rt⟩
  mixed := tb_mixed
end Go.Proofs.YtliabblchkgclaaDoor

namespace Go.Proofs.YtliabblchkgclaaDoor
open Go Go.Av
theorem fn_IndexByte (l : List UInt8) (c : Int) : Av.Fn Tryd.prog 80 [.str l, .int .u8 c] (.int .i64 (Lib.indexByte l c.toNat.toUInt8)) := by
  refine Fn.of_calls (fn := Tryd.f80) (by kernel_rfl) rfl (by kernel_rfl) ?_
  intro W w g us hl hr hb
  obtain ⟨u1, _, rfl, ⟨h1, _⟩, u2, _, rfl, ⟨h2, _⟩, h3⟩ := hr
  have h1 : u1 = _ := h1; have h2 : u2 = _ := h2; have h3 : _ = [] := h3
  subst h1; subst h2; subst h3
  refine (Tryd.strings_IndexByte ⟨⟨l⟩⟩ c w).mono fun e w' ⟨h1, h2⟩ => ?_
  subst h2
  exact ⟨_, h1, rfl, RowKit.Below.refl _ _⟩
theorem fn_ValidRune (r : Int) : Av.Fn Tryd.prog 81 [.int .i32 r] (.bool (Lib.validRune r)) := by
  refine Fn.of_calls (fn := Tryd.f81) (by kernel_rfl) rfl (by kernel_rfl) ?_
  intro W w g us hl hr hb
  obtain ⟨u1, _, rfl, ⟨h1, _⟩, h3⟩ := hr
  have h1 : u1 = _ := h1; have h3 : _ = [] := h3
  subst h1; subst h3
  refine (Tryd.utf8_ValidRune r w).mono fun e w' ⟨h1, h2⟩ => ?_
  subst h2
  exact ⟨_, h1, rfl, RowKit.Below.refl _ _⟩
theorem fn_Cutover (n : Int) (h0 : 0 ≤ n) (h1 : n < 4611686018427387904) : Av.Fn Tryd.prog 61 [.int .i64 n] (.int .i64 ((n + 16) / 8)) := by
  refine Fn.of_calls (fn := Tryd.f61) (by kernel_rfl) rfl (by kernel_rfl) ?_
  intro W w g us hl hr hb
  obtain ⟨u1, _, rfl, ⟨h1, _⟩, h3⟩ := hr
  have h1 : u1 = _ := h1; have h3 : _ = [] := h3
  subst h1; subst h3
  refine (Tryd.bytealg_Cutover n (by assumption) (by assumption) w).mono fun e w' ⟨h1, h2⟩ => ?_
  subst h2
  exact ⟨_, h1, rfl, RowKit.Below.refl _ _⟩
theorem fn_Decode (l : List UInt8) : Av.Fn Tryd.prog 74 [.str l] (.tup [.int .i32 (Lib.decodeGo ⟨⟨l⟩⟩).1, .int .i64 (Lib.decodeGo ⟨⟨l⟩⟩).2]) := by
  refine Fn.of_calls (fn := Tryd.f74) (by kernel_rfl) rfl (by kernel_rfl) ?_
  intro W w g us hl hr hb
  obtain ⟨u1, _, rfl, ⟨h1, _⟩, h3⟩ := hr
  have h1 : u1 = _ := h1; have h3 : _ = [] := h3
  subst h1; subst h3
  refine (Tryd.utf8_DecodeRuneInString ⟨⟨l⟩⟩ w (hl.now hb (by kernel_rfl) (by kernel_rfl))).mono fun e w' ⟨h1, h2⟩ => ?_
  exact ⟨_, h1, ⟨_, rfl, _, _, rfl, ⟨rfl, by simp⟩, _, _, rfl, ⟨rfl, by simp⟩, rfl⟩, h2⟩
end Go.Proofs.YtliabblchkgclaaDoor

namespace Go.Proofs.YtliabblchkgclaaDoor
open Go Go.Av
/-- A value or an item; 'call': an item that is a Call, items that are Pushes stand as their values; 'none': nil; 'odd': of another dynamic type. -/
inductive Tree where
  | none
  | int (n : Int)
  | str (s : List UInt8)
  | bool (b : Bool)
  | list (l : List Tree)
  | quot (l : List Tree)
  | box (n : Int)
  | call (s : List UInt8)
  | odd (t : Nat) (v : AV)
mutual
def valAV : Tree → AV
  | .none => .nili
  | .int n => .iface 83 (.agg [.int .i64 n])
  | .str s => .iface 85 (.agg [.str s])
  | .bool b => .iface 87 (.agg [.bool b])
  | .list l => .iface 91 (.agg [.fz (valAVs l) l.length false])
  | .quot l => .iface 93 (.agg [.fz (itemAVs l) l.length false])
  | .box n => .iface 95 (.agg [.int .i64 n])
  | .call _ => .nili
  | .odd t v => .iface t v
def valAVs : List Tree → List AV
  | [] => []
  | t :: r => valAV t :: valAVs r
def itemAVs : List Tree → List AV
  | [] => []
  | t :: r => (match t with
    | .none => .nili
    | .call s => .iface 37 (.agg [.str s])
    | .odd t v => .iface t v
    | .int n => .iface 59 (.agg [.iface 83 (.agg [.int .i64 n])])
    | .str s => .iface 59 (.agg [.iface 85 (.agg [.str s])])
    | .bool b => .iface 59 (.agg [.iface 87 (.agg [.bool b])])
    | .list l => .iface 59 (.agg [.iface 91 (.agg [.fz (valAVs l) l.length false])])
    | .quot l => .iface 59 (.agg [.iface 93 (.agg [.fz (itemAVs l) l.length false])])
    | .box n => .iface 59 (.agg [.iface 95 (.agg [.int .i64 n])])) :: itemAVs r
end
/-- An item. -/
def itemAV (t : Tree) : AV := match t with
  | .none => .nili
  | .call s => .iface 37 (.agg [.str s])
  | .odd t v => .iface t v
  | t => .iface 59 (.agg [valAV t])
theorem itemAVs_cons (t : Tree) (r : List Tree) : itemAVs (t :: r) = itemAV t :: itemAVs r := by
  cases t <;> simp [itemAVs, itemAV, valAV]
theorem itemAVs_map : ∀ l : List Tree, itemAVs l = l.map itemAV
  | [] => by simp [itemAVs]
  | t :: r => by rw [itemAVs_cons, itemAVs_map r]; rfl
theorem valAVs_map : ∀ l : List Tree, valAVs l = l.map valAV
  | [] => by simp [valAVs]
  | t :: r => by rw [valAVs, valAVs_map r]; rfl
@[simp] theorem itemAVs_length (l : List Tree) : (itemAVs l).length = l.length := by simp [itemAVs_map]
@[simp] theorem valAVs_length (l : List Tree) : (valAVs l).length = l.length := by simp [valAVs_map]
theorem itemAVs_snoc (l : List Tree) (t : Tree) : itemAVs (l ++ [t]) = itemAVs l ++ [itemAV t] := by simp [itemAVs_map]
theorem valAVs_snoc (l : List Tree) (t : Tree) : valAVs (l ++ [t]) = valAVs l ++ [valAV t] := by simp [valAVs_map]
theorem valAV_one (t : Tree) (h : ∀ u v, t ≠ .odd u v) : (valAV t).one = true := by
  cases t <;> first | rfl | (exact absurd rfl (h _ _))
theorem valAV_one' (t : Tree) : (valAV t).one = true := by cases t <;> rfl
theorem itemAV_one (t : Tree) : (itemAV t).one = true := by cases t <;> rfl
end Go.Proofs.YtliabblchkgclaaDoor

namespace Go.Proofs.YtliabblchkgclaaDoor
open Go Go.Av
/-- A tree of the reference: its kind, number, text and list. -/
inductive RV where
  | mk (k n : Int) (s : List UInt8) (l : List RV)
mutual
def rvAV : RV → List AV
  | .mk k n s l => [.int .i64 k, .int .i64 n, .str s, .fz (rvsC l) l.length false]
def rvsC : List RV → List AV
  | [] => []
  | v :: r => rvAV v ++ rvsC r
end
def RV.cells (v : RV) : List AV := rvAV v
@[simp] theorem rvAV_length (v : RV) : (rvAV v).length = 4 := by cases v; simp [rvAV]
@[simp] theorem rvsC_length : ∀ l : List RV, (rvsC l).length = l.length * 4
  | [] => by simp [rvsC]
  | v :: r => by rw [rvsC, List.length_append, rvAV_length, rvsC_length r, List.length_cons]; omega
theorem rvsC_app (a b : List RV) : rvsC (a ++ b) = rvsC a ++ rvsC b := by
  induction a with
  | nil => simp [rvsC]
  | cons v r ih => simp [rvsC, ih]
theorem rvsC_snoc (a : List RV) (v : RV) : rvsC (a ++ [v]) = rvsC a ++ rvAV v := by simp [rvsC_app, rvsC]
theorem take_rvsC (l : List RV) : (rvsC l).take (l.length * 4) = rvsC l := List.take_of_length_le (by simp)
theorem rvsC_at : ∀ {l : List RV} {r : List AV} {i : Nat} {v : RV}, l[i]? = some v → ((rvsC l ++ r).drop (i * 4)).take 4 = rvAV v
  | [], _, _, _, h => by simp at h
  | x :: l, r, 0, v, h => by
    simp at h; subst h
    obtain ⟨k, n, s, l'⟩ := x
    simp [rvsC, rvAV]
  | x :: l, r, i + 1, v, h => by
    have := rvsC_at (l := l) (r := r) (i := i) (v := v) (by simpa using h)
    rw [← this, show (i + 1) * 4 = 4 + i * 4 by omega, ← List.drop_drop, rvsC, List.append_assoc, List.drop_left' (rvAV_length x)]
mutual
/-- No dynamic type but the six and the two; and no list of more than 2^40. -/
def Tree.clean : Tree → Bool
  | .odd _ _ => false
  | .list l => decide (l.length ≤ 2513169434916) && cleanAll l
  | .quot l => decide (l.length ≤ 2513169434916) && cleanAll l
  | _ => true
def cleanAll : List Tree → Bool
  | [] => true
  | t :: r => t.clean && cleanAll r
end
mutual
def Tree.depth : Tree → Nat
  | .list l => depthAll l + 1
  | .quot l => depthAll l + 1
  | _ => 0
def depthAll : List Tree → Nat
  | [] => 0
  | t :: r => max t.depth (depthAll r)
end
mutual
/-- The tree of a value. -/
def valRV : Tree → RV
  | .int n => .mk 1 n [] []
  | .str s => .mk 2 0 s []
  | .bool b => .mk 3 (if b then 1 else 0) [] []
  | .list l => .mk 4 0 [] (valRVs l)
  | .quot l => .mk 5 0 [] (itemRVs l)
  | .box n => .mk 6 n [] []
  | .none => .mk 8 0 [] []
  | .call _ => .mk 8 0 [] []
  | .odd _ _ => .mk 8 0 [] []
def valRVs : List Tree → List RV
  | [] => []
  | t :: r => valRV t :: valRVs r
def itemRVs : List Tree → List RV
  | [] => []
  | t :: r => (match t with
    | .call s => .mk 7 0 s []
    | .int n => .mk 1 n [] []
    | .str s => .mk 2 0 s []
    | .bool b => .mk 3 (if b then 1 else 0) [] []
    | .list l => .mk 4 0 [] (valRVs l)
    | .quot l => .mk 5 0 [] (itemRVs l)
    | .box n => .mk 6 n [] []
    | .none => .mk 8 0 [] []
    | .odd _ _ => .mk 8 0 [] []) :: itemRVs r
end
/-- The tree of an item. -/
def itemRV (t : Tree) : RV := match t with
  | .call s => .mk 7 0 s []
  | t => valRV t
theorem itemRVs_cons (t : Tree) (r : List Tree) : itemRVs (t :: r) = itemRV t :: itemRVs r := by
  cases t <;> simp [itemRVs, itemRV, valRV]
theorem itemRVs_map : ∀ l : List Tree, itemRVs l = l.map itemRV
  | [] => by simp [itemRVs]
  | t :: r => by rw [itemRVs_cons, itemRVs_map r]; rfl
theorem valRVs_map : ∀ l : List Tree, valRVs l = l.map valRV
  | [] => by simp [valRVs]
  | t :: r => by rw [valRVs, valRVs_map r]; rfl
@[simp] theorem itemRVs_length (l : List Tree) : (itemRVs l).length = l.length := by simp [itemRVs_map]
@[simp] theorem valRVs_length (l : List Tree) : (valRVs l).length = l.length := by simp [valRVs_map]
theorem cleanAll_at : ∀ {l : List Tree} {i : Nat} {t : Tree}, cleanAll l = true → l[i]? = some t → t.clean = true
  | [], _, _, _, h => by simp at h
  | x :: l, 0, t, hc, h => by simp at h; subst h; simp [cleanAll] at hc; exact hc.1
  | x :: l, i + 1, t, hc, h => by simp [cleanAll] at hc; exact cleanAll_at hc.2 (by simpa using h)
theorem depthAll_at : ∀ {l : List Tree} {i : Nat} {t : Tree}, l[i]? = some t → t.depth ≤ depthAll l
  | [], _, _, h => by simp at h
  | x :: l, 0, t, h => by simp at h; subst h; rw [depthAll]; omega
  | x :: l, i + 1, t, h => by
    have := depthAll_at (l := l) (i := i) (t := t) (by simpa using h)
    rw [depthAll]; omega
/-- The size of lists, everywhere. -/
theorem take_succ_at {α : Type} {l : List α} {i : Nat} {x : α} (h : l[i]? = some x) : l.take (i + 1) = l.take i ++ [x] := by
  rw [List.take_add_one, h]; rfl
end Go.Proofs.YtliabblchkgclaaDoor

namespace Go.Proofs.YtliabblchkgclaaDoor
open Go Go.Av
/-- Does a text begin with another? -/
def begins (s p : List UInt8) : Bool := decide (p.length ≤ s.length) && decide (s.take p.length = p)
theorem fn_sHasPrefix (s p : List UInt8) : Av.Fn Tryd.prog 78 [.str s, .str p] (.bool (begins s p)) := by
  refine ACalls.of_W tb_ok (fn := Tryd.f78) (n := 18) (by kernel_rfl) rfl (by kernel_rfl) rfl rfl (by simp) (go ?_)
  refine fork (fun h => go ?_) (fun h => go ?_)
  · refine VRet.mk [] .nil ?_
    simp [begins, Int.ofNat_le.1 h]
  · refine VRet.mk [] .nil ?_
    simp [begins]
    omega
theorem fn_HasPrefix (s p : List UInt8) : Av.Fn Tryd.prog 73 [.str s, .str p] (.bool (begins s p)) := by
  refine ACalls.of_W tb_ok (fn := Tryd.f73) (n := 8) (by kernel_rfl) rfl (by kernel_rfl) rfl rfl (by simp) (go ?_)
  refine Fn.use (fn_sHasPrefix s p) (go ?_)
  refine VRet.mk [] .nil ?_
  simp
end Go.Proofs.YtliabblchkgclaaDoor

namespace Go.Av
open Go

/-- The first character of a text, and how many bytes it has. -/
def dec (l : List UInt8) : Nat × Nat := Utf8.decode ⟨⟨l⟩⟩ 0
theorem dec_at (l : List UInt8) (p : Nat) : Utf8.decode ⟨⟨l⟩⟩ p = dec (l.drop p) := (Lib.decodeL_drop ⟨⟨l⟩⟩ p).symm
theorem dec_N (l : List UInt8) : dec l = Lib.decodeN l.length (l.getD 0 0).toNat (l.getD 1 0).toNat (l.getD 2 0).toNat (l.getD 3 0).toNat := Lib.decodeL_N l
theorem dec_pos (l : List UInt8) (h : l ≠ []) : 1 ≤ (dec l).2 ∧ (dec l).2 ≤ l.length ∧ (dec l).2 ≤ 4 ∧ (dec l).1 ≤ 1114111 := by
  have hl : 1 ≤ l.length := by cases l with | nil => exact absurd rfl h | cons => simp
  rw [dec_N]
  unfold Lib.decodeN
  repeat' split
  all_goals simp only
  all_goals omega
/-- The characters of a text, each with how many bytes it has. -/
def runesN : Nat → List UInt8 → List (Nat × Nat)
  | 0, _ => []
  | n + 1, l => if l = [] then [] else dec l :: runesN n (l.drop (dec l).2)
def runes (l : List UInt8) : List (Nat × Nat) := runesN l.length l
theorem runesN_eq : ∀ (n : Nat) (l : List UInt8), l.length ≤ n → runesN n l = runesN l.length l
  | 0, l, h => by have : l = [] := List.length_eq_zero_iff.1 (by omega); subst this; rfl
  | n + 1, l, h => by
    by_cases e : l = []
    · subst e; simp [runesN]
    · obtain ⟨h1, h2, _⟩ := dec_pos l e
      obtain ⟨m, hm⟩ : ∃ m, l.length = m + 1 := ⟨l.length - 1, by omega⟩
      rw [hm]
      simp only [runesN, e, if_false]
      have h3 : (l.drop (dec l).2).length ≤ m := by rw [List.length_drop]; omega
      rw [runesN_eq n _ (by rw [List.length_drop]; omega), runesN_eq m _ h3]
@[simp] theorem runes_nil : runes [] = [] := rfl
theorem runes_cons {l : List UInt8} (h : l ≠ []) : runes l = dec l :: runes (l.drop (dec l).2) := by
  obtain ⟨h1, h2, _⟩ := dec_pos l h
  obtain ⟨m, hm⟩ : ∃ m, l.length = m + 1 := ⟨l.length - 1, by omega⟩
  unfold runes
  rw [hm]
  simp only [runesN, h, if_false]
  rw [runesN_eq m _ (by rw [List.length_drop]; omega)]
/-- How many bytes stand ahead of the first character of a kind. -/
def spanR (p : Nat → Bool) : List (Nat × Nat) → Nat
  | [] => 0
  | (r, k) :: rs => if p r then 0 else k + spanR p rs
theorem runes_ind {C : List UInt8 → Prop} (h0 : C []) (h1 : ∀ l, l ≠ [] → C (l.drop (dec l).2) → C l) : ∀ l, C l := by
  intro l
  induction hn : l.length using Nat.strongRecOn generalizing l with
  | _ n ih =>
    by_cases e : l = []
    · rw [e]; exact h0
    · obtain ⟨h2, h3, _⟩ := dec_pos l e
      exact h1 l e (ih _ (by rw [List.length_drop]; omega) _ rfl)
theorem sum_runes (l : List UInt8) : ((runes l).map (·.2)).sum = l.length := by
  induction l using runes_ind with
  | h0 => rfl
  | h1 l hl ih =>
    obtain ⟨h2, h3, _⟩ := dec_pos l hl
    rw [runes_cons hl, List.map_cons, List.sum_cons, ih, List.length_drop]; omega
theorem spanR_sum (p : Nat → Bool) : ∀ rs : List (Nat × Nat), spanR p rs ≤ (rs.map (·.2)).sum
  | [] => Nat.le_refl _
  | (r, k) :: rs => by
    have := spanR_sum p rs
    unfold spanR
    split
    · simp
    · simp; omega
theorem spanR_le (p : Nat → Bool) (l : List UInt8) : spanR p (runes l) ≤ l.length := by
  have := spanR_sum p (runes l); rwa [sum_runes] at this
theorem spanR_none {p : Nat → Bool} : ∀ {rs : List (Nat × Nat)}, rs.any (fun x => p x.1) = false → spanR p rs = (rs.map (·.2)).sum
  | [], _ => rfl
  | (r, k) :: rs, h => by
    rw [List.any_cons, Bool.or_eq_false_iff] at h
    unfold spanR
    rw [if_neg (by simp [h.1]), spanR_none h.2, List.map_cons, List.sum_cons]
end Go.Av

namespace Go.Proofs.YtliabblchkgclaaDoor
open Go Go.Av
def esc (c : UInt8) : Option UInt8 := if c = 110 then some 10 else if c = 34 then some 34 else if c = 92 then some 92 else none
/-- The string behind a quote at a place: its text, where it ends or is at fault, the error. -/
def textL (a : Nat) : List UInt8 → List UInt8 → Nat → List UInt8 × Int × Int
  | [], _, _ => ([], a, 9)
  | c :: r, acc, i =>
    if c = 34 then (if acc.length > 4096 then ([], a, 11) else (acc, i + 1, 0))
    else if c = 92 then (match r with
      | [] => (([], i, 9) : List UInt8 × Int × Int)
      | d :: r' => match esc d with
        | none => ([], i, 9)
        | some e => textL a r' (acc ++ [e]) (i + 2))
    else textL a r (acc ++ [c]) (i + 1)
theorem textL_cons (a : Nat) (c : UInt8) (r acc : List UInt8) (i : Nat) : textL a (c :: r) acc i =
    (if c = 34 then (if acc.length > 4096 then ([], a, 11) else (acc, i + 1, 0))
    else if c = 92 then (match r with
      | [] => (([], i, 9) : List UInt8 × Int × Int)
      | d :: r' => match esc d with
        | none => ([], i, 9)
        | some e => textL a r' (acc ++ [e]) (i + 2))
    else textL a r (acc ++ [c]) (i + 1) : List UInt8 × Int × Int) := by rw [textL.eq_def]
def textR (s : List UInt8) (a : Nat) : List UInt8 × Int × Int := textL a (s.drop (a + 1)) [] (a + 1)
def bytesC (l : List UInt8) : List AV := l.map fun c => .int .u8 c.toNat
theorem bytesC_append (l m : List UInt8) : bytesC (l ++ m) = bytesC l ++ bytesC m := by simp [bytesC]
@[simp] theorem bytesC_length (l : List UInt8) : (bytesC l).length = l.length := by simp [bytesC]
theorem take_bytesC (l : List UInt8) : (bytesC l).take l.length = l.map fun c => .int .u8 c.toNat := by rw [List.take_of_length_le (by simp)]; rfl
/-- A slice that grows: nil, or an object of one's own. -/
def accV (o : Option Nat) (n : Nat) : AV := match o with
  | none => .nils
  | some b => .own b n
def accS (o : Option Nat) (esz : Nat) (cells : List AV) : St := match o with
  | none => []
  | some b => [(b, .arr esz cells 0)]
theorem escK (d : UInt8) : (match esc d with | none => Lib.indexByte [110, 34, 92] d = -1 | some e => ∃ k : Nat, k < 3 ∧ Lib.indexByte [110, 34, 92] d = k ∧ ([10, 34, 92] : List UInt8)[k]? = some e) := by
  unfold esc
  by_cases h1 : d = 110
  · subst h1; exact ⟨0, by decide, by decide, rfl⟩
  by_cases h2 : d = 34
  · subst h2; exact ⟨1, by decide, by decide, rfl⟩
  by_cases h3 : d = 92
  · subst h3; exact ⟨2, by decide, by decide, rfl⟩
  rw [if_neg h1, if_neg h2, if_neg h3]
  simp [Lib.indexByte, Ne.symm h1, Ne.symm h2, Ne.symm h3]
theorem drop_getD {s : List UInt8} {i : Nat} (h : i < s.length) : s.drop i = s.getD i 0 :: s.drop (i + 1) := by
  rw [List.drop_eq_getElem_cons h]; simp [h]
structure TxtI where
  o : Option Nat
  acc : List UInt8
  i : Nat






end Go.Proofs.YtliabblchkgclaaDoor

namespace Go.Proofs.YtliabblchkgclaaDoor
open Go Go.Av
structure AccI where
  k : Nat
  o : Option Nat

theorem f_ItemTrees' (l : List Tree) (h : ∀ (i : Nat) t, l[i]? = some t → Av.Fn Tryd.prog 26 [itemAV t] (.agg (rvAV (itemRV t)))) (hl : l.length ≤ 2513169434916) :
    Av.Fn Tryd.prog 13 [.fz (itemAVs l) l.length false] (.fz (rvsC (itemRVs l)) l.length false) := by
  refine ACalls.of_W tb_ok (fn := Tryd.f13) (n := 20) (by kernel_rfl) rfl (by kernel_rfl) rfl rfl (by simp) (go ?_)
  refine VLoop.mk [3, 4] AccI (fun i => [accV i.o i.k, .int .i64 i.k]) (fun i => accS i.o 4 (rvsC (itemRVs (l.take i.k)))) (fun i => i.k ≤ l.length ∧ (i.o = none → i.k = 0)) (fun i => l.length - i.k) ⟨0, none⟩ ?_ ?_
  · exact ⟨⟨by simp, by simp⟩, rfl, .nil⟩
  rintro ⟨k, o⟩ ⟨hk, ho⟩
  dsimp only at hk ho ⊢
  refine go ?_
  refine fork (fun hlt => go ?_) (fun hlt => ?_)
  · have hlt : k < l.length := by omega
    obtain ⟨t, ht⟩ : ∃ t, l[k]? = some t := ⟨l[k], by simp [hlt]⟩
    have hv := h k t ht
    have hacc : rvsC (itemRVs (l.take (k + 1))) = rvsC (itemRVs (l.take k)) ++ rvAV (itemRV t) := by
      rw [take_succ_at ht, itemRVs_map, itemRVs_map, List.map_append, rvsC_app]; simp [rvsC]
    obtain ⟨v, e⟩ : ∃ v, v = itemRV t := ⟨_, rfl⟩
    rw [← e] at hv hacc
    obtain ⟨v1, v2, v3, v4⟩ := v
    rw [rvAV] at hv hacc
    have hlen : (rvsC (itemRVs (l.take k))).length = k * 4 := by rw [rvsC_length, itemRVs_length, List.length_take, Nat.min_eq_left hk]
    refine VNth.mk (itemAV t) (by simp [mulN_eq, itemAVs_map, ht]) (go ?_)
    refine Fn.use (hv) (go ?_)
    cases o with
    | none =>
      obtain rfl : k = 0 := ho rfl
      refine go ?_
      refine VAll.mk (fun b2 => go ?_)
      refine ⟨⟨1, some b2⟩, ⟨by dsimp only; omega, by simp⟩, by dsimp only; omega, rfl, .cons 0 ?_ .nil⟩
      dsimp only
      rw [hacc]; simp [itemRVs, rvsC]
    | some bo =>
      refine go ?_
      refine VGd.mk ⟨rfl, by omega, by rw [mulN_eq, hlen]; exact Nat.le_refl _, by dsimp only; omega⟩ (go ?_)
      refine VAll.mk (fun b2 => go ?_)
      refine ⟨⟨k + 1, some b2⟩, ⟨by dsimp only; omega, by simp⟩, by dsimp only; omega, rfl, .cons 0 ?_ .nil⟩
      dsimp only
      rw [hacc, mulN_eq, List.take_of_length_le (by rw [hlen]; exact Nat.le_refl _)]; rfl
  · obtain rfl : k = l.length := by omega
    rw [List.take_length]
    cases o with
    | none =>
      have := ho rfl
      obtain rfl : l = [] := List.length_eq_zero_iff.1 this
      refine go ?_
      refine VRet.mk [] .nil ?_
      exact ⟨by simp [itemRVs, rvsC], rfl⟩
    | some bo =>
      refine go ?_
      refine VRet.mk [] .nil ?_
      exact ⟨by simp [mulN_eq, List.take_of_length_le], rfl⟩
theorem f_Trees' (l : List Tree) (h : ∀ (i : Nat) t, l[i]? = some t → Av.Fn Tryd.prog 39 [valAV t] (.agg (rvAV (valRV t)))) (hl : l.length ≤ 2513169434916) :
    Av.Fn Tryd.prog 51 [.fz (valAVs l) l.length false] (.fz (rvsC (valRVs l)) l.length false) := by
  refine ACalls.of_W tb_ok (fn := Tryd.f51) (n := 20) (by kernel_rfl) rfl (by kernel_rfl) rfl rfl (by simp) (go ?_)
  refine VLoop.mk [3, 4] AccI (fun i => [accV i.o i.k, .int .i64 i.k]) (fun i => accS i.o 4 (rvsC (valRVs (l.take i.k)))) (fun i => i.k ≤ l.length ∧ (i.o = none → i.k = 0)) (fun i => l.length - i.k) ⟨0, none⟩ ?_ ?_
  · exact ⟨⟨by simp, by simp⟩, rfl, .nil⟩
  rintro ⟨k, o⟩ ⟨hk, ho⟩
  dsimp only at hk ho ⊢
  refine go ?_
  refine fork (fun hlt => go ?_) (fun hlt => ?_)
  · have hlt : k < l.length := by omega
    obtain ⟨t, ht⟩ : ∃ t, l[k]? = some t := ⟨l[k], by simp [hlt]⟩
    have hv := h k t ht
    have hacc : rvsC (valRVs (l.take (k + 1))) = rvsC (valRVs (l.take k)) ++ rvAV (valRV t) := by
      rw [take_succ_at ht, valRVs_map, valRVs_map, List.map_append, rvsC_app]; simp [rvsC]
    obtain ⟨v, e⟩ : ∃ v, v = valRV t := ⟨_, rfl⟩
    rw [← e] at hv hacc
    obtain ⟨v1, v2, v3, v4⟩ := v
    rw [rvAV] at hv hacc
    have hlen : (rvsC (valRVs (l.take k))).length = k * 4 := by rw [rvsC_length, valRVs_length, List.length_take, Nat.min_eq_left hk]
    refine VNth.mk (valAV t) (by simp [mulN_eq, valAVs_map, ht]) (go ?_)
    refine Fn.use (hv) (go ?_)
    cases o with
    | none =>
      obtain rfl : k = 0 := ho rfl
      refine go ?_
      refine VAll.mk (fun b2 => go ?_)
      refine ⟨⟨1, some b2⟩, ⟨by dsimp only; omega, by simp⟩, by dsimp only; omega, rfl, .cons 0 ?_ .nil⟩
      dsimp only
      rw [hacc]; simp [valRVs, rvsC]
    | some bo =>
      refine go ?_
      refine VGd.mk ⟨rfl, by omega, by rw [mulN_eq, hlen]; exact Nat.le_refl _, by dsimp only; omega⟩ (go ?_)
      refine VAll.mk (fun b2 => go ?_)
      refine ⟨⟨k + 1, some b2⟩, ⟨by dsimp only; omega, by simp⟩, by dsimp only; omega, rfl, .cons 0 ?_ .nil⟩
      dsimp only
      rw [hacc, mulN_eq, List.take_of_length_le (by rw [hlen]; exact Nat.le_refl _)]; rfl
  · obtain rfl : k = l.length := by omega
    rw [List.take_length]
    cases o with
    | none =>
      have := ho rfl
      obtain rfl : l = [] := List.length_eq_zero_iff.1 this
      refine go ?_
      refine VRet.mk [] .nil ?_
      exact ⟨by simp [valRVs, rvsC], rfl⟩
    | some bo =>
      refine go ?_
      refine VRet.mk [] .nil ?_
      exact ⟨by simp [mulN_eq, List.take_of_length_le], rfl⟩
theorem thawV (a b c : AV) : FzO (.ret (.agg [a, b, c, .nils])) (.ret (.agg [a, b, c, .fz [] 0 false])) [] [] :=
  .ret (.agg (.cons (.keep a []) (.cons (.keep b []) (.cons (.keep c []) (.cons (.nils []) (.nil [])))))) .nil


theorem f_Tree' (t : Tree) (hc : t.clean = true) (h4 : ∀ l, t = .list l → Av.Fn Tryd.prog 51 [.fz (valAVs l) l.length false] (.fz (rvsC (valRVs l)) l.length false))
    (h5 : ∀ l, t = .quot l → Av.Fn Tryd.prog 13 [.fz (itemAVs l) l.length false] (.fz (rvsC (itemRVs l)) l.length false)) :
    Av.Fn Tryd.prog 39 [valAV t] (.agg (rvAV (valRV t))) := by
  cases t with
  | odd t v => simp [Tree.clean] at hc
  | none =>
    simp only [valAV, valRV, rvAV, rvsC, List.length_nil]
    refine ACalls.thaw (ACalls.of_W tb_ok (fn := Tryd.f39) (n := 50) (by kernel_rfl) rfl (by kernel_rfl) rfl rfl (by simp) (go ?_))
    refine VAll.mk (fun b => go ?_)
    refine VRet.mk [] .nil ?_
    exact ⟨_, _, thawV _ _ _, rfl, rfl⟩
  | call s =>
    simp only [valAV, valRV, rvAV, rvsC, List.length_nil]
    refine ACalls.thaw (ACalls.of_W tb_ok (fn := Tryd.f39) (n := 50) (by kernel_rfl) rfl (by kernel_rfl) rfl rfl (by simp) (go ?_))
    refine VAll.mk (fun b => go ?_)
    refine VRet.mk [] .nil ?_
    exact ⟨_, _, thawV _ _ _, rfl, rfl⟩
  | int n =>
    simp only [valAV, valRV, rvAV, rvsC, List.length_nil]
    refine ACalls.thaw (ACalls.of_W tb_ok (fn := Tryd.f39) (n := 50) (by kernel_rfl) rfl (by kernel_rfl) rfl rfl (by simp) (go ?_))
    refine VAll.mk (fun b => go ?_)
    refine VAll.mk (fun b2 => go ?_)
    refine VRet.mk [] .nil ?_
    exact ⟨_, _, thawV _ _ _, rfl, rfl⟩
  | str s =>
    simp only [valAV, valRV, rvAV, rvsC, List.length_nil]
    refine ACalls.thaw (ACalls.of_W tb_ok (fn := Tryd.f39) (n := 50) (by kernel_rfl) rfl (by kernel_rfl) rfl rfl (by simp) (go ?_))
    refine VAll.mk (fun b => go ?_)
    refine VAll.mk (fun b2 => go ?_)
    refine VRet.mk [] .nil ?_
    exact ⟨_, _, thawV _ _ _, rfl, rfl⟩
  | bool b =>
    simp only [valAV, valRV, rvAV, rvsC, List.length_nil]
    refine ACalls.thaw (ACalls.of_W tb_ok (fn := Tryd.f39) (n := 50) (by kernel_rfl) rfl (by kernel_rfl) rfl rfl (by simp) (go ?_))
    refine VAll.mk (fun b => go ?_)
    refine VAll.mk (fun b2 => go ?_)
    refine fork (fun hb => go ?_) (fun hb => go ?_)
    · refine VRet.mk [] .nil ?_
      subst hb; exact ⟨_, _, thawV _ _ _, rfl, rfl⟩
    · refine VRet.mk [] .nil ?_
      subst hb; exact ⟨_, _, thawV _ _ _, rfl, rfl⟩
  | list l =>
    have h4 := h4 l rfl
    simp only [valAV, valRV, rvAV, rvsC, List.length_nil]
    refine ACalls.thaw (ACalls.of_W tb_ok (fn := Tryd.f39) (n := 50) (by kernel_rfl) rfl (by kernel_rfl) rfl rfl (by simp) (go ?_))
    refine VAll.mk (fun b => go ?_)
    refine VAll.mk (fun b2 => go ?_)
    refine Fn.use (h4) (go ?_)
    refine VRet.mk [] .nil ?_
    exact ⟨_, _, .same _ _, by simp, rfl⟩
  | quot l =>
    have h5 := h5 l rfl
    simp only [valAV, valRV, rvAV, rvsC, List.length_nil]
    refine ACalls.thaw (ACalls.of_W tb_ok (fn := Tryd.f39) (n := 50) (by kernel_rfl) rfl (by kernel_rfl) rfl rfl (by simp) (go ?_))
    refine VAll.mk (fun b => go ?_)
    refine VAll.mk (fun b2 => go ?_)
    refine Fn.use (h5) (go ?_)
    refine VRet.mk [] .nil ?_
    exact ⟨_, _, .same _ _, by simp, rfl⟩
  | box n =>
    simp only [valAV, valRV, rvAV, rvsC, List.length_nil]
    refine ACalls.thaw (ACalls.of_W tb_ok (fn := Tryd.f39) (n := 50) (by kernel_rfl) rfl (by kernel_rfl) rfl rfl (by simp) (go ?_))
    refine VAll.mk (fun b => go ?_)
    refine VAll.mk (fun b2 => go ?_)
    refine VRet.mk [] .nil ?_
    exact ⟨_, _, thawV _ _ _, rfl, rfl⟩
theorem f_ItemTree' (t : Tree) (hc : t.clean = true) (h : (∀ s, t ≠ .call s) → Av.Fn Tryd.prog 39 [valAV t] (.agg (rvAV (valRV t)))) :
    Av.Fn Tryd.prog 26 [itemAV t] (.agg (rvAV (itemRV t))) := by
  cases t with
  | odd t v => simp [Tree.clean] at hc
  | none =>
    simp only [itemAV, itemRV, valRV, rvAV, rvsC, List.length_nil]
    refine ACalls.thaw (ACalls.of_W tb_ok (fn := Tryd.f26) (n := 19) (by kernel_rfl) rfl (by kernel_rfl) rfl rfl (by simp) (go ?_))
    refine VAll.mk (fun b => go ?_)
    refine VRet.mk [] .nil ?_
    exact ⟨_, _, thawV _ _ _, rfl, rfl⟩
  | call s =>
    simp only [itemAV, itemRV, valRV, rvAV, rvsC, List.length_nil]
    refine ACalls.thaw (ACalls.of_W tb_ok (fn := Tryd.f26) (n := 19) (by kernel_rfl) rfl (by kernel_rfl) rfl rfl (by simp) (go ?_))
    refine VAll.mk (fun b => go ?_)
    refine VAll.mk (fun b2 => go ?_)
    refine VRet.mk [] .nil ?_
    exact ⟨_, _, thawV _ _ _, rfl, rfl⟩
  | int n =>
    have h := h (by intro s; exact Tree.noConfusion)
    simp only [itemAV, itemRV]
    obtain ⟨v, e⟩ : ∃ v, v = valRV (.int n) := ⟨_, rfl⟩
    rw [← e] at h ⊢
    obtain ⟨v1, v2, v3, v4⟩ := v
    rw [rvAV] at h ⊢
    refine ACalls.of_W tb_ok (fn := Tryd.f26) (n := 19) (by kernel_rfl) rfl (by kernel_rfl) rfl rfl (by simp) (go ?_)
    refine VAll.mk (fun b => go ?_)
    refine VAll.mk (fun b2 => go ?_)
    refine Fn.use (h) (go ?_)
    refine VRet.mk [] .nil ?_
    exact ⟨rfl, rfl⟩
  | str s =>
    have h := h (by intro s; exact Tree.noConfusion)
    simp only [itemAV, itemRV]
    obtain ⟨v, e⟩ : ∃ v, v = valRV (.str s) := ⟨_, rfl⟩
    rw [← e] at h ⊢
    obtain ⟨v1, v2, v3, v4⟩ := v
    rw [rvAV] at h ⊢
    refine ACalls.of_W tb_ok (fn := Tryd.f26) (n := 19) (by kernel_rfl) rfl (by kernel_rfl) rfl rfl (by simp) (go ?_)
    refine VAll.mk (fun b => go ?_)
    refine VAll.mk (fun b2 => go ?_)
    refine Fn.use (h) (go ?_)
    refine VRet.mk [] .nil ?_
    exact ⟨rfl, rfl⟩
  | bool b =>
    have h := h (by intro s; exact Tree.noConfusion)
    simp only [itemAV, itemRV]
    obtain ⟨v, e⟩ : ∃ v, v = valRV (.bool b) := ⟨_, rfl⟩
    rw [← e] at h ⊢
    obtain ⟨v1, v2, v3, v4⟩ := v
    rw [rvAV] at h ⊢
    refine ACalls.of_W tb_ok (fn := Tryd.f26) (n := 19) (by kernel_rfl) rfl (by kernel_rfl) rfl rfl (by simp) (go ?_)
    refine VAll.mk (fun b => go ?_)
    refine VAll.mk (fun b2 => go ?_)
    refine Fn.use (h) (go ?_)
    refine VRet.mk [] .nil ?_
    exact ⟨rfl, rfl⟩
  | list l =>
    have h := h (by intro s; exact Tree.noConfusion)
    simp only [itemAV, itemRV]
    obtain ⟨v, e⟩ : ∃ v, v = valRV (.list l) := ⟨_, rfl⟩
    rw [← e] at h ⊢
    obtain ⟨v1, v2, v3, v4⟩ := v
    rw [rvAV] at h ⊢
    refine ACalls.of_W tb_ok (fn := Tryd.f26) (n := 19) (by kernel_rfl) rfl (by kernel_rfl) rfl rfl (by simp) (go ?_)
    refine VAll.mk (fun b => go ?_)
    refine VAll.mk (fun b2 => go ?_)
    refine Fn.use (h) (go ?_)
    refine VRet.mk [] .nil ?_
    exact ⟨rfl, rfl⟩
  | quot l =>
    have h := h (by intro s; exact Tree.noConfusion)
    simp only [itemAV, itemRV]
    obtain ⟨v, e⟩ : ∃ v, v = valRV (.quot l) := ⟨_, rfl⟩
    rw [← e] at h ⊢
    obtain ⟨v1, v2, v3, v4⟩ := v
    rw [rvAV] at h ⊢
    refine ACalls.of_W tb_ok (fn := Tryd.f26) (n := 19) (by kernel_rfl) rfl (by kernel_rfl) rfl rfl (by simp) (go ?_)
    refine VAll.mk (fun b => go ?_)
    refine VAll.mk (fun b2 => go ?_)
    refine Fn.use (h) (go ?_)
    refine VRet.mk [] .nil ?_
    exact ⟨rfl, rfl⟩
  | box n =>
    have h := h (by intro s; exact Tree.noConfusion)
    simp only [itemAV, itemRV]
    obtain ⟨v, e⟩ : ∃ v, v = valRV (.box n) := ⟨_, rfl⟩
    rw [← e] at h ⊢
    obtain ⟨v1, v2, v3, v4⟩ := v
    rw [rvAV] at h ⊢
    refine ACalls.of_W tb_ok (fn := Tryd.f26) (n := 19) (by kernel_rfl) rfl (by kernel_rfl) rfl rfl (by simp) (go ?_)
    refine VAll.mk (fun b => go ?_)
    refine VAll.mk (fun b2 => go ?_)
    refine Fn.use (h) (go ?_)
    refine VRet.mk [] .nil ?_
    exact ⟨rfl, rfl⟩
theorem f_trees (n : Nat) :
    (∀ t : Tree, t.clean = true → t.depth ≤ n → Av.Fn Tryd.prog 39 [valAV t] (.agg (rvAV (valRV t))) ∧ Av.Fn Tryd.prog 26 [itemAV t] (.agg (rvAV (itemRV t)))) ∧
    (∀ l : List Tree, cleanAll l = true → l.length ≤ 2513169434916 → depthAll l ≤ n → Av.Fn Tryd.prog 51 [.fz (valAVs l) l.length false] (.fz (rvsC (valRVs l)) l.length false) ∧
      Av.Fn Tryd.prog 13 [.fz (itemAVs l) l.length false] (.fz (rvsC (itemRVs l)) l.length false)) := by
  have lists : ∀ n, (∀ t : Tree, t.clean = true → t.depth ≤ n → Av.Fn Tryd.prog 39 [valAV t] (.agg (rvAV (valRV t))) ∧ Av.Fn Tryd.prog 26 [itemAV t] (.agg (rvAV (itemRV t)))) →
      (∀ l : List Tree, cleanAll l = true → l.length ≤ 2513169434916 → depthAll l ≤ n → Av.Fn Tryd.prog 51 [.fz (valAVs l) l.length false] (.fz (rvsC (valRVs l)) l.length false) ∧
      Av.Fn Tryd.prog 13 [.fz (itemAVs l) l.length false] (.fz (rvsC (itemRVs l)) l.length false)) := fun n h l hc hl hd =>
    ⟨f_Trees' l (fun i t ht => (h t (cleanAll_at hc ht) (Nat.le_trans (depthAll_at ht) hd)).1) hl, f_ItemTrees' l (fun i t ht => (h t (cleanAll_at hc ht) (Nat.le_trans (depthAll_at ht) hd)).2) hl⟩
  have both : ∀ t : Tree, t.clean = true → Av.Fn Tryd.prog 39 [valAV t] (.agg (rvAV (valRV t))) → Av.Fn Tryd.prog 39 [valAV t] (.agg (rvAV (valRV t))) ∧ Av.Fn Tryd.prog 26 [itemAV t] (.agg (rvAV (itemRV t))) :=
    fun t hc h => ⟨h, f_ItemTree' t hc fun _ => h⟩
  suffices H : ∀ t : Tree, t.clean = true → t.depth ≤ n → Av.Fn Tryd.prog 39 [valAV t] (.agg (rvAV (valRV t))) from
    ⟨fun t hc hd => both t hc (H t hc hd), lists n fun t hc hd => both t hc (H t hc hd)⟩
  induction n with
  | zero =>
    intro t hc hd
    refine f_Tree' t hc ?_ ?_
    · rintro l rfl; simp [Tree.depth] at hd
    · rintro l rfl; simp [Tree.depth] at hd
  | succ n ih =>
    intro t hc hd
    have L := lists n fun t hc hd => both t hc (ih t hc hd)
    refine f_Tree' t hc ?_ ?_
    · rintro l rfl
      simp only [Tree.clean, Bool.and_eq_true, decide_eq_true_eq] at hc
      rw [Tree.depth] at hd
      exact (L l hc.2 hc.1 (by omega)).1
    · rintro l rfl
      simp only [Tree.clean, Bool.and_eq_true, decide_eq_true_eq] at hc
      rw [Tree.depth] at hd
      exact (L l hc.2 hc.1 (by omega)).2
theorem f_Tree {t : Tree} (h : t.clean = true) : Av.Fn Tryd.prog 39 [valAV t] (.agg (rvAV (valRV t))) := ((f_trees t.depth).1 t h (Nat.le_refl _)).1
theorem f_ItemTree {t : Tree} (h : t.clean = true) : Av.Fn Tryd.prog 26 [itemAV t] (.agg (rvAV (itemRV t))) := ((f_trees t.depth).1 t h (Nat.le_refl _)).2
theorem f_Trees {l : List Tree} (h : cleanAll l = true) (hl : l.length ≤ 2513169434916) : Av.Fn Tryd.prog 51 [.fz (valAVs l) l.length false] (.fz (rvsC (valRVs l)) l.length false) := ((f_trees (depthAll l)).2 l h hl (Nat.le_refl _)).1
theorem f_ItemTrees {l : List Tree} (h : cleanAll l = true) (hl : l.length ≤ 2513169434916) : Av.Fn Tryd.prog 13 [.fz (itemAVs l) l.length false] (.fz (rvsC (itemRVs l)) l.length false) := ((f_trees (depthAll l)).2 l h hl (Nat.le_refl _)).2
end Go.Proofs.YtliabblchkgclaaDoor

namespace Go.Proofs.YtliabblchkgclaaDoor
open Go Go.Av
end Go.Proofs.YtliabblchkgclaaDoor

namespace Go.Av
open Go
theorem dec_ascii (c : UInt8) (t : List UInt8) (hc : c.toNat < 128) : dec (c :: t) = (c.toNat, 1) := by
  rw [dec_N]; simp [Lib.decodeN, hc]
/-- A byte of ASCII ends what stands ahead. -/
theorem dec_app {x : List UInt8} (hx : x ≠ []) (c : UInt8) (t : List UInt8) (hc : c.toNat < 128) : dec (x ++ c :: t) = dec x := by
  rw [dec_N, dec_N]
  match x, hx with
  | [a], _ => simp [Lib.decodeN]; repeat' split
              all_goals first | rfl | (exfalso; omega)
  | [a, b], _ => simp [Lib.decodeN]; repeat' split
                 all_goals first | rfl | (exfalso; omega)
  | [a, b, d], _ => simp [Lib.decodeN]; repeat' split
                    all_goals first | rfl | (exfalso; omega)
  | a :: b :: d :: e :: r, _ => simp [Lib.decodeN]
theorem runes_app (x : List UInt8) (c : UInt8) (t : List UInt8) (hc : c.toNat < 128) : runes (x ++ c :: t) = runes x ++ runes (c :: t) := by
  induction x using runes_ind with
  | h0 => rfl
  | h1 x hx ih =>
    obtain ⟨h1, h2, _⟩ := dec_pos x hx
    rw [runes_cons (l := x ++ c :: t) (by simp), dec_app hx c t hc, runes_cons hx, List.cons_append]
    congr 1
    rw [List.drop_append_of_le_length h2]
    exact ih
theorem runes_ascii (c : UInt8) (t : List UInt8) (hc : c.toNat < 128) : runes (c :: t) = (c.toNat, 1) :: runes t := by
  rw [runes_cons (by simp), dec_ascii c t hc]; rfl
def badB (c : Nat × Nat) : Bool := decide (c = (65533, 1))
theorem begins_fffd (l : List UInt8) : (decide ((3 : Nat) ≤ l.length) && decide (l.take 3 = [239, 191, 189])) = decide ((l.getD 0 0).toNat = 239 ∧ (l.getD 1 0).toNat = 191 ∧ (l.getD 2 0).toNat = 189) := by
  match l with
  | [] => simp
  | [a] => simp
  | [a, b] => simp
  | a :: b :: d :: r =>
    simp only [← UInt8.toNat_inj, List.take_succ_cons, List.take_zero, List.cons.injEq, and_true, List.getD_cons_zero, List.getD_cons_succ]
    simp
/-- The replacement character is no fault where its own bytes stand. -/
theorem dec_bad {l : List UInt8} (h : l ≠ []) : (decide ((dec l).1 = 65533) && !(decide ((3 : Nat) ≤ l.length) && decide (l.take 3 = [239, 191, 189]))) = badB (dec l) := by
  have hl : 1 ≤ l.length := by cases l with | nil => exact absurd rfl h | cons => simp
  rw [begins_fffd]
  rw [dec_N]
  have b0 := (l.getD 0 0).toNat_lt
  have b1 := (l.getD 1 0).toNat_lt
  have b2 := (l.getD 2 0).toNat_lt
  have b3 := (l.getD 3 0).toNat_lt
  have hlen : (l.getD 1 0).toNat ≠ 0 → 1 < l.length := by
    intro h; refine Decidable.byContradiction fun hn => h ?_
    rw [List.getD_eq_getElem?_getD, List.getElem?_eq_none (by omega)]; rfl
  have hlen2 : (l.getD 2 0).toNat ≠ 0 → 2 < l.length := by
    intro h; refine Decidable.byContradiction fun hn => h ?_
    rw [List.getD_eq_getElem?_getD, List.getElem?_eq_none (by omega)]; rfl
  generalize (l.getD 0 0).toNat = a at *
  generalize (l.getD 1 0).toNat = b at *
  generalize (l.getD 2 0).toNat = c at *
  generalize (l.getD 3 0).toNat = d at *
  generalize l.length = n at *
  rw [Bool.eq_iff_iff]
  simp only [badB, Bool.and_eq_true, Bool.not_eq_true', decide_eq_true_eq, decide_eq_false_iff_not]
  unfold Lib.decodeN
  repeat' split
  all_goals
    simp only [Prod.mk.injEq]
    first
    | (refine ⟨fun h => ⟨h.1, ?_⟩, fun h => ⟨h.1, ?_⟩⟩ <;> (obtain ⟨e1, e2⟩ := h; omega))
    | (simp; omega)
def faultL : List (Nat × Nat) → Option Nat
  | [] => none
  | c :: rs => if badB c then some 0 else (faultL rs).map (c.2 + ·)
def faultR (l : List UInt8) : Option Nat := faultL (runes l)
def faultV (l : List UInt8) : Int := match faultR l with
  | none => -1
  | some i => i
theorem faultL_app : ∀ (a b : List (Nat × Nat)), faultL (a ++ b) = none ↔ faultL a = none ∧ faultL b = none
  | [], b => by simp [faultL]
  | c :: a, b => by
    rw [List.cons_append, faultL, faultL]
    cases badB c with
    | true => simp
    | false => simp [faultL_app a b]
theorem faultR_app (x : List UInt8) (c : UInt8) (t : List UInt8) (hc : c.toNat < 128) : faultR (x ++ c :: t) = none ↔ faultR x = none ∧ faultR t = none := by
  unfold faultR
  rw [runes_app x c t hc, faultL_app, runes_ascii c t hc, faultL]
  have : badB (c.toNat, 1) = false := by simp [badB]; omega
  rw [this]; simp
end Go.Av

namespace Go.Proofs.YtliabblchkgclaaDoor
open Go Go.Av
end Go.Proofs.YtliabblchkgclaaDoor

namespace Go.Proofs.YtliabblchkgclaaDoor
open Go Go.Av
/-- The blanks, as a text. -/
def blanks : List UInt8 := [9, 10, 13, 32, 194, 160, 227, 128, 128]
def blankB (r : Int) : Bool := decide (r = 9) || decide (r = 10) || decide (r = 13) || decide (r = 32) || decide (r = 160) || decide (r = 12288)
theorem ascii_blank : ∀ n : Fin 128, (decide (0 ≤ Lib.indexByte blanks (UInt8.ofNat n.1)) = blankB n.1) := by decide +kernel
def posn (i : Nat) : Nat := [0, 1, 2, 3, 4, 6, 9].getD i 9
theorem posn_next : ∀ i : Fin 6, (Utf8.decode ⟨⟨blanks⟩⟩ (posn i.1)).1 < 13000 ∧ posn i.1 + (Utf8.decode ⟨⟨blanks⟩⟩ (posn i.1)).2 = posn (i.1 + 1) ∧ posn i.1 < 9 := by decide +kernel
theorem f37_ascii (r : Int) (h0 : 0 ≤ r) (h1 : r < 128) : ∃ k : Int, decide (0 ≤ k) = blankB r ∧ Av.Fn Tryd.prog 77 [.str blanks, .int .i32 r] (.int .i64 k) := by
  refine ⟨Lib.indexByte blanks r.toNat.toUInt8, ?_, ?_⟩
  · have := ascii_blank ⟨r.toNat, by omega⟩
    simp only [show ((r.toNat : Nat) : Int) = r by omega] at this
    exact this
  · refine ACalls.of_W tb_ok (fn := Tryd.f77) (n := 187) (by kernel_rfl) rfl (by kernel_rfl) rfl rfl (by simp) (go ?_)
    refine fork (fun h2 => go ?_) (fun h2 => go ?_)
    · refine fork (fun h3 => go ?_) (fun h3 => go ?_)
      · refine Fn.use (fn_IndexByte blanks r) (go ?_)
        refine VRet.mk [] .nil ?_
        simp
      · omega
    · omega
theorem f37_bad : Av.Fn Tryd.prog 77 [.str blanks, .int .i32 65533] (.int .i64 (-1)) := by
  refine ACalls.of_W tb_ok (fn := Tryd.f77) (n := 187) (by kernel_rfl) rfl (by kernel_rfl) rfl rfl (by simp) (go ?_)
  refine VAll.mk (fun b => go ?_)
  refine VLoop.mk [] Nat (fun _ => []) (fun i => [(b, .siter blanks (posn i))]) (fun i => i ≤ 6) (fun i => 6 - i) 0 ?_ ?_
  · exact ⟨by omega, rfl, .cons 0 rfl .nil⟩
  intro i hi
  refine go ?_
  refine fork (fun h => go ?_) (fun h => go ?_)
  · have hi6 : i < 6 := by
      rcases Nat.lt_or_ge i 6 with h6 | h6
      · exact h6
      · obtain rfl : i = 6 := by omega
        exact absurd h (by decide)
    obtain ⟨h1, h2, h3⟩ := posn_next ⟨i, hi6⟩
    dsimp only at h1 h2 h3
    generalize Utf8.decode ⟨⟨blanks⟩⟩ (posn i) = c at *
    refine go ?_
    refine fork (fun h4 => go ?_) (fun h4 => go ?_)
    · omega
    · exact ⟨i + 1, by omega, by omega, rfl, .cons 0 (by rw [h2]; rfl) .nil⟩
  · refine VRet.mk [] .nil ?_
    simp
theorem f37_invalid (r : Int) (h0 : 128 ≤ r) (h1 : r ≠ 65533) (h3 : Lib.validRune r = false) : Av.Fn Tryd.prog 77 [.str blanks, .int .i32 r] (.int .i64 (-1)) := by
  refine ACalls.of_W tb_ok (fn := Tryd.f77) (n := 187) (by kernel_rfl) rfl (by kernel_rfl) rfl rfl (by simp) (go ?_)
  refine fork (fun h4 => go ?_) (fun h4 => go ?_)
  · refine fork (fun h5 => go ?_) (fun h5 => go ?_)
    · omega
    · refine fork (fun h6 => go ?_) (fun h6 => go ?_)
      · omega
      · have h := fn_ValidRune r
        rw [h3] at h
        refine Fn.use (h) (go ?_)
        refine VRet.mk [] .nil ?_
        simp
  · omega








theorem blanks_other {c : UInt8} (hc : 128 ≤ c.toNat ∧ c.toNat < 192 ∧ c.toNat ≠ 160 ∧ c.toNat ≠ 128) (k : Nat) : Lib.indexByte (List.drop k blanks) (c.toNat : Int).toNat.toUInt8 = -1 := by
  have key : ∀ n : Fin 256, (128 ≤ n.1 ∧ n.1 < 192 ∧ n.1 ≠ 160 ∧ n.1 ≠ 128) → ∀ k : Fin 10, Lib.indexByte (List.drop k.1 blanks) n.1.toUInt8 = -1 := by decide +kernel
  have h := key ⟨c.toNat, c.toNat_lt⟩ hc
  by_cases hk : k < 10
  · exact h ⟨k, hk⟩
  · rw [List.drop_eq_nil_of_le (by simp [blanks]; omega)]; rfl
theorem f37_2a (r : Int) (e : UInt8) (h0 : 128 ≤ r) (h1 : r ≠ 65533) (h3 : Lib.validRune r = true) (hE : (Utf8.encode r).data.toList = [e, 160]) :
    Av.Fn Tryd.prog 77 [.str blanks, .int .i32 r] (.int .i64 (if e.toNat = 194 then 4 else -1)) := by
  refine ACalls.of_W tb_ok (fn := Tryd.f77) (n := 187) (by kernel_rfl) rfl (by kernel_rfl) rfl rfl (by simp) (go ?_)
  refine fork (fun h4 => go ?_) (fun h4 => go ?_)
  · refine fork (fun h5 => go ?_) (fun h5 => go ?_)
    · omega
    · refine fork (fun h6 => go ?_) (fun h6 => go ?_)
      · omega
      · have h := fn_ValidRune r
        rw [h3] at h
        refine Fn.use (h) (go ?_)
        refine VSem.scope 1 ?_
        refine go ?_
        rw [hE]
        refine go ?_
        refine VInt.to (1) (by simp) (by omega) (by omega) (go ?_)
        refine VLoop.un 5 [9, 10] ?_
        refine go ?_
        refine VSem.scope 1 ?_
        refine go ?_
        refine VQ.mk (.int .i64 3) (by refine go ?_; refine Fn.use (fn_IndexByte _ _) (go ?_); exact ⟨congrArg _ (by show Lib.indexByte (List.drop 2 blanks) 160 = 3; decide +kernel), rfl⟩) (go ?_)
        refine VLoop.un 5 [12] ?_
        refine go ?_
        refine fork (fun h7 => go ?_) (fun h7 => go ?_)
        · have h7 : ¬ (194 : Int) = e.toNat := h7
          rw [if_neg (by omega)]
          refine Fn.use (fn_Cutover _ (by decide) (by decide)) (go ?_)
          refine VSem.scope 1 ?_
          refine go ?_
          refine VQ.mk (.int .i64 (-1)) (by refine go ?_; refine Fn.use (fn_IndexByte _ _) (go ?_); exact ⟨congrArg _ (by show Lib.indexByte (List.drop 7 blanks) 160 = -1; decide +kernel), rfl⟩) (go ?_)
          refine VRet.mk [] .nil ?_
          simp
        · refine VRet.mk [] .nil ?_
          have h7 : (194 : Int) = e.toNat := h7
          rw [if_pos (by omega)]
          simp
  · omega
theorem f37_2b (r : Int) (e : UInt8) (h0 : 128 ≤ r) (h1 : r ≠ 65533) (h3 : Lib.validRune r = true) (hE : (Utf8.encode r).data.toList = [e, 128]) (he : 194 ≤ e.toNat ∧ e.toNat < 224) :
    Av.Fn Tryd.prog 77 [.str blanks, .int .i32 r] (.int .i64 (-1)) := by
  refine ACalls.of_W tb_ok (fn := Tryd.f77) (n := 187) (by kernel_rfl) rfl (by kernel_rfl) rfl rfl (by simp) (go ?_)
  refine fork (fun h4 => go ?_) (fun h4 => go ?_)
  · refine fork (fun h5 => go ?_) (fun h5 => go ?_)
    · omega
    · refine fork (fun h6 => go ?_) (fun h6 => go ?_)
      · omega
      · have h := fn_ValidRune r
        rw [h3] at h
        refine Fn.use (h) (go ?_)
        refine VSem.scope 1 ?_
        refine go ?_
        rw [hE]
        refine go ?_
        refine VInt.to (1) (by simp) (by omega) (by omega) (go ?_)
        refine VLoop.un 5 [9, 10] ?_
        refine go ?_
        refine VSem.scope 1 ?_
        refine go ?_
        refine VQ.mk (.int .i64 5) (by refine go ?_; refine Fn.use (fn_IndexByte _ _) (go ?_); exact ⟨congrArg _ (by show Lib.indexByte (List.drop 2 blanks) 128 = 5; decide +kernel), rfl⟩) (go ?_)
        refine VLoop.un 5 [12] ?_
        refine go ?_
        refine fork (fun h7 => go ?_) (fun h7 => go ?_)
        · refine Fn.use (fn_Cutover _ (by decide) (by decide)) (go ?_)
          refine VSem.scope 1 ?_
          refine go ?_
          refine VLoop.un 5 [12] ?_
          refine go ?_
          refine fork (fun h8 => go ?_) (fun h8 => go ?_)
          · refine Fn.use (fn_Cutover _ (by decide) (by decide)) (go ?_)
            refine VRet.mk [] .nil ?_
            simp
          · exfalso
            have h8 : (128 : Int) = e.toNat := h8
            omega
        · exfalso
          have h7 : (227 : Int) = e.toNat := h7
          omega
  · omega
theorem f37_3a (r : Int) (e e' : UInt8) (h0 : 128 ≤ r) (h1 : r ≠ 65533) (h3 : Lib.validRune r = true) (hE : (Utf8.encode r).data.toList = [e, e', 160]) (he : 128 ≤ e'.toNat ∧ e'.toNat < 192) :
    Av.Fn Tryd.prog 77 [.str blanks, .int .i32 r] (.int .i64 (-1)) := by
  refine ACalls.of_W tb_ok (fn := Tryd.f77) (n := 187) (by kernel_rfl) rfl (by kernel_rfl) rfl rfl (by simp) (go ?_)
  refine fork (fun h4 => go ?_) (fun h4 => go ?_)
  · refine fork (fun h5 => go ?_) (fun h5 => go ?_)
    · omega
    · refine fork (fun h6 => go ?_) (fun h6 => go ?_)
      · omega
      · have h := fn_ValidRune r
        rw [h3] at h
        refine Fn.use (h) (go ?_)
        refine VSem.scope 1 ?_
        refine go ?_
        rw [hE]
        refine go ?_
        refine VInt.to (2) (by simp) (by omega) (by omega) (go ?_)
        refine VLoop.un 5 [9, 10] ?_
        refine go ?_
        refine VSem.scope 1 ?_
        refine go ?_
        refine VQ.mk (.int .i64 2) (by refine go ?_; refine Fn.use (fn_IndexByte _ _) (go ?_); exact ⟨congrArg _ (by show Lib.indexByte (List.drop 3 blanks) 160 = 2; decide +kernel), rfl⟩) (go ?_)
        refine VLoop.un 5 [12] ?_
        refine go ?_
        refine fork (fun h7 => go ?_) (fun h7 => go ?_)
        · refine Fn.use (fn_Cutover _ (by decide) (by decide)) (go ?_)
          refine VSem.scope 1 ?_
          refine go ?_
          refine VQ.mk (.int .i64 (-1)) (by refine go ?_; refine Fn.use (fn_IndexByte _ _) (go ?_); exact ⟨congrArg _ (by show Lib.indexByte (List.drop 7 blanks) 160 = -1; decide +kernel), rfl⟩) (go ?_)
          refine VRet.mk [] .nil ?_
          simp
        · exfalso
          have h7 : (194 : Int) = e'.toNat := h7
          omega
  · omega
theorem f37_3b (r : Int) (e e' : UInt8) (h0 : 128 ≤ r) (h1 : r ≠ 65533) (h3 : Lib.validRune r = true) (hE : (Utf8.encode r).data.toList = [e, e', 128]) (he : 128 ≤ e'.toNat ∧ e'.toNat < 192) :
    Av.Fn Tryd.prog 77 [.str blanks, .int .i32 r] (.int .i64 (if e.toNat = 227 ∧ e'.toNat = 128 then 6 else -1)) := by
  refine ACalls.of_W tb_ok (fn := Tryd.f77) (n := 187) (by kernel_rfl) rfl (by kernel_rfl) rfl rfl (by simp) (go ?_)
  refine fork (fun h4 => go ?_) (fun h4 => go ?_)
  · refine fork (fun h5 => go ?_) (fun h5 => go ?_)
    · omega
    · refine fork (fun h6 => go ?_) (fun h6 => go ?_)
      · omega
      · have h := fn_ValidRune r
        rw [h3] at h
        refine Fn.use (h) (go ?_)
        refine VSem.scope 1 ?_
        refine go ?_
        rw [hE]
        refine go ?_
        refine VInt.to (2) (by simp) (by omega) (by omega) (go ?_)
        refine VLoop.un 5 [9, 10] ?_
        refine go ?_
        refine VSem.scope 1 ?_
        refine go ?_
        refine VQ.mk (.int .i64 4) (by refine go ?_; refine Fn.use (fn_IndexByte _ _) (go ?_); exact ⟨congrArg _ (by show Lib.indexByte (List.drop 3 blanks) 128 = 4; decide +kernel), rfl⟩) (go ?_)
        refine VLoop.un 5 [12] ?_
        refine go ?_
        refine fork (fun h7 => go ?_) (fun h7 => go ?_)
        · refine Fn.use (fn_Cutover _ (by decide) (by decide)) (go ?_)
          refine VSem.scope 1 ?_
          refine go ?_
          refine VLoop.un 5 [12] ?_
          refine go ?_
          refine fork (fun h8 => go ?_) (fun h8 => go ?_)
          · have h8 : ¬ (128 : Int) = e'.toNat := h8
            rw [if_neg (by omega)]
            refine Fn.use (fn_Cutover _ (by decide) (by decide)) (go ?_)
            refine VRet.mk [] .nil ?_
            simp
          · have h8 : (128 : Int) = e'.toNat := h8
            refine fork (fun h9 => go ?_) (fun h9 => go ?_)
            · have h9 : ¬ (227 : Int) = e.toNat := h9
              rw [if_neg (by omega)]
              refine Fn.use (fn_Cutover _ (by decide) (by decide)) (go ?_)
              refine VRet.mk [] .nil ?_
              simp
            · have h9 : (227 : Int) = e.toNat := h9
              rw [if_pos (by omega)]
              refine VRet.mk [] .nil ?_
              simp
        · exfalso
          have h7 : (227 : Int) = e'.toNat := h7
          omega
  · omega
theorem f37_4a (r : Int) (e e'' e' : UInt8) (h0 : 128 ≤ r) (h1 : r ≠ 65533) (h3 : Lib.validRune r = true) (hE : (Utf8.encode r).data.toList = [e, e'', e', 160]) (he : 128 ≤ e'.toNat ∧ e'.toNat < 192) :
    Av.Fn Tryd.prog 77 [.str blanks, .int .i32 r] (.int .i64 (-1)) := by
  refine ACalls.of_W tb_ok (fn := Tryd.f77) (n := 187) (by kernel_rfl) rfl (by kernel_rfl) rfl rfl (by simp) (go ?_)
  refine fork (fun h4 => go ?_) (fun h4 => go ?_)
  · refine fork (fun h5 => go ?_) (fun h5 => go ?_)
    · omega
    · refine fork (fun h6 => go ?_) (fun h6 => go ?_)
      · omega
      · have h := fn_ValidRune r
        rw [h3] at h
        refine Fn.use (h) (go ?_)
        refine VSem.scope 1 ?_
        refine go ?_
        rw [hE]
        refine go ?_
        refine VInt.to (3) (by simp) (by omega) (by omega) (go ?_)
        refine VLoop.un 5 [9, 10] ?_
        refine go ?_
        refine VSem.scope 1 ?_
        refine go ?_
        refine VQ.mk (.int .i64 1) (by refine go ?_; refine Fn.use (fn_IndexByte _ _) (go ?_); exact ⟨congrArg _ (by show Lib.indexByte (List.drop 4 blanks) 160 = 1; decide +kernel), rfl⟩) (go ?_)
        refine VLoop.un 5 [12] ?_
        refine go ?_
        refine fork (fun h7 => go ?_) (fun h7 => go ?_)
        · refine Fn.use (fn_Cutover _ (by decide) (by decide)) (go ?_)
          refine VSem.scope 1 ?_
          refine go ?_
          refine VQ.mk (.int .i64 (-1)) (by refine go ?_; refine Fn.use (fn_IndexByte _ _) (go ?_); exact ⟨congrArg _ (by show Lib.indexByte (List.drop 7 blanks) 160 = -1; decide +kernel), rfl⟩) (go ?_)
          refine VRet.mk [] .nil ?_
          simp
        · exfalso
          have h7 : (194 : Int) = e'.toNat := h7
          omega
  · omega
theorem f37_4b (r : Int) (e e'' e' : UInt8) (h0 : 128 ≤ r) (h1 : r ≠ 65533) (h3 : Lib.validRune r = true) (hE : (Utf8.encode r).data.toList = [e, e'', e', 128]) (he : 128 ≤ e'.toNat ∧ e'.toNat < 192) (he' : 128 ≤ e''.toNat ∧ e''.toNat < 192) :
    Av.Fn Tryd.prog 77 [.str blanks, .int .i32 r] (.int .i64 (-1)) := by
  refine ACalls.of_W tb_ok (fn := Tryd.f77) (n := 187) (by kernel_rfl) rfl (by kernel_rfl) rfl rfl (by simp) (go ?_)
  refine fork (fun h4 => go ?_) (fun h4 => go ?_)
  · refine fork (fun h5 => go ?_) (fun h5 => go ?_)
    · omega
    · refine fork (fun h6 => go ?_) (fun h6 => go ?_)
      · omega
      · have h := fn_ValidRune r
        rw [h3] at h
        refine Fn.use (h) (go ?_)
        refine VSem.scope 1 ?_
        refine go ?_
        rw [hE]
        refine go ?_
        refine VInt.to (3) (by simp) (by omega) (by omega) (go ?_)
        refine VLoop.un 5 [9, 10] ?_
        refine go ?_
        refine VSem.scope 1 ?_
        refine go ?_
        refine VQ.mk (.int .i64 3) (by refine go ?_; refine Fn.use (fn_IndexByte _ _) (go ?_); exact ⟨congrArg _ (by show Lib.indexByte (List.drop 4 blanks) 128 = 3; decide +kernel), rfl⟩) (go ?_)
        refine VLoop.un 5 [12] ?_
        refine go ?_
        refine fork (fun h7 => go ?_) (fun h7 => go ?_)
        · refine Fn.use (fn_Cutover _ (by decide) (by decide)) (go ?_)
          refine VSem.scope 1 ?_
          refine go ?_
          refine VLoop.un 5 [12] ?_
          refine go ?_
          refine fork (fun h8 => go ?_) (fun h8 => go ?_)
          · refine Fn.use (fn_Cutover _ (by decide) (by decide)) (go ?_)
            refine VRet.mk [] .nil ?_
            simp
          · refine fork (fun h9 => go ?_) (fun h9 => go ?_)
            · refine Fn.use (fn_Cutover _ (by decide) (by decide)) (go ?_)
              refine VRet.mk [] .nil ?_
              simp
            · exfalso
              have h9 : (227 : Int) = e''.toNat := h9
              omega
        · exfalso
          have h7 : (227 : Int) = e'.toNat := h7
          omega
  · omega
theorem f37_2c (r : Int) (e c : UInt8) (h0 : 128 ≤ r) (h1 : r ≠ 65533) (h3 : Lib.validRune r = true) (hE : (Utf8.encode r).data.toList = [e, c]) (hc : 128 ≤ c.toNat ∧ c.toNat < 192 ∧ c.toNat ≠ 160 ∧ c.toNat ≠ 128) :
    Av.Fn Tryd.prog 77 [.str blanks, .int .i32 r] (.int .i64 (-1)) := by
  refine ACalls.of_W tb_ok (fn := Tryd.f77) (n := 187) (by kernel_rfl) rfl (by kernel_rfl) rfl rfl (by simp) (go ?_)
  refine fork (fun h4 => go ?_) (fun h4 => go ?_)
  · refine fork (fun h5 => go ?_) (fun h5 => go ?_)
    · omega
    · refine fork (fun h6 => go ?_) (fun h6 => go ?_)
      · omega
      · have h := fn_ValidRune r
        rw [h3] at h
        refine Fn.use (h) (go ?_)
        refine VSem.scope 1 ?_
        refine go ?_
        rw [hE]
        refine go ?_
        refine VInt.to (1) (by simp) (by omega) (by omega) (go ?_)
        refine VLoop.un 5 [9, 10] ?_
        refine go ?_
        refine VSem.scope 1 ?_
        refine go ?_
        refine fork (fun h7 => go ?_) (fun h7 => go ?_)
        · refine VQ.mk (.int .i64 (-1)) (by refine go ?_; refine Fn.use (fn_IndexByte _ _) (go ?_); exact ⟨congrArg _ (by show Lib.indexByte (List.drop 2 blanks) (c.toNat : Int).toNat.toUInt8 = -1; exact blanks_other hc 2), rfl⟩) (go ?_)
          refine VRet.mk [] .nil ?_
          simp
        · exfalso
          have h7 : (10 : Int) = c.toNat := h7
          omega
  · omega
theorem f37_3c (r : Int) (e e' c : UInt8) (h0 : 128 ≤ r) (h1 : r ≠ 65533) (h3 : Lib.validRune r = true) (hE : (Utf8.encode r).data.toList = [e, e', c]) (hc : 128 ≤ c.toNat ∧ c.toNat < 192 ∧ c.toNat ≠ 160 ∧ c.toNat ≠ 128) :
    Av.Fn Tryd.prog 77 [.str blanks, .int .i32 r] (.int .i64 (-1)) := by
  refine ACalls.of_W tb_ok (fn := Tryd.f77) (n := 187) (by kernel_rfl) rfl (by kernel_rfl) rfl rfl (by simp) (go ?_)
  refine fork (fun h4 => go ?_) (fun h4 => go ?_)
  · refine fork (fun h5 => go ?_) (fun h5 => go ?_)
    · omega
    · refine fork (fun h6 => go ?_) (fun h6 => go ?_)
      · omega
      · have h := fn_ValidRune r
        rw [h3] at h
        refine Fn.use (h) (go ?_)
        refine VSem.scope 1 ?_
        refine go ?_
        rw [hE]
        refine go ?_
        refine VInt.to (2) (by simp) (by omega) (by omega) (go ?_)
        refine VLoop.un 5 [9, 10] ?_
        refine go ?_
        refine VSem.scope 1 ?_
        refine go ?_
        refine fork (fun h7 => go ?_) (fun h7 => go ?_)
        · refine VQ.mk (.int .i64 (-1)) (by refine go ?_; refine Fn.use (fn_IndexByte _ _) (go ?_); exact ⟨congrArg _ (by show Lib.indexByte (List.drop 3 blanks) (c.toNat : Int).toNat.toUInt8 = -1; exact blanks_other hc 3), rfl⟩) (go ?_)
          refine VRet.mk [] .nil ?_
          simp
        · exfalso
          have h7 : (13 : Int) = c.toNat := h7
          omega
  · omega
theorem f37_4c (r : Int) (e e'' e' c : UInt8) (h0 : 128 ≤ r) (h1 : r ≠ 65533) (h3 : Lib.validRune r = true) (hE : (Utf8.encode r).data.toList = [e, e'', e', c]) (hc : 128 ≤ c.toNat ∧ c.toNat < 192 ∧ c.toNat ≠ 160 ∧ c.toNat ≠ 128) :
    Av.Fn Tryd.prog 77 [.str blanks, .int .i32 r] (.int .i64 (-1)) := by
  refine ACalls.of_W tb_ok (fn := Tryd.f77) (n := 187) (by kernel_rfl) rfl (by kernel_rfl) rfl rfl (by simp) (go ?_)
  refine fork (fun h4 => go ?_) (fun h4 => go ?_)
  · refine fork (fun h5 => go ?_) (fun h5 => go ?_)
    · omega
    · refine fork (fun h6 => go ?_) (fun h6 => go ?_)
      · omega
      · have h := fn_ValidRune r
        rw [h3] at h
        refine Fn.use (h) (go ?_)
        refine VSem.scope 1 ?_
        refine go ?_
        rw [hE]
        refine go ?_
        refine VInt.to (3) (by simp) (by omega) (by omega) (go ?_)
        refine VLoop.un 5 [9, 10] ?_
        refine go ?_
        refine VSem.scope 1 ?_
        refine go ?_
        refine fork (fun h7 => go ?_) (fun h7 => go ?_)
        · refine VQ.mk (.int .i64 (-1)) (by refine go ?_; refine Fn.use (fn_IndexByte _ _) (go ?_); exact ⟨congrArg _ (by show Lib.indexByte (List.drop 4 blanks) (c.toNat : Int).toNat.toUInt8 = -1; exact blanks_other hc 4), rfl⟩) (go ?_)
          refine VRet.mk [] .nil ?_
          simp
        · exfalso
          have h7 : (32 : Int) = c.toNat := h7
          omega
  · omega
end Go.Proofs.YtliabblchkgclaaDoor

namespace Go.Proofs.YtliabblchkgclaaDoor
open Go Go.Av
theorem ofNat_toNat {n : Nat} (h : n < 256) : (UInt8.ofNat n).toNat = n := by simp; omega
theorem f37_of (r : Int) (hr : 0 ≤ r ∧ r ≤ 1114111) : ∃ k : Int, decide (0 ≤ k) = blankB r ∧ Av.Fn Tryd.prog 77 [.str blanks, .int .i32 r] (.int .i64 k) := by
  by_cases h1 : r < 128
  · exact f37_ascii r hr.1 h1
  by_cases h2 : r = 65533
  · exact ⟨-1, by subst h2; decide, by subst h2; exact f37_bad⟩
  cases h3 : Lib.validRune r with
  | false =>
    refine ⟨-1, ?_, f37_invalid r (by omega) h2 h3⟩
    simp [Lib.validRune] at h3
    simp [blankB]
    omega
  | true =>
    have hv : Utf8.valid r = true := by
      simp [Lib.validRune] at h3
      simp [Utf8.valid]; omega
    obtain ⟨n, rfl⟩ : ∃ n : Nat, r = n := ⟨r.toNat, by omega⟩
    have hn : (n : Int).toNat = n := by omega
    by_cases c2 : n < 2048
    · have hE : (Utf8.encode n).data.toList = [UInt8.ofNat (192 + n / 64), UInt8.ofNat (128 + n % 64)] := by
        simp only [Utf8.encode, hv, if_true, hn]
        rw [if_neg (by omega), if_pos (by omega)]
      by_cases ca : n % 64 = 32
      · rw [ca] at hE
        refine ⟨_, ?_, f37_2a n _ (by omega) h2 h3 hE⟩
        rw [ofNat_toNat (by omega)]
        by_cases hh : 192 + n / 64 = 194
        · rw [if_pos hh]; simp [blankB]; omega
        · rw [if_neg hh]; simp [blankB]; omega
      by_cases cb : n % 64 = 0
      · rw [cb] at hE
        refine ⟨_, ?_, f37_2b n _ (by omega) h2 h3 hE (by rw [ofNat_toNat (by omega)]; omega)⟩
        simp [blankB]; omega
      · refine ⟨_, ?_, f37_2c n _ _ (by omega) h2 h3 hE (by rw [ofNat_toNat (by omega)]; omega)⟩
        simp [blankB]; omega
    by_cases c3 : n < 65536
    · have hE : (Utf8.encode n).data.toList = [UInt8.ofNat (224 + n / 4096), UInt8.ofNat (128 + n / 64 % 64), UInt8.ofNat (128 + n % 64)] := by
        simp only [Utf8.encode, hv, if_true, hn]
        rw [if_neg (by omega), if_neg (by omega), if_pos (by omega)]
      by_cases ca : n % 64 = 32
      · rw [ca] at hE
        refine ⟨_, ?_, f37_3a n _ _ (by omega) h2 h3 hE (by rw [ofNat_toNat (by omega)]; omega)⟩
        simp [blankB]; omega
      by_cases cb : n % 64 = 0
      · rw [cb] at hE
        refine ⟨_, ?_, f37_3b n _ _ (by omega) h2 h3 hE (by rw [ofNat_toNat (by omega)]; omega)⟩
        rw [ofNat_toNat (by omega), ofNat_toNat (by omega)]
        by_cases hh : 224 + n / 4096 = 227 ∧ 128 + n / 64 % 64 = 128
        · rw [if_pos hh]; simp [blankB]; omega
        · rw [if_neg hh]; simp [blankB]; omega
      · refine ⟨_, ?_, f37_3c n _ _ _ (by omega) h2 h3 hE (by rw [ofNat_toNat (by omega)]; omega)⟩
        simp [blankB]; omega
    · have hE : (Utf8.encode n).data.toList = [UInt8.ofNat (240 + n / 262144), UInt8.ofNat (128 + n / 4096 % 64), UInt8.ofNat (128 + n / 64 % 64), UInt8.ofNat (128 + n % 64)] := by
        simp only [Utf8.encode, hv, if_true, hn]
        rw [if_neg (by omega), if_neg (by omega), if_neg (by omega)]
      by_cases ca : n % 64 = 32
      · rw [ca] at hE
        refine ⟨_, ?_, f37_4a n _ _ _ (by omega) h2 h3 hE (by rw [ofNat_toNat (by omega)]; omega)⟩
        simp [blankB]; omega
      by_cases cb : n % 64 = 0
      · rw [cb] at hE
        refine ⟨_, ?_, f37_4b n _ _ _ (by omega) h2 h3 hE (by rw [ofNat_toNat (by omega)]; omega) (by rw [ofNat_toNat (by omega)]; omega)⟩
        simp [blankB]; omega
      · refine ⟨_, ?_, f37_4c n _ _ _ _ (by omega) h2 h3 hE (by rw [ofNat_toNat (by omega)]; omega)⟩
        simp [blankB]; omega
theorem f30_of (r : Int) (hr : 0 ≤ r ∧ r ≤ 1114111) : Av.Fn Tryd.prog 72 [.str blanks, .int .i32 r] (.bool (blankB r)) := by
  obtain ⟨k, h1, h2⟩ := f37_of r hr
  refine ACalls.of_W tb_ok (fn := Tryd.f72) (n := 9) (by kernel_rfl) rfl (by kernel_rfl) rfl rfl (by simp) (go ?_)
  refine Fn.use (h2) (go ?_)
  refine VRet.mk [] .nil ?_
  simp [← h1]
theorem f18_of (r : Int) (hr : 0 ≤ r ∧ r ≤ 1114111) : Av.Fn Tryd.prog 69 [.int .i32 r] (.bool (blankB r)) := by
  refine ACalls.of_W tb_ok (fn := Tryd.f69) (n := 5) (by kernel_rfl) rfl (by kernel_rfl) rfl rfl (by simp) (go ?_)
  refine Fn.use (f30_of r hr) (go ?_)
  refine VRet.mk [] .nil ?_
  simp
end Go.Proofs.YtliabblchkgclaaDoor

namespace Go.Proofs.YtliabblchkgclaaDoor
open Go Go.Av
def zeros : List Int := [48, 1632, 65296]
def digOf (r : Int) : List Int → AV
  | [] => .tup [.int .i64 0, .int .i32 0, .bool false]
  | z :: l => if z ≤ r ∧ r ≤ z + 9 then .tup [.int .i64 (r - z), .int .i32 z, .bool true] else digOf r l
theorem f29_of (r : Int) (hr : -2147483648 ≤ r ∧ r ≤ 2147483647) : Av.Fn Tryd.prog 75 [.int .i32 r] (digOf r zeros) := by
  refine ACalls.of_W tb_ok (fn := Tryd.f75) (n := 28) (by kernel_rfl) rfl (by kernel_rfl) rfl rfl (by simp) (go ?_)
  refine VLoop.mk [9] Nat (fun i => [.int .i64 i]) (fun _ => []) (fun i => i ≤ 3 ∧ digOf r zeros = digOf r (zeros.drop i)) (fun i => 3 - i) 0 ?_ ?_
  · exact ⟨⟨by omega, rfl⟩, rfl, .nil⟩
  intro i ⟨hi, he⟩
  refine go ?_
  refine fork (fun h => go ?_) (fun h => go ?_)
  · obtain ⟨z, hz, hz1, hz2⟩ : ∃ z, ([.int .i32 48, .int .i32 1632, .int .i32 65296] : List AV)[i]? = some (.int .i32 z) ∧ (48 ≤ z ∧ z ≤ 65296) ∧ digOf r (zeros.drop i) = digOf r (z :: zeros.drop (i + 1)) := by
      obtain rfl | rfl | rfl : i = 0 ∨ i = 1 ∨ i = 2 := by omega
      · exact ⟨48, rfl, by omega, rfl⟩
      · exact ⟨1632, rfl, by omega, rfl⟩
      · exact ⟨65296, rfl, by omega, rfl⟩
    refine VNth.mk (.int .i32 z) (by simpa using hz) ?_
    refine go ?_
    rw [hz2, digOf] at he
    refine fork (fun h2 => go ?_) (fun h2 => go ?_)
    · refine fork (fun h3 => go ?_) (fun h3 => go ?_)
      · refine VRet.mk [] .nil ?_
        simp only [he]
        rw [if_pos (by omega)]
        simp
      · rw [if_neg (by omega)] at he
        exact ⟨i + 1, ⟨by omega, he⟩, by omega, rfl, .nil⟩
    · rw [if_neg (by omega)] at he
      exact ⟨i + 1, ⟨by omega, he⟩, by omega, rfl, .nil⟩
  · refine VRet.mk [] .nil ?_
    obtain rfl : i = 3 := by omega
    rw [he]
    simp [zeros, digOf]
end Go.Proofs.YtliabblchkgclaaDoor

namespace Go.Proofs.YtliabblchkgclaaDoor
open Go Go.Av
/-- A character as a digit: its value, its script's nought. -/
def digR (r : Int) : Option (Int × Int) :=
  if 48 ≤ r ∧ r ≤ 57 then some (r - 48, 48) else if 1632 ≤ r ∧ r ≤ 1641 then some (r - 1632, 1632) else if 65296 ≤ r ∧ r ≤ 65305 then some (r - 65296, 65296) else none
def digV : Option (Int × Int) → AV
  | none => .tup [.int .i64 0, .int .i32 0, .bool false]
  | some (d, z) => .tup [.int .i64 d, .int .i32 z, .bool true]
theorem digOf_eq (r : Int) : digOf r zeros = digV (digR r) := by
  simp only [digOf, zeros, digR]
  repeat' split
  all_goals first | rfl | omega
theorem digR_bound {r d z : Int} (h : digR r = some (d, z)) : 0 ≤ d ∧ d ≤ 9 ∧ 48 ≤ z ∧ z ≤ 65296 ∧ r = z + d := by
  unfold digR at h
  repeat' split at h
  all_goals simp at h
  all_goals omega
/-- The digits of a number, one behind the other: what has been read, is it small enough, its script. -/
def digLoop : List Nat → Int → Bool → Int → Option (Int × Bool × Int)
  | [], n, ok, z => some (n, ok, z)
  | r :: rs, n, ok, z => match digR r with
    | none => none
    | some (d, z') => if 0 ≤ z ∧ z' ≠ z then none else
      if n > (1152921504606846976 - d) / 10 then digLoop rs d false z' else digLoop rs (10 * n + d) ok z'
def minusB (l : List UInt8) : Bool := begins l [45] || begins l [226, 136, 146]
def digitsR (l : List UInt8) : Int × Bool × Bool :=
  match digLoop ((runes (if minusB l then l.drop (dec l).2 else l)).map (·.1)) 0 true (-1) with
  | none => (0, false, false)
  | some (n, ok, z) => (if minusB l then -n else n, decide (0 ≤ z), ok && decide ((if minusB l then -n else n) ≤ 1152921504606846975))
theorem decodeGo_eq {l : List UInt8} (h : l ≠ []) : Lib.decodeGo ⟨⟨l⟩⟩ = dec l := by
  unfold Lib.decodeGo dec
  rw [if_neg]
  intro e
  exact h (List.length_eq_zero_iff.1 e)
theorem begins_ne {l p : List UInt8} (hp : p ≠ []) (h : begins l p = true) : l ≠ [] := by
  intro e; subst e
  simp [begins] at h
  exact hp h
theorem digitsR_some {l l' : List UInt8} {n z : Int} {ok : Bool} (hl : l' = if minusB l then l.drop (dec l).2 else l) (h : digLoop ((runes l').map (·.1)) 0 true (-1) = some (n, ok, z)) :
    digitsR l = (if minusB l then -n else n, decide (0 ≤ z), ok && decide ((if minusB l then -n else n) ≤ 1152921504606846975)) := by
  subst hl; simp only [digitsR, h]
theorem digitsR_none {l l' : List UInt8} (hl : l' = if minusB l then l.drop (dec l).2 else l) (h : digLoop ((runes l').map (·.1)) 0 true (-1) = none) : digitsR l = (0, false, false) := by
  subst hl; simp only [digitsR, h]
theorem f29_digR (r : Int) (hr : -2147483648 ≤ r ∧ r ≤ 2147483647) : Av.Fn Tryd.prog 75 [.int .i32 r] (digV (digR r)) := by
  rw [← digOf_eq]; exact f29_of r hr

/-- What Number says: the number, the error. -/
def numberR (l : List UInt8) : Int × Int :=
  if (digitsR l).2.1 then (if (digitsR l).2.2 then ((digitsR l).1, 0) else (0, 11)) else (0, 9)
structure DigI where
  p : Nat
  n : Int
  ok : Bool
  z : Int


theorem f17_of (l : List UInt8) : Av.Fn Tryd.prog 70 [.str l] (.tup [.int .i64 (digitsR l).1, .bool (digitsR l).2.1, .bool (digitsR l).2.2]) := by
  refine ACalls.of_W tb_ok (fn := Tryd.f70) (n := 72) (by kernel_rfl) rfl (by kernel_rfl) rfl rfl (by simp) (go ?_)
  have g1 := fn_HasPrefix l [45]
  have g2 := fn_HasPrefix l [226, 136, 146]
  cases h1 : begins l [45] with
  | true =>
    rw [h1] at g1
    refine Fn.use (g1) (go ?_)
    have hne := begins_ne (by simp) h1
    have hd := dec_pos l hne
    have hm : minusB l = true := by simp [minusB, h1]
    have fd := fn_Decode l
    rw [decodeGo_eq hne] at fd
    refine Fn.use (fd) (go ?_)
    obtain ⟨l', hl'⟩ : ∃ l', l' = l.drop (dec l).2 := ⟨_, rfl⟩
    rw [← hl']
    replace hl' : l' = if minusB l then l.drop (dec l).2 else l := by rw [if_pos hm]; exact hl'
    refine go ?_
    refine VAll.mk (fun b => go ?_)
    refine VLoop.mk [2, 4, 8] DigI (fun i => [.int .i64 i.n, .bool i.ok, .int .i32 i.z]) (fun i => [(b, .siter l' i.p)])
      (fun i => i.p ≤ l'.length ∧ (0 ≤ i.n ∧ i.n ≤ 1152921504606846976) ∧ (-1 ≤ i.z ∧ i.z ≤ 65296) ∧ digLoop ((runes (l'.drop i.p)).map (·.1)) i.n i.ok i.z = digLoop ((runes l').map (·.1)) 0 true (-1)) (fun i => l'.length - i.p) ⟨0, 0, true, -1⟩ ?_ ?_
    · exact ⟨⟨by simp, by simp, by simp, by simp⟩, rfl, .cons 0 rfl .nil⟩
    rintro ⟨p, n, ok, z⟩ ⟨hp, hn, hz, hI⟩
    dsimp only at hp hn hz hI ⊢
    refine go ?_
    refine fork (fun hlt => go ?_) (fun hlt => go ?_)
    · have hne' : l'.drop p ≠ [] := by simp; omega
      have hc := dec_pos _ hne'
      have hru := runes_cons hne'
      rw [← dec_at] at hc hru
      generalize hdc : Utf8.decode ⟨⟨l'⟩⟩ p = c
      rw [hdc] at hc hru
      rw [List.length_drop] at hc
      rw [List.drop_drop] at hru
      rw [hru, List.map_cons, digLoop] at hI
      obtain ⟨r, k⟩ := c
      dsimp only at hc hru hI ⊢
      refine Fn.use (f29_digR r (by omega)) (go ?_)
      cases hd : digR r with
      | none =>
        rw [hd] at hI
        dsimp only at hI
        refine go ?_
        refine VRet.mk [] .nil ?_
        rw [digitsR_none (l := l) hl' hI.symm]
        simp
      | some dz =>
        obtain ⟨d, z'⟩ := dz
        have hb := digR_bound hd
        rw [hd] at hI
        dsimp only at hI
        refine go ?_
        refine fork (fun hz0 => go ?_) (fun hz0 => go ?_)
        · refine fork (fun hz1 => go ?_) (fun hz1 => go ?_)
          · rw [if_pos ⟨hz0, hz1⟩] at hI
            refine VRet.mk [] .nil ?_
            rw [digitsR_none (l := l) hl' hI.symm]
            simp
          · have hz1 : z' = z := hz1
            rw [if_neg (by simp [hz1])] at hI
            rw [Int.tdiv_eq_ediv_of_nonneg (by omega)]
            refine go ?_
            refine fork (fun hgt => go ?_) (fun hgt => go ?_)
            · rw [if_pos (by omega)] at hI
              refine ⟨⟨p + k, 10 * 0 + d, false, z'⟩, ⟨?_, ?_, ?_, ?_⟩, ?_, rfl, .cons 0 rfl .nil⟩
              · dsimp only; omega
              · dsimp only; omega
              · dsimp only; omega
              · dsimp only; rw [show (10 * 0 + d : Int) = d by omega]; exact hI
              · dsimp only; omega
            · rw [if_neg (by omega)] at hI
              refine ⟨⟨p + k, 10 * n + d, ok, z'⟩, ⟨?_, ?_, ?_, ?_⟩, ?_, rfl, .cons 0 rfl .nil⟩
              · dsimp only; omega
              · dsimp only; omega
              · dsimp only; omega
              · exact hI
              · dsimp only; omega
        · rw [if_neg (fun h => hz0 h.1)] at hI
          rw [Int.tdiv_eq_ediv_of_nonneg (by omega)]
          refine go ?_
          refine fork (fun hgt => go ?_) (fun hgt => go ?_)
          · rw [if_pos (by omega)] at hI
            refine ⟨⟨p + k, 10 * 0 + d, false, z'⟩, ⟨?_, ?_, ?_, ?_⟩, ?_, rfl, .cons 0 rfl .nil⟩
            · dsimp only; omega
            · dsimp only; omega
            · dsimp only; omega
            · dsimp only; rw [show (10 * 0 + d : Int) = d by omega]; exact hI
            · dsimp only; omega
          · rw [if_neg (by omega)] at hI
            refine ⟨⟨p + k, 10 * n + d, ok, z'⟩, ⟨?_, ?_, ?_, ?_⟩, ?_, rfl, .cons 0 rfl .nil⟩
            · dsimp only; omega
            · dsimp only; omega
            · dsimp only; omega
            · exact hI
            · dsimp only; omega
    · rw [List.drop_eq_nil_of_le (by omega), runes_nil, List.map_nil, digLoop] at hI
      rw [digitsR_some (l := l) hl' hI.symm]
      cases hok : ok with
      | true =>
        refine go ?_
        refine VRet.mk [] .nil ?_
        simp [hm]
      | false =>
        refine go ?_
        refine VRet.mk [] .nil ?_
        simp [hm]
  | false =>
    rw [h1] at g1
    refine Fn.use (g1) (go ?_)
    cases h2 : begins l [226, 136, 146] with
    | true =>
      rw [h2] at g2
      refine Fn.use (g2) (go ?_)
      have hne := begins_ne (by simp) h2
      have hd := dec_pos l hne
      have hm : minusB l = true := by simp [minusB, h2]
      have fd := fn_Decode l
      rw [decodeGo_eq hne] at fd
      refine Fn.use (fd) (go ?_)
      obtain ⟨l', hl'⟩ : ∃ l', l' = l.drop (dec l).2 := ⟨_, rfl⟩
      rw [← hl']
      replace hl' : l' = if minusB l then l.drop (dec l).2 else l := by rw [if_pos hm]; exact hl'
      refine go ?_
      refine VAll.mk (fun b => go ?_)
      refine VLoop.mk [2, 4, 8] DigI (fun i => [.int .i64 i.n, .bool i.ok, .int .i32 i.z]) (fun i => [(b, .siter l' i.p)])
        (fun i => i.p ≤ l'.length ∧ (0 ≤ i.n ∧ i.n ≤ 1152921504606846976) ∧ (-1 ≤ i.z ∧ i.z ≤ 65296) ∧ digLoop ((runes (l'.drop i.p)).map (·.1)) i.n i.ok i.z = digLoop ((runes l').map (·.1)) 0 true (-1)) (fun i => l'.length - i.p) ⟨0, 0, true, -1⟩ ?_ ?_
      · exact ⟨⟨by simp, by simp, by simp, by simp⟩, rfl, .cons 0 rfl .nil⟩
      rintro ⟨p, n, ok, z⟩ ⟨hp, hn, hz, hI⟩
      dsimp only at hp hn hz hI ⊢
      refine go ?_
      refine fork (fun hlt => go ?_) (fun hlt => go ?_)
      · have hne' : l'.drop p ≠ [] := by simp; omega
        have hc := dec_pos _ hne'
        have hru := runes_cons hne'
        rw [← dec_at] at hc hru
        generalize hdc : Utf8.decode ⟨⟨l'⟩⟩ p = c
        rw [hdc] at hc hru
        rw [List.length_drop] at hc
        rw [List.drop_drop] at hru
        rw [hru, List.map_cons, digLoop] at hI
        obtain ⟨r, k⟩ := c
        dsimp only at hc hru hI ⊢
        refine Fn.use (f29_digR r (by omega)) (go ?_)
        cases hd : digR r with
        | none =>
          rw [hd] at hI
          dsimp only at hI
          refine go ?_
          refine VRet.mk [] .nil ?_
          rw [digitsR_none (l := l) hl' hI.symm]
          simp
        | some dz =>
          obtain ⟨d, z'⟩ := dz
          have hb := digR_bound hd
          rw [hd] at hI
          dsimp only at hI
          refine go ?_
          refine fork (fun hz0 => go ?_) (fun hz0 => go ?_)
          · refine fork (fun hz1 => go ?_) (fun hz1 => go ?_)
            · rw [if_pos ⟨hz0, hz1⟩] at hI
              refine VRet.mk [] .nil ?_
              rw [digitsR_none (l := l) hl' hI.symm]
              simp
            · have hz1 : z' = z := hz1
              rw [if_neg (by simp [hz1])] at hI
              rw [Int.tdiv_eq_ediv_of_nonneg (by omega)]
              refine go ?_
              refine fork (fun hgt => go ?_) (fun hgt => go ?_)
              · rw [if_pos (by omega)] at hI
                refine ⟨⟨p + k, 10 * 0 + d, false, z'⟩, ⟨?_, ?_, ?_, ?_⟩, ?_, rfl, .cons 0 rfl .nil⟩
                · dsimp only; omega
                · dsimp only; omega
                · dsimp only; omega
                · dsimp only; rw [show (10 * 0 + d : Int) = d by omega]; exact hI
                · dsimp only; omega
              · rw [if_neg (by omega)] at hI
                refine ⟨⟨p + k, 10 * n + d, ok, z'⟩, ⟨?_, ?_, ?_, ?_⟩, ?_, rfl, .cons 0 rfl .nil⟩
                · dsimp only; omega
                · dsimp only; omega
                · dsimp only; omega
                · exact hI
                · dsimp only; omega
          · rw [if_neg (fun h => hz0 h.1)] at hI
            rw [Int.tdiv_eq_ediv_of_nonneg (by omega)]
            refine go ?_
            refine fork (fun hgt => go ?_) (fun hgt => go ?_)
            · rw [if_pos (by omega)] at hI
              refine ⟨⟨p + k, 10 * 0 + d, false, z'⟩, ⟨?_, ?_, ?_, ?_⟩, ?_, rfl, .cons 0 rfl .nil⟩
              · dsimp only; omega
              · dsimp only; omega
              · dsimp only; omega
              · dsimp only; rw [show (10 * 0 + d : Int) = d by omega]; exact hI
              · dsimp only; omega
            · rw [if_neg (by omega)] at hI
              refine ⟨⟨p + k, 10 * n + d, ok, z'⟩, ⟨?_, ?_, ?_, ?_⟩, ?_, rfl, .cons 0 rfl .nil⟩
              · dsimp only; omega
              · dsimp only; omega
              · dsimp only; omega
              · exact hI
              · dsimp only; omega
      · rw [List.drop_eq_nil_of_le (by omega), runes_nil, List.map_nil, digLoop] at hI
        rw [digitsR_some (l := l) hl' hI.symm]
        cases hok : ok with
        | true =>
          refine go ?_
          refine VRet.mk [] .nil ?_
          simp [hm]
        | false =>
          refine go ?_
          refine VRet.mk [] .nil ?_
          simp [hm]
    | false =>
      rw [h2] at g2
      refine Fn.use (g2) (go ?_)
      have hm : minusB l = false := by simp [minusB, h1, h2]
      have hl' : l = if minusB l then l.drop (dec l).2 else l := by simp [hm]
      refine VAll.mk (fun b => go ?_)
      refine VLoop.mk [2, 4, 8] DigI (fun i => [.int .i64 i.n, .bool i.ok, .int .i32 i.z]) (fun i => [(b, .siter l i.p)])
        (fun i => i.p ≤ l.length ∧ (0 ≤ i.n ∧ i.n ≤ 1152921504606846976) ∧ (-1 ≤ i.z ∧ i.z ≤ 65296) ∧ digLoop ((runes (l.drop i.p)).map (·.1)) i.n i.ok i.z = digLoop ((runes l).map (·.1)) 0 true (-1)) (fun i => l.length - i.p) ⟨0, 0, true, -1⟩ ?_ ?_
      · exact ⟨⟨by simp, by simp, by simp, by simp⟩, rfl, .cons 0 rfl .nil⟩
      rintro ⟨p, n, ok, z⟩ ⟨hp, hn, hz, hI⟩
      dsimp only at hp hn hz hI ⊢
      refine go ?_
      refine fork (fun hlt => go ?_) (fun hlt => go ?_)
      · have hne' : l.drop p ≠ [] := by simp; omega
        have hc := dec_pos _ hne'
        have hru := runes_cons hne'
        rw [← dec_at] at hc hru
        generalize hdc : Utf8.decode ⟨⟨l⟩⟩ p = c
        rw [hdc] at hc hru
        rw [List.length_drop] at hc
        rw [List.drop_drop] at hru
        rw [hru, List.map_cons, digLoop] at hI
        obtain ⟨r, k⟩ := c
        dsimp only at hc hru hI ⊢
        refine Fn.use (f29_digR r (by omega)) (go ?_)
        cases hd : digR r with
        | none =>
          rw [hd] at hI
          dsimp only at hI
          refine go ?_
          refine VRet.mk [] .nil ?_
          rw [digitsR_none (l := l) hl' hI.symm]
          simp
        | some dz =>
          obtain ⟨d, z'⟩ := dz
          have hb := digR_bound hd
          rw [hd] at hI
          dsimp only at hI
          refine go ?_
          refine fork (fun hz0 => go ?_) (fun hz0 => go ?_)
          · refine fork (fun hz1 => go ?_) (fun hz1 => go ?_)
            · rw [if_pos ⟨hz0, hz1⟩] at hI
              refine VRet.mk [] .nil ?_
              rw [digitsR_none (l := l) hl' hI.symm]
              simp
            · have hz1 : z' = z := hz1
              rw [if_neg (by simp [hz1])] at hI
              rw [Int.tdiv_eq_ediv_of_nonneg (by omega)]
              refine go ?_
              refine fork (fun hgt => go ?_) (fun hgt => go ?_)
              · rw [if_pos (by omega)] at hI
                refine ⟨⟨p + k, 10 * 0 + d, false, z'⟩, ⟨?_, ?_, ?_, ?_⟩, ?_, rfl, .cons 0 rfl .nil⟩
                · dsimp only; omega
                · dsimp only; omega
                · dsimp only; omega
                · dsimp only; rw [show (10 * 0 + d : Int) = d by omega]; exact hI
                · dsimp only; omega
              · rw [if_neg (by omega)] at hI
                refine ⟨⟨p + k, 10 * n + d, ok, z'⟩, ⟨?_, ?_, ?_, ?_⟩, ?_, rfl, .cons 0 rfl .nil⟩
                · dsimp only; omega
                · dsimp only; omega
                · dsimp only; omega
                · exact hI
                · dsimp only; omega
          · rw [if_neg (fun h => hz0 h.1)] at hI
            rw [Int.tdiv_eq_ediv_of_nonneg (by omega)]
            refine go ?_
            refine fork (fun hgt => go ?_) (fun hgt => go ?_)
            · rw [if_pos (by omega)] at hI
              refine ⟨⟨p + k, 10 * 0 + d, false, z'⟩, ⟨?_, ?_, ?_, ?_⟩, ?_, rfl, .cons 0 rfl .nil⟩
              · dsimp only; omega
              · dsimp only; omega
              · dsimp only; omega
              · dsimp only; rw [show (10 * 0 + d : Int) = d by omega]; exact hI
              · dsimp only; omega
            · rw [if_neg (by omega)] at hI
              refine ⟨⟨p + k, 10 * n + d, ok, z'⟩, ⟨?_, ?_, ?_, ?_⟩, ?_, rfl, .cons 0 rfl .nil⟩
              · dsimp only; omega
              · dsimp only; omega
              · dsimp only; omega
              · exact hI
              · dsimp only; omega
      · rw [List.drop_eq_nil_of_le (by omega), runes_nil, List.map_nil, digLoop] at hI
        rw [digitsR_some (l := l) hl' hI.symm]
        cases hok : ok with
        | true =>
          refine go ?_
          refine VRet.mk [] .nil ?_
          simp [hm]
        | false =>
          refine go ?_
          refine VRet.mk [] .nil ?_
          simp [hm]
end Go.Proofs.YtliabblchkgclaaDoor

namespace Go.Proofs.YtliabblchkgclaaDoor
open Go Go.Av
/-- May a character stand in a name? -/
def okCh (first : Bool) (r : Nat) : Bool := !(decide (r = 65533) || blankB r || decide (r < 32) || decide (r = 127) || (first && decide (r = 34)))
def okAll : Bool → List Nat → Bool
  | _, [] => true
  | f, r :: rs => okCh f r && okAll false rs
def chars (l : List UInt8) : List Nat := (runes l).map (·.1)
def nameR (l : List UInt8) : Bool := okAll true (chars l) && (decide (1 ≤ (chars l).length) && decide ((chars l).length ≤ 32) && decide (l ≠ [33]) && !(digitsR l).2.1)
theorem chars_cons {l : List UInt8} (h : l ≠ []) : chars l = (dec l).1 :: chars (l.drop (dec l).2) := by simp [chars, runes_cons h]
theorem nameR_bad {l : List UInt8} (h : okAll true (chars l) = false) : nameR l = false := by simp [nameR, h]


theorem f11_of (l : List UInt8) (hlen : l.length ≤ 4611686018427387904) : Av.Fn Tryd.prog 67 [.str l] (.bool (nameR l)) := by
  refine ACalls.of_W tb_ok (fn := Tryd.f67) (n := 59) (by kernel_rfl) rfl (by kernel_rfl) rfl rfl (by simp) (go ?_)
  refine VAll.mk (fun b => go ?_)
  refine VLoop.mk [3] (Nat × Nat) (fun i => [.int .i64 i.2]) (fun i => [(b, .siter l i.1)])
    (fun i => i.1 ≤ l.length ∧ i.2 ≤ i.1 ∧ (okAll (decide (i.1 = 0)) (chars (l.drop i.1)) = okAll true (chars l) ∧ i.2 + (chars (l.drop i.1)).length = (chars l).length)) (fun i => l.length - i.1) ⟨0, 0⟩ ?_ ?_
  · exact ⟨⟨by simp, by simp, by simp, by simp⟩, rfl, .cons 0 rfl .nil⟩
  rintro ⟨p, n⟩ ⟨hp, hn, hI⟩
  dsimp only at hp hn hI ⊢
  refine go ?_
  refine fork (fun hlt => go ?_) (fun hlt => go ?_)
  · have hne' : l.drop p ≠ [] := by simp; omega
    have hc := dec_pos _ hne'
    rw [chars_cons hne', List.length_drop] at *
    rw [← dec_at] at hc hI
    generalize hdc : Utf8.decode ⟨⟨l⟩⟩ p = c
    rw [hdc] at hc hI
    rw [List.drop_drop] at hI
    obtain ⟨r, k⟩ := c
    dsimp only at hc hI ⊢
    refine fork (fun a1 => go ?_) (fun a1 => go ?_)
    · have a1 : r = 65533 := by omega
      refine VRet.mk [] .nil ?_
      rw [nameR_bad (by rw [← hI.1]; simp [okAll, okCh, a1])]
      simp
    · have hb := f18_of r (by omega)
      cases a2 : blankB r with
      | true =>
        rw [a2] at hb
        refine Fn.use (hb) (go ?_)
        refine VRet.mk [] .nil ?_
        rw [nameR_bad (by rw [← hI.1]; simp [okAll, okCh, a2])]
        simp
      | false =>
        rw [a2] at hb
        refine Fn.use (hb) (go ?_)
        refine fork (fun a3 => go ?_) (fun a3 => go ?_)
        · have a3 : r < 32 := by omega
          refine VRet.mk [] .nil ?_
          rw [nameR_bad (by rw [← hI.1]; simp [okAll, okCh, a3])]
          simp
        · have a3 : ¬ r < 32 := by omega
          refine fork (fun a4 => go ?_) (fun a4 => go ?_)
          · have a4 : r = 127 := by omega
            refine VRet.mk [] .nil ?_
            rw [nameR_bad (by rw [← hI.1]; simp [okAll, okCh, a4])]
            simp
          · have a4 : ¬ r = 127 := by omega
            have a1 : ¬ r = 65533 := by omega
            refine fork (fun a5 => go ?_) (fun a5 => go ?_)
            · have a5 : p = 0 := by omega
              refine fork (fun a6 => go ?_) (fun a6 => go ?_)
              · have a6 : r = 34 := by omega
                refine VRet.mk [] .nil ?_
                rw [nameR_bad (by rw [← hI.1]; simp [okAll, okCh, a5, a6])]
                simp
              · have a6 : ¬ r = 34 := by omega
                refine ⟨⟨p + k, n + 1⟩, ⟨?_, ?_, ?_⟩, ?_, rfl, .cons 0 rfl .nil⟩
                · dsimp only; omega
                · dsimp only; omega
                · dsimp only
                  refine ⟨?_, ?_⟩
                  · rw [← hI.1, okAll, decide_eq_false (show ¬ p + k = 0 by omega)]
                    have : okCh (decide (p = 0)) r = true := by simp [okCh, a1, a2, a3, a4, a6]; try omega
                    rw [this, Bool.true_and]
                  · rw [← hI.2, List.length_cons]; omega
                · dsimp only; omega
            · have a5 : ¬ p = 0 := by omega
              refine ⟨⟨p + k, n + 1⟩, ⟨?_, ?_, ?_⟩, ?_, rfl, .cons 0 rfl .nil⟩
              · dsimp only; omega
              · dsimp only; omega
              · dsimp only
                refine ⟨?_, ?_⟩
                · rw [← hI.1, okAll, decide_eq_false (show ¬ p + k = 0 by omega)]
                  have : okCh (decide (p = 0)) r = true := by simp [okCh, a1, a2, a3, a4, a5]; try omega
                  rw [this, Bool.true_and]
                · rw [← hI.2, List.length_cons]; omega
              · dsimp only; omega
  · have h17 := f17_of l
    rw [List.drop_eq_nil_of_le (by omega)] at hI
    have hok : okAll true (chars l) = true := by rw [← hI.1]; rfl
    have hct : (chars l).length = n := by rw [← hI.2]; simp [chars]
    cases hd : (digitsR l).2.1 with
    | true =>
      rw [hd] at h17
      refine Fn.use (h17) (go ?_)
      refine fork (fun b1 => go ?_) (fun b1 => go ?_)
      · refine fork (fun b2 => go ?_) (fun b2 => go ?_)
        · refine fork (fun b3 => go ?_) (fun b3 => go ?_)
          · refine VRet.mk [] .nil ?_
            simp [nameR, hok, hct, hd]
          · refine VRet.mk [] .nil ?_
            simp [nameR, hok, hct, hd]
        · refine VRet.mk [] .nil ?_
          simp [nameR, hok, hct, hd]
      · refine VRet.mk [] .nil ?_
        simp [nameR, hok, hct, hd]
    | false =>
      rw [hd] at h17
      refine Fn.use (h17) (go ?_)
      refine fork (fun b1 => go ?_) (fun b1 => go ?_)
      · refine fork (fun b2 => go ?_) (fun b2 => go ?_)
        · refine fork (fun b3 => go ?_) (fun b3 => go ?_)
          · refine VRet.mk [] .nil ?_
            simp [nameR, hok, hct, hd]
            exact ⟨⟨by omega, by omega⟩, b3⟩
          · refine VRet.mk [] .nil ?_
            simp [nameR, hok, hct, hd]
            exact fun _ _ => b3
        · refine VRet.mk [] .nil ?_
          simp [nameR, hok, hct, hd]
          intros; omega
      · refine VRet.mk [] .nil ?_
        simp [nameR, hok, hct, hd]
        intros; omega
end Go.Proofs.YtliabblchkgclaaDoor

namespace Go.Proofs.YtliabblchkgclaaDoor
open Go Go.Av
structure Tok where
  kind : Int
  text : List UInt8
  n : Int
  pos : Int
  deriving DecidableEq
def trimL (l : List UInt8) : List UInt8 := l.drop (spanR (fun r => !blankB r) (runes l))
def wlen (l : List UInt8) : Nat := spanR (fun r => blankB r) (runes l)
inductive TStep where
  | stop
  | skip (l : List UInt8)
  | bad (p e : Int)
  | tok (t : Tok) (l : List UInt8)
  deriving DecidableEq
/-- The next token, where so many bytes are in the whole. -/
def tokAt (N : Nat) (r : List UInt8) : TStep :=
  if r.take (wlen r) = [33] then
    (if Lib.indexByte r 10 < 0 then .stop else .skip (r.drop (Lib.indexByte r 10).toNat))
  else match r.take (wlen r) with
    | [] => .stop
    | c :: _ => if c = 34 then
        (if (textL (N - r.length) (r.drop 1) [] (N - r.length + 1)).2.2 = 0
          then .tok ⟨3, (textL (N - r.length) (r.drop 1) [] (N - r.length + 1)).1, 0, (N - r.length : Nat)⟩ (r.drop ((textL (N - r.length) (r.drop 1) [] (N - r.length + 1)).2.1 - (N - r.length : Nat)).toNat)
          else .bad (textL (N - r.length) (r.drop 1) [] (N - r.length + 1)).2.1 (textL (N - r.length) (r.drop 1) [] (N - r.length + 1)).2.2)
      else if (digitsR (r.take (wlen r))).2.1 then
        (if (digitsR (r.take (wlen r))).2.2 then .tok ⟨2, [], (digitsR (r.take (wlen r))).1, (N - r.length : Nat)⟩ (r.drop (wlen r)) else .bad (N - r.length : Nat) 11)
      else if nameR (r.take (wlen r)) then .tok ⟨1, r.take (wlen r), 0, (N - r.length : Nat)⟩ (r.drop (wlen r)) else .bad (N - r.length : Nat) 10
def toksN (N : Nat) : Nat → List UInt8 → List Tok → List Tok × Int × Int
  | 0, _, _ => ([], 0, -1)
  | k + 1, l, out => if l = [] then (out, 0, 0) else match tokAt N (trimL l) with
    | .stop => (out, 0, 0)
    | .skip l' => toksN N k l' out
    | .bad p e => ([], p, e)
    | .tok t l' => if out.length ≥ 4096 then ([], t.pos, 11) else toksN N k l' (out ++ [t])
def toks (N : Nat) (l : List UInt8) (out : List Tok) : List Tok × Int × Int := toksN N (l.length + 1) l out
def tokensR (s : List UInt8) : List Tok × Int × Int :=
  if s.length > 65536 then ([], 0, 11) else match faultR s with
    | some i => ([], i, 8)
    | none => toks s.length s []
def Tok.cells (t : Tok) : List AV := [.int .i64 t.kind, .str t.text, .int .i64 t.n, .int .i64 t.pos]
def toksC (l : List Tok) : List AV := (l.map Tok.cells).flatten
@[simp] theorem toksC_length (l : List Tok) : (toksC l).length = l.length * 4 := by
  induction l with
  | nil => rfl
  | cons t l ih => show (t.cells ++ toksC l).length = _; rw [List.length_append, ih]; simp [Tok.cells]; omega
theorem toksC_snoc (l : List Tok) (t : Tok) : toksC (l ++ [t]) = toksC l ++ t.cells := by simp [toksC]
theorem trimL_le (l : List UInt8) : (trimL l).length ≤ l.length := by simp [trimL]
theorem wlen_le (l : List UInt8) : wlen l ≤ l.length := spanR_le _ _
theorem indexByte_lt : ∀ (l : List UInt8) (c : UInt8), Lib.indexByte l c < l.length ∧ -1 ≤ Lib.indexByte l c
  | [], c => by simp [Lib.indexByte]
  | b :: l, c => by
    have := indexByte_lt l c
    unfold Lib.indexByte
    simp only [beq_iff_eq, List.length_cons]
    repeat' split
    all_goals omega
theorem textL_next (a : Nat) : ∀ (r acc : List UInt8) (i : Nat), (textL a r acc i).2.2 = 0 → (i : Int) + 1 ≤ (textL a r acc i).2.1 ∧ (textL a r acc i).2.1 ≤ i + r.length
  | [], acc, i, h => by simp [textL] at h
  | c :: r, acc, i, h => by
    rw [textL_cons] at h ⊢
    by_cases h1 : c = 34
    · rw [if_pos h1] at h ⊢
      by_cases h2 : acc.length > 4096
      · rw [if_pos h2] at h; simp at h
      · rw [if_neg h2]; simp; omega
    · rw [if_neg h1] at h ⊢
      by_cases h2 : c = 92
      · rw [if_pos h2] at h ⊢
        match r with
        | [] => simp at h
        | d :: r' =>
          dsimp only at h ⊢
          cases he : esc d with
          | none => rw [he] at h; simp at h
          | some e =>
            rw [he] at h
            dsimp only at h ⊢
            have := textL_next a r' (acc ++ [e]) (i + 2) h
            simp; omega
      · rw [if_neg h2] at h ⊢
        have := textL_next a r (acc ++ [c]) (i + 1) h
        simp; omega
/-- A step takes something away. -/
theorem tokAt_less {N : Nat} {r l' : List UInt8} (h : tokAt N r = .skip l' ∨ ∃ t, tokAt N r = .tok t l') : l'.length < r.length ∧ ∃ k, l' = r.drop k := by
  have hw := wlen_le r
  unfold tokAt at h
  by_cases h1 : r.take (wlen r) = [33]
  · rw [if_pos h1] at h
    have hb := indexByte_lt r 10
    by_cases h2 : Lib.indexByte r 10 < 0
    · rw [if_pos h2] at h; simp at h
    · rw [if_neg h2] at h
      simp at h
      subst h
      refine ⟨?_, _, rfl⟩
      have h3 : Lib.indexByte r 10 ≠ 0 := by
        cases r with
        | nil => simp at h1
        | cons c r =>
          have hc : c = 33 := by
            cases hn : wlen (c :: r) with
            | zero => rw [hn] at h1; simp at h1
            | succ n => rw [hn] at h1; simp at h1; exact h1.1
          subst hc
          unfold Lib.indexByte
          have := indexByte_lt r 10
          simp only [beq_iff_eq]
          rw [if_neg (by decide)]
          split
          all_goals omega
      rw [List.length_drop]; omega
  · rw [if_neg h1] at h
    cases hr : r.take (wlen r) with
    | nil => rw [hr] at h; simp at h
    | cons c q =>
      have hw0 : 0 < wlen r := by
        rcases Nat.eq_zero_or_pos (wlen r) with h0 | h0
        · rw [h0] at hr; simp at hr
        · exact h0
      have hcut : (r.drop (wlen r)).length < r.length := by rw [List.length_drop]; omega
      rw [hr] at h
      dsimp only at h
      by_cases hq : c = 34
      · rw [if_pos hq] at h
        by_cases he : (textL (N - r.length) (r.drop 1) [] (N - r.length + 1)).2.2 = 0
        · rw [if_pos he] at h
          obtain h | ⟨t, h⟩ := h
          · cases h
          · injection h with _ h
            subst h
            have := textL_next _ _ _ _ he
            refine ⟨?_, _, rfl⟩
            rw [List.length_drop]; omega
        · rw [if_neg he] at h; simp at h
      · rw [if_neg hq] at h
        cases hd : (digitsR (c :: q)).2.1 with
        | true =>
          rw [hd, if_pos rfl] at h
          cases ho : (digitsR (c :: q)).2.2 with
          | true => rw [ho, if_pos rfl] at h; simp at h; subst h; exact ⟨hcut, _, rfl⟩
          | false => rw [ho, if_neg (by simp)] at h; simp at h
        | false =>
          rw [hd, if_neg (by simp)] at h
          cases ho : nameR (c :: q) with
          | true => rw [ho, if_pos rfl] at h; simp at h; subst h; exact ⟨hcut, _, rfl⟩
          | false => rw [ho, if_neg (by simp)] at h; simp at h
theorem trimL_drop (l : List UInt8) : ∃ k, trimL l = l.drop k := ⟨_, rfl⟩
theorem toksN_eq (N : Nat) : ∀ (k : Nat) (l : List UInt8) (out : List Tok), l.length < k → toksN N k l out = toks N l out
  | 0, l, out, h => by omega
  | k + 1, l, out, h => by
    have hl := trimL_le l
    unfold toks
    simp only [toksN]
    by_cases e : l = []
    · rw [if_pos e, if_pos e]
    · rw [if_neg e, if_neg e]
      cases hs : tokAt N (trimL l) with
      | stop => rfl
      | bad p e => rfl
      | skip l' =>
        have := (tokAt_less (.inl hs)).1
        dsimp only
        rw [toksN_eq N k l' out (by omega)]
        obtain ⟨m, hm⟩ : ∃ m, l.length = m + 1 := ⟨l.length - 1, by omega⟩
        rw [hm, toksN_eq N (m + 1) l' out (by omega)]
      | tok t l' =>
        have := (tokAt_less (.inr ⟨t, hs⟩)).1
        dsimp only
        rw [toksN_eq N k l' _ (by omega)]
        obtain ⟨m, hm⟩ : ∃ m, l.length = m + 1 := ⟨l.length - 1, by omega⟩
        rw [hm, toksN_eq N (m + 1) l' _ (by omega)]
theorem toks_step (N : Nat) (l : List UInt8) (out : List Tok) : toks N l out = if l = [] then (out, 0, 0) else match tokAt N (trimL l) with
    | .stop => (out, 0, 0)
    | .skip l' => toks N l' out
    | .bad p e => ([], p, e)
    | .tok t l' => if out.length ≥ 4096 then ([], t.pos, 11) else toks N l' (out ++ [t]) := by
  have hl := trimL_le l
  by_cases e : l = []
  · subst e; rfl
  · unfold toks
    rw [toksN, if_neg e]
    obtain ⟨m, hm⟩ : ∃ m, l.length = m + 1 := ⟨l.length - 1, by cases l with | nil => exact absurd rfl e | cons => simp⟩
    cases hs : tokAt N (trimL l) with
    | stop => rw [if_neg e]
    | bad p e' => rw [if_neg e]
    | skip l' =>
      have := (tokAt_less (.inl hs)).1
      dsimp only
      rw [if_neg e, toksN_eq N _ l' out (by omega)]; rfl
    | tok t l' =>
      have := (tokAt_less (.inr ⟨t, hs⟩)).1
      dsimp only
      rw [if_neg e, toksN_eq N _ l' _ (by omega)]; rfl
end Go.Proofs.YtliabblchkgclaaDoor

namespace Go.Proofs.YtliabblchkgclaaDoor
open Go Go.Av
/-- The table of the primitives: its text. -/
def tableT : List UInt8 := [49, 50, 58, 100, 117, 112, 32, 49, 48, 58, 100, 114, 111, 112, 32, 50, 50, 58, 115, 119, 97, 112, 32, 50, 51, 58, 111, 118, 101, 114, 32, 51, 51, 58, 114, 111, 116, 32, 50, 49, 58, 110, 105, 112, 32, 50, 51, 58, 116, 117, 99, 107, 32, 50, 49, 58, 43, 32, 50, 49, 58, 45, 32, 50, 49, 58, 42, 32, 50, 49, 58, 47, 32, 50, 49, 58, 109, 111, 100, 32, 49, 49, 58, 110, 101, 103, 32, 49, 49, 58, 97, 98, 115, 32, 50, 49, 58, 109, 105, 110, 32, 50, 49, 58, 109, 97, 120, 32, 50, 49, 58, 60, 32, 50, 49, 58, 62, 32, 50, 49, 58, 61, 32, 50, 49, 58, 97, 110, 100, 32, 50, 49, 58, 111, 114, 32, 49, 49, 58, 110, 111, 116, 32, 49, 49, 58, 105, 110, 116, 63, 32, 49, 49, 58, 115, 116, 114, 63, 32, 49, 49, 58, 98, 111, 111, 108, 63, 32, 49, 49, 58, 108, 105, 115, 116, 63, 32, 49, 49, 58, 113, 117, 111, 116, 63, 32, 49, 49, 58, 98, 111, 120, 63, 32, 49, 49, 58, 108, 101, 110, 103, 116, 104, 32, 50, 49, 58, 97, 112, 112, 101, 110, 100, 32, 50, 49, 58, 110, 116, 104, 32, 51, 49, 58, 115, 108, 105, 99, 101, 32, 49, 49, 58, 119, 114, 97, 112, 32, 50, 49, 58, 112, 97, 105, 114, 32, 49, 50, 58, 117, 110, 112, 97, 105, 114, 32, 49, 49, 58, 114, 101, 118, 101, 114, 115, 101, 32, 50, 49, 58, 99, 117, 114, 114, 121, 32, 50, 49, 58, 99, 111, 109, 112, 111, 115, 101, 32, 49, 49, 58, 62, 115, 116, 114, 32, 49, 49, 58, 62, 105, 110, 116, 32, 99, 97, 108, 108, 32, 100, 105, 112, 32, 107, 101, 101, 112, 32, 105, 102, 32, 119, 104, 101, 110, 32, 116, 105, 109, 101, 115, 32, 101, 97, 99, 104, 32, 108, 111, 111, 112, 32, 49, 49, 58, 98, 111, 120, 32, 49, 49, 58, 103, 101, 116, 32, 50, 48, 58, 112, 117, 116, 32, 49, 48, 58, 46]
/-- A name with its effect, if it has one of its own. -/
structure PrimE where
  name : List UInt8
  eff : Option (Nat × Nat)
/-- The primitives in order. -/
def primsL : List PrimE := [⟨[100, 117, 112], some (1, 2)⟩,
  ⟨[100, 114, 111, 112], some (1, 0)⟩,
  ⟨[115, 119, 97, 112], some (2, 2)⟩,
  ⟨[111, 118, 101, 114], some (2, 3)⟩,
  ⟨[114, 111, 116], some (3, 3)⟩,
  ⟨[110, 105, 112], some (2, 1)⟩,
  ⟨[116, 117, 99, 107], some (2, 3)⟩,
  ⟨[43], some (2, 1)⟩,
  ⟨[45], some (2, 1)⟩,
  ⟨[42], some (2, 1)⟩,
  ⟨[47], some (2, 1)⟩,
  ⟨[109, 111, 100], some (2, 1)⟩,
  ⟨[110, 101, 103], some (1, 1)⟩,
  ⟨[97, 98, 115], some (1, 1)⟩,
  ⟨[109, 105, 110], some (2, 1)⟩,
  ⟨[109, 97, 120], some (2, 1)⟩,
  ⟨[60], some (2, 1)⟩,
  ⟨[62], some (2, 1)⟩,
  ⟨[61], some (2, 1)⟩,
  ⟨[97, 110, 100], some (2, 1)⟩,
  ⟨[111, 114], some (2, 1)⟩,
  ⟨[110, 111, 116], some (1, 1)⟩,
  ⟨[105, 110, 116, 63], some (1, 1)⟩,
  ⟨[115, 116, 114, 63], some (1, 1)⟩,
  ⟨[98, 111, 111, 108, 63], some (1, 1)⟩,
  ⟨[108, 105, 115, 116, 63], some (1, 1)⟩,
  ⟨[113, 117, 111, 116, 63], some (1, 1)⟩,
  ⟨[98, 111, 120, 63], some (1, 1)⟩,
  ⟨[108, 101, 110, 103, 116, 104], some (1, 1)⟩,
  ⟨[97, 112, 112, 101, 110, 100], some (2, 1)⟩,
  ⟨[110, 116, 104], some (2, 1)⟩,
  ⟨[115, 108, 105, 99, 101], some (3, 1)⟩,
  ⟨[119, 114, 97, 112], some (1, 1)⟩,
  ⟨[112, 97, 105, 114], some (2, 1)⟩,
  ⟨[117, 110, 112, 97, 105, 114], some (1, 2)⟩,
  ⟨[114, 101, 118, 101, 114, 115, 101], some (1, 1)⟩,
  ⟨[99, 117, 114, 114, 121], some (2, 1)⟩,
  ⟨[99, 111, 109, 112, 111, 115, 101], some (2, 1)⟩,
  ⟨[62, 115, 116, 114], some (1, 1)⟩,
  ⟨[62, 105, 110, 116], some (1, 1)⟩,
  ⟨[99, 97, 108, 108], none⟩,
  ⟨[100, 105, 112], none⟩,
  ⟨[107, 101, 101, 112], none⟩,
  ⟨[105, 102], none⟩,
  ⟨[119, 104, 101, 110], none⟩,
  ⟨[116, 105, 109, 101, 115], none⟩,
  ⟨[101, 97, 99, 104], none⟩,
  ⟨[108, 111, 111, 112], none⟩,
  ⟨[98, 111, 120], some (1, 1)⟩,
  ⟨[103, 101, 116], some (1, 1)⟩,
  ⟨[112, 117, 116], some (2, 0)⟩,
  ⟨[46], some (1, 0)⟩]
def namesL : List (List UInt8) := primsL.map (·.name)
def primR (s : List UInt8) : Option (Nat × Nat) := (primsL.find? fun p => p.eff.isSome && decide (p.name = s)).bind (·.eff)
/-- The primitives that move values: which they put back, from the bottom up. -/
def moveR (s : List UInt8) : Option (Nat × List Nat) :=
  if s = [100, 117, 112] then some (1, [0, 0]) else if s = [100, 114, 111, 112] then some (1, []) else if s = [115, 119, 97, 112] then some (2, [1, 0])
  else if s = [111, 118, 101, 114] then some (2, [0, 1, 0]) else if s = [114, 111, 116] then some (3, [1, 2, 0]) else if s = [110, 105, 112] then some (2, [1])
  else if s = [116, 117, 99, 107] then some (2, [1, 0, 1]) else none
/-- What stands on the list: a quotation that is known, or none. -/
abbrev Slot := Option (List Tree)
/-- An inference: how many items may still come; how many were taken from below; the list, its top first. -/
structure EfS where
  left : Nat
  inn : Int
  stk : List Slot
def popS (s : EfS) : Slot × EfS := match s.stk with
  | [] => (none, { s with inn := s.inn + 1 })
  | x :: r => (x, { s with stk := r })
/-- So many are taken: the last taken first. -/
def popsS : Nat → EfS → List Slot × EfS
  | 0, s => ([], s)
  | n + 1, s => ((popsS n (popS s).2).1 ++ [(popS s).1], (popsS n (popS s).2).2)
def pushS (s : EfS) (x : Slot) : EfS := { s with stk := x :: s.stk }
def applyS (i o : Nat) (s : EfS) : EfS := let t := (popsS i s).2; { t with stk := List.replicate o none ++ t.stk }
def quotS (s : EfS) : Except Int (List Tree × EfS) := match popS s with
  | (some l, t) => .ok (l, t)
  | (none, _) => .error 12
def slotOf : Tree → Slot
  | .quot l => some l
  | _ => none
def movesS (n : Nat) (ks : List Nat) (s : EfS) : EfS := ks.foldl (fun t k => pushS t ((popsS n s).1.getD k none)) (popsS n s).2
/-- A quotation by itself: what it takes and leaves. -/
def ownS (run : List Tree → EfS → Except Int EfS) (q : List Tree) (s : EfS) : Except Int (Int × Int × EfS) := match run q ⟨s.left, 0, []⟩ with
  | .ok t => .ok (t.inn, (t.stk.length : Int), { s with left := t.left })
  | .error e => .error e
/-- The primitives that call quotations; none: it is none of them. -/
def controlS (run : List Tree → EfS → Except Int EfS) (name : List UInt8) (s : EfS) : Option (Except Int EfS) :=
  if name = [99, 97, 108, 108] then some (match quotS s with
    | .error e => .error e
    | .ok (q, s) => run q s)
  else if name = [100, 105, 112] then some (match quotS s with
    | .error e => .error e
    | .ok (q, s) => match run q (popS s).2 with
      | .error e => .error e
      | .ok t => .ok (pushS t (popS s).1))
  else if name = [107, 101, 101, 112] then some (match quotS s with
    | .error e => .error e
    | .ok (q, s) => match run q (pushS (popS s).2 (popS s).1) with
      | .error e => .error e
      | .ok t => .ok (pushS t (popS s).1))
  else if name = [105, 102] then some (match quotS s with
    | .error e => .error e
    | .ok (b, s) => match quotS s with
      | .error e => .error e
      | .ok (a, s) => match ownS run a (popS s).2 with
        | .error e => .error e
        | .ok (ai, ao, s) => match ownS run b s with
          | .error e => .error e
          | .ok (bi, bo, s) => if ao - ai = bo - bi then .ok (applyS (max ai bi).toNat (max ai bi + ao - ai).toNat s) else .error 12)
  else if name = [119, 104, 101, 110] ∨ name = [116, 105, 109, 101, 115] then some (match quotS s with
    | .error e => .error e
    | .ok (q, s) => match ownS run q (popS s).2 with
      | .error e => .error e
      | .ok (ai, ao, s) => if ai = ao then .ok (applyS ai.toNat ao.toNat s) else .error 12)
  else if name = [108, 111, 111, 112] then some (match quotS s with
    | .error e => .error e
    | .ok (q, s) => match ownS run q s with
      | .error e => .error e
      | .ok (ai, ao, s) => if ao = ai + 1 then .ok (applyS ai.toNat ai.toNat s) else .error 12)
  else if name = [101, 97, 99, 104] then some (match quotS s with
    | .error e => .error e
    | .ok (q, s) => match ownS run q (popS s).2 with
      | .error e => .error e
      | .ok (ai, ao, s) => if 1 ≤ ai ∧ ao = ai - 1 then .ok (applyS ao.toNat ao.toNat s) else .error 12)
  else none
/-- One item. -/
def stepS (run : List Tree → EfS → Except Int EfS) (known : List UInt8 → Option (Int × Int)) (y : Tree) (s : EfS) : Except Int EfS :=
  match y with
  | .call name => match moveR name with
    | some (k, ks) => .ok (movesS k ks s)
    | none => match controlS run name s with
      | some r => r
      | none => match primR name with
        | some (i, o) => .ok (applyS i o s)
        | none => match known name with
          | some (i, o) => .ok (applyS i.toNat o.toNat s)
          | none => .error 10
  | t => .ok (pushS s (slotOf t))
/-- Items, one after the other. -/
def runS (known : List UInt8 → Option (Int × Int)) : Nat → List Tree → EfS → Except Int EfS
  | _, [], s => .ok s
  | 0, _ :: _, _ => .error 11
  | n + 1, y :: r, s => if s.left = 0 then .error 11 else
    match stepS (fun q s => runS known n q s) known y { s with left := s.left - 1 } with
    | .error e => .error e
    | .ok t => runS known n r t
end Go.Proofs.YtliabblchkgclaaDoor

namespace Go.Proofs.YtliabblchkgclaaDoor
open Go Go.Av
theorem fn_IndexByteL (l : List UInt8) (c : Int) : Av.Fn Tryd.prog 59 [.str l, .int .u8 c] (.int .i64 (Lib.indexByte l c.toNat.toUInt8)) := by
  refine Fn.of_calls (fn := Tryd.f59) (by kernel_rfl) rfl (by kernel_rfl) ?_
  intro W w g us hl hr hb
  obtain ⟨u1, _, rfl, ⟨h1, _⟩, u2, _, rfl, ⟨h2, _⟩, h3⟩ := hr
  have h1 : u1 = _ := h1; have h2 : u2 = _ := h2; have h3 : _ = [] := h3
  subst h1; subst h2; subst h3
  refine (Tryd.stringslite_IndexByte ⟨⟨l⟩⟩ c w).mono fun e w' ⟨h1, h2⟩ => ?_
  subst h2
  exact ⟨_, h1, rfl, RowKit.Below.refl _ _⟩
/-- The table's words. -/
def wordsL : List (List UInt8) := Lib.fields tableT
theorem f_Fields : Av.Fn Tryd.prog 28 [.str tableT] (.fz (wordsL.map .str) wordsL.length true) := by
  refine Fn.of_texts (fn := Tryd.f28) (by kernel_rfl) rfl (by kernel_rfl) ?_
  intro W w g us hl hr hb
  obtain ⟨u1, _, rfl, ⟨h1, _⟩, h3⟩ := hr
  have h1 : u1 = _ := h1; have h3 : _ = [] := h3
  subst h1; subst h3
  have hsz : tableT.length < 4294967281 := by decide
  have hasc : tableT.all (fun b => decide (b.toNat < 128)) = true := by decide +kernel
  refine (Tryd.strings_Fields ⟨⟨tableT⟩⟩ w hsz (fun j b h => ?_) (hl.space (a := 0) hb (by kernel_rfl))).mono fun e w' ⟨h1, h2⟩ => ⟨_, h1, h2⟩
  exact of_decide_eq_true (List.all_eq_true.1 hasc b (List.mem_of_getElem? h))
theorem f_Index (w : List UInt8) : Av.Fn Tryd.prog 53 [.str w, .str [58]] (.int .i64 (Lib.indexByte w 58)) := by
  have h : Av.Fn Tryd.prog 59 [.str w, .int .u8 58] (.int .i64 (Lib.indexByte w 58)) := fn_IndexByteL w 58
  refine ACalls.of_W tb_ok (fn := Tryd.f53) (n := 143) (by kernel_rfl) rfl (by kernel_rfl) rfl rfl (by simp) (go ?_)
  refine fork (fun h0 => go ?_) (fun h0 => go ?_)
  · refine VRet.mk [] .nil ?_
    have : w = [58] := (of_decide_eq_true (by simpa using h0)) |> Eq.symm
    subst this
    rw [show Lib.indexByte [58] 58 = 0 by decide]
    exact ⟨rfl, rfl⟩
  · refine Fn.use (h) (go ?_)
    refine VRet.mk [] .nil ?_
    exact ⟨rfl, rfl⟩
/-- A text, cut at its first colon. -/
def cutR (w : List UInt8) : List UInt8 × List UInt8 × Bool := if 0 ≤ Lib.indexByte w 58 then (w.take (Lib.indexByte w 58).toNat, w.drop ((Lib.indexByte w 58).toNat + 1), true) else (w, [], false)
theorem f_sCut (w : List UInt8) (hw : w.length ≤ 140737488351232) : Av.Fn Tryd.prog 43 [.str w, .str [58]] (.tup [.str (cutR w).1, .str (cutR w).2.1, .bool (cutR w).2.2]) := by
  have hb := indexByte_lt w 58
  have hi := f_Index w
  unfold cutR
  generalize Lib.indexByte w 58 = i at hb hi ⊢
  refine ACalls.of_W tb_ok (fn := Tryd.f43) (n := 23) (by kernel_rfl) rfl (by kernel_rfl) rfl rfl (by simp) (go ?_)
  refine Fn.use (hi) (go ?_)
  refine fork (fun h => go ?_) (fun h => go ?_)
  · rw [if_pos h]
    obtain ⟨k, rfl⟩ := Int.eq_ofNat_of_zero_le h
    have hk : k < w.length := by omega
    refine VQ.mk (.str (w.take k)) (go ?_) (go ?_)
    · exact ⟨rfl, rfl⟩
    refine VQ.mk (.int .i64 ((k : Int) + (([58] : List UInt8).length : Nat))) (by refine go ?_; refine VInt.fit (by show _ ≤ (k : Int) + 1; omega) (by show (k : Int) + 1 ≤ _; omega) (go ?_); exact ⟨rfl, rfl⟩) (go ?_)
    refine VRet.mk [] .nil ?_
    exact ⟨rfl, rfl⟩
  · rw [if_neg h]
    refine VRet.mk [] .nil ?_
    exact ⟨rfl, rfl⟩
theorem f_Cut (w : List UInt8) (hw : w.length ≤ 140737488351232) : Av.Fn Tryd.prog 29 [.str w, .str [58]] (.tup [.str (cutR w).1, .str (cutR w).2.1, .bool (cutR w).2.2]) := by
  refine ACalls.of_W tb_ok (fn := Tryd.f29) (n := 13) (by kernel_rfl) rfl (by kernel_rfl) rfl rfl (by simp) (go ?_)
  refine Fn.use (f_sCut w hw) (go ?_)
  refine VRet.mk [] .nil ?_
  exact ⟨rfl, rfl⟩
def entryR (w : List UInt8) : PrimE := match (cutR w).2.2 with
  | true => ⟨(cutR w).2.1, some (((cutR w).1.getD 0 0).toNat - 48, ((cutR w).1.getD 1 0).toNat - 48)⟩
  | false => ⟨w, none⟩
theorem entries : wordsL.map entryR = primsL := by kernel_rfl
theorem words_length : wordsL.length = 52 := by kernel_rfl
theorem words_ok : (wordsL.all fun w => decide (w.length ≤ 100) && (!(cutR w).2.2 || (decide ((cutR w).1.length = 2) && decide (48 ≤ ((cutR w).1.getD 0 0).toNat) && decide (((cutR w).1.getD 0 0).toNat ≤ 51) && decide (48 ≤ ((cutR w).1.getD 1 0).toNat) && decide (((cutR w).1.getD 1 0).toNat ≤ 51)))) = true := by decide +kernel
theorem word_ok {w : List UInt8} (h : w ∈ wordsL) : w.length ≤ 100 ∧ ((cutR w).2.2 = true → (cutR w).1.length = 2 ∧ 48 ≤ ((cutR w).1.getD 0 0).toNat ∧ ((cutR w).1.getD 0 0).toNat ≤ 51 ∧ 48 ≤ ((cutR w).1.getD 1 0).toNat ∧ ((cutR w).1.getD 1 0).toNat ≤ 51) := by
  have := List.all_eq_true.1 words_ok w h
  simp only [Bool.and_eq_true, Bool.or_eq_true, Bool.not_eq_true', decide_eq_true_eq] at this
  refine ⟨this.1, fun hc => ?_⟩
  rcases this.2 with h | h
  · rw [hc] at h; cases h
  · exact ⟨h.1.1.1.1, h.1.1.1.2, h.1.1.2, h.1.2, h.2⟩
def namesW (l : List (List UInt8)) : List AV := l.map fun w => .str (entryR w).name
theorem namesW_fold (l : List (List UInt8)) : l.map (fun w => AV.str (entryR w).name) = namesW l := rfl
@[simp] theorem namesW_length (l : List (List UInt8)) : (namesW l).length = l.length := by simp [namesW]

theorem f_Names : Av.Fn Tryd.prog 32 [] (.fz (namesL.map .str) 52 false) := by
  have hN : namesL.map AV.str = namesW wordsL := by
    rw [namesL, ← entries, namesW, List.map_map, List.map_map]; rfl
  rw [hN]
  have hF := f_Fields
  have hlen := words_length
  have hok : ∀ w ∈ wordsL, _ := fun w h => word_ok h
  generalize wordsL = l at hF hlen hok ⊢
  refine ACalls.of_W tb_ok (fn := Tryd.f32) (n := 27) (by kernel_rfl) rfl (by kernel_rfl) rfl rfl (by simp) (go ?_)
  refine Fn.use (hF) (go ?_)
  refine VLoop.mk [1, 9] AccI (fun i => [accV i.o i.k, .int .i64 i.k]) (fun i => accS i.o 1 (namesW (l.take i.k))) (fun i => i.k ≤ l.length ∧ (i.o = none → i.k = 0)) (fun i => l.length - i.k) ⟨0, none⟩ ?_ ?_
  · exact ⟨⟨by simp, by simp⟩, rfl, .nil⟩
  rintro ⟨k, o⟩ ⟨hk, ho⟩
  dsimp only at hk ho ⊢
  refine go ?_
  refine fork (fun hlt => go ?_) (fun hlt => ?_)
  · have hlt : k < l.length := by omega
    obtain ⟨t, ht⟩ : ∃ t, l[k]? = some t := ⟨l[k], by simp [hlt]⟩
    have hacc : namesW (l.take (k + 1)) = namesW (l.take k) ++ [.str (entryR t).name] := by
      rw [take_succ_at ht]; simp [namesW]
    have hl2 : (namesW (l.take k)).length = k := by simp [namesW]; omega
    have hw := (hok t (List.mem_of_getElem? ht)).1
    have hC := f_Cut t (by omega)
    have he : ∀ c, (cutR t).2.2 = c → (entryR t).name = if c = true then (cutR t).2.1 else t := fun c hc => by
      unfold entryR; rw [hc]; cases c <;> rfl
    generalize hc : (cutR t).2.2 = c at hC he
    have he := he c rfl
    refine VNth.mk (.str t) (by rw [mulN_eq]; simp [ht]) (go ?_)
    refine Fn.use (hC) (go ?_)
    cases c with
    | true =>
      rw [if_pos rfl] at he
      refine go ?_
      cases o with
      | none =>
        obtain rfl : k = 0 := ho rfl
        refine go ?_
        refine VAll.mk (fun b2 => go ?_)
        refine ⟨⟨1, some b2⟩, ⟨by dsimp only; omega, by simp⟩, by dsimp only; omega, rfl, .cons 0 ?_ .nil⟩
        dsimp only
        rw [hacc, he]; simp [namesW]
      | some bo =>
        refine go ?_
        refine VGd.mk ⟨rfl, by omega, by rw [mulN_eq, hl2]; simp, by simp; omega⟩ (go ?_)
        refine VAll.mk (fun b2 => go ?_)
        refine ⟨⟨k + 1, some b2⟩, ⟨by dsimp only; omega, by simp⟩, by dsimp only; omega, rfl, .cons 0 ?_ .nil⟩
        dsimp only
        rw [hacc, he, mulN_eq, List.take_of_length_le (by rw [hl2]; simp)]; rfl
    | false =>
      rw [if_neg (by simp)] at he
      refine go ?_
      cases o with
      | none =>
        obtain rfl : k = 0 := ho rfl
        refine go ?_
        refine VAll.mk (fun b2 => go ?_)
        refine ⟨⟨1, some b2⟩, ⟨by dsimp only; omega, by simp⟩, by dsimp only; omega, rfl, .cons 0 ?_ .nil⟩
        dsimp only
        rw [hacc, he]; simp [namesW]
      | some bo =>
        refine go ?_
        refine VGd.mk ⟨rfl, by omega, by rw [mulN_eq, hl2]; simp, by simp; omega⟩ (go ?_)
        refine VAll.mk (fun b2 => go ?_)
        refine ⟨⟨k + 1, some b2⟩, ⟨by dsimp only; omega, by simp⟩, by dsimp only; omega, rfl, .cons 0 ?_ .nil⟩
        dsimp only
        rw [hacc, he, mulN_eq, List.take_of_length_le (by rw [hl2]; simp)]; rfl
  · obtain rfl : k = l.length := by omega
    rw [List.take_length]
    cases o with
    | none =>
      have := ho rfl
      omega
    | some bo =>
      refine go ?_
      refine VRet.mk [] .nil ?_
      have hnl : (namesW l).length = l.length := by simp [namesW]
      have htk : (namesW l).take l.length = namesW l := List.take_of_length_le (by omega)
      refine ⟨?_, rfl⟩
      simp only [mulN_eq, Nat.mul_one, htk]
      rw [hlen]
/-- The first that has an effect of its own and this name. -/
def primE (l : List PrimE) (s : List UInt8) : Option (Nat × Nat) := (l.find? fun p => p.eff.isSome && decide (p.name = s)).bind (·.eff)
theorem primE_hit {n s : List UInt8} {x : Nat × Nat} {r : List PrimE} (h : n = s) : primE (⟨n, some x⟩ :: r) s = some x := by
  subst h; simp [primE]
theorem primE_miss {p : PrimE} {s : List UInt8} {r : List PrimE} (h : (p.eff.isSome && decide (p.name = s)) = false) : primE (p :: r) s = primE r s := by
  unfold primE
  rw [List.find?_cons_of_neg (by rw [h]; simp)]
def primV (x : Option (Nat × Nat)) : AV := .tup [.agg [.int .i64 ((x.map (·.1)).getD 0 : Nat), .int .i64 ((x.map (·.2)).getD 0 : Nat)], .bool x.isSome]
theorem f_Prim (s : List UInt8) : Av.Fn Tryd.prog 16 [.str s] (primV (primR s)) := by
  have hN : primR s = primE (wordsL.map entryR) s := by rw [entries]; rfl
  rw [hN]
  have hF := f_Fields
  have hlen := words_length
  have hok : ∀ w ∈ wordsL, _ := fun w h => word_ok h
  generalize wordsL = l at hF hlen hok ⊢
  refine ACalls.of_W tb_ok (fn := Tryd.f16) (n := 38) (by kernel_rfl) rfl (by kernel_rfl) rfl rfl (by simp) (go ?_)
  refine VAll.mk (fun b => go ?_)
  refine Fn.use (hF) (go ?_)
  refine VLoop.mk [11] Nat (fun k => [.int .i64 k]) (fun _ => [(b, .box [.int .i64 0, .int .i64 0])]) (fun k => k ≤ l.length ∧ primE ((l.drop k).map entryR) s = primE (l.map entryR) s) (fun k => l.length - k) 0 ?_ ?_
  · exact ⟨⟨by simp, by simp⟩, rfl, .cons 0 rfl .nil⟩
  rintro k ⟨hk, hI⟩
  dsimp only at hk hI ⊢
  refine go ?_
  refine fork (fun hlt => go ?_) (fun hlt => ?_)
  · have hlt : k < l.length := by omega
    obtain ⟨t, ht⟩ : ∃ t, l[k]? = some t := ⟨l[k], by simp [hlt]⟩
    obtain ⟨hw, hw2⟩ := hok t (List.mem_of_getElem? ht)
    have hC := f_Cut t (by omega)
    have hd : l.drop k = t :: l.drop (k + 1) := by
      rw [List.drop_eq_getElem_cons hlt]
      congr 1
      rw [List.getElem?_eq_getElem hlt] at ht
      exact Option.some.inj ht
    rw [hd, List.map_cons] at hI
    have he : ∀ c, (cutR t).2.2 = c → entryR t = match c with
        | true => ⟨(cutR t).2.1, some (((cutR t).1.getD 0 0).toNat - 48, ((cutR t).1.getD 1 0).toNat - 48)⟩
        | false => ⟨t, none⟩ := fun c hc => by
      unfold entryR; rw [hc]
    generalize hc : (cutR t).2.2 = c at hC he hw2
    have he := he c rfl
    rw [he] at hI
    refine VNth.mk (.str t) (by rw [mulN_eq]; simp [ht]) (go ?_)
    refine Fn.use (hC) (go ?_)
    cases c with
    | true =>
      refine go ?_
      obtain ⟨h1, h2, h3, h4, h5⟩ := hw2 rfl
      refine fork (fun hs => go ?_) (fun hs => go ?_)
      · have hs : (cutR t).2.1 = s := of_decide_eq_true (by simpa using hs)
        refine VDraw.chain [9] (go ?_)
        have d0 : (0 : Int) ≤ (((cutR t).1.getD 0 0).toNat : Int) - 48 ∧ (((cutR t).1.getD 0 0).toNat : Int) - 48 ≤ 3 := by omega
        have d1 : (0 : Int) ≤ (((cutR t).1.getD 1 0).toNat : Int) - 48 ∧ (((cutR t).1.getD 1 0).toNat : Int) - 48 ≤ 3 := by omega
        refine VQ.mk (.int .u8 ((((cutR t).1.getD 0 0).toNat : Int) - 48)) (by refine go ?_; refine VInt.fit d0.1 (Int.le_trans d0.2 (by decide)) (go ?_); exact ⟨rfl, rfl⟩) (go ?_)
        refine VQ.mk (.int .u8 ((((cutR t).1.getD 1 0).toNat : Int) - 48)) (by refine go ?_; refine VInt.fit d1.1 (Int.le_trans d1.2 (by decide)) (go ?_); exact ⟨rfl, rfl⟩) (go ?_)
        refine VRet.mk [] .nil ?_
        rw [← hI, primE_hit hs]
        refine ⟨?_, rfl⟩
        have e0 : ((((cutR t).1.getD 0 0).toNat - 48 : Nat) : Int) = (((cutR t).1.getD 0 0).toNat : Int) - 48 := by omega
        have e1 : ((((cutR t).1.getD 1 0).toNat - 48 : Nat) : Int) = (((cutR t).1.getD 1 0).toNat : Int) - 48 := by omega
        unfold primV
        simp only [Option.map_some, Option.getD_some, Option.isSome_some, e0, e1]
        rfl
      · have hs : ¬ (cutR t).2.1 = s := by simpa using hs
        rw [primE_miss (by simp [hs])] at hI
        exact ⟨k + 1, ⟨by omega, hI⟩, by omega, rfl, .cons 0 rfl .nil⟩
    | false =>
      refine go ?_
      rw [primE_miss (by simp)] at hI
      exact ⟨k + 1, ⟨by omega, hI⟩, by omega, rfl, .cons 0 rfl .nil⟩
  · obtain rfl : k = l.length := by omega
    rw [List.drop_length] at hI
    rw [← hI]
    refine go ?_
    refine VRet.mk [] .nil ?_
    exact ⟨rfl, rfl⟩
end Go.Proofs.YtliabblchkgclaaDoor
