/- The types of the program, as a table. sync.Once of one's own, not yet done: what Do does. Conditions: what the function that is called does is known. sync.Once of one's own, not yet done: doSlow and Do. Conditions: what the function that is called does is known. sync.Once of one's own, not yet done: Do as an abstract call. Conditions: what the function that is called does is known. A replacer of three bytes by texts: how it is made and built. Conditions: none. Functions of Go's library, over abstract values. Functions of Go's library, over abstract values: beginnings of texts. Texts as lists of characters: plain Lean, no program. Conditions: as each says. Lex: text: the string that begins at a place. strings.IndexFunc and strings.TrimLeftFunc, at a function with a contract. Texts that stand one behind the other, and bytes that belong to no character. Conditions: as each says. Lex: fault. Lex: blanks. Lex: is a character a blank? Lex: digits, numbers. Lex: Name. The tokens of a text, as plain Lean tells them. Conditions: none. What stands for a text, and which tokens a text with it has: plain Lean. Conditions: as each says. -/
import Derived.Test.YthmklkggehgijaaDoorX6
import Derived.Test.YthmklkggehgijaaDoorProg
import Derived.Tactics
import Derived.Tactics2
import Derived.Defers
import Derived.Laws.Pointers
import Derived.Laws.LoneSync
import Derived.RegionTactic
import Derived.RegionCalls
import Derived.ChangeAlike
import Derived.Laws.NewBlocks
import Derived.Test.YthmklkggehgijaaDoorX5
import Derived.Lib.TrimUEq
set_option linter.all false
set_option maxRecDepth 20000
namespace Go.Proofs.YthmklkggehgijaaDoor
open Go Go.Av
def tb : Tab := [(1, ⟨.func, 1, 8, [.nilf], false, none⟩),
  (2, ⟨.int .i64, 1, 8, [.int .i64 0], true, none⟩),
  (3, ⟨.int .i64, 1, 8, [.int .i64 0], true, none⟩),
  (4, ⟨.bool, 1, 1, [.bool false], true, none⟩),
  (5, ⟨.int .u8, 1, 1, [.int .u8 0], true, none⟩),
  (6, ⟨.int .u8, 1, 1, [.int .u8 0], true, none⟩),
  (7, ⟨.struct [⟨0, 1, false, 2⟩, ⟨1, 1, false, 3⟩, ⟨2, 1, false, 4⟩, ⟨3, 1, false, 6⟩], 4, 24, [.int .i64 0, .int .i64 0, .bool false, .int .u8 0], false, none⟩),
  (8, ⟨.struct [⟨0, 1, false, 2⟩, ⟨1, 1, false, 3⟩, ⟨2, 1, false, 4⟩, ⟨3, 1, false, 6⟩], 4, 24, [.int .i64 0, .int .i64 0, .bool false, .int .u8 0], false, none⟩),
  (9, ⟨.str, 1, 16, [.str []], true, none⟩),
  (10, ⟨.str, 1, 16, [.str []], true, none⟩),
  (11, ⟨.str, 1, 16, [.str []], true, none⟩),
  (12, ⟨.int .u64, 1, 8, [.int .u64 0], true, none⟩),
  (13, ⟨.struct [⟨0, 1, false, 9⟩, ⟨1, 1, false, 12⟩], 2, 24, [.str [], .int .u64 0], false, none⟩),
  (14, ⟨.struct [⟨0, 1, false, 9⟩, ⟨1, 1, false, 12⟩], 2, 24, [.str [], .int .u64 0], false, none⟩),
  (15, ⟨.ptr 131, 1, 8, [.nilp], false, none⟩),
  (16, ⟨.ptr 134, 1, 8, [.nilp], false, none⟩),
  (17, ⟨.ptr 143, 1, 8, [.nilp], false, none⟩),
  (18, ⟨.struct [⟨0, 1, false, 17⟩], 1, 8, [.nilp], false, none⟩),
  (19, ⟨.struct [⟨0, 1, false, 17⟩], 1, 8, [.nilp], false, none⟩),
  (20, ⟨.iface, 1, 16, [.nili], false, none⟩),
  (21, ⟨.int .i32, 1, 4, [.int .i32 0], true, none⟩),
  (22, ⟨.func, 1, 8, [.nilf], false, none⟩),
  (23, ⟨.int .i64, 1, 8, [.int .i64 0], true, none⟩),
  (25, ⟨.func, 1, 8, [.nilf], false, none⟩),
  (26, ⟨.func, 1, 8, [.nilf], false, none⟩),
  (27, ⟨.slice 31, 1, 24, [.nils], false, none⟩),
  (29, ⟨.func, 1, 8, [.nilf], false, none⟩),
  (30, ⟨.struct [⟨0, 1, false, 3⟩, ⟨1, 1, false, 9⟩, ⟨2, 1, false, 2⟩, ⟨3, 1, false, 3⟩], 4, 40, [.int .i64 0, .str [], .int .i64 0, .int .i64 0], true, none⟩),
  (31, ⟨.struct [⟨0, 1, false, 3⟩, ⟨1, 1, false, 9⟩, ⟨2, 1, false, 2⟩, ⟨3, 1, false, 3⟩], 4, 40, [.int .i64 0, .str [], .int .i64 0, .int .i64 0], true, none⟩),
  (32, ⟨.func, 1, 8, [.nilf], false, none⟩),
  (33, ⟨.func, 1, 8, [.nilf], false, none⟩),
  (34, ⟨.ptr 66, 1, 8, [.nilp], false, none⟩),
  (35, ⟨.func, 1, 8, [.nilf], false, none⟩),
  (36, ⟨.func, 1, 8, [.nilf], false, none⟩),
  (37, ⟨.slice 40, 1, 24, [.nils], false, none⟩),
  (38, ⟨.func, 1, 8, [.nilf], false, none⟩),
  (39, ⟨.struct [⟨0, 1, false, 21⟩, ⟨1, 1, false, 3⟩, ⟨2, 1, false, 3⟩, ⟨3, 1, false, 4⟩], 4, 32, [.int .i32 0, .int .i64 0, .int .i64 0, .bool false], true, none⟩),
  (40, ⟨.struct [⟨0, 1, false, 21⟩, ⟨1, 1, false, 3⟩, ⟨2, 1, false, 3⟩, ⟨3, 1, false, 4⟩], 4, 32, [.int .i32 0, .int .i64 0, .int .i64 0, .bool false], true, none⟩),
  (41, ⟨.func, 1, 8, [.nilf], false, none⟩),
  (42, ⟨.func, 1, 8, [.nilf], false, none⟩),
  (43, ⟨.func, 1, 8, [.nilf], false, none⟩),
  (44, ⟨.func, 1, 8, [.nilf], false, none⟩),
  (46, ⟨.func, 1, 8, [.nilf], false, none⟩),
  (48, ⟨.func, 1, 8, [.nilf], false, none⟩),
  (49, ⟨.func, 1, 8, [.nilf], false, none⟩),
  (50, ⟨.slice 9, 1, 24, [.nils], false, none⟩),
  (51, ⟨.struct [], 0, 0, [], true, none⟩),
  (52, ⟨.struct [], 0, 0, [], true, none⟩),
  (53, ⟨.struct [], 0, 0, [], true, none⟩),
  (54, ⟨.int .u32, 1, 4, [.int .u32 0], true, none⟩),
  (57, ⟨.struct [⟨0, 1, false, 21⟩, ⟨1, 1, false, 54⟩], 2, 8, [.int .i32 0, .int .u32 0], true, none⟩),
  (58, ⟨.struct [⟨0, 1, false, 21⟩, ⟨1, 1, false, 54⟩], 2, 8, [.int .i32 0, .int .u32 0], true, none⟩),
  (63, ⟨.iface, 1, 16, [.nili], false, none⟩),
  (64, ⟨.iface, 1, 16, [.nili], false, none⟩),
  (65, ⟨.struct [⟨0, 3, true, 62⟩, ⟨3, 1, false, 64⟩, ⟨4, 1, false, 50⟩], 5, 56, [.int .u32 0, .int .i32 0, .int .u32 0, .nili, .nils], false, none⟩),
  (66, ⟨.struct [⟨0, 3, true, 62⟩, ⟨3, 1, false, 64⟩, ⟨4, 1, false, 50⟩], 5, 56, [.int .u32 0, .int .i32 0, .int .u32 0, .nili, .nils], false, none⟩),
  (67, ⟨.func, 1, 8, [.nilf], false, none⟩),
  (68, ⟨.func, 1, 8, [.nilf], false, none⟩),
  (69, ⟨.func, 1, 8, [.nilf], false, none⟩),
  (70, ⟨.slice 5, 1, 24, [.nils], false, none⟩),
  (72, ⟨.func, 1, 8, [.nilf], false, none⟩),
  (74, ⟨.func, 1, 8, [.nilf], false, none⟩),
  (75, ⟨.ptr 62, 1, 8, [.nilp], false, none⟩),
  (76, ⟨.func, 1, 8, [.nilf], false, none⟩),
  (77, ⟨.func, 1, 8, [.nilf], false, none⟩),
  (78, ⟨.slice 21, 1, 24, [.nils], false, none⟩),
  (79, ⟨.ptr 56, 1, 8, [.nilp], false, none⟩),
  (80, ⟨.func, 1, 8, [.nilf], false, none⟩),
  (81, ⟨.ptr 54, 1, 8, [.nilp], false, none⟩),
  (82, ⟨.func, 1, 8, [.nilf], false, none⟩),
  (83, ⟨.ptr 106, 1, 8, [.nilp], false, none⟩),
  (84, ⟨.func, 1, 8, [.nilf], false, none⟩),
  (85, ⟨.ptr 112, 1, 8, [.nilp], false, none⟩),
  (86, ⟨.func, 1, 8, [.nilf], false, none⟩),
  (87, ⟨.other, 256, 256, [], false, some (256, 5)⟩),
  (88, ⟨.other, 256, 256, [], false, some (256, 5)⟩),
  (89, ⟨.ptr 88, 1, 8, [.nilp], false, none⟩),
  (90, ⟨.other, 256, 6144, [], false, some (256, 70)⟩),
  (91, ⟨.struct [⟨0, 256, true, 90⟩, ⟨256, 1, false, 50⟩], 257, 6168, [.nils, .nils, .nils, .nils, .nils, .nils, .nils, .nils, .nils, .nils, .nils, .nils, .nils, .nils, .nils, .nils, .nils, .nils, .nils, .nils, .nils, .nils, .nils, .nils, .nils, .nils, .nils, .nils, .nils, .nils, .nils, .nils, .nils, .nils, .nils, .nils, .nils, .nils, .nils, .nils, .nils, .nils, .nils, .nils, .nils, .nils, .nils, .nils, .nils, .nils, .nils, .nils, .nils, .nils, .nils, .nils, .nils, .nils, .nils, .nils, .nils, .nils, .nils, .nils, .nils, .nils, .nils, .nils, .nils, .nils, .nils, .nils, .nils, .nils, .nils, .nils, .nils, .nils, .nils, .nils, .nils, .nils, .nils, .nils, .nils, .nils, .nils, .nils, .nils, .nils, .nils, .nils, .nils, .nils, .nils, .nils, .nils, .nils, .nils, .nils, .nils, .nils, .nils, .nils, .nils, .nils, .nils, .nils, .nils, .nils, .nils, .nils, .nils, .nils, .nils, .nils, .nils, .nils, .nils, .nils, .nils, .nils, .nils, .nils, .nils, .nils, .nils, .nils, .nils, .nils, .nils, .nils, .nils, .nils, .nils, .nils, .nils, .nils, .nils, .nils, .nils, .nils, .nils, .nils, .nils, .nils, .nils, .nils, .nils, .nils, .nils, .nils, .nils, .nils, .nils, .nils, .nils, .nils, .nils, .nils, .nils, .nils, .nils, .nils, .nils, .nils, .nils, .nils, .nils, .nils, .nils, .nils, .nils, .nils, .nils, .nils, .nils, .nils, .nils, .nils, .nils, .nils, .nils, .nils, .nils, .nils, .nils, .nils, .nils, .nils, .nils, .nils, .nils, .nils, .nils, .nils, .nils, .nils, .nils, .nils, .nils, .nils, .nils, .nils, .nils, .nils, .nils, .nils, .nils, .nils, .nils, .nils, .nils, .nils, .nils, .nils, .nils, .nils, .nils, .nils, .nils, .nils, .nils, .nils, .nils, .nils, .nils, .nils, .nils, .nils, .nils, .nils, .nils, .nils, .nils, .nils, .nils, .nils, .nils, .nils, .nils, .nils, .nils, .nils, .nils, .nils, .nils, .nils, .nils, .nils, .nils, .nils, .nils, .nils, .nils, .nils, .nils], false, none⟩),
  (92, ⟨.struct [⟨0, 256, true, 90⟩, ⟨256, 1, false, 50⟩], 257, 6168, [.nils, .nils, .nils, .nils, .nils, .nils, .nils, .nils, .nils, .nils, .nils, .nils, .nils, .nils, .nils, .nils, .nils, .nils, .nils, .nils, .nils, .nils, .nils, .nils, .nils, .nils, .nils, .nils, .nils, .nils, .nils, .nils, .nils, .nils, .nils, .nils, .nils, .nils, .nils, .nils, .nils, .nils, .nils, .nils, .nils, .nils, .nils, .nils, .nils, .nils, .nils, .nils, .nils, .nils, .nils, .nils, .nils, .nils, .nils, .nils, .nils, .nils, .nils, .nils, .nils, .nils, .nils, .nils, .nils, .nils, .nils, .nils, .nils, .nils, .nils, .nils, .nils, .nils, .nils, .nils, .nils, .nils, .nils, .nils, .nils, .nils, .nils, .nils, .nils, .nils, .nils, .nils, .nils, .nils, .nils, .nils, .nils, .nils, .nils, .nils, .nils, .nils, .nils, .nils, .nils, .nils, .nils, .nils, .nils, .nils, .nils, .nils, .nils, .nils, .nils, .nils, .nils, .nils, .nils, .nils, .nils, .nils, .nils, .nils, .nils, .nils, .nils, .nils, .nils, .nils, .nils, .nils, .nils, .nils, .nils, .nils, .nils, .nils, .nils, .nils, .nils, .nils, .nils, .nils, .nils, .nils, .nils, .nils, .nils, .nils, .nils, .nils, .nils, .nils, .nils, .nils, .nils, .nils, .nils, .nils, .nils, .nils, .nils, .nils, .nils, .nils, .nils, .nils, .nils, .nils, .nils, .nils, .nils, .nils, .nils, .nils, .nils, .nils, .nils, .nils, .nils, .nils, .nils, .nils, .nils, .nils, .nils, .nils, .nils, .nils, .nils, .nils, .nils, .nils, .nils, .nils, .nils, .nils, .nils, .nils, .nils, .nils, .nils, .nils, .nils, .nils, .nils, .nils, .nils, .nils, .nils, .nils, .nils, .nils, .nils, .nils, .nils, .nils, .nils, .nils, .nils, .nils, .nils, .nils, .nils, .nils, .nils, .nils, .nils, .nils, .nils, .nils, .nils, .nils, .nils, .nils, .nils, .nils, .nils, .nils, .nils, .nils, .nils, .nils, .nils, .nils, .nils, .nils, .nils, .nils, .nils, .nils, .nils, .nils, .nils, .nils, .nils], false, none⟩),
  (93, ⟨.ptr 92, 1, 8, [.nilp], false, none⟩),
  (94, ⟨.func, 1, 8, [.nilf], false, none⟩),
  (95, ⟨.int .u64, 1, 8, [.int .u64 0], true, none⟩),
  (96, ⟨.func, 1, 8, [.nilf], false, none⟩),
  (97, ⟨.struct [⟨0, 1, false, 5⟩, ⟨1, 1, false, 5⟩], 2, 2, [.int .u8 0, .int .u8 0], true, none⟩),
  (98, ⟨.struct [⟨0, 1, false, 5⟩, ⟨1, 1, false, 5⟩], 2, 2, [.int .u8 0, .int .u8 0], true, none⟩),
  (99, ⟨.other, 32, 32, [], false, some (16, 98)⟩),
  (100, ⟨.ptr 60, 1, 8, [.nilp], false, none⟩),
  (101, ⟨.func, 1, 8, [.nilf], false, none⟩),
  (102, ⟨.func, 1, 8, [.nilf], false, none⟩),
  (103, ⟨.ptr 124, 1, 8, [.nilp], false, none⟩),
  (104, ⟨.func, 1, 8, [.nilf], false, none⟩),
  (105, ⟨.struct [⟨0, 1, false, 103⟩, ⟨1, 1, false, 9⟩], 2, 24, [.nilp, .str []], false, none⟩),
  (106, ⟨.struct [⟨0, 1, false, 103⟩, ⟨1, 1, false, 9⟩], 2, 24, [.nilp, .str []], false, none⟩),
  (107, ⟨.ptr 110, 1, 8, [.nilp], false, none⟩),
  (108, ⟨.slice 107, 1, 24, [.nils], false, none⟩),
  (109, ⟨.struct [⟨0, 1, false, 9⟩, ⟨1, 1, false, 3⟩, ⟨2, 1, false, 9⟩, ⟨3, 1, false, 107⟩, ⟨4, 1, false, 108⟩], 5, 72, [.str [], .int .i64 0, .str [], .nilp, .nils], false, none⟩),
  (110, ⟨.struct [⟨0, 1, false, 9⟩, ⟨1, 1, false, 3⟩, ⟨2, 1, false, 9⟩, ⟨3, 1, false, 107⟩, ⟨4, 1, false, 108⟩], 5, 72, [.str [], .int .i64 0, .str [], .nilp, .nils], false, none⟩),
  (111, ⟨.struct [⟨0, 5, true, 110⟩, ⟨5, 1, false, 3⟩, ⟨6, 256, true, 87⟩], 262, 336, [.str [], .int .i64 0, .str [], .nilp, .nils, .int .i64 0, .int .u8 0, .int .u8 0, .int .u8 0, .int .u8 0, .int .u8 0, .int .u8 0, .int .u8 0, .int .u8 0, .int .u8 0, .int .u8 0, .int .u8 0, .int .u8 0, .int .u8 0, .int .u8 0, .int .u8 0, .int .u8 0, .int .u8 0, .int .u8 0, .int .u8 0, .int .u8 0, .int .u8 0, .int .u8 0, .int .u8 0, .int .u8 0, .int .u8 0, .int .u8 0, .int .u8 0, .int .u8 0, .int .u8 0, .int .u8 0, .int .u8 0, .int .u8 0, .int .u8 0, .int .u8 0, .int .u8 0, .int .u8 0, .int .u8 0, .int .u8 0, .int .u8 0, .int .u8 0, .int .u8 0, .int .u8 0, .int .u8 0, .int .u8 0, .int .u8 0, .int .u8 0, .int .u8 0, .int .u8 0, .int .u8 0, .int .u8 0, .int .u8 0, .int .u8 0, .int .u8 0, .int .u8 0, .int .u8 0, .int .u8 0, .int .u8 0, .int .u8 0, .int .u8 0, .int .u8 0, .int .u8 0, .int .u8 0, .int .u8 0, .int .u8 0, .int .u8 0, .int .u8 0, .int .u8 0, .int .u8 0, .int .u8 0, .int .u8 0, .int .u8 0, .int .u8 0, .int .u8 0, .int .u8 0, .int .u8 0, .int .u8 0, .int .u8 0, .int .u8 0, .int .u8 0, .int .u8 0, .int .u8 0, .int .u8 0, .int .u8 0, .int .u8 0, .int .u8 0, .int .u8 0, .int .u8 0, .int .u8 0, .int .u8 0, .int .u8 0, .int .u8 0, .int .u8 0, .int .u8 0, .int .u8 0, .int .u8 0, .int .u8 0, .int .u8 0, .int .u8 0, .int .u8 0, .int .u8 0, .int .u8 0, .int .u8 0, .int .u8 0, .int .u8 0, .int .u8 0, .int .u8 0, .int .u8 0, .int .u8 0, .int .u8 0, .int .u8 0, .int .u8 0, .int .u8 0, .int .u8 0, .int .u8 0, .int .u8 0, .int .u8 0, .int .u8 0, .int .u8 0, .int .u8 0, .int .u8 0, .int .u8 0, .int .u8 0, .int .u8 0, .int .u8 0, .int .u8 0, .int .u8 0, .int .u8 0, .int .u8 0, .int .u8 0, .int .u8 0, .int .u8 0, .int .u8 0, .int .u8 0, .int .u8 0, .int .u8 0, .int .u8 0, .int .u8 0, .int .u8 0, .int .u8 0, .int .u8 0, .int .u8 0, .int .u8 0, .int .u8 0, .int .u8 0, .int .u8 0, .int .u8 0, .int .u8 0, .int .u8 0, .int .u8 0, .int .u8 0, .int .u8 0, .int .u8 0, .int .u8 0, .int .u8 0, .int .u8 0, .int .u8 0, .int .u8 0, .int .u8 0, .int .u8 0, .int .u8 0, .int .u8 0, .int .u8 0, .int .u8 0, .int .u8 0, .int .u8 0, .int .u8 0, .int .u8 0, .int .u8 0, .int .u8 0, .int .u8 0, .int .u8 0, .int .u8 0, .int .u8 0, .int .u8 0, .int .u8 0, .int .u8 0, .int .u8 0, .int .u8 0, .int .u8 0, .int .u8 0, .int .u8 0, .int .u8 0, .int .u8 0, .int .u8 0, .int .u8 0, .int .u8 0, .int .u8 0, .int .u8 0, .int .u8 0, .int .u8 0, .int .u8 0, .int .u8 0, .int .u8 0, .int .u8 0, .int .u8 0, .int .u8 0, .int .u8 0, .int .u8 0, .int .u8 0, .int .u8 0, .int .u8 0, .int .u8 0, .int .u8 0, .int .u8 0, .int .u8 0, .int .u8 0, .int .u8 0, .int .u8 0, .int .u8 0, .int .u8 0, .int .u8 0, .int .u8 0, .int .u8 0, .int .u8 0, .int .u8 0, .int .u8 0, .int .u8 0, .int .u8 0, .int .u8 0, .int .u8 0, .int .u8 0, .int .u8 0, .int .u8 0, .int .u8 0, .int .u8 0, .int .u8 0, .int .u8 0, .int .u8 0, .int .u8 0, .int .u8 0, .int .u8 0, .int .u8 0, .int .u8 0, .int .u8 0, .int .u8 0, .int .u8 0, .int .u8 0, .int .u8 0, .int .u8 0, .int .u8 0, .int .u8 0, .int .u8 0, .int .u8 0, .int .u8 0, .int .u8 0, .int .u8 0, .int .u8 0, .int .u8 0, .int .u8 0, .int .u8 0, .int .u8 0, .int .u8 0, .int .u8 0, .int .u8 0, .int .u8 0, .int .u8 0], false, none⟩),
  (112, ⟨.struct [⟨0, 5, true, 110⟩, ⟨5, 1, false, 3⟩, ⟨6, 256, true, 87⟩], 262, 336, [.str [], .int .i64 0, .str [], .nilp, .nils, .int .i64 0, .int .u8 0, .int .u8 0, .int .u8 0, .int .u8 0, .int .u8 0, .int .u8 0, .int .u8 0, .int .u8 0, .int .u8 0, .int .u8 0, .int .u8 0, .int .u8 0, .int .u8 0, .int .u8 0, .int .u8 0, .int .u8 0, .int .u8 0, .int .u8 0, .int .u8 0, .int .u8 0, .int .u8 0, .int .u8 0, .int .u8 0, .int .u8 0, .int .u8 0, .int .u8 0, .int .u8 0, .int .u8 0, .int .u8 0, .int .u8 0, .int .u8 0, .int .u8 0, .int .u8 0, .int .u8 0, .int .u8 0, .int .u8 0, .int .u8 0, .int .u8 0, .int .u8 0, .int .u8 0, .int .u8 0, .int .u8 0, .int .u8 0, .int .u8 0, .int .u8 0, .int .u8 0, .int .u8 0, .int .u8 0, .int .u8 0, .int .u8 0, .int .u8 0, .int .u8 0, .int .u8 0, .int .u8 0, .int .u8 0, .int .u8 0, .int .u8 0, .int .u8 0, .int .u8 0, .int .u8 0, .int .u8 0, .int .u8 0, .int .u8 0, .int .u8 0, .int .u8 0, .int .u8 0, .int .u8 0, .int .u8 0, .int .u8 0, .int .u8 0, .int .u8 0, .int .u8 0, .int .u8 0, .int .u8 0, .int .u8 0, .int .u8 0, .int .u8 0, .int .u8 0, .int .u8 0, .int .u8 0, .int .u8 0, .int .u8 0, .int .u8 0, .int .u8 0, .int .u8 0, .int .u8 0, .int .u8 0, .int .u8 0, .int .u8 0, .int .u8 0, .int .u8 0, .int .u8 0, .int .u8 0, .int .u8 0, .int .u8 0, .int .u8 0, .int .u8 0, .int .u8 0, .int .u8 0, .int .u8 0, .int .u8 0, .int .u8 0, .int .u8 0, .int .u8 0, .int .u8 0, .int .u8 0, .int .u8 0, .int .u8 0, .int .u8 0, .int .u8 0, .int .u8 0, .int .u8 0, .int .u8 0, .int .u8 0, .int .u8 0, .int .u8 0, .int .u8 0, .int .u8 0, .int .u8 0, .int .u8 0, .int .u8 0, .int .u8 0, .int .u8 0, .int .u8 0, .int .u8 0, .int .u8 0, .int .u8 0, .int .u8 0, .int .u8 0, .int .u8 0, .int .u8 0, .int .u8 0, .int .u8 0, .int .u8 0, .int .u8 0, .int .u8 0, .int .u8 0, .int .u8 0, .int .u8 0, .int .u8 0, .int .u8 0, .int .u8 0, .int .u8 0, .int .u8 0, .int .u8 0, .int .u8 0, .int .u8 0, .int .u8 0, .int .u8 0, .int .u8 0, .int .u8 0, .int .u8 0, .int .u8 0, .int .u8 0, .int .u8 0, .int .u8 0, .int .u8 0, .int .u8 0, .int .u8 0, .int .u8 0, .int .u8 0, .int .u8 0, .int .u8 0, .int .u8 0, .int .u8 0, .int .u8 0, .int .u8 0, .int .u8 0, .int .u8 0, .int .u8 0, .int .u8 0, .int .u8 0, .int .u8 0, .int .u8 0, .int .u8 0, .int .u8 0, .int .u8 0, .int .u8 0, .int .u8 0, .int .u8 0, .int .u8 0, .int .u8 0, .int .u8 0, .int .u8 0, .int .u8 0, .int .u8 0, .int .u8 0, .int .u8 0, .int .u8 0, .int .u8 0, .int .u8 0, .int .u8 0, .int .u8 0, .int .u8 0, .int .u8 0, .int .u8 0, .int .u8 0, .int .u8 0, .int .u8 0, .int .u8 0, .int .u8 0, .int .u8 0, .int .u8 0, .int .u8 0, .int .u8 0, .int .u8 0, .int .u8 0, .int .u8 0, .int .u8 0, .int .u8 0, .int .u8 0, .int .u8 0, .int .u8 0, .int .u8 0, .int .u8 0, .int .u8 0, .int .u8 0, .int .u8 0, .int .u8 0, .int .u8 0, .int .u8 0, .int .u8 0, .int .u8 0, .int .u8 0, .int .u8 0, .int .u8 0, .int .u8 0, .int .u8 0, .int .u8 0, .int .u8 0, .int .u8 0, .int .u8 0, .int .u8 0, .int .u8 0, .int .u8 0, .int .u8 0, .int .u8 0, .int .u8 0, .int .u8 0, .int .u8 0, .int .u8 0, .int .u8 0, .int .u8 0, .int .u8 0, .int .u8 0, .int .u8 0, .int .u8 0, .int .u8 0, .int .u8 0, .int .u8 0, .int .u8 0, .int .u8 0, .int .u8 0, .int .u8 0, .int .u8 0, .int .u8 0], false, none⟩),
  (113, ⟨.func, 1, 8, [.nilf], false, none⟩),
  (114, ⟨.ptr 58, 1, 8, [.nilp], false, none⟩),
  (115, ⟨.func, 1, 8, [.nilf], false, none⟩),
  (116, ⟨.ptr 21, 1, 8, [.nilp], false, none⟩),
  (117, ⟨.func, 1, 8, [.nilf], false, none⟩),
  (119, ⟨.func, 1, 8, [.nilf], false, none⟩),
  (120, ⟨.func, 1, 8, [.nilf], false, none⟩),
  (121, ⟨.slice 3, 1, 24, [.nils], false, none⟩),
  (122, ⟨.other, 256, 2048, [], false, some (256, 3)⟩),
  (123, ⟨.struct [⟨0, 1, false, 9⟩, ⟨1, 256, true, 122⟩, ⟨257, 1, false, 121⟩], 258, 2088, [.str [], .int .i64 0, .int .i64 0, .int .i64 0, .int .i64 0, .int .i64 0, .int .i64 0, .int .i64 0, .int .i64 0, .int .i64 0, .int .i64 0, .int .i64 0, .int .i64 0, .int .i64 0, .int .i64 0, .int .i64 0, .int .i64 0, .int .i64 0, .int .i64 0, .int .i64 0, .int .i64 0, .int .i64 0, .int .i64 0, .int .i64 0, .int .i64 0, .int .i64 0, .int .i64 0, .int .i64 0, .int .i64 0, .int .i64 0, .int .i64 0, .int .i64 0, .int .i64 0, .int .i64 0, .int .i64 0, .int .i64 0, .int .i64 0, .int .i64 0, .int .i64 0, .int .i64 0, .int .i64 0, .int .i64 0, .int .i64 0, .int .i64 0, .int .i64 0, .int .i64 0, .int .i64 0, .int .i64 0, .int .i64 0, .int .i64 0, .int .i64 0, .int .i64 0, .int .i64 0, .int .i64 0, .int .i64 0, .int .i64 0, .int .i64 0, .int .i64 0, .int .i64 0, .int .i64 0, .int .i64 0, .int .i64 0, .int .i64 0, .int .i64 0, .int .i64 0, .int .i64 0, .int .i64 0, .int .i64 0, .int .i64 0, .int .i64 0, .int .i64 0, .int .i64 0, .int .i64 0, .int .i64 0, .int .i64 0, .int .i64 0, .int .i64 0, .int .i64 0, .int .i64 0, .int .i64 0, .int .i64 0, .int .i64 0, .int .i64 0, .int .i64 0, .int .i64 0, .int .i64 0, .int .i64 0, .int .i64 0, .int .i64 0, .int .i64 0, .int .i64 0, .int .i64 0, .int .i64 0, .int .i64 0, .int .i64 0, .int .i64 0, .int .i64 0, .int .i64 0, .int .i64 0, .int .i64 0, .int .i64 0, .int .i64 0, .int .i64 0, .int .i64 0, .int .i64 0, .int .i64 0, .int .i64 0, .int .i64 0, .int .i64 0, .int .i64 0, .int .i64 0, .int .i64 0, .int .i64 0, .int .i64 0, .int .i64 0, .int .i64 0, .int .i64 0, .int .i64 0, .int .i64 0, .int .i64 0, .int .i64 0, .int .i64 0, .int .i64 0, .int .i64 0, .int .i64 0, .int .i64 0, .int .i64 0, .int .i64 0, .int .i64 0, .int .i64 0, .int .i64 0, .int .i64 0, .int .i64 0, .int .i64 0, .int .i64 0, .int .i64 0, .int .i64 0, .int .i64 0, .int .i64 0, .int .i64 0, .int .i64 0, .int .i64 0, .int .i64 0, .int .i64 0, .int .i64 0, .int .i64 0, .int .i64 0, .int .i64 0, .int .i64 0, .int .i64 0, .int .i64 0, .int .i64 0, .int .i64 0, .int .i64 0, .int .i64 0, .int .i64 0, .int .i64 0, .int .i64 0, .int .i64 0, .int .i64 0, .int .i64 0, .int .i64 0, .int .i64 0, .int .i64 0, .int .i64 0, .int .i64 0, .int .i64 0, .int .i64 0, .int .i64 0, .int .i64 0, .int .i64 0, .int .i64 0, .int .i64 0, .int .i64 0, .int .i64 0, .int .i64 0, .int .i64 0, .int .i64 0, .int .i64 0, .int .i64 0, .int .i64 0, .int .i64 0, .int .i64 0, .int .i64 0, .int .i64 0, .int .i64 0, .int .i64 0, .int .i64 0, .int .i64 0, .int .i64 0, .int .i64 0, .int .i64 0, .int .i64 0, .int .i64 0, .int .i64 0, .int .i64 0, .int .i64 0, .int .i64 0, .int .i64 0, .int .i64 0, .int .i64 0, .int .i64 0, .int .i64 0, .int .i64 0, .int .i64 0, .int .i64 0, .int .i64 0, .int .i64 0, .int .i64 0, .int .i64 0, .int .i64 0, .int .i64 0, .int .i64 0, .int .i64 0, .int .i64 0, .int .i64 0, .int .i64 0, .int .i64 0, .int .i64 0, .int .i64 0, .int .i64 0, .int .i64 0, .int .i64 0, .int .i64 0, .int .i64 0, .int .i64 0, .int .i64 0, .int .i64 0, .int .i64 0, .int .i64 0, .int .i64 0, .int .i64 0, .int .i64 0, .int .i64 0, .int .i64 0, .int .i64 0, .int .i64 0, .int .i64 0, .int .i64 0, .int .i64 0, .int .i64 0, .int .i64 0, .int .i64 0, .int .i64 0, .int .i64 0, .int .i64 0, .int .i64 0, .int .i64 0, .int .i64 0, .int .i64 0, .int .i64 0, .int .i64 0, .int .i64 0, .int .i64 0, .int .i64 0, .int .i64 0, .int .i64 0, .nils], false, none⟩),
  (124, ⟨.struct [⟨0, 1, false, 9⟩, ⟨1, 256, true, 122⟩, ⟨257, 1, false, 121⟩], 258, 2088, [.str [], .int .i64 0, .int .i64 0, .int .i64 0, .int .i64 0, .int .i64 0, .int .i64 0, .int .i64 0, .int .i64 0, .int .i64 0, .int .i64 0, .int .i64 0, .int .i64 0, .int .i64 0, .int .i64 0, .int .i64 0, .int .i64 0, .int .i64 0, .int .i64 0, .int .i64 0, .int .i64 0, .int .i64 0, .int .i64 0, .int .i64 0, .int .i64 0, .int .i64 0, .int .i64 0, .int .i64 0, .int .i64 0, .int .i64 0, .int .i64 0, .int .i64 0, .int .i64 0, .int .i64 0, .int .i64 0, .int .i64 0, .int .i64 0, .int .i64 0, .int .i64 0, .int .i64 0, .int .i64 0, .int .i64 0, .int .i64 0, .int .i64 0, .int .i64 0, .int .i64 0, .int .i64 0, .int .i64 0, .int .i64 0, .int .i64 0, .int .i64 0, .int .i64 0, .int .i64 0, .int .i64 0, .int .i64 0, .int .i64 0, .int .i64 0, .int .i64 0, .int .i64 0, .int .i64 0, .int .i64 0, .int .i64 0, .int .i64 0, .int .i64 0, .int .i64 0, .int .i64 0, .int .i64 0, .int .i64 0, .int .i64 0, .int .i64 0, .int .i64 0, .int .i64 0, .int .i64 0, .int .i64 0, .int .i64 0, .int .i64 0, .int .i64 0, .int .i64 0, .int .i64 0, .int .i64 0, .int .i64 0, .int .i64 0, .int .i64 0, .int .i64 0, .int .i64 0, .int .i64 0, .int .i64 0, .int .i64 0, .int .i64 0, .int .i64 0, .int .i64 0, .int .i64 0, .int .i64 0, .int .i64 0, .int .i64 0, .int .i64 0, .int .i64 0, .int .i64 0, .int .i64 0, .int .i64 0, .int .i64 0, .int .i64 0, .int .i64 0, .int .i64 0, .int .i64 0, .int .i64 0, .int .i64 0, .int .i64 0, .int .i64 0, .int .i64 0, .int .i64 0, .int .i64 0, .int .i64 0, .int .i64 0, .int .i64 0, .int .i64 0, .int .i64 0, .int .i64 0, .int .i64 0, .int .i64 0, .int .i64 0, .int .i64 0, .int .i64 0, .int .i64 0, .int .i64 0, .int .i64 0, .int .i64 0, .int .i64 0, .int .i64 0, .int .i64 0, .int .i64 0, .int .i64 0, .int .i64 0, .int .i64 0, .int .i64 0, .int .i64 0, .int .i64 0, .int .i64 0, .int .i64 0, .int .i64 0, .int .i64 0, .int .i64 0, .int .i64 0, .int .i64 0, .int .i64 0, .int .i64 0, .int .i64 0, .int .i64 0, .int .i64 0, .int .i64 0, .int .i64 0, .int .i64 0, .int .i64 0, .int .i64 0, .int .i64 0, .int .i64 0, .int .i64 0, .int .i64 0, .int .i64 0, .int .i64 0, .int .i64 0, .int .i64 0, .int .i64 0, .int .i64 0, .int .i64 0, .int .i64 0, .int .i64 0, .int .i64 0, .int .i64 0, .int .i64 0, .int .i64 0, .int .i64 0, .int .i64 0, .int .i64 0, .int .i64 0, .int .i64 0, .int .i64 0, .int .i64 0, .int .i64 0, .int .i64 0, .int .i64 0, .int .i64 0, .int .i64 0, .int .i64 0, .int .i64 0, .int .i64 0, .int .i64 0, .int .i64 0, .int .i64 0, .int .i64 0, .int .i64 0, .int .i64 0, .int .i64 0, .int .i64 0, .int .i64 0, .int .i64 0, .int .i64 0, .int .i64 0, .int .i64 0, .int .i64 0, .int .i64 0, .int .i64 0, .int .i64 0, .int .i64 0, .int .i64 0, .int .i64 0, .int .i64 0, .int .i64 0, .int .i64 0, .int .i64 0, .int .i64 0, .int .i64 0, .int .i64 0, .int .i64 0, .int .i64 0, .int .i64 0, .int .i64 0, .int .i64 0, .int .i64 0, .int .i64 0, .int .i64 0, .int .i64 0, .int .i64 0, .int .i64 0, .int .i64 0, .int .i64 0, .int .i64 0, .int .i64 0, .int .i64 0, .int .i64 0, .int .i64 0, .int .i64 0, .int .i64 0, .int .i64 0, .int .i64 0, .int .i64 0, .int .i64 0, .int .i64 0, .int .i64 0, .int .i64 0, .int .i64 0, .int .i64 0, .int .i64 0, .int .i64 0, .int .i64 0, .int .i64 0, .int .i64 0, .int .i64 0, .int .i64 0, .int .i64 0, .int .i64 0, .int .i64 0, .int .i64 0, .int .i64 0, .int .i64 0, .int .i64 0, .int .i64 0, .nils], false, none⟩),
  (125, ⟨.func, 1, 8, [.nilf], false, none⟩),
  (126, ⟨.func, 1, 8, [.nilf], false, none⟩),
  (127, ⟨.func, 1, 8, [.nilf], false, none⟩),
  (128, ⟨.func, 1, 8, [.nilf], false, none⟩),
  (129, ⟨.func, 1, 8, [.nilf], false, none⟩),
  (130, ⟨.struct [⟨0, 1, false, 17⟩, ⟨1, 1, false, 17⟩, ⟨2, 1, false, 17⟩, ⟨3, 1, false, 9⟩], 4, 40, [.nilp, .nilp, .nilp, .str []], false, none⟩),
  (131, ⟨.struct [⟨0, 1, false, 17⟩, ⟨1, 1, false, 17⟩, ⟨2, 1, false, 17⟩, ⟨3, 1, false, 9⟩], 4, 40, [.nilp, .nilp, .nilp, .str []], false, none⟩),
  (132, ⟨.other, 0, 0, [], false, some (0, 16)⟩),
  (135, ⟨.func, 1, 8, [.nilf], false, none⟩),
  (136, ⟨.int .u8, 1, 1, [.int .u8 0], true, none⟩),
  (137, ⟨.int .u8, 1, 1, [.int .u8 0], true, none⟩),
  (138, ⟨.func, 1, 8, [.nilf], false, none⟩),
  (139, ⟨.ptr 5, 1, 8, [.nilp], false, none⟩),
  (140, ⟨.int .i32, 1, 4, [.int .i32 0], true, none⟩),
  (141, ⟨.int .i32, 1, 4, [.int .i32 0], true, none⟩),
  (142, ⟨.struct [⟨0, 1, false, 12⟩, ⟨1, 1, false, 12⟩, ⟨2, 1, false, 54⟩, ⟨3, 1, false, 136⟩, ⟨4, 1, false, 5⟩, ⟨5, 1, false, 5⟩, ⟨6, 1, false, 137⟩, ⟨7, 1, false, 138⟩, ⟨8, 1, false, 139⟩, ⟨9, 1, false, 140⟩, ⟨10, 1, false, 141⟩], 11, 48, [.int .u64 0, .int .u64 0, .int .u32 0, .int .u8 0, .int .u8 0, .int .u8 0, .int .u8 0, .nilf, .nilp, .int .i32 0, .int .i32 0], false, none⟩),
  (143, ⟨.struct [⟨0, 1, false, 12⟩, ⟨1, 1, false, 12⟩, ⟨2, 1, false, 54⟩, ⟨3, 1, false, 136⟩, ⟨4, 1, false, 5⟩, ⟨5, 1, false, 5⟩, ⟨6, 1, false, 137⟩, ⟨7, 1, false, 138⟩, ⟨8, 1, false, 139⟩, ⟨9, 1, false, 140⟩, ⟨10, 1, false, 141⟩], 11, 48, [.int .u64 0, .int .u64 0, .int .u32 0, .int .u8 0, .int .u8 0, .int .u8 0, .int .u8 0, .nilf, .nilp, .int .i32 0, .int .i32 0], false, none⟩),
  (144, ⟨.func, 1, 8, [.nilf], false, none⟩),
  (145, ⟨.ptr 147, 1, 8, [.nilp], false, none⟩),
  (146, ⟨.struct [⟨0, 1, false, 145⟩, ⟨1, 1, false, 70⟩], 2, 32, [.nilp, .nils], false, none⟩),
  (147, ⟨.struct [⟨0, 1, false, 145⟩, ⟨1, 1, false, 70⟩], 2, 32, [.nilp, .nils], false, none⟩),
  (148, ⟨.func, 1, 8, [.nilf], false, none⟩),
  (149, ⟨.iface, 1, 16, [.nili], false, none⟩),
  (150, ⟨.iface, 1, 16, [.nili], false, none⟩),
  (152, ⟨.func, 1, 8, [.nilf], false, none⟩),
  (153, ⟨.func, 1, 8, [.nilf], false, none⟩),
  (154, ⟨.func, 1, 8, [.nilf], false, none⟩),
  (155, ⟨.slice 5, 1, 24, [.nils], false, none⟩),
  (156, ⟨.ptr 155, 1, 8, [.nilp], false, none⟩),
  (157, ⟨.iface, 1, 16, [.nili], false, none⟩),
  (158, ⟨.iface, 1, 16, [.nili], false, none⟩),
  (159, ⟨.iface, 1, 16, [.nili], false, none⟩),
  (160, ⟨.iface, 1, 16, [.nili], false, none⟩),
  (161, ⟨.func, 1, 8, [.nilf], false, none⟩),
  (163, ⟨.func, 1, 8, [.nilf], false, none⟩),
  (165, ⟨.struct [⟨0, 1, false, 158⟩], 1, 16, [.nili], false, none⟩),
  (166, ⟨.struct [⟨0, 1, false, 158⟩], 1, 16, [.nili], false, none⟩),
  (167, ⟨.func, 1, 8, [.nilf], false, none⟩),
  (169, ⟨.func, 1, 8, [.nilf], false, none⟩)]
theorem tb_tab : tabB Tryd.prog tb = true := by kernel_rfl
theorem tb_rt : Tryd.prog.underlying Tryd.prog.rt.typeAssertionError = some (.pointer 131) := by kernel_rfl
theorem tb_mixed : Tryd.prog.follows .mixedOrders = true := by kernel_rfl
theorem tb_ok : ProgOk Tryd.prog tb where
  tab := tb_tab
  rt := ⟨_, tb_rt⟩
  mixed := tb_mixed
end Go.Proofs.YthmklkggehgijaaDoor

namespace Go.Proofs.YthmklkggehgijaaDoor
open Go Go.Av
theorem q_disable (w : World) : (callFunc 49 #[]).run Tryd.prog w = .ok (.value (.tuple #[])) w := run_call_mark0 Tryd.func49 (by kernel_rfl) (by kernel_rfl) (by kernel_rfl) .disable (by kernel_rfl) w
theorem q_enable (w : World) : (callFunc 51 #[]).run Tryd.prog w = .ok (.value (.tuple #[])) w := run_call_mark0 Tryd.func51 (by kernel_rfl) (by kernel_rfl) (by kernel_rfl) .enable (by kernel_rfl) w
theorem q_acquire (a : Addr) (w : World) : (callFunc 52 #[.pointer (some a)]).run Tryd.prog w = .ok (.value (.tuple #[])) w := run_call_marked Tryd.func52 (by kernel_rfl) (by kernel_rfl) (by kernel_rfl) .acquire (by kernel_rfl) a w
theorem q_releaseMerge (a : Addr) (w : World) : (callFunc 54 #[.pointer (some a)]).run Tryd.prog w = .ok (.value (.tuple #[])) w := run_call_marked Tryd.func54 (by kernel_rfl) (by kernel_rfl) (by kernel_rfl) .releaseMerge (by kernel_rfl) a w
theorem q_store (a : Addr) (x : Value) (u : FrameMode) (w : World) (hc : w.cell? a = some x) (hz : w.frozen? a = false) :
    CallsD Tryd.prog 37 #[.pointer (some a), .bool true] u w fun e u' w' => u' = u ∧ (e = .returned (.tuple #[]) ∧ w' = w.drew.setCell a (.int .u32 1)) := by
  have hc' : w.drew.cell? a = some x := by go_simp
  have hz' : w.drew.frozen? a = false := by go_simp
  have hst := run_call_store (P := Tryd.prog) Tryd.func45 (by kernel_rfl) (by kernel_rfl) (by kernel_rfl) (by kernel_rfl) (k := .u32) (y := 1) hc' hz'
  go_enter_d Tryd.func37, Tryd.ntmps37
  go_wp2
  go_region_calls
  all_goals (go_end0; exact ⟨rfl, rfl⟩)
theorem q_unlock (a : Addr) (u : FrameMode) (w : World) (hc : w.cell? a = some (.int .i32 1)) (hz : w.frozen? a = false) :
    CallsD Tryd.prog 36 #[.pointer (some a)] u w fun e u' w' => u' = u ∧ (e = .returned (.tuple #[]) ∧ w' = w.setCell a (.int .i32 0)) := by
  have hd := q_disable
  have he := q_enable
  have hr := q_releaseMerge
  have hadd := run_call_add (P := Tryd.prog) Tryd.func55 (by kernel_rfl) (by kernel_rfl) (by kernel_rfl) .i32 (by kernel_rfl) (y := -1) (s := 0) hc hz (by simp [go_sem]; rfl)
  have hcv := run_convert_to_unsafe (P := Tryd.prog) (src := 114) (dst := 118) Tryd.underlying114 Tryd.underlying118 (by kernel_rfl) hc
  go_enter_d Tryd.func36, Tryd.ntmps36
  go_wp2
  go_end0
  go_wp2
  go_end0
  exact ⟨rfl, rfl⟩
theorem q_lock (a : Addr) (w : World) (hc : w.cell? a = some (.int .i32 0)) (hz : w.frozen? a = false) :
    Calls Tryd.prog 35 #[.pointer (some a)] w fun e w' => e = .returned (.tuple #[]) ∧ w' = w.setCell a (.int .i32 1) := by
  have hd := q_disable
  have he := q_enable
  have ha := q_acquire
  have hcas := run_call_cas_hit (P := Tryd.prog) Tryd.func50 (by kernel_rfl) (by kernel_rfl) (by kernel_rfl) .i32 (by kernel_rfl) (y := 1) hc hz
  have hc' : (w.setCell a (.int .i32 1)).cell? a = some (.int .i32 1) := World.cell?_setCell_same w a _ hc
  have hcv := run_convert_to_unsafe (P := Tryd.prog) (src := 114) (dst := 118) Tryd.underlying114 Tryd.underlying118 (by kernel_rfl) hc'
  go_enter Tryd.func35, Tryd.ntmps35
  go_wp2
  first | go_end0 | (simp only [Exit.inBlock, Exit.then]; refine bodyPost_ret (results_none rfl _ _ _) rfl ?_) | refine bodyPost_ret (results_none rfl _ _ _) rfl ?_
  go_wp2
  go_end0
  exact ⟨rfl, rfl⟩
theorem q_load0 (a : Addr) (w : World) (hc : w.cell? a = some (.int .u32 0)) :
    Calls Tryd.prog 28 #[.pointer (some a)] w fun e w' => e = .returned (.bool false) ∧ w' = w := by
  have hl := run_call_load (P := Tryd.prog) Tryd.func34 (by kernel_rfl) (by kernel_rfl) (by kernel_rfl) .u32 (by kernel_rfl) hc
  go_enter Tryd.func28, Tryd.ntmps28
  go_wp2
  go_ret
  exact ⟨rfl, rfl⟩
end Go.Proofs.YthmklkggehgijaaDoor

namespace Go.Proofs.YthmklkggehgijaaDoor
open Go Go.Av
set_option maxRecDepth 100000 in
set_option maxHeartbeats 1600000 in
theorem q_slow (b : Nat) (R : World → Prop) (w : World)
    (h0 : w.cell? ⟨b, 0, none⟩ = some (.int .u32 0)) (h1 : w.cell? ⟨b, 1, none⟩ = some (.int .i32 0))
    (f1 : w.frozen? ⟨b, 1, none⟩ = false)
    (hk : Calls Tryd.prog 21 #[.pointer (some ⟨b, 0, none⟩)] (w.setCell ⟨b, 1, none⟩ (.int .i32 1)) fun e w' => e = .returned (.tuple #[]) ∧ R w')
    (hR : ∀ w', R w' → w'.cell? ⟨b, 0, none⟩ = some (.int .u32 0) ∧ w'.cell? ⟨b, 1, none⟩ = some (.int .i32 1) ∧ w'.frozen? ⟨b, 0, none⟩ = false ∧ w'.frozen? ⟨b, 1, none⟩ = false) :
    Calls Tryd.prog 29 #[.pointer (some ⟨b, 0, none⟩), .func (.func 21) #[.pointer (some ⟨b, 0, none⟩)] #[]] w fun e w' => e = .returned (.tuple #[]) ∧
      ∃ w2, R w2 ∧ w' = (w2.drew.setCell ⟨b, 0, none⟩ (.int .u32 1)).setCell ⟨b, 1, none⟩ (.int .i32 0) := by
  have hnot : ∀ (x : Bool) (w : World), (Op.unary .not (.bool x)).run Tryd.prog w = .ok (.bool (!x)) w := fun _ _ => rfl
  go_enter_defers Tryd.func29, Tryd.ntmps29
  have h0' : (w.setCell ⟨b, 1, none⟩ (.int .i32 1)).cell? ⟨b, 0, none⟩ = some (.int .u32 0) := (World.cell?_setCell_other _ ⟨b, 1, none⟩ ⟨b, 0, none⟩ _ (by simp)).trans h0
  go_wp2_with (first | (go_at_call 28; refine (q_load0 _ _ h0').mono ?_; rintro e w' ⟨rfl, rfl⟩) | (go_at_call 35; refine (q_lock ⟨b, 1, none⟩ _ (by go_simp) (by go_simp)).mono ?_; rintro e w' ⟨rfl, rfl⟩) | (go_at_call 21; refine hk.mono ?_; rintro e w2 ⟨rfl, hr⟩; obtain ⟨r0, r1, z0, z1⟩ := hR w2 hr))
  refine leaves_cons (f := 37) (args := #[.pointer (some ⟨b, 0, none⟩), .bool true]) (by simp) (by simp [go_sem]) ?_
  refine (q_store ⟨b, 0, none⟩ (.int .u32 0) .returning _ (by first | exact r0 | (simp; exact r0)) (by first | exact z0 | simp [z0])).mono ?_
  rintro e u' w'' ⟨rfl, rfl, rfl⟩
  refine leaves_cons (f := 36) (args := #[.pointer (some ⟨b, 1, none⟩)]) (by simp [settle]) (by simp [go_sem]) ?_
  refine (q_unlock ⟨b, 1, none⟩ _ _ ?_ (by simp [z1])).mono ?_
  · refine (World.cell?_setCell_other _ ⟨b, 0, none⟩ ⟨b, 1, none⟩ _ (by simp)).trans ?_
    rw [World.cell?_drew]
    exact r1
  rintro e u' w'' ⟨rfl, rfl, rfl⟩
  simp [Leaves, settle, results, Tryd.results29]
  exact ⟨w2, hr, rfl⟩
set_option maxRecDepth 100000 in
set_option maxHeartbeats 1600000 in
theorem q_do (b : Nat) (R : World → Prop) (w : World)
    (h0 : w.cell? ⟨b, 0, none⟩ = some (.int .u32 0)) (h1 : w.cell? ⟨b, 1, none⟩ = some (.int .i32 0))
    (f1 : w.frozen? ⟨b, 1, none⟩ = false)
    (hk : Calls Tryd.prog 21 #[.pointer (some ⟨b, 0, none⟩)] (w.setCell ⟨b, 1, none⟩ (.int .i32 1)) fun e w' => e = .returned (.tuple #[]) ∧ R w')
    (hR : ∀ w', R w' → w'.cell? ⟨b, 0, none⟩ = some (.int .u32 0) ∧ w'.cell? ⟨b, 1, none⟩ = some (.int .i32 1) ∧ w'.frozen? ⟨b, 0, none⟩ = false ∧ w'.frozen? ⟨b, 1, none⟩ = false) :
    Calls Tryd.prog 20 #[.pointer (some ⟨b, 0, none⟩), .func (.func 21) #[.pointer (some ⟨b, 0, none⟩)] #[]] w fun e w' => e = .returned (.tuple #[]) ∧
      ∃ w2, R w2 ∧ w' = (w2.drew.setCell ⟨b, 0, none⟩ (.int .u32 1)).setCell ⟨b, 1, none⟩ (.int .i32 0) := by
  have hnot : ∀ (x : Bool) (w : World), (Op.unary .not (.bool x)).run Tryd.prog w = .ok (.bool (!x)) w := fun _ _ => rfl
  go_enter Tryd.func20, Tryd.ntmps20
  go_wp2_with (first | (go_at_call 29; refine (q_slow b R _ h0 h1 f1 hk hR).mono ?_; rintro e w' ⟨rfl, hw⟩) | (go_at_call 28; refine (q_load0 _ _ h0).mono ?_; rintro e w' ⟨rfl, rfl⟩))
  go_end0
  exact ⟨rfl, hw⟩
end Go.Proofs.YthmklkggehgijaaDoor

namespace Go.Proofs.YthmklkggehgijaaDoor
open Go Go.Av
theorem relL_set {g : Gh} {q : Bool} : ∀ {l : List AV} {us : List Value} (i : Nat) {v : AV} {u : Value}, RelL g q l us → Rel g v u → (q = true → u.oneCell' = true) → RelL g q (l.set i v) (us.set i u)
  | [], us, i, v, u, h, _, _ => by cases h; simp; exact rfl
  | c :: l, us, i, v, u, ⟨x, ws, e, hx, hl⟩, hv, h1 => by
    subst e
    cases i with
    | zero => exact ⟨u, ws, rfl, ⟨hv, h1⟩, hl⟩
    | succ i => exact ⟨x, _, rfl, hx, relL_set i hl hv h1⟩
theorem inv_setBox {W : World} {g : Gh} {st F : St} {w : World} (inv : Inv W g (st ++ F) w) {m b : Nat} {cells : List AV} (hm : st[m]? = some (b, .box cells)) (i : Nat) {v : AV} {u : Value} (hr : Rel g v u) (h1 : u.oneCell' = true) :
    Inv W g (st.set m (b, .box (cells.set i v)) ++ F) (w.setCell ⟨b, i, none⟩ u) := by
  obtain ⟨us, T, lo, hi', hh, hrel, hf, hmu⟩ := inv.objAt hm
  have hw := wrote_setCell hh i u
  exact inv.upd hm (Gh.le_refl g) (fun _ _ _ => rfl) inv.cap (fun i u e => by rw [hmu] at e; cases e) hw.other hw.size (hw.below inv.below (inv.lowAt hm)) ⟨_, T, lo, hi', hw.at_, relL_set i hrel hr (fun _ => h1), by simpa using hf, hmu⟩
theorem inv_boxCell {W : World} {g : Gh} {st F : St} {w : World} (inv : Inv W g (st ++ F) w) {m b : Nat} {cells : List AV} (hm : st[m]? = some (b, .box cells)) {i : Nat} {k : IntKind} {n : Int} (hi : cells[i]? = some (.int k n)) :
    w.cell? ⟨b, i, none⟩ = some (.int k n) ∧ w.frozen? ⟨b, i, none⟩ = false := by
  obtain ⟨us, T, lo, hi', hh, hrel, hf, hmu⟩ := inv.objAt hm
  obtain ⟨u, hu, hr, _⟩ := hrel.nth i hi
  have hr : u = .int k n := hr
  subst hr
  refine ⟨by rw [cell_of hh]; exact hu, ?_⟩
  have := hf i (List.getElem?_eq_some_iff.1 hu).1
  simp only [World.frozen?, hh, Bool.and_eq_false_iff, decide_eq_false_iff_not]
  omega
theorem a_Do (b : Nat) (r o : AV) (E : St) (Q : AV → AV → St → Prop)
    (hk : ACalls Tryd.prog 21 [.ptr b 0] ((b, .box [.int .u32 0, .int .i32 1, .int .u32 0, r, o]) :: E) fun out st' => out = .ret (.tup []) ∧ ∃ r' o' E', st' = (b, .box [.int .u32 0, .int .i32 1, .int .u32 0, r', o']) :: E' ∧ Q r' o' E') :
    ACalls Tryd.prog 20 [.ptr b 0, .fn (.func 21) [.ptr b 0] []] ((b, .box [.int .u32 0, .int .i32 0, .int .u32 0, r, o]) :: E) fun out st' => out = .ret (.tup []) ∧ ∃ r' o' E', st' = (b, .box [.int .u32 1, .int .i32 0, .int .u32 0, r', o']) :: E' ∧ Q r' o' E' where
  ent := ⟨Tryd.f20, by kernel_rfl, rfl, by kernel_rfl⟩
  run W F g w us hL hr inv := by
    obtain ⟨u0, ws, rfl, ⟨h0, _⟩, u1, ws', rfl, ⟨h1, _⟩, rfl⟩ := hr
    have h0 : u0 = .pointer (some ⟨b, 0, none⟩) := h0
    subst h0
    obtain ⟨fs, cs, rfl, ⟨x, fs', rfl, ⟨hx, _⟩, rfl⟩, rfl⟩ := h1
    have hx : x = .pointer (some ⟨b, 0, none⟩) := hx
    subst hx
    obtain ⟨c0, z0⟩ := inv_boxCell inv (m := 0) rfl (i := 0) rfl
    obtain ⟨c1, z1⟩ := inv_boxCell inv (m := 0) rfl (i := 1) rfl
    have inv1 := inv_setBox inv (m := 0) rfl 1 (v := .int .i32 1) (u := .int .i32 1) rfl rfl
    have hcall := hk.run W F g (w.setCell ⟨b, 1, none⟩ (.int .i32 1)) [.pointer (some ⟨b, 0, none⟩)] hL ⟨_, _, rfl, ⟨rfl, fun h => by cases h⟩, rfl⟩ inv1
    refine (q_do b (fun w' => ∃ g' r' o' E', Gh.le g g' ∧ Inv W g' (((b, .box [.int .u32 0, .int .i32 1, .int .u32 0, r', o']) :: E') ++ F) w' ∧ Q r' o' E') w c0 c1 z1 ?_ ?_).mono ?_
    · refine hcall.mono ?_
      rintro e w' ⟨g', out, st', le, ho, hi, rfl, r', o', E', rfl, hq⟩
      obtain ⟨u, rfl, hu⟩ := ho
      obtain ⟨vs, rfl, hvs⟩ := hu
      have hvs : vs = [] := hvs
      subst hvs
      exact ⟨rfl, g', r', o', E', le, hi, hq⟩
    · rintro w' ⟨g', r', o', E', le, hi, hq⟩
      obtain ⟨c0, z0⟩ := inv_boxCell hi (m := 0) rfl (i := 0) rfl
      obtain ⟨c1, z1⟩ := inv_boxCell hi (m := 0) rfl (i := 1) rfl
      exact ⟨c0, c1, z0, z1⟩
    · rintro e w' ⟨rfl, w2, ⟨g', r', o', E', le, hi, hq⟩, rfl⟩
      have i1 := inv_setBox hi.drew (m := 0) rfl 0 (v := .int .u32 1) (u := .int .u32 1) rfl rfl
      have i2 := inv_setBox i1 (m := 0) rfl 1 (v := .int .i32 0) (u := .int .i32 0) rfl rfl
      exact ⟨g', .ret (.tup []), _, le, ⟨_, rfl, [], rfl, rfl⟩, i2, rfl, r', o', E', rfl, hq⟩
end Go.Proofs.YthmklkggehgijaaDoor

namespace Go.Proofs.YthmklkggehgijaaDoor
open Go Go.Av
def oldC : List AV := [.str [92], .str [92, 92], .str [10], .str [92, 110], .str [34], .str [92, 34]]
theorem a_New : ACalls Tryd.prog 10 [.fz oldC 6 false] [] fun out st' => ∃ b c, out = .ret (.ptr b 0) ∧ st' = [(b, .box [.int .u32 0, .int .i32 0, .int .u32 0, .nili, .own c 6]), (c, .arr 1 oldC 0)] := by
  refine ACalls.of_W tb_ok (fn := Tryd.f10) (n := 12) (by kernel_rfl) rfl (by kernel_rfl) rfl rfl (by simp) (go ?_)
  refine VAll.mk (fun c => go ?_)
  refine VAll.mk (fun b => go ?_)
  refine VRet.mk _ (.cons 0 rfl (.cons 0 rfl .nil)) ⟨b, c, rfl, rfl⟩
/-- The cells of the replacer: three bytes have texts. -/
def repC (e1 e2 e3 t : Nat) : List AV := (((List.replicate 257 AV.nils).set 34 (.own e1 2)).set 10 (.own e2 2)).set 92 (.own e3 2) |>.set 256 (.own t 3)
def bytesV (l : List UInt8) : List AV := l.map fun c => .int .u8 c.toNat
def repS (d e1 e2 e3 t : Nat) : St := [(d, .box (repC e1 e2 e3 t)), (e1, .arr 1 (bytesV [92, 34]) 0), (e2, .arr 1 (bytesV [92, 110]) 0), (e3, .arr 1 (bytesV [92, 92]) 0), (t, .arr 1 [.str [34], .str [10], .str [92]] 0)]
set_option maxRecDepth 200000 in
theorem a_build (b c : Nat) (x0 x1 x2 x3 : AV) : ACalls Tryd.prog 30 [.ptr b 0] [(b, .box [x0, x1, x2, x3, .own c 6]), (c, .arr 1 oldC 0)] fun out st' =>
    ∃ d e1 e2 e3 t, out = .ret (.iface 93 (.ptr d 0)) ∧ st' = repS d e1 e2 e3 t ++ [(b, .box [x0, x1, x2, x3, .own c 6]), (c, .arr 1 oldC 0)] := by
  refine ACalls.of_W tb_ok (fn := Tryd.f30) (n := 132) (by kernel_rfl) rfl (by kernel_rfl) rfl rfl (by simp) (go ?_)
  refine VLoop.un 4 [4, 5] (go ?_)
  refine VInt.to 3 (by decide) (by omega) (by omega) (go ?_)
  refine VAll.mk (fun t0 => go ?_)
  refine VAll.mk (fun d => go ?_)
  refine VLoop.un 4 [12] (go ?_)
  refine VBytes.mk [34] rfl rfl (go ?_)
  refine VAll.mk (fun t1 => go ?_)
  refine VAll.mk (fun e1 => go ?_)
  refine VBytes.mk [10] rfl rfl (go ?_)
  refine VAll.mk (fun t2 => go ?_)
  refine VAll.mk (fun e2 => go ?_)
  refine VObj.mk 5 _ rfl (go ?_)
  refine VObj.mk 5 _ rfl (go ?_)
  refine VBytes.mk [92] rfl rfl (go ?_)
  refine VAll.mk (fun t3 => go ?_)
  refine VAll.mk (fun e3 => go ?_)
  refine VRet.mk _ (.cons 4 rfl (.cons 3 rfl (.cons 2 rfl (.cons 0 rfl (.cons 0 rfl (.cons 0 rfl (.cons 0 rfl .nil))))))) ⟨d, e1, e2, e3, t3, rfl, ?_⟩
  rfl
end Go.Proofs.YthmklkggehgijaaDoor

namespace Go.Proofs.YthmklkggehgijaaDoor
open Go Go.Av
theorem fn_IndexByte (l : List UInt8) (c : Int) : Av.Fn Tryd.prog 16 [.str l, .int .u8 c] (.int .i64 (Lib.indexByte l c.toNat.toUInt8)) := by
  refine Fn.of_calls (fn := Tryd.f16) (by kernel_rfl) rfl (by kernel_rfl) ?_
  intro W w g us hl hr hb
  obtain ⟨u1, _, rfl, ⟨h1, _⟩, u2, _, rfl, ⟨h2, _⟩, h3⟩ := hr
  have h1 : u1 = _ := h1; have h2 : u2 = _ := h2; have h3 : _ = [] := h3
  subst h1; subst h2; subst h3
  refine (Tryd.strings_IndexByte ⟨⟨l⟩⟩ c w).mono fun e w' ⟨h1, h2⟩ => ?_
  subst h2
  exact ⟨_, h1, rfl, RowKit.Below.refl _ _⟩
theorem fn_ValidRune (r : Int) : Av.Fn Tryd.prog 40 [.int .i32 r] (.bool (Lib.validRune r)) := by
  refine Fn.of_calls (fn := Tryd.f40) (by kernel_rfl) rfl (by kernel_rfl) ?_
  intro W w g us hl hr hb
  obtain ⟨u1, _, rfl, ⟨h1, _⟩, h3⟩ := hr
  have h1 : u1 = _ := h1; have h3 : _ = [] := h3
  subst h1; subst h3
  refine (Tryd.utf8_ValidRune r w).mono fun e w' ⟨h1, h2⟩ => ?_
  subst h2
  exact ⟨_, h1, rfl, RowKit.Below.refl _ _⟩
theorem fn_Cutover (n : Int) (h0 : 0 ≤ n) (h1 : n < 4611686018427387904) : Av.Fn Tryd.prog 41 [.int .i64 n] (.int .i64 ((n + 16) / 8)) := by
  refine Fn.of_calls (fn := Tryd.f41) (by kernel_rfl) rfl (by kernel_rfl) ?_
  intro W w g us hl hr hb
  obtain ⟨u1, _, rfl, ⟨h1, _⟩, h3⟩ := hr
  have h1 : u1 = _ := h1; have h3 : _ = [] := h3
  subst h1; subst h3
  refine (Tryd.bytealg_Cutover n (by assumption) (by assumption) w).mono fun e w' ⟨h1, h2⟩ => ?_
  subst h2
  exact ⟨_, h1, rfl, RowKit.Below.refl _ _⟩
theorem fn_Decode (l : List UInt8) : Av.Fn Tryd.prog 25 [.str l] (.tup [.int .i32 (Lib.decodeGo ⟨⟨l⟩⟩).1, .int .i64 (Lib.decodeGo ⟨⟨l⟩⟩).2]) := by
  refine Fn.of_calls (fn := Tryd.f25) (by kernel_rfl) rfl (by kernel_rfl) ?_
  intro W w g us hl hr hb
  obtain ⟨u1, _, rfl, ⟨h1, _⟩, h3⟩ := hr
  have h1 : u1 = _ := h1; have h3 : _ = [] := h3
  subst h1; subst h3
  refine (Tryd.utf8_DecodeRuneInString ⟨⟨l⟩⟩ w (hl.now hb (by kernel_rfl) (by kernel_rfl))).mono fun e w' ⟨h1, h2⟩ => ?_
  exact ⟨_, h1, ⟨_, rfl, _, _, rfl, ⟨rfl, by simp⟩, _, _, rfl, ⟨rfl, by simp⟩, rfl⟩, h2⟩
end Go.Proofs.YthmklkggehgijaaDoor

namespace Go.Proofs.YthmklkggehgijaaDoor
open Go Go.Av
/-- Does a text begin with another? -/
def begins (s p : List UInt8) : Bool := decide (p.length ≤ s.length) && decide (s.take p.length = p)
theorem fn_sHasPrefix (s p : List UInt8) : Av.Fn Tryd.prog 27 [.str s, .str p] (.bool (begins s p)) := by
  refine ACalls.of_W tb_ok (fn := Tryd.f27) (n := 18) (by kernel_rfl) rfl (by kernel_rfl) rfl rfl (by simp) (go ?_)
  refine fork (fun h => go ?_) (fun h => go ?_)
  · refine VRet.mk [] .nil ?_
    simp [begins, Int.ofNat_le.1 h]
  · refine VRet.mk [] .nil ?_
    simp [begins]
    omega
theorem fn_HasPrefix (s p : List UInt8) : Av.Fn Tryd.prog 19 [.str s, .str p] (.bool (begins s p)) := by
  refine ACalls.of_W tb_ok (fn := Tryd.f19) (n := 8) (by kernel_rfl) rfl (by kernel_rfl) rfl rfl (by simp) (go ?_)
  refine Fn.use (fn_sHasPrefix s p) (go ?_)
  refine VRet.mk [] .nil ?_
  simp
end Go.Proofs.YthmklkggehgijaaDoor

namespace Go.Av
open Go

/-- The first character of a text, and how many bytes it has. -/
def dec (l : List UInt8) : Nat × Nat := Utf8.decode ⟨⟨l⟩⟩ 0
theorem dec_at (l : List UInt8) (p : Nat) : Utf8.decode ⟨⟨l⟩⟩ p = dec (l.drop p) := (Lib.decodeL_drop ⟨⟨l⟩⟩ p).symm
theorem dec_N (l : List UInt8) : dec l = Lib.decodeN l.length (l.getD 0 0).toNat (l.getD 1 0).toNat (l.getD 2 0).toNat (l.getD 3 0).toNat := Lib.decodeL_N l
theorem dec_pos (l : List UInt8) (h : l ≠ []) : 1 ≤ (dec l).2 ∧ (dec l).2 ≤ l.length ∧ (dec l).2 ≤ 4 ∧ (dec l).1 ≤ 1114111 := by
  have hl : 1 ≤ l.length := by cases l with | nil => exact absurd rfl h | cons => simp
  rw [dec_N]
  unfold Lib.decodeN
  repeat' split
  all_goals simp only
  all_goals omega
/-- The characters of a text, each with how many bytes it has. -/
def runesN : Nat → List UInt8 → List (Nat × Nat)
  | 0, _ => []
  | n + 1, l => if l = [] then [] else dec l :: runesN n (l.drop (dec l).2)
def runes (l : List UInt8) : List (Nat × Nat) := runesN l.length l
theorem runesN_eq : ∀ (n : Nat) (l : List UInt8), l.length ≤ n → runesN n l = runesN l.length l
  | 0, l, h => by have : l = [] := List.length_eq_zero_iff.1 (by omega); subst this; rfl
  | n + 1, l, h => by
    by_cases e : l = []
    · subst e; simp [runesN]
    · obtain ⟨h1, h2, _⟩ := dec_pos l e
      obtain ⟨m, hm⟩ : ∃ m, l.length = m + 1 := ⟨l.length - 1, by omega⟩
      rw [hm]
      simp only [runesN, e, if_false]
      have h3 : (l.drop (dec l).2).length ≤ m := by rw [List.length_drop]; omega
      rw [runesN_eq n _ (by rw [List.length_drop]; omega), runesN_eq m _ h3]
@[simp] theorem runes_nil : runes [] = [] := rfl
theorem runes_cons {l : List UInt8} (h : l ≠ []) : runes l = dec l :: runes (l.drop (dec l).2) := by
  obtain ⟨h1, h2, _⟩ := dec_pos l h
  obtain ⟨m, hm⟩ : ∃ m, l.length = m + 1 := ⟨l.length - 1, by omega⟩
  unfold runes
  rw [hm]
  simp only [runesN, h, if_false]
  rw [runesN_eq m _ (by rw [List.length_drop]; omega)]
/-- How many bytes stand ahead of the first character of a kind. -/
def spanR (p : Nat → Bool) : List (Nat × Nat) → Nat
  | [] => 0
  | (r, k) :: rs => if p r then 0 else k + spanR p rs
theorem runes_ind {C : List UInt8 → Prop} (h0 : C []) (h1 : ∀ l, l ≠ [] → C (l.drop (dec l).2) → C l) : ∀ l, C l := by
  intro l
  induction hn : l.length using Nat.strongRecOn generalizing l with
  | _ n ih =>
    by_cases e : l = []
    · rw [e]; exact h0
    · obtain ⟨h2, h3, _⟩ := dec_pos l e
      exact h1 l e (ih _ (by rw [List.length_drop]; omega) _ rfl)
theorem sum_runes (l : List UInt8) : ((runes l).map (·.2)).sum = l.length := by
  induction l using runes_ind with
  | h0 => rfl
  | h1 l hl ih =>
    obtain ⟨h2, h3, _⟩ := dec_pos l hl
    rw [runes_cons hl, List.map_cons, List.sum_cons, ih, List.length_drop]; omega
theorem spanR_sum (p : Nat → Bool) : ∀ rs : List (Nat × Nat), spanR p rs ≤ (rs.map (·.2)).sum
  | [] => Nat.le_refl _
  | (r, k) :: rs => by
    have := spanR_sum p rs
    unfold spanR
    split
    · simp
    · simp; omega
theorem spanR_le (p : Nat → Bool) (l : List UInt8) : spanR p (runes l) ≤ l.length := by
  have := spanR_sum p (runes l); rwa [sum_runes] at this
theorem spanR_none {p : Nat → Bool} : ∀ {rs : List (Nat × Nat)}, rs.any (fun x => p x.1) = false → spanR p rs = (rs.map (·.2)).sum
  | [], _ => rfl
  | (r, k) :: rs, h => by
    rw [List.any_cons, Bool.or_eq_false_iff] at h
    unfold spanR
    rw [if_neg (by simp [h.1]), spanR_none h.2, List.map_cons, List.sum_cons]
end Go.Av

namespace Go.Proofs.YthmklkggehgijaaDoor
open Go Go.Av
def esc (c : UInt8) : Option UInt8 := if c = 110 then some 10 else if c = 34 then some 34 else if c = 92 then some 92 else none
/-- The string behind a quote at a place: its text, where it ends or is at fault, the error. -/
def textL (a : Nat) : List UInt8 → List UInt8 → Nat → List UInt8 × Int × Int
  | [], _, _ => ([], a, 9)
  | c :: r, acc, i =>
    if c = 34 then (if acc.length > 4096 then ([], a, 11) else (acc, i + 1, 0))
    else if c = 92 then (match r with
      | [] => (([], i, 9) : List UInt8 × Int × Int)
      | d :: r' => match esc d with
        | none => ([], i, 9)
        | some e => textL a r' (acc ++ [e]) (i + 2))
    else textL a r (acc ++ [c]) (i + 1)
theorem textL_cons (a : Nat) (c : UInt8) (r acc : List UInt8) (i : Nat) : textL a (c :: r) acc i =
    (if c = 34 then (if acc.length > 4096 then ([], a, 11) else (acc, i + 1, 0))
    else if c = 92 then (match r with
      | [] => (([], i, 9) : List UInt8 × Int × Int)
      | d :: r' => match esc d with
        | none => ([], i, 9)
        | some e => textL a r' (acc ++ [e]) (i + 2))
    else textL a r (acc ++ [c]) (i + 1) : List UInt8 × Int × Int) := by rw [textL.eq_def]
def textR (s : List UInt8) (a : Nat) : List UInt8 × Int × Int := textL a (s.drop (a + 1)) [] (a + 1)
def bytesC (l : List UInt8) : List AV := l.map fun c => .int .u8 c.toNat
theorem bytesC_append (l m : List UInt8) : bytesC (l ++ m) = bytesC l ++ bytesC m := by simp [bytesC]
@[simp] theorem bytesC_length (l : List UInt8) : (bytesC l).length = l.length := by simp [bytesC]
theorem take_bytesC (l : List UInt8) : (bytesC l).take l.length = l.map fun c => .int .u8 c.toNat := by rw [List.take_of_length_le (by simp)]; rfl
/-- A slice that grows: nil, or an object of one's own. -/
def accV (o : Option Nat) (n : Nat) : AV := match o with
  | none => .nils
  | some b => .own b n
def accS (o : Option Nat) (esz : Nat) (cells : List AV) : St := match o with
  | none => []
  | some b => [(b, .arr esz cells 0)]
theorem escK (d : UInt8) : (match esc d with | none => Lib.indexByte [110, 34, 92] d = -1 | some e => ∃ k : Nat, k < 3 ∧ Lib.indexByte [110, 34, 92] d = k ∧ ([10, 34, 92] : List UInt8)[k]? = some e) := by
  unfold esc
  by_cases h1 : d = 110
  · subst h1; exact ⟨0, by decide, by decide, rfl⟩
  by_cases h2 : d = 34
  · subst h2; exact ⟨1, by decide, by decide, rfl⟩
  by_cases h3 : d = 92
  · subst h3; exact ⟨2, by decide, by decide, rfl⟩
  rw [if_neg h1, if_neg h2, if_neg h3]
  simp [Lib.indexByte, Ne.symm h1, Ne.symm h2, Ne.symm h3]
theorem drop_getD {s : List UInt8} {i : Nat} (h : i < s.length) : s.drop i = s.getD i 0 :: s.drop (i + 1) := by
  rw [List.drop_eq_getElem_cons h]; simp [h]
structure TxtI where
  o : Option Nat
  acc : List UInt8
  i : Nat






theorem f_text (s : List UInt8) (a : Nat) (ha : a < s.length) (hs : s.length ≤ 65536) :
    Av.Fn Tryd.prog 17 [.str s, .int .i64 a] (.tup [.str (textR s a).1, .int .i64 (textR s a).2.1, .int .i64 (textR s a).2.2]) := by
  refine ACalls.of_W tb_ok (fn := Tryd.f17) (n := 60) (by kernel_rfl) rfl (by kernel_rfl) rfl rfl (by simp) (go ?_)
  refine VLoop.mk [7, 8] TxtI (fun i => [accV i.o i.acc.length, .int .i64 i.i]) (fun i => accS i.o 1 (bytesC i.acc))
    (fun i => i.i ≤ s.length + 1 ∧ i.acc.length ≤ i.i ∧ (i.o = none → i.acc = []) ∧ textL a (s.drop i.i) i.acc i.i = textR s a) (fun i => s.length + 1 - i.i) ⟨none, [], a + 1⟩ ?_ ?_
  · exact ⟨⟨by dsimp only; omega, by simp, by simp, rfl⟩, rfl, .nil⟩
  rintro ⟨o, acc, i⟩ ⟨hi, hal, ho, hI⟩
  dsimp only at hi hal ho hI ⊢
  cases o with
  | none =>
    have hacc := ho rfl
    subst hacc
    refine go ?_
    refine fork (fun hlt => go ?_) (fun hlt => go ?_)
    · have hlt : i < s.length := by omega
      have hdr := drop_getD hlt
      generalize hc : s.getD i 0 = c at hdr
      refine fork (fun h34 => go ?_) (fun h34 => go ?_)
      · have h34 : c = 34 := by rw [← UInt8.toNat_inj]; exact Int.ofNat_inj.1 h34
        rw [hdr, textL_cons, if_pos h34] at hI
        rw [if_neg (by simp)] at hI
        refine VRet.mk [] .nil ?_
        rw [← hI]; exact ⟨rfl, rfl⟩
      · have h34 : ¬ c = 34 := by rw [← UInt8.toNat_inj]; exact fun e => h34 (Int.ofNat_inj.2 e)
        refine fork (fun h92 => go ?_) (fun h92 => go ?_)
        · have h92 : c = 92 := by rw [← UInt8.toNat_inj]; exact Int.ofNat_inj.1 h92
          refine fork (fun h2 => go ?_) (fun h2 => go ?_)
          · have h2 : i + 1 < s.length := by omega
            have hdr2 := drop_getD h2
            generalize hd : s.getD (i + 1) 0 = d at hdr2
            have fb := fn_IndexByte [110, 34, 92] d.toNat
            simp only [Int.toNat_natCast, Nat.toUInt8, UInt8.ofNat_toNat] at fb
            refine Fn.use (fb) (go ?_)
            have hk := escK d
            cases he : esc d with
            | none =>
              rw [he] at hk
              dsimp only at hk
              rw [hk]
              refine go ?_
              refine VRet.mk [] .nil ?_
              rw [← hI, hdr, textL_cons, if_neg h34, if_pos h92, hdr2]; simp [he]
            | some e =>
              rw [he] at hk
              dsimp only at hk
              obtain ⟨k, hk3, hk, hke⟩ := hk
              rw [hk]
              refine VIf.no (by simp) (go ?_)
              have hgd : ([10, 34, 92] : List UInt8).getD k 0 = e := by rw [List.getD_eq_getElem?_getD, hke]; rfl
              rw [hgd]
              refine VAll.mk (fun b2 => go ?_)
              refine ⟨⟨some b2, [] ++ [e], i + 2⟩, ⟨?_, ?_, ?_, ?_⟩, ?_, ?_, ?_⟩
              · dsimp only; omega
              · simp; try omega
              · intro h; cases h
              · dsimp only; rw [← hI, hdr, textL_cons]; rw [if_neg h34, if_pos h92, hdr2]; simp [he]
              · dsimp only; omega
              · simp [accV, List.length_nil]; try omega
              · simp only [accS, bytesC_append]; simp [bytesC, List.take_of_length_le]; exact .cons 0 rfl .nil
          · refine go ?_
            refine VRet.mk [] .nil ?_
            rw [← hI, hdr, textL_cons, if_neg h34, if_pos h92, List.drop_eq_nil_of_le (by omega)]
            exact ⟨rfl, rfl⟩
        · have h92 : ¬ c = 92 := by rw [← UInt8.toNat_inj]; exact fun e => h92 (Int.ofNat_inj.2 e)
          rw [hc]
          refine VAll.mk (fun b2 => go ?_)
          refine ⟨⟨some b2, [] ++ [c], i + 1⟩, ⟨?_, ?_, ?_, ?_⟩, ?_, ?_, ?_⟩
          · dsimp only; omega
          · simp; try omega
          · intro h; cases h
          · dsimp only; rw [← hI, hdr, textL_cons]; rw [if_neg h34, if_neg h92]
          · dsimp only; omega
          · simp [accV, List.length_nil]; try omega
          · simp only [accS, bytesC_append]; simp [bytesC, List.take_of_length_le]; exact .cons 0 rfl .nil
    · rw [List.drop_eq_nil_of_le (by omega), textL] at hI
      refine VRet.mk [] .nil ?_
      rw [← hI]; exact ⟨rfl, rfl⟩
  | some b =>
    refine go ?_
    refine fork (fun hlt => go ?_) (fun hlt => go ?_)
    · have hlt : i < s.length := by omega
      have hdr := drop_getD hlt
      generalize hc : s.getD i 0 = c at hdr
      refine fork (fun h34 => go ?_) (fun h34 => go ?_)
      · have h34 : c = 34 := by rw [← UInt8.toNat_inj]; exact Int.ofNat_inj.1 h34
        rw [hdr, textL_cons, if_pos h34] at hI
        refine fork (fun hbig => go ?_) (fun hbig => go ?_)
        · rw [if_pos (by omega)] at hI
          refine VRet.mk [] .nil ?_
          rw [← hI]; exact ⟨rfl, rfl⟩
        · rw [if_neg (by omega)] at hI
          refine VBytes.mk acc (take_bytesC acc) rfl (go ?_)
          refine VRet.mk [] .nil ?_
          rw [← hI]; exact ⟨rfl, rfl⟩
      · have h34 : ¬ c = 34 := by rw [← UInt8.toNat_inj]; exact fun e => h34 (Int.ofNat_inj.2 e)
        refine fork (fun h92 => go ?_) (fun h92 => go ?_)
        · have h92 : c = 92 := by rw [← UInt8.toNat_inj]; exact Int.ofNat_inj.1 h92
          refine fork (fun h2 => go ?_) (fun h2 => go ?_)
          · have h2 : i + 1 < s.length := by omega
            have hdr2 := drop_getD h2
            generalize hd : s.getD (i + 1) 0 = d at hdr2
            have fb := fn_IndexByte [110, 34, 92] d.toNat
            simp only [Int.toNat_natCast, Nat.toUInt8, UInt8.ofNat_toNat] at fb
            refine Fn.use (fb) (go ?_)
            have hk := escK d
            cases he : esc d with
            | none =>
              rw [he] at hk
              dsimp only at hk
              rw [hk]
              refine go ?_
              refine VRet.mk [] .nil ?_
              rw [← hI, hdr, textL_cons, if_neg h34, if_pos h92, hdr2]; simp [he]
            | some e =>
              rw [he] at hk
              dsimp only at hk
              obtain ⟨k, hk3, hk, hke⟩ := hk
              rw [hk]
              refine VIf.no (by simp) (go ?_)
              have hgd : ([10, 34, 92] : List UInt8).getD k 0 = e := by rw [List.getD_eq_getElem?_getD, hke]; rfl
              rw [hgd]
              refine VGd.mk (by simp; omega) (go ?_)
              refine VAll.mk (fun b2 => go ?_)
              refine ⟨⟨some b2, acc ++ [e], i + 2⟩, ⟨?_, ?_, ?_, ?_⟩, ?_, ?_, ?_⟩
              · dsimp only; omega
              · simp; try omega
              · intro h; cases h
              · dsimp only; rw [← hI, hdr, textL_cons]; rw [if_neg h34, if_pos h92, hdr2]; simp [he]
              · dsimp only; omega
              · simp [accV, List.length_nil]; try omega
              · simp only [accS, bytesC_append]; simp [bytesC, List.take_of_length_le]; exact .cons 0 rfl .nil
          · refine go ?_
            refine VRet.mk [] .nil ?_
            rw [← hI, hdr, textL_cons, if_neg h34, if_pos h92, List.drop_eq_nil_of_le (by omega)]
            exact ⟨rfl, rfl⟩
        · have h92 : ¬ c = 92 := by rw [← UInt8.toNat_inj]; exact fun e => h92 (Int.ofNat_inj.2 e)
          rw [hc]
          refine VGd.mk (by simp; omega) (go ?_)
          refine VAll.mk (fun b2 => go ?_)
          refine ⟨⟨some b2, acc ++ [c], i + 1⟩, ⟨?_, ?_, ?_, ?_⟩, ?_, ?_, ?_⟩
          · dsimp only; omega
          · simp; try omega
          · intro h; cases h
          · dsimp only; rw [← hI, hdr, textL_cons]; rw [if_neg h34, if_neg h92]
          · dsimp only; omega
          · simp [accV, List.length_nil]; try omega
          · simp only [accS, bytesC_append]; simp [bytesC, List.take_of_length_le]; exact .cons 0 rfl .nil
    · rw [List.drop_eq_nil_of_le (by omega), textL] at hI
      refine VRet.mk [] .nil ?_
      rw [← hI]; exact ⟨rfl, rfl⟩
end Go.Proofs.YthmklkggehgijaaDoor

namespace Go.Proofs.YthmklkggehgijaaDoor
open Go Go.Av
theorem fn_indexFunc (f : Nat) (p : Nat → Bool) (hf : ∀ r : Nat, r ≤ 1114111 → Av.Fn Tryd.prog f [.int .i32 r] (.bool (p r))) (l : List UInt8) (want : Bool) :
    Av.Fn Tryd.prog 22 [.str l, .fn (.func f) [] [], .bool want] (.int .i64 (if (runes l).any (fun x => p x.1 == want) then (spanR (fun r => p r == want) (runes l) : Int) else -1)) := by
  refine ACalls.of_W tb_ok (fn := Tryd.f22) (n := 21) (by kernel_rfl) rfl (by kernel_rfl) rfl rfl (by simp) (go ?_)
  refine VAll.mk (fun b => go ?_)
  refine VLoop.mk [] Nat (fun i => []) (fun i => [(b, .siter l i)])
    (fun i => i ≤ l.length ∧ (runes l).any (fun x => p x.1 == want) = (runes (l.drop i)).any (fun x => p x.1 == want) ∧ spanR (fun r => p r == want) (runes l) = i + spanR (fun r => p r == want) (runes (l.drop i))) (fun i => l.length - i) 0 ?_ ?_
  · exact ⟨⟨by simp, by simp, by simp⟩, rfl, .cons 0 rfl .nil⟩
  rintro i ⟨hi, hany, hsp⟩
  refine go ?_
  refine fork (fun hlt => go ?_) (fun hlt => go ?_)
  · have hne' : l.drop i ≠ [] := by simp; omega
    have hc := dec_pos _ hne'
    rw [runes_cons hne', List.length_drop] at *
    rw [← dec_at] at hc hany hsp
    generalize hdc : Utf8.decode ⟨⟨l⟩⟩ i = c
    rw [hdc] at hc hany hsp
    rw [List.drop_drop] at hany hsp
    obtain ⟨r, k⟩ := c
    dsimp only at hc hany hsp ⊢
    refine Fn.use (hf r (by omega)) (go ?_)
    cases hw : (p r == want) with
    | true =>
      refine VIf.yes (by first | simpa using hw | simp [hw]) (go ?_)
      refine VRet.mk [] .nil ?_
      rw [hany, hsp]
      simp [hw, spanR]
    | false =>
      refine VIf.no (by first | simpa using hw | simp [hw]) (go ?_)
      refine ⟨i + k, ⟨by omega, ?_, ?_⟩, by omega, rfl, .cons 0 rfl .nil⟩
      · rw [hany]; simp [hw]
      · rw [hsp]; simp [hw, spanR]; omega
  · rw [List.drop_eq_nil_of_le (by omega)] at hany
    refine VRet.mk [] .nil ?_
    rw [hany]
    simp
theorem fn_IndexFunc (f : Nat) (p : Nat → Bool) (hf : ∀ r : Nat, r ≤ 1114111 → Av.Fn Tryd.prog f [.int .i32 r] (.bool (p r))) (l : List UInt8) :
    Av.Fn Tryd.prog 15 [.str l, .fn (.func f) [] []] (.int .i64 (if (runes l).any (fun x => p x.1) then (spanR p (runes l) : Int) else -1)) := by
  have h := fn_indexFunc f p hf l true
  simp only [beq_true] at h
  refine ACalls.of_W tb_ok (fn := Tryd.f15) (n := 8) (by kernel_rfl) rfl (by kernel_rfl) rfl rfl (by simp) (go ?_)
  refine Fn.use (h) (go ?_)
  refine VRet.mk [] .nil ?_
  simp
theorem fn_TrimLeftFunc (f : Nat) (p : Nat → Bool) (hf : ∀ r : Nat, r ≤ 1114111 → Av.Fn Tryd.prog f [.int .i32 r] (.bool (p r))) (l : List UInt8) :
    Av.Fn Tryd.prog 13 [.str l, .fn (.func f) [] []] (.str (l.drop (spanR (fun r => !p r) (runes l)))) := by
  have h := fn_indexFunc f p hf l false
  simp only [beq_false] at h
  have hle := spanR_le (fun r => !p r) l
  refine ACalls.of_W tb_ok (fn := Tryd.f13) (n := 14) (by kernel_rfl) rfl (by kernel_rfl) rfl rfl (by simp) (go ?_)
  refine Fn.use (h) (go ?_)
  by_cases ha : (runes l).any (fun x => !p x.1) = true
  · rw [if_pos ha]
    refine fork (fun h1 => go ?_) (fun h1 => go ?_)
    · exfalso; have := h1; omega
    · refine VRet.mk [] .nil ?_
      simp
  · rw [if_neg ha]
    rw [spanR_none (by simpa using ha), sum_runes]
    refine fork (fun h1 => go ?_) (fun h1 => go ?_)
    · refine VRet.mk [] .nil ?_
      simp
    · exact absurd rfl h1
end Go.Proofs.YthmklkggehgijaaDoor

namespace Go.Av
open Go
theorem dec_ascii (c : UInt8) (t : List UInt8) (hc : c.toNat < 128) : dec (c :: t) = (c.toNat, 1) := by
  rw [dec_N]; simp [Lib.decodeN, hc]
/-- A byte of ASCII ends what stands ahead. -/
theorem dec_app {x : List UInt8} (hx : x ≠ []) (c : UInt8) (t : List UInt8) (hc : c.toNat < 128) : dec (x ++ c :: t) = dec x := by
  rw [dec_N, dec_N]
  match x, hx with
  | [a], _ => simp [Lib.decodeN]; repeat' split
              all_goals first | rfl | (exfalso; omega)
  | [a, b], _ => simp [Lib.decodeN]; repeat' split
                 all_goals first | rfl | (exfalso; omega)
  | [a, b, d], _ => simp [Lib.decodeN]; repeat' split
                    all_goals first | rfl | (exfalso; omega)
  | a :: b :: d :: e :: r, _ => simp [Lib.decodeN]
theorem runes_app (x : List UInt8) (c : UInt8) (t : List UInt8) (hc : c.toNat < 128) : runes (x ++ c :: t) = runes x ++ runes (c :: t) := by
  induction x using runes_ind with
  | h0 => rfl
  | h1 x hx ih =>
    obtain ⟨h1, h2, _⟩ := dec_pos x hx
    rw [runes_cons (l := x ++ c :: t) (by simp), dec_app hx c t hc, runes_cons hx, List.cons_append]
    congr 1
    rw [List.drop_append_of_le_length h2]
    exact ih
theorem runes_ascii (c : UInt8) (t : List UInt8) (hc : c.toNat < 128) : runes (c :: t) = (c.toNat, 1) :: runes t := by
  rw [runes_cons (by simp), dec_ascii c t hc]; rfl
def badB (c : Nat × Nat) : Bool := decide (c = (65533, 1))
theorem begins_fffd (l : List UInt8) : (decide ((3 : Nat) ≤ l.length) && decide (l.take 3 = [239, 191, 189])) = decide ((l.getD 0 0).toNat = 239 ∧ (l.getD 1 0).toNat = 191 ∧ (l.getD 2 0).toNat = 189) := by
  match l with
  | [] => simp
  | [a] => simp
  | [a, b] => simp
  | a :: b :: d :: r =>
    simp only [← UInt8.toNat_inj, List.take_succ_cons, List.take_zero, List.cons.injEq, and_true, List.getD_cons_zero, List.getD_cons_succ]
    simp
/-- The replacement character is no fault where its own bytes stand. -/
theorem dec_bad {l : List UInt8} (h : l ≠ []) : (decide ((dec l).1 = 65533) && !(decide ((3 : Nat) ≤ l.length) && decide (l.take 3 = [239, 191, 189]))) = badB (dec l) := by
  have hl : 1 ≤ l.length := by cases l with | nil => exact absurd rfl h | cons => simp
  rw [begins_fffd]
  rw [dec_N]
  have b0 := (l.getD 0 0).toNat_lt
  have b1 := (l.getD 1 0).toNat_lt
  have b2 := (l.getD 2 0).toNat_lt
  have b3 := (l.getD 3 0).toNat_lt
  have hlen : (l.getD 1 0).toNat ≠ 0 → 1 < l.length := by
    intro h; refine Decidable.byContradiction fun hn => h ?_
    rw [List.getD_eq_getElem?_getD, List.getElem?_eq_none (by omega)]; rfl
  have hlen2 : (l.getD 2 0).toNat ≠ 0 → 2 < l.length := by
    intro h; refine Decidable.byContradiction fun hn => h ?_
    rw [List.getD_eq_getElem?_getD, List.getElem?_eq_none (by omega)]; rfl
  generalize (l.getD 0 0).toNat = a at *
  generalize (l.getD 1 0).toNat = b at *
  generalize (l.getD 2 0).toNat = c at *
  generalize (l.getD 3 0).toNat = d at *
  generalize l.length = n at *
  rw [Bool.eq_iff_iff]
  simp only [badB, Bool.and_eq_true, Bool.not_eq_true', decide_eq_true_eq, decide_eq_false_iff_not]
  unfold Lib.decodeN
  repeat' split
  all_goals
    simp only [Prod.mk.injEq]
    first
    | (refine ⟨fun h => ⟨h.1, ?_⟩, fun h => ⟨h.1, ?_⟩⟩ <;> (obtain ⟨e1, e2⟩ := h; omega))
    | (simp; omega)
def faultL : List (Nat × Nat) → Option Nat
  | [] => none
  | c :: rs => if badB c then some 0 else (faultL rs).map (c.2 + ·)
def faultR (l : List UInt8) : Option Nat := faultL (runes l)
def faultV (l : List UInt8) : Int := match faultR l with
  | none => -1
  | some i => i
theorem faultL_app : ∀ (a b : List (Nat × Nat)), faultL (a ++ b) = none ↔ faultL a = none ∧ faultL b = none
  | [], b => by simp [faultL]
  | c :: a, b => by
    rw [List.cons_append, faultL, faultL]
    cases badB c with
    | true => simp
    | false => simp [faultL_app a b]
theorem faultR_app (x : List UInt8) (c : UInt8) (t : List UInt8) (hc : c.toNat < 128) : faultR (x ++ c :: t) = none ↔ faultR x = none ∧ faultR t = none := by
  unfold faultR
  rw [runes_app x c t hc, faultL_app, runes_ascii c t hc, faultL]
  have : badB (c.toNat, 1) = false := by simp [badB]; omega
  rw [this]; simp
end Go.Av

namespace Go.Proofs.YthmklkggehgijaaDoor
open Go Go.Av
theorem f_fault (l : List UInt8) : Av.Fn Tryd.prog 9 [.str l] (.int .i64 (faultV l)) := by
  refine ACalls.of_W tb_ok (fn := Tryd.f9) (n := 21) (by kernel_rfl) rfl (by kernel_rfl) rfl rfl (by simp) (go ?_)
  refine VAll.mk (fun b => go ?_)
  refine VLoop.mk [] Nat (fun i => []) (fun i => [(b, .siter l i)])
    (fun i => i ≤ l.length ∧ faultR l = (faultR (l.drop i)).map (i + ·)) (fun i => l.length - i) 0 ?_ ?_
  · exact ⟨⟨by simp, by simp⟩, rfl, .cons 0 rfl .nil⟩
  rintro i ⟨hi, hI⟩
  refine go ?_
  refine fork (fun hlt => go ?_) (fun hlt => go ?_)
  · have hne' : l.drop i ≠ [] := by simp; omega
    have hc := dec_pos _ hne'
    have hbad := dec_bad hne'
    have hb := fn_HasPrefix (l.drop i) [239, 191, 189]
    rw [show begins (l.drop i) [239, 191, 189] = (decide ((3 : Nat) ≤ (l.drop i).length) && decide ((l.drop i).take 3 = [239, 191, 189])) from rfl] at hb
    unfold faultR at hI
    rw [runes_cons hne', faultL, ← hbad] at hI
    rw [← dec_at] at hc hI hbad
    generalize hdc : Utf8.decode ⟨⟨l⟩⟩ i = c at hc hI hbad
    rw [List.drop_drop] at hI
    obtain ⟨r, k⟩ := c
    dsimp only at hc hI hbad ⊢
    rw [List.length_drop] at hc
    refine fork (fun h1 => go ?_) (fun h1 => go ?_)
    · have h1 : r = 65533 := by omega
      generalize (decide ((3 : Nat) ≤ (l.drop i).length) && decide ((l.drop i).take 3 = [239, 191, 189])) = q at hb hI
      cases q with
      | true =>
        refine Fn.use (hb) (go ?_)
        refine ⟨i + k, ⟨by omega, ?_⟩, by omega, rfl, .cons 0 rfl .nil⟩
        unfold faultR; rw [hI]; simp [h1, Option.map_map, Function.comp_def, Nat.add_assoc]
      | false =>
        refine Fn.use (hb) (go ?_)
        refine VRet.mk [] .nil ?_
        have : faultR l = some i := by unfold faultR; rw [hI]; simp [h1]
        simp [faultV, this]
    · have h1 : ¬ r = 65533 := by omega
      refine ⟨i + k, ⟨by omega, ?_⟩, by omega, rfl, .cons 0 rfl .nil⟩
      unfold faultR
      rw [hI]; simp [h1, Option.map_map, Function.comp_def, Nat.add_assoc]
  · rw [List.drop_eq_nil_of_le (by omega)] at hI
    refine VRet.mk [] .nil ?_
    have : faultR l = none := by rw [hI]; rfl
    simp [faultV, this]
end Go.Proofs.YthmklkggehgijaaDoor

namespace Go.Proofs.YthmklkggehgijaaDoor
open Go Go.Av
/-- The blanks, as a text. -/
def blanks : List UInt8 := [9, 10, 13, 32, 194, 160, 227, 128, 128]
def blankB (r : Int) : Bool := decide (r = 9) || decide (r = 10) || decide (r = 13) || decide (r = 32) || decide (r = 160) || decide (r = 12288)
theorem ascii_blank : ∀ n : Fin 128, (decide (0 ≤ Lib.indexByte blanks (UInt8.ofNat n.1)) = blankB n.1) := by decide +kernel
def posn (i : Nat) : Nat := [0, 1, 2, 3, 4, 6, 9].getD i 9
theorem posn_next : ∀ i : Fin 6, (Utf8.decode ⟨⟨blanks⟩⟩ (posn i.1)).1 < 13000 ∧ posn i.1 + (Utf8.decode ⟨⟨blanks⟩⟩ (posn i.1)).2 = posn (i.1 + 1) ∧ posn i.1 < 9 := by decide +kernel
theorem f37_ascii (r : Int) (h0 : 0 ≤ r) (h1 : r < 128) : ∃ k : Int, decide (0 ≤ k) = blankB r ∧ Av.Fn Tryd.prog 31 [.str blanks, .int .i32 r] (.int .i64 k) := by
  refine ⟨Lib.indexByte blanks r.toNat.toUInt8, ?_, ?_⟩
  · have := ascii_blank ⟨r.toNat, by omega⟩
    simp only [show ((r.toNat : Nat) : Int) = r by omega] at this
    exact this
  · refine ACalls.of_W tb_ok (fn := Tryd.f31) (n := 187) (by kernel_rfl) rfl (by kernel_rfl) rfl rfl (by simp) (go ?_)
    refine fork (fun h2 => go ?_) (fun h2 => go ?_)
    · refine fork (fun h3 => go ?_) (fun h3 => go ?_)
      · refine Fn.use (fn_IndexByte blanks r) (go ?_)
        refine VRet.mk [] .nil ?_
        simp
      · omega
    · omega
theorem f37_bad : Av.Fn Tryd.prog 31 [.str blanks, .int .i32 65533] (.int .i64 (-1)) := by
  refine ACalls.of_W tb_ok (fn := Tryd.f31) (n := 187) (by kernel_rfl) rfl (by kernel_rfl) rfl rfl (by simp) (go ?_)
  refine VAll.mk (fun b => go ?_)
  refine VLoop.mk [] Nat (fun _ => []) (fun i => [(b, .siter blanks (posn i))]) (fun i => i ≤ 6) (fun i => 6 - i) 0 ?_ ?_
  · exact ⟨by omega, rfl, .cons 0 rfl .nil⟩
  intro i hi
  refine go ?_
  refine fork (fun h => go ?_) (fun h => go ?_)
  · have hi6 : i < 6 := by
      rcases Nat.lt_or_ge i 6 with h6 | h6
      · exact h6
      · obtain rfl : i = 6 := by omega
        exact absurd h (by decide)
    obtain ⟨h1, h2, h3⟩ := posn_next ⟨i, hi6⟩
    dsimp only at h1 h2 h3
    generalize Utf8.decode ⟨⟨blanks⟩⟩ (posn i) = c at *
    refine go ?_
    refine fork (fun h4 => go ?_) (fun h4 => go ?_)
    · omega
    · exact ⟨i + 1, by omega, by omega, rfl, .cons 0 (by rw [h2]; rfl) .nil⟩
  · refine VRet.mk [] .nil ?_
    simp
theorem f37_invalid (r : Int) (h0 : 128 ≤ r) (h1 : r ≠ 65533) (h3 : Lib.validRune r = false) : Av.Fn Tryd.prog 31 [.str blanks, .int .i32 r] (.int .i64 (-1)) := by
  refine ACalls.of_W tb_ok (fn := Tryd.f31) (n := 187) (by kernel_rfl) rfl (by kernel_rfl) rfl rfl (by simp) (go ?_)
  refine fork (fun h4 => go ?_) (fun h4 => go ?_)
  · refine fork (fun h5 => go ?_) (fun h5 => go ?_)
    · omega
    · refine fork (fun h6 => go ?_) (fun h6 => go ?_)
      · omega
      · have h := fn_ValidRune r
        rw [h3] at h
        refine Fn.use (h) (go ?_)
        refine VRet.mk [] .nil ?_
        simp
  · omega








theorem blanks_other {c : UInt8} (hc : 128 ≤ c.toNat ∧ c.toNat < 192 ∧ c.toNat ≠ 160 ∧ c.toNat ≠ 128) (k : Nat) : Lib.indexByte (List.drop k blanks) (c.toNat : Int).toNat.toUInt8 = -1 := by
  have key : ∀ n : Fin 256, (128 ≤ n.1 ∧ n.1 < 192 ∧ n.1 ≠ 160 ∧ n.1 ≠ 128) → ∀ k : Fin 10, Lib.indexByte (List.drop k.1 blanks) n.1.toUInt8 = -1 := by decide +kernel
  have h := key ⟨c.toNat, c.toNat_lt⟩ hc
  by_cases hk : k < 10
  · exact h ⟨k, hk⟩
  · rw [List.drop_eq_nil_of_le (by simp [blanks]; omega)]; rfl
theorem f37_2a (r : Int) (e : UInt8) (h0 : 128 ≤ r) (h1 : r ≠ 65533) (h3 : Lib.validRune r = true) (hE : (Utf8.encode r).data.toList = [e, 160]) :
    Av.Fn Tryd.prog 31 [.str blanks, .int .i32 r] (.int .i64 (if e.toNat = 194 then 4 else -1)) := by
  refine ACalls.of_W tb_ok (fn := Tryd.f31) (n := 187) (by kernel_rfl) rfl (by kernel_rfl) rfl rfl (by simp) (go ?_)
  refine fork (fun h4 => go ?_) (fun h4 => go ?_)
  · refine fork (fun h5 => go ?_) (fun h5 => go ?_)
    · omega
    · refine fork (fun h6 => go ?_) (fun h6 => go ?_)
      · omega
      · have h := fn_ValidRune r
        rw [h3] at h
        refine Fn.use (h) (go ?_)
        refine VSem.scope 1 ?_
        refine go ?_
        rw [hE]
        refine go ?_
        refine VInt.to (1) (by simp) (by omega) (by omega) (go ?_)
        refine VLoop.un 5 [9, 10] ?_
        refine go ?_
        refine VSem.scope 1 ?_
        refine go ?_
        refine VQ.mk (.int .i64 3) (by refine go ?_; refine Fn.use (fn_IndexByte _ _) (go ?_); exact ⟨congrArg _ (by show Lib.indexByte (List.drop 2 blanks) 160 = 3; decide +kernel), rfl⟩) (go ?_)
        refine VLoop.un 5 [12] ?_
        refine go ?_
        refine fork (fun h7 => go ?_) (fun h7 => go ?_)
        · have h7 : ¬ (194 : Int) = e.toNat := h7
          rw [if_neg (by omega)]
          refine Fn.use (fn_Cutover _ (by decide) (by decide)) (go ?_)
          refine VSem.scope 1 ?_
          refine go ?_
          refine VQ.mk (.int .i64 (-1)) (by refine go ?_; refine Fn.use (fn_IndexByte _ _) (go ?_); exact ⟨congrArg _ (by show Lib.indexByte (List.drop 7 blanks) 160 = -1; decide +kernel), rfl⟩) (go ?_)
          refine VRet.mk [] .nil ?_
          simp
        · refine VRet.mk [] .nil ?_
          have h7 : (194 : Int) = e.toNat := h7
          rw [if_pos (by omega)]
          simp
  · omega
theorem f37_2b (r : Int) (e : UInt8) (h0 : 128 ≤ r) (h1 : r ≠ 65533) (h3 : Lib.validRune r = true) (hE : (Utf8.encode r).data.toList = [e, 128]) (he : 194 ≤ e.toNat ∧ e.toNat < 224) :
    Av.Fn Tryd.prog 31 [.str blanks, .int .i32 r] (.int .i64 (-1)) := by
  refine ACalls.of_W tb_ok (fn := Tryd.f31) (n := 187) (by kernel_rfl) rfl (by kernel_rfl) rfl rfl (by simp) (go ?_)
  refine fork (fun h4 => go ?_) (fun h4 => go ?_)
  · refine fork (fun h5 => go ?_) (fun h5 => go ?_)
    · omega
    · refine fork (fun h6 => go ?_) (fun h6 => go ?_)
      · omega
      · have h := fn_ValidRune r
        rw [h3] at h
        refine Fn.use (h) (go ?_)
        refine VSem.scope 1 ?_
        refine go ?_
        rw [hE]
        refine go ?_
        refine VInt.to (1) (by simp) (by omega) (by omega) (go ?_)
        refine VLoop.un 5 [9, 10] ?_
        refine go ?_
        refine VSem.scope 1 ?_
        refine go ?_
        refine VQ.mk (.int .i64 5) (by refine go ?_; refine Fn.use (fn_IndexByte _ _) (go ?_); exact ⟨congrArg _ (by show Lib.indexByte (List.drop 2 blanks) 128 = 5; decide +kernel), rfl⟩) (go ?_)
        refine VLoop.un 5 [12] ?_
        refine go ?_
        refine fork (fun h7 => go ?_) (fun h7 => go ?_)
        · refine Fn.use (fn_Cutover _ (by decide) (by decide)) (go ?_)
          refine VSem.scope 1 ?_
          refine go ?_
          refine VLoop.un 5 [12] ?_
          refine go ?_
          refine fork (fun h8 => go ?_) (fun h8 => go ?_)
          · refine Fn.use (fn_Cutover _ (by decide) (by decide)) (go ?_)
            refine VRet.mk [] .nil ?_
            simp
          · exfalso
            have h8 : (128 : Int) = e.toNat := h8
            omega
        · exfalso
          have h7 : (227 : Int) = e.toNat := h7
          omega
  · omega
theorem f37_3a (r : Int) (e e' : UInt8) (h0 : 128 ≤ r) (h1 : r ≠ 65533) (h3 : Lib.validRune r = true) (hE : (Utf8.encode r).data.toList = [e, e', 160]) (he : 128 ≤ e'.toNat ∧ e'.toNat < 192) :
    Av.Fn Tryd.prog 31 [.str blanks, .int .i32 r] (.int .i64 (-1)) := by
  refine ACalls.of_W tb_ok (fn := Tryd.f31) (n := 187) (by kernel_rfl) rfl (by kernel_rfl) rfl rfl (by simp) (go ?_)
  refine fork (fun h4 => go ?_) (fun h4 => go ?_)
  · refine fork (fun h5 => go ?_) (fun h5 => go ?_)
    · omega
    · refine fork (fun h6 => go ?_) (fun h6 => go ?_)
      · omega
      · have h := fn_ValidRune r
        rw [h3] at h
        refine Fn.use (h) (go ?_)
        refine VSem.scope 1 ?_
        refine go ?_
        rw [hE]
        refine go ?_
        refine VInt.to (2) (by simp) (by omega) (by omega) (go ?_)
        refine VLoop.un 5 [9, 10] ?_
        refine go ?_
        refine VSem.scope 1 ?_
        refine go ?_
        refine VQ.mk (.int .i64 2) (by refine go ?_; refine Fn.use (fn_IndexByte _ _) (go ?_); exact ⟨congrArg _ (by show Lib.indexByte (List.drop 3 blanks) 160 = 2; decide +kernel), rfl⟩) (go ?_)
        refine VLoop.un 5 [12] ?_
        refine go ?_
        refine fork (fun h7 => go ?_) (fun h7 => go ?_)
        · refine Fn.use (fn_Cutover _ (by decide) (by decide)) (go ?_)
          refine VSem.scope 1 ?_
          refine go ?_
          refine VQ.mk (.int .i64 (-1)) (by refine go ?_; refine Fn.use (fn_IndexByte _ _) (go ?_); exact ⟨congrArg _ (by show Lib.indexByte (List.drop 7 blanks) 160 = -1; decide +kernel), rfl⟩) (go ?_)
          refine VRet.mk [] .nil ?_
          simp
        · exfalso
          have h7 : (194 : Int) = e'.toNat := h7
          omega
  · omega
theorem f37_3b (r : Int) (e e' : UInt8) (h0 : 128 ≤ r) (h1 : r ≠ 65533) (h3 : Lib.validRune r = true) (hE : (Utf8.encode r).data.toList = [e, e', 128]) (he : 128 ≤ e'.toNat ∧ e'.toNat < 192) :
    Av.Fn Tryd.prog 31 [.str blanks, .int .i32 r] (.int .i64 (if e.toNat = 227 ∧ e'.toNat = 128 then 6 else -1)) := by
  refine ACalls.of_W tb_ok (fn := Tryd.f31) (n := 187) (by kernel_rfl) rfl (by kernel_rfl) rfl rfl (by simp) (go ?_)
  refine fork (fun h4 => go ?_) (fun h4 => go ?_)
  · refine fork (fun h5 => go ?_) (fun h5 => go ?_)
    · omega
    · refine fork (fun h6 => go ?_) (fun h6 => go ?_)
      · omega
      · have h := fn_ValidRune r
        rw [h3] at h
        refine Fn.use (h) (go ?_)
        refine VSem.scope 1 ?_
        refine go ?_
        rw [hE]
        refine go ?_
        refine VInt.to (2) (by simp) (by omega) (by omega) (go ?_)
        refine VLoop.un 5 [9, 10] ?_
        refine go ?_
        refine VSem.scope 1 ?_
        refine go ?_
        refine VQ.mk (.int .i64 4) (by refine go ?_; refine Fn.use (fn_IndexByte _ _) (go ?_); exact ⟨congrArg _ (by show Lib.indexByte (List.drop 3 blanks) 128 = 4; decide +kernel), rfl⟩) (go ?_)
        refine VLoop.un 5 [12] ?_
        refine go ?_
        refine fork (fun h7 => go ?_) (fun h7 => go ?_)
        · refine Fn.use (fn_Cutover _ (by decide) (by decide)) (go ?_)
          refine VSem.scope 1 ?_
          refine go ?_
          refine VLoop.un 5 [12] ?_
          refine go ?_
          refine fork (fun h8 => go ?_) (fun h8 => go ?_)
          · have h8 : ¬ (128 : Int) = e'.toNat := h8
            rw [if_neg (by omega)]
            refine Fn.use (fn_Cutover _ (by decide) (by decide)) (go ?_)
            refine VRet.mk [] .nil ?_
            simp
          · have h8 : (128 : Int) = e'.toNat := h8
            refine fork (fun h9 => go ?_) (fun h9 => go ?_)
            · have h9 : ¬ (227 : Int) = e.toNat := h9
              rw [if_neg (by omega)]
              refine Fn.use (fn_Cutover _ (by decide) (by decide)) (go ?_)
              refine VRet.mk [] .nil ?_
              simp
            · have h9 : (227 : Int) = e.toNat := h9
              rw [if_pos (by omega)]
              refine VRet.mk [] .nil ?_
              simp
        · exfalso
          have h7 : (227 : Int) = e'.toNat := h7
          omega
  · omega
theorem f37_4a (r : Int) (e e'' e' : UInt8) (h0 : 128 ≤ r) (h1 : r ≠ 65533) (h3 : Lib.validRune r = true) (hE : (Utf8.encode r).data.toList = [e, e'', e', 160]) (he : 128 ≤ e'.toNat ∧ e'.toNat < 192) :
    Av.Fn Tryd.prog 31 [.str blanks, .int .i32 r] (.int .i64 (-1)) := by
  refine ACalls.of_W tb_ok (fn := Tryd.f31) (n := 187) (by kernel_rfl) rfl (by kernel_rfl) rfl rfl (by simp) (go ?_)
  refine fork (fun h4 => go ?_) (fun h4 => go ?_)
  · refine fork (fun h5 => go ?_) (fun h5 => go ?_)
    · omega
    · refine fork (fun h6 => go ?_) (fun h6 => go ?_)
      · omega
      · have h := fn_ValidRune r
        rw [h3] at h
        refine Fn.use (h) (go ?_)
        refine VSem.scope 1 ?_
        refine go ?_
        rw [hE]
        refine go ?_
        refine VInt.to (3) (by simp) (by omega) (by omega) (go ?_)
        refine VLoop.un 5 [9, 10] ?_
        refine go ?_
        refine VSem.scope 1 ?_
        refine go ?_
        refine VQ.mk (.int .i64 1) (by refine go ?_; refine Fn.use (fn_IndexByte _ _) (go ?_); exact ⟨congrArg _ (by show Lib.indexByte (List.drop 4 blanks) 160 = 1; decide +kernel), rfl⟩) (go ?_)
        refine VLoop.un 5 [12] ?_
        refine go ?_
        refine fork (fun h7 => go ?_) (fun h7 => go ?_)
        · refine Fn.use (fn_Cutover _ (by decide) (by decide)) (go ?_)
          refine VSem.scope 1 ?_
          refine go ?_
          refine VQ.mk (.int .i64 (-1)) (by refine go ?_; refine Fn.use (fn_IndexByte _ _) (go ?_); exact ⟨congrArg _ (by show Lib.indexByte (List.drop 7 blanks) 160 = -1; decide +kernel), rfl⟩) (go ?_)
          refine VRet.mk [] .nil ?_
          simp
        · exfalso
          have h7 : (194 : Int) = e'.toNat := h7
          omega
  · omega
theorem f37_4b (r : Int) (e e'' e' : UInt8) (h0 : 128 ≤ r) (h1 : r ≠ 65533) (h3 : Lib.validRune r = true) (hE : (Utf8.encode r).data.toList = [e, e'', e', 128]) (he : 128 ≤ e'.toNat ∧ e'.toNat < 192) (he' : 128 ≤ e''.toNat ∧ e''.toNat < 192) :
    Av.Fn Tryd.prog 31 [.str blanks, .int .i32 r] (.int .i64 (-1)) := by
  refine ACalls.of_W tb_ok (fn := Tryd.f31) (n := 187) (by kernel_rfl) rfl (by kernel_rfl) rfl rfl (by simp) (go ?_)
  refine fork (fun h4 => go ?_) (fun h4 => go ?_)
  · refine fork (fun h5 => go ?_) (fun h5 => go ?_)
    · omega
    · refine fork (fun h6 => go ?_) (fun h6 => go ?_)
      · omega
      · have h := fn_ValidRune r
        rw [h3] at h
        refine Fn.use (h) (go ?_)
        refine VSem.scope 1 ?_
        refine go ?_
        rw [hE]
        refine go ?_
        refine VInt.to (3) (by simp) (by omega) (by omega) (go ?_)
        refine VLoop.un 5 [9, 10] ?_
        refine go ?_
        refine VSem.scope 1 ?_
        refine go ?_
        refine VQ.mk (.int .i64 3) (by refine go ?_; refine Fn.use (fn_IndexByte _ _) (go ?_); exact ⟨congrArg _ (by show Lib.indexByte (List.drop 4 blanks) 128 = 3; decide +kernel), rfl⟩) (go ?_)
        refine VLoop.un 5 [12] ?_
        refine go ?_
        refine fork (fun h7 => go ?_) (fun h7 => go ?_)
        · refine Fn.use (fn_Cutover _ (by decide) (by decide)) (go ?_)
          refine VSem.scope 1 ?_
          refine go ?_
          refine VLoop.un 5 [12] ?_
          refine go ?_
          refine fork (fun h8 => go ?_) (fun h8 => go ?_)
          · refine Fn.use (fn_Cutover _ (by decide) (by decide)) (go ?_)
            refine VRet.mk [] .nil ?_
            simp
          · refine fork (fun h9 => go ?_) (fun h9 => go ?_)
            · refine Fn.use (fn_Cutover _ (by decide) (by decide)) (go ?_)
              refine VRet.mk [] .nil ?_
              simp
            · exfalso
              have h9 : (227 : Int) = e''.toNat := h9
              omega
        · exfalso
          have h7 : (227 : Int) = e'.toNat := h7
          omega
  · omega
theorem f37_2c (r : Int) (e c : UInt8) (h0 : 128 ≤ r) (h1 : r ≠ 65533) (h3 : Lib.validRune r = true) (hE : (Utf8.encode r).data.toList = [e, c]) (hc : 128 ≤ c.toNat ∧ c.toNat < 192 ∧ c.toNat ≠ 160 ∧ c.toNat ≠ 128) :
    Av.Fn Tryd.prog 31 [.str blanks, .int .i32 r] (.int .i64 (-1)) := by
  refine ACalls.of_W tb_ok (fn := Tryd.f31) (n := 187) (by kernel_rfl) rfl (by kernel_rfl) rfl rfl (by simp) (go ?_)
  refine fork (fun h4 => go ?_) (fun h4 => go ?_)
  · refine fork (fun h5 => go ?_) (fun h5 => go ?_)
    · omega
    · refine fork (fun h6 => go ?_) (fun h6 => go ?_)
      · omega
      · have h := fn_ValidRune r
        rw [h3] at h
        refine Fn.use (h) (go ?_)
        refine VSem.scope 1 ?_
        refine go ?_
        rw [hE]
        refine go ?_
        refine VInt.to (1) (by simp) (by omega) (by omega) (go ?_)
        refine VLoop.un 5 [9, 10] ?_
        refine go ?_
        refine VSem.scope 1 ?_
        refine go ?_
        refine fork (fun h7 => go ?_) (fun h7 => go ?_)
        · refine VQ.mk (.int .i64 (-1)) (by refine go ?_; refine Fn.use (fn_IndexByte _ _) (go ?_); exact ⟨congrArg _ (by show Lib.indexByte (List.drop 2 blanks) (c.toNat : Int).toNat.toUInt8 = -1; exact blanks_other hc 2), rfl⟩) (go ?_)
          refine VRet.mk [] .nil ?_
          simp
        · exfalso
          have h7 : (10 : Int) = c.toNat := h7
          omega
  · omega
theorem f37_3c (r : Int) (e e' c : UInt8) (h0 : 128 ≤ r) (h1 : r ≠ 65533) (h3 : Lib.validRune r = true) (hE : (Utf8.encode r).data.toList = [e, e', c]) (hc : 128 ≤ c.toNat ∧ c.toNat < 192 ∧ c.toNat ≠ 160 ∧ c.toNat ≠ 128) :
    Av.Fn Tryd.prog 31 [.str blanks, .int .i32 r] (.int .i64 (-1)) := by
  refine ACalls.of_W tb_ok (fn := Tryd.f31) (n := 187) (by kernel_rfl) rfl (by kernel_rfl) rfl rfl (by simp) (go ?_)
  refine fork (fun h4 => go ?_) (fun h4 => go ?_)
  · refine fork (fun h5 => go ?_) (fun h5 => go ?_)
    · omega
    · refine fork (fun h6 => go ?_) (fun h6 => go ?_)
      · omega
      · have h := fn_ValidRune r
        rw [h3] at h
        refine Fn.use (h) (go ?_)
        refine VSem.scope 1 ?_
        refine go ?_
        rw [hE]
        refine go ?_
        refine VInt.to (2) (by simp) (by omega) (by omega) (go ?_)
        refine VLoop.un 5 [9, 10] ?_
        refine go ?_
        refine VSem.scope 1 ?_
        refine go ?_
        refine fork (fun h7 => go ?_) (fun h7 => go ?_)
        · refine VQ.mk (.int .i64 (-1)) (by refine go ?_; refine Fn.use (fn_IndexByte _ _) (go ?_); exact ⟨congrArg _ (by show Lib.indexByte (List.drop 3 blanks) (c.toNat : Int).toNat.toUInt8 = -1; exact blanks_other hc 3), rfl⟩) (go ?_)
          refine VRet.mk [] .nil ?_
          simp
        · exfalso
          have h7 : (13 : Int) = c.toNat := h7
          omega
  · omega
theorem f37_4c (r : Int) (e e'' e' c : UInt8) (h0 : 128 ≤ r) (h1 : r ≠ 65533) (h3 : Lib.validRune r = true) (hE : (Utf8.encode r).data.toList = [e, e'', e', c]) (hc : 128 ≤ c.toNat ∧ c.toNat < 192 ∧ c.toNat ≠ 160 ∧ c.toNat ≠ 128) :
    Av.Fn Tryd.prog 31 [.str blanks, .int .i32 r] (.int .i64 (-1)) := by
  refine ACalls.of_W tb_ok (fn := Tryd.f31) (n := 187) (by kernel_rfl) rfl (by kernel_rfl) rfl rfl (by simp) (go ?_)
  refine fork (fun h4 => go ?_) (fun h4 => go ?_)
  · refine fork (fun h5 => go ?_) (fun h5 => go ?_)
    · omega
    · refine fork (fun h6 => go ?_) (fun h6 => go ?_)
      · omega
      · have h := fn_ValidRune r
        rw [h3] at h
        refine Fn.use (h) (go ?_)
        refine VSem.scope 1 ?_
        refine go ?_
        rw [hE]
        refine go ?_
        refine VInt.to (3) (by simp) (by omega) (by omega) (go ?_)
        refine VLoop.un 5 [9, 10] ?_
        refine go ?_
        refine VSem.scope 1 ?_
        refine go ?_
        refine fork (fun h7 => go ?_) (fun h7 => go ?_)
        · refine VQ.mk (.int .i64 (-1)) (by refine go ?_; refine Fn.use (fn_IndexByte _ _) (go ?_); exact ⟨congrArg _ (by show Lib.indexByte (List.drop 4 blanks) (c.toNat : Int).toNat.toUInt8 = -1; exact blanks_other hc 4), rfl⟩) (go ?_)
          refine VRet.mk [] .nil ?_
          simp
        · exfalso
          have h7 : (32 : Int) = c.toNat := h7
          omega
  · omega
end Go.Proofs.YthmklkggehgijaaDoor

namespace Go.Proofs.YthmklkggehgijaaDoor
open Go Go.Av
theorem ofNat_toNat {n : Nat} (h : n < 256) : (UInt8.ofNat n).toNat = n := by simp; omega
theorem f37_of (r : Int) (hr : 0 ≤ r ∧ r ≤ 1114111) : ∃ k : Int, decide (0 ≤ k) = blankB r ∧ Av.Fn Tryd.prog 31 [.str blanks, .int .i32 r] (.int .i64 k) := by
  by_cases h1 : r < 128
  · exact f37_ascii r hr.1 h1
  by_cases h2 : r = 65533
  · exact ⟨-1, by subst h2; decide, by subst h2; exact f37_bad⟩
  cases h3 : Lib.validRune r with
  | false =>
    refine ⟨-1, ?_, f37_invalid r (by omega) h2 h3⟩
    simp [Lib.validRune] at h3
    simp [blankB]
    omega
  | true =>
    have hv : Utf8.valid r = true := by
      simp [Lib.validRune] at h3
      simp [Utf8.valid]; omega
    obtain ⟨n, rfl⟩ : ∃ n : Nat, r = n := ⟨r.toNat, by omega⟩
    have hn : (n : Int).toNat = n := by omega
    by_cases c2 : n < 2048
    · have hE : (Utf8.encode n).data.toList = [UInt8.ofNat (192 + n / 64), UInt8.ofNat (128 + n % 64)] := by
        simp only [Utf8.encode, hv, if_true, hn]
        rw [if_neg (by omega), if_pos (by omega)]
      by_cases ca : n % 64 = 32
      · rw [ca] at hE
        refine ⟨_, ?_, f37_2a n _ (by omega) h2 h3 hE⟩
        rw [ofNat_toNat (by omega)]
        by_cases hh : 192 + n / 64 = 194
        · rw [if_pos hh]; simp [blankB]; omega
        · rw [if_neg hh]; simp [blankB]; omega
      by_cases cb : n % 64 = 0
      · rw [cb] at hE
        refine ⟨_, ?_, f37_2b n _ (by omega) h2 h3 hE (by rw [ofNat_toNat (by omega)]; omega)⟩
        simp [blankB]; omega
      · refine ⟨_, ?_, f37_2c n _ _ (by omega) h2 h3 hE (by rw [ofNat_toNat (by omega)]; omega)⟩
        simp [blankB]; omega
    by_cases c3 : n < 65536
    · have hE : (Utf8.encode n).data.toList = [UInt8.ofNat (224 + n / 4096), UInt8.ofNat (128 + n / 64 % 64), UInt8.ofNat (128 + n % 64)] := by
        simp only [Utf8.encode, hv, if_true, hn]
        rw [if_neg (by omega), if_neg (by omega), if_pos (by omega)]
      by_cases ca : n % 64 = 32
      · rw [ca] at hE
        refine ⟨_, ?_, f37_3a n _ _ (by omega) h2 h3 hE (by rw [ofNat_toNat (by omega)]; omega)⟩
        simp [blankB]; omega
      by_cases cb : n % 64 = 0
      · rw [cb] at hE
        refine ⟨_, ?_, f37_3b n _ _ (by omega) h2 h3 hE (by rw [ofNat_toNat (by omega)]; omega)⟩
        rw [ofNat_toNat (by omega), ofNat_toNat (by omega)]
        by_cases hh : 224 + n / 4096 = 227 ∧ 128 + n / 64 % 64 = 128
        · rw [if_pos hh]; simp [blankB]; omega
        · rw [if_neg hh]; simp [blankB]; omega
      · refine ⟨_, ?_, f37_3c n _ _ _ (by omega) h2 h3 hE (by rw [ofNat_toNat (by omega)]; omega)⟩
        simp [blankB]; omega
    · have hE : (Utf8.encode n).data.toList = [UInt8.ofNat (240 + n / 262144), UInt8.ofNat (128 + n / 4096 % 64), UInt8.ofNat (128 + n / 64 % 64), UInt8.ofNat (128 + n % 64)] := by
        simp only [Utf8.encode, hv, if_true, hn]
        rw [if_neg (by omega), if_neg (by omega), if_neg (by omega)]
      by_cases ca : n % 64 = 32
      · rw [ca] at hE
        refine ⟨_, ?_, f37_4a n _ _ _ (by omega) h2 h3 hE (by rw [ofNat_toNat (by omega)]; omega)⟩
        simp [blankB]; omega
      by_cases cb : n % 64 = 0
      · rw [cb] at hE
        refine ⟨_, ?_, f37_4b n _ _ _ (by omega) h2 h3 hE (by rw [ofNat_toNat (by omega)]; omega) (by rw [ofNat_toNat (by omega)]; omega)⟩
        simp [blankB]; omega
      · refine ⟨_, ?_, f37_4c n _ _ _ _ (by omega) h2 h3 hE (by rw [ofNat_toNat (by omega)]; omega)⟩
        simp [blankB]; omega
theorem f30_of (r : Int) (hr : 0 ≤ r ∧ r ≤ 1114111) : Av.Fn Tryd.prog 23 [.str blanks, .int .i32 r] (.bool (blankB r)) := by
  obtain ⟨k, h1, h2⟩ := f37_of r hr
  refine ACalls.of_W tb_ok (fn := Tryd.f23) (n := 9) (by kernel_rfl) rfl (by kernel_rfl) rfl rfl (by simp) (go ?_)
  refine Fn.use (h2) (go ?_)
  refine VRet.mk [] .nil ?_
  simp [← h1]
theorem f18_of (r : Int) (hr : 0 ≤ r ∧ r ≤ 1114111) : Av.Fn Tryd.prog 14 [.int .i32 r] (.bool (blankB r)) := by
  refine ACalls.of_W tb_ok (fn := Tryd.f14) (n := 5) (by kernel_rfl) rfl (by kernel_rfl) rfl rfl (by simp) (go ?_)
  refine Fn.use (f30_of r hr) (go ?_)
  refine VRet.mk [] .nil ?_
  simp
end Go.Proofs.YthmklkggehgijaaDoor

namespace Go.Proofs.YthmklkggehgijaaDoor
open Go Go.Av
def zeros : List Int := [48, 1632, 65296]
def digOf (r : Int) : List Int → AV
  | [] => .tup [.int .i64 0, .int .i32 0, .bool false]
  | z :: l => if z ≤ r ∧ r ≤ z + 9 then .tup [.int .i64 (r - z), .int .i32 z, .bool true] else digOf r l
theorem f29_of (r : Int) (hr : -2147483648 ≤ r ∧ r ≤ 2147483647) : Av.Fn Tryd.prog 26 [.int .i32 r] (digOf r zeros) := by
  refine ACalls.of_W tb_ok (fn := Tryd.f26) (n := 28) (by kernel_rfl) rfl (by kernel_rfl) rfl rfl (by simp) (go ?_)
  refine VLoop.mk [9] Nat (fun i => [.int .i64 i]) (fun _ => []) (fun i => i ≤ 3 ∧ digOf r zeros = digOf r (zeros.drop i)) (fun i => 3 - i) 0 ?_ ?_
  · exact ⟨⟨by omega, rfl⟩, rfl, .nil⟩
  intro i ⟨hi, he⟩
  refine go ?_
  refine fork (fun h => go ?_) (fun h => go ?_)
  · obtain ⟨z, hz, hz1, hz2⟩ : ∃ z, ([.int .i32 48, .int .i32 1632, .int .i32 65296] : List AV)[i]? = some (.int .i32 z) ∧ (48 ≤ z ∧ z ≤ 65296) ∧ digOf r (zeros.drop i) = digOf r (z :: zeros.drop (i + 1)) := by
      obtain rfl | rfl | rfl : i = 0 ∨ i = 1 ∨ i = 2 := by omega
      · exact ⟨48, rfl, by omega, rfl⟩
      · exact ⟨1632, rfl, by omega, rfl⟩
      · exact ⟨65296, rfl, by omega, rfl⟩
    refine VNth.mk (.int .i32 z) (by simpa using hz) ?_
    refine go ?_
    rw [hz2, digOf] at he
    refine fork (fun h2 => go ?_) (fun h2 => go ?_)
    · refine fork (fun h3 => go ?_) (fun h3 => go ?_)
      · refine VRet.mk [] .nil ?_
        simp only [he]
        rw [if_pos (by omega)]
        simp
      · rw [if_neg (by omega)] at he
        exact ⟨i + 1, ⟨by omega, he⟩, by omega, rfl, .nil⟩
    · rw [if_neg (by omega)] at he
      exact ⟨i + 1, ⟨by omega, he⟩, by omega, rfl, .nil⟩
  · refine VRet.mk [] .nil ?_
    obtain rfl : i = 3 := by omega
    rw [he]
    simp [zeros, digOf]
end Go.Proofs.YthmklkggehgijaaDoor

namespace Go.Proofs.YthmklkggehgijaaDoor
open Go Go.Av
/-- A character as a digit: its value, its script's nought. -/
def digR (r : Int) : Option (Int × Int) :=
  if 48 ≤ r ∧ r ≤ 57 then some (r - 48, 48) else if 1632 ≤ r ∧ r ≤ 1641 then some (r - 1632, 1632) else if 65296 ≤ r ∧ r ≤ 65305 then some (r - 65296, 65296) else none
def digV : Option (Int × Int) → AV
  | none => .tup [.int .i64 0, .int .i32 0, .bool false]
  | some (d, z) => .tup [.int .i64 d, .int .i32 z, .bool true]
theorem digOf_eq (r : Int) : digOf r zeros = digV (digR r) := by
  simp only [digOf, zeros, digR]
  repeat' split
  all_goals first | rfl | omega
theorem digR_bound {r d z : Int} (h : digR r = some (d, z)) : 0 ≤ d ∧ d ≤ 9 ∧ 48 ≤ z ∧ z ≤ 65296 ∧ r = z + d := by
  unfold digR at h
  repeat' split at h
  all_goals simp at h
  all_goals omega
/-- The digits of a number, one behind the other: what has been read, is it small enough, its script. -/
def digLoop : List Nat → Int → Bool → Int → Option (Int × Bool × Int)
  | [], n, ok, z => some (n, ok, z)
  | r :: rs, n, ok, z => match digR r with
    | none => none
    | some (d, z') => if 0 ≤ z ∧ z' ≠ z then none else
      if n > (1152921504606846976 - d) / 10 then digLoop rs d false z' else digLoop rs (10 * n + d) ok z'
def minusB (l : List UInt8) : Bool := begins l [45] || begins l [226, 136, 146]
def digitsR (l : List UInt8) : Int × Bool × Bool :=
  match digLoop ((runes (if minusB l then l.drop (dec l).2 else l)).map (·.1)) 0 true (-1) with
  | none => (0, false, false)
  | some (n, ok, z) => (if minusB l then -n else n, decide (0 ≤ z), ok && decide ((if minusB l then -n else n) ≤ 1152921504606846975))
theorem decodeGo_eq {l : List UInt8} (h : l ≠ []) : Lib.decodeGo ⟨⟨l⟩⟩ = dec l := by
  unfold Lib.decodeGo dec
  rw [if_neg]
  intro e
  exact h (List.length_eq_zero_iff.1 e)
theorem begins_ne {l p : List UInt8} (hp : p ≠ []) (h : begins l p = true) : l ≠ [] := by
  intro e; subst e
  simp [begins] at h
  exact hp h
theorem digitsR_some {l l' : List UInt8} {n z : Int} {ok : Bool} (hl : l' = if minusB l then l.drop (dec l).2 else l) (h : digLoop ((runes l').map (·.1)) 0 true (-1) = some (n, ok, z)) :
    digitsR l = (if minusB l then -n else n, decide (0 ≤ z), ok && decide ((if minusB l then -n else n) ≤ 1152921504606846975)) := by
  subst hl; simp only [digitsR, h]
theorem digitsR_none {l l' : List UInt8} (hl : l' = if minusB l then l.drop (dec l).2 else l) (h : digLoop ((runes l').map (·.1)) 0 true (-1) = none) : digitsR l = (0, false, false) := by
  subst hl; simp only [digitsR, h]
theorem f29_digR (r : Int) (hr : -2147483648 ≤ r ∧ r ≤ 2147483647) : Av.Fn Tryd.prog 26 [.int .i32 r] (digV (digR r)) := by
  rw [← digOf_eq]; exact f29_of r hr

/-- What Number says: the number, the error. -/
def numberR (l : List UInt8) : Int × Int :=
  if (digitsR l).2.1 then (if (digitsR l).2.2 then ((digitsR l).1, 0) else (0, 11)) else (0, 9)
structure DigI where
  p : Nat
  n : Int
  ok : Bool
  z : Int


theorem f17_of (l : List UInt8) : Av.Fn Tryd.prog 18 [.str l] (.tup [.int .i64 (digitsR l).1, .bool (digitsR l).2.1, .bool (digitsR l).2.2]) := by
  refine ACalls.of_W tb_ok (fn := Tryd.f18) (n := 72) (by kernel_rfl) rfl (by kernel_rfl) rfl rfl (by simp) (go ?_)
  have g1 := fn_HasPrefix l [45]
  have g2 := fn_HasPrefix l [226, 136, 146]
  cases h1 : begins l [45] with
  | true =>
    rw [h1] at g1
    refine Fn.use (g1) (go ?_)
    have hne := begins_ne (by simp) h1
    have hd := dec_pos l hne
    have hm : minusB l = true := by simp [minusB, h1]
    have fd := fn_Decode l
    rw [decodeGo_eq hne] at fd
    refine Fn.use (fd) (go ?_)
    obtain ⟨l', hl'⟩ : ∃ l', l' = l.drop (dec l).2 := ⟨_, rfl⟩
    rw [← hl']
    replace hl' : l' = if minusB l then l.drop (dec l).2 else l := by rw [if_pos hm]; exact hl'
    refine go ?_
    refine VAll.mk (fun b => go ?_)
    refine VLoop.mk [2, 4, 8] DigI (fun i => [.int .i64 i.n, .bool i.ok, .int .i32 i.z]) (fun i => [(b, .siter l' i.p)])
      (fun i => i.p ≤ l'.length ∧ (0 ≤ i.n ∧ i.n ≤ 1152921504606846976) ∧ (-1 ≤ i.z ∧ i.z ≤ 65296) ∧ digLoop ((runes (l'.drop i.p)).map (·.1)) i.n i.ok i.z = digLoop ((runes l').map (·.1)) 0 true (-1)) (fun i => l'.length - i.p) ⟨0, 0, true, -1⟩ ?_ ?_
    · exact ⟨⟨by simp, by simp, by simp, by simp⟩, rfl, .cons 0 rfl .nil⟩
    rintro ⟨p, n, ok, z⟩ ⟨hp, hn, hz, hI⟩
    dsimp only at hp hn hz hI ⊢
    refine go ?_
    refine fork (fun hlt => go ?_) (fun hlt => go ?_)
    · have hne' : l'.drop p ≠ [] := by simp; omega
      have hc := dec_pos _ hne'
      have hru := runes_cons hne'
      rw [← dec_at] at hc hru
      generalize hdc : Utf8.decode ⟨⟨l'⟩⟩ p = c
      rw [hdc] at hc hru
      rw [List.length_drop] at hc
      rw [List.drop_drop] at hru
      rw [hru, List.map_cons, digLoop] at hI
      obtain ⟨r, k⟩ := c
      dsimp only at hc hru hI ⊢
      refine Fn.use (f29_digR r (by omega)) (go ?_)
      cases hd : digR r with
      | none =>
        rw [hd] at hI
        dsimp only at hI
        refine go ?_
        refine VRet.mk [] .nil ?_
        rw [digitsR_none (l := l) hl' hI.symm]
        simp
      | some dz =>
        obtain ⟨d, z'⟩ := dz
        have hb := digR_bound hd
        rw [hd] at hI
        dsimp only at hI
        refine go ?_
        refine fork (fun hz0 => go ?_) (fun hz0 => go ?_)
        · refine fork (fun hz1 => go ?_) (fun hz1 => go ?_)
          · rw [if_pos ⟨hz0, hz1⟩] at hI
            refine VRet.mk [] .nil ?_
            rw [digitsR_none (l := l) hl' hI.symm]
            simp
          · have hz1 : z' = z := hz1
            rw [if_neg (by simp [hz1])] at hI
            rw [Int.tdiv_eq_ediv_of_nonneg (by omega)]
            refine go ?_
            refine fork (fun hgt => go ?_) (fun hgt => go ?_)
            · rw [if_pos (by omega)] at hI
              refine ⟨⟨p + k, 10 * 0 + d, false, z'⟩, ⟨?_, ?_, ?_, ?_⟩, ?_, rfl, .cons 0 rfl .nil⟩
              · dsimp only; omega
              · dsimp only; omega
              · dsimp only; omega
              · dsimp only; rw [show (10 * 0 + d : Int) = d by omega]; exact hI
              · dsimp only; omega
            · rw [if_neg (by omega)] at hI
              refine ⟨⟨p + k, 10 * n + d, ok, z'⟩, ⟨?_, ?_, ?_, ?_⟩, ?_, rfl, .cons 0 rfl .nil⟩
              · dsimp only; omega
              · dsimp only; omega
              · dsimp only; omega
              · exact hI
              · dsimp only; omega
        · rw [if_neg (fun h => hz0 h.1)] at hI
          rw [Int.tdiv_eq_ediv_of_nonneg (by omega)]
          refine go ?_
          refine fork (fun hgt => go ?_) (fun hgt => go ?_)
          · rw [if_pos (by omega)] at hI
            refine ⟨⟨p + k, 10 * 0 + d, false, z'⟩, ⟨?_, ?_, ?_, ?_⟩, ?_, rfl, .cons 0 rfl .nil⟩
            · dsimp only; omega
            · dsimp only; omega
            · dsimp only; omega
            · dsimp only; rw [show (10 * 0 + d : Int) = d by omega]; exact hI
            · dsimp only; omega
          · rw [if_neg (by omega)] at hI
            refine ⟨⟨p + k, 10 * n + d, ok, z'⟩, ⟨?_, ?_, ?_, ?_⟩, ?_, rfl, .cons 0 rfl .nil⟩
            · dsimp only; omega
            · dsimp only; omega
            · dsimp only; omega
            · exact hI
            · dsimp only; omega
    · rw [List.drop_eq_nil_of_le (by omega), runes_nil, List.map_nil, digLoop] at hI
      rw [digitsR_some (l := l) hl' hI.symm]
      cases hok : ok with
      | true =>
        refine go ?_
        refine VRet.mk [] .nil ?_
        simp [hm]
      | false =>
        refine go ?_
        refine VRet.mk [] .nil ?_
        simp [hm]
  | false =>
    rw [h1] at g1
    refine Fn.use (g1) (go ?_)
    cases h2 : begins l [226, 136, 146] with
    | true =>
      rw [h2] at g2
      refine Fn.use (g2) (go ?_)
      have hne := begins_ne (by simp) h2
      have hd := dec_pos l hne
      have hm : minusB l = true := by simp [minusB, h2]
      have fd := fn_Decode l
      rw [decodeGo_eq hne] at fd
      refine Fn.use (fd) (go ?_)
      obtain ⟨l', hl'⟩ : ∃ l', l' = l.drop (dec l).2 := ⟨_, rfl⟩
      rw [← hl']
      replace hl' : l' = if minusB l then l.drop (dec l).2 else l := by rw [if_pos hm]; exact hl'
      refine go ?_
      refine VAll.mk (fun b => go ?_)
      refine VLoop.mk [2, 4, 8] DigI (fun i => [.int .i64 i.n, .bool i.ok, .int .i32 i.z]) (fun i => [(b, .siter l' i.p)])
        (fun i => i.p ≤ l'.length ∧ (0 ≤ i.n ∧ i.n ≤ 1152921504606846976) ∧ (-1 ≤ i.z ∧ i.z ≤ 65296) ∧ digLoop ((runes (l'.drop i.p)).map (·.1)) i.n i.ok i.z = digLoop ((runes l').map (·.1)) 0 true (-1)) (fun i => l'.length - i.p) ⟨0, 0, true, -1⟩ ?_ ?_
      · exact ⟨⟨by simp, by simp, by simp, by simp⟩, rfl, .cons 0 rfl .nil⟩
      rintro ⟨p, n, ok, z⟩ ⟨hp, hn, hz, hI⟩
      dsimp only at hp hn hz hI ⊢
      refine go ?_
      refine fork (fun hlt => go ?_) (fun hlt => go ?_)
      · have hne' : l'.drop p ≠ [] := by simp; omega
        have hc := dec_pos _ hne'
        have hru := runes_cons hne'
        rw [← dec_at] at hc hru
        generalize hdc : Utf8.decode ⟨⟨l'⟩⟩ p = c
        rw [hdc] at hc hru
        rw [List.length_drop] at hc
        rw [List.drop_drop] at hru
        rw [hru, List.map_cons, digLoop] at hI
        obtain ⟨r, k⟩ := c
        dsimp only at hc hru hI ⊢
        refine Fn.use (f29_digR r (by omega)) (go ?_)
        cases hd : digR r with
        | none =>
          rw [hd] at hI
          dsimp only at hI
          refine go ?_
          refine VRet.mk [] .nil ?_
          rw [digitsR_none (l := l) hl' hI.symm]
          simp
        | some dz =>
          obtain ⟨d, z'⟩ := dz
          have hb := digR_bound hd
          rw [hd] at hI
          dsimp only at hI
          refine go ?_
          refine fork (fun hz0 => go ?_) (fun hz0 => go ?_)
          · refine fork (fun hz1 => go ?_) (fun hz1 => go ?_)
            · rw [if_pos ⟨hz0, hz1⟩] at hI
              refine VRet.mk [] .nil ?_
              rw [digitsR_none (l := l) hl' hI.symm]
              simp
            · have hz1 : z' = z := hz1
              rw [if_neg (by simp [hz1])] at hI
              rw [Int.tdiv_eq_ediv_of_nonneg (by omega)]
              refine go ?_
              refine fork (fun hgt => go ?_) (fun hgt => go ?_)
              · rw [if_pos (by omega)] at hI
                refine ⟨⟨p + k, 10 * 0 + d, false, z'⟩, ⟨?_, ?_, ?_, ?_⟩, ?_, rfl, .cons 0 rfl .nil⟩
                · dsimp only; omega
                · dsimp only; omega
                · dsimp only; omega
                · dsimp only; rw [show (10 * 0 + d : Int) = d by omega]; exact hI
                · dsimp only; omega
              · rw [if_neg (by omega)] at hI
                refine ⟨⟨p + k, 10 * n + d, ok, z'⟩, ⟨?_, ?_, ?_, ?_⟩, ?_, rfl, .cons 0 rfl .nil⟩
                · dsimp only; omega
                · dsimp only; omega
                · dsimp only; omega
                · exact hI
                · dsimp only; omega
          · rw [if_neg (fun h => hz0 h.1)] at hI
            rw [Int.tdiv_eq_ediv_of_nonneg (by omega)]
            refine go ?_
            refine fork (fun hgt => go ?_) (fun hgt => go ?_)
            · rw [if_pos (by omega)] at hI
              refine ⟨⟨p + k, 10 * 0 + d, false, z'⟩, ⟨?_, ?_, ?_, ?_⟩, ?_, rfl, .cons 0 rfl .nil⟩
              · dsimp only; omega
              · dsimp only; omega
              · dsimp only; omega
              · dsimp only; rw [show (10 * 0 + d : Int) = d by omega]; exact hI
              · dsimp only; omega
            · rw [if_neg (by omega)] at hI
              refine ⟨⟨p + k, 10 * n + d, ok, z'⟩, ⟨?_, ?_, ?_, ?_⟩, ?_, rfl, .cons 0 rfl .nil⟩
              · dsimp only; omega
              · dsimp only; omega
              · dsimp only; omega
              · exact hI
              · dsimp only; omega
      · rw [List.drop_eq_nil_of_le (by omega), runes_nil, List.map_nil, digLoop] at hI
        rw [digitsR_some (l := l) hl' hI.symm]
        cases hok : ok with
        | true =>
          refine go ?_
          refine VRet.mk [] .nil ?_
          simp [hm]
        | false =>
          refine go ?_
          refine VRet.mk [] .nil ?_
          simp [hm]
    | false =>
      rw [h2] at g2
      refine Fn.use (g2) (go ?_)
      have hm : minusB l = false := by simp [minusB, h1, h2]
      have hl' : l = if minusB l then l.drop (dec l).2 else l := by simp [hm]
      refine VAll.mk (fun b => go ?_)
      refine VLoop.mk [2, 4, 8] DigI (fun i => [.int .i64 i.n, .bool i.ok, .int .i32 i.z]) (fun i => [(b, .siter l i.p)])
        (fun i => i.p ≤ l.length ∧ (0 ≤ i.n ∧ i.n ≤ 1152921504606846976) ∧ (-1 ≤ i.z ∧ i.z ≤ 65296) ∧ digLoop ((runes (l.drop i.p)).map (·.1)) i.n i.ok i.z = digLoop ((runes l).map (·.1)) 0 true (-1)) (fun i => l.length - i.p) ⟨0, 0, true, -1⟩ ?_ ?_
      · exact ⟨⟨by simp, by simp, by simp, by simp⟩, rfl, .cons 0 rfl .nil⟩
      rintro ⟨p, n, ok, z⟩ ⟨hp, hn, hz, hI⟩
      dsimp only at hp hn hz hI ⊢
      refine go ?_
      refine fork (fun hlt => go ?_) (fun hlt => go ?_)
      · have hne' : l.drop p ≠ [] := by simp; omega
        have hc := dec_pos _ hne'
        have hru := runes_cons hne'
        rw [← dec_at] at hc hru
        generalize hdc : Utf8.decode ⟨⟨l⟩⟩ p = c
        rw [hdc] at hc hru
        rw [List.length_drop] at hc
        rw [List.drop_drop] at hru
        rw [hru, List.map_cons, digLoop] at hI
        obtain ⟨r, k⟩ := c
        dsimp only at hc hru hI ⊢
        refine Fn.use (f29_digR r (by omega)) (go ?_)
        cases hd : digR r with
        | none =>
          rw [hd] at hI
          dsimp only at hI
          refine go ?_
          refine VRet.mk [] .nil ?_
          rw [digitsR_none (l := l) hl' hI.symm]
          simp
        | some dz =>
          obtain ⟨d, z'⟩ := dz
          have hb := digR_bound hd
          rw [hd] at hI
          dsimp only at hI
          refine go ?_
          refine fork (fun hz0 => go ?_) (fun hz0 => go ?_)
          · refine fork (fun hz1 => go ?_) (fun hz1 => go ?_)
            · rw [if_pos ⟨hz0, hz1⟩] at hI
              refine VRet.mk [] .nil ?_
              rw [digitsR_none (l := l) hl' hI.symm]
              simp
            · have hz1 : z' = z := hz1
              rw [if_neg (by simp [hz1])] at hI
              rw [Int.tdiv_eq_ediv_of_nonneg (by omega)]
              refine go ?_
              refine fork (fun hgt => go ?_) (fun hgt => go ?_)
              · rw [if_pos (by omega)] at hI
                refine ⟨⟨p + k, 10 * 0 + d, false, z'⟩, ⟨?_, ?_, ?_, ?_⟩, ?_, rfl, .cons 0 rfl .nil⟩
                · dsimp only; omega
                · dsimp only; omega
                · dsimp only; omega
                · dsimp only; rw [show (10 * 0 + d : Int) = d by omega]; exact hI
                · dsimp only; omega
              · rw [if_neg (by omega)] at hI
                refine ⟨⟨p + k, 10 * n + d, ok, z'⟩, ⟨?_, ?_, ?_, ?_⟩, ?_, rfl, .cons 0 rfl .nil⟩
                · dsimp only; omega
                · dsimp only; omega
                · dsimp only; omega
                · exact hI
                · dsimp only; omega
          · rw [if_neg (fun h => hz0 h.1)] at hI
            rw [Int.tdiv_eq_ediv_of_nonneg (by omega)]
            refine go ?_
            refine fork (fun hgt => go ?_) (fun hgt => go ?_)
            · rw [if_pos (by omega)] at hI
              refine ⟨⟨p + k, 10 * 0 + d, false, z'⟩, ⟨?_, ?_, ?_, ?_⟩, ?_, rfl, .cons 0 rfl .nil⟩
              · dsimp only; omega
              · dsimp only; omega
              · dsimp only; omega
              · dsimp only; rw [show (10 * 0 + d : Int) = d by omega]; exact hI
              · dsimp only; omega
            · rw [if_neg (by omega)] at hI
              refine ⟨⟨p + k, 10 * n + d, ok, z'⟩, ⟨?_, ?_, ?_, ?_⟩, ?_, rfl, .cons 0 rfl .nil⟩
              · dsimp only; omega
              · dsimp only; omega
              · dsimp only; omega
              · exact hI
              · dsimp only; omega
      · rw [List.drop_eq_nil_of_le (by omega), runes_nil, List.map_nil, digLoop] at hI
        rw [digitsR_some (l := l) hl' hI.symm]
        cases hok : ok with
        | true =>
          refine go ?_
          refine VRet.mk [] .nil ?_
          simp [hm]
        | false =>
          refine go ?_
          refine VRet.mk [] .nil ?_
          simp [hm]
end Go.Proofs.YthmklkggehgijaaDoor

namespace Go.Proofs.YthmklkggehgijaaDoor
open Go Go.Av
/-- May a character stand in a name? -/
def okCh (first : Bool) (r : Nat) : Bool := !(decide (r = 65533) || blankB r || decide (r < 32) || decide (r = 127) || (first && decide (r = 34)))
def okAll : Bool → List Nat → Bool
  | _, [] => true
  | f, r :: rs => okCh f r && okAll false rs
def chars (l : List UInt8) : List Nat := (runes l).map (·.1)
def nameR (l : List UInt8) : Bool := okAll true (chars l) && (decide (1 ≤ (chars l).length) && decide ((chars l).length ≤ 32) && decide (l ≠ [33]) && !(digitsR l).2.1)
theorem chars_cons {l : List UInt8} (h : l ≠ []) : chars l = (dec l).1 :: chars (l.drop (dec l).2) := by simp [chars, runes_cons h]
theorem nameR_bad {l : List UInt8} (h : okAll true (chars l) = false) : nameR l = false := by simp [nameR, h]


theorem f11_of (l : List UInt8) (hlen : l.length ≤ 4611686018427387904) : Av.Fn Tryd.prog 8 [.str l] (.bool (nameR l)) := by
  refine ACalls.of_W tb_ok (fn := Tryd.f8) (n := 59) (by kernel_rfl) rfl (by kernel_rfl) rfl rfl (by simp) (go ?_)
  refine VAll.mk (fun b => go ?_)
  refine VLoop.mk [3] (Nat × Nat) (fun i => [.int .i64 i.2]) (fun i => [(b, .siter l i.1)])
    (fun i => i.1 ≤ l.length ∧ i.2 ≤ i.1 ∧ (okAll (decide (i.1 = 0)) (chars (l.drop i.1)) = okAll true (chars l) ∧ i.2 + (chars (l.drop i.1)).length = (chars l).length)) (fun i => l.length - i.1) ⟨0, 0⟩ ?_ ?_
  · exact ⟨⟨by simp, by simp, by simp, by simp⟩, rfl, .cons 0 rfl .nil⟩
  rintro ⟨p, n⟩ ⟨hp, hn, hI⟩
  dsimp only at hp hn hI ⊢
  refine go ?_
  refine fork (fun hlt => go ?_) (fun hlt => go ?_)
  · have hne' : l.drop p ≠ [] := by simp; omega
    have hc := dec_pos _ hne'
    rw [chars_cons hne', List.length_drop] at *
    rw [← dec_at] at hc hI
    generalize hdc : Utf8.decode ⟨⟨l⟩⟩ p = c
    rw [hdc] at hc hI
    rw [List.drop_drop] at hI
    obtain ⟨r, k⟩ := c
    dsimp only at hc hI ⊢
    refine fork (fun a1 => go ?_) (fun a1 => go ?_)
    · have a1 : r = 65533 := by omega
      refine VRet.mk [] .nil ?_
      rw [nameR_bad (by rw [← hI.1]; simp [okAll, okCh, a1])]
      simp
    · have hb := f18_of r (by omega)
      cases a2 : blankB r with
      | true =>
        rw [a2] at hb
        refine Fn.use (hb) (go ?_)
        refine VRet.mk [] .nil ?_
        rw [nameR_bad (by rw [← hI.1]; simp [okAll, okCh, a2])]
        simp
      | false =>
        rw [a2] at hb
        refine Fn.use (hb) (go ?_)
        refine fork (fun a3 => go ?_) (fun a3 => go ?_)
        · have a3 : r < 32 := by omega
          refine VRet.mk [] .nil ?_
          rw [nameR_bad (by rw [← hI.1]; simp [okAll, okCh, a3])]
          simp
        · have a3 : ¬ r < 32 := by omega
          refine fork (fun a4 => go ?_) (fun a4 => go ?_)
          · have a4 : r = 127 := by omega
            refine VRet.mk [] .nil ?_
            rw [nameR_bad (by rw [← hI.1]; simp [okAll, okCh, a4])]
            simp
          · have a4 : ¬ r = 127 := by omega
            have a1 : ¬ r = 65533 := by omega
            refine fork (fun a5 => go ?_) (fun a5 => go ?_)
            · have a5 : p = 0 := by omega
              refine fork (fun a6 => go ?_) (fun a6 => go ?_)
              · have a6 : r = 34 := by omega
                refine VRet.mk [] .nil ?_
                rw [nameR_bad (by rw [← hI.1]; simp [okAll, okCh, a5, a6])]
                simp
              · have a6 : ¬ r = 34 := by omega
                refine ⟨⟨p + k, n + 1⟩, ⟨?_, ?_, ?_⟩, ?_, rfl, .cons 0 rfl .nil⟩
                · dsimp only; omega
                · dsimp only; omega
                · dsimp only
                  refine ⟨?_, ?_⟩
                  · rw [← hI.1, okAll, decide_eq_false (show ¬ p + k = 0 by omega)]
                    have : okCh (decide (p = 0)) r = true := by simp [okCh, a1, a2, a3, a4, a6]; try omega
                    rw [this, Bool.true_and]
                  · rw [← hI.2, List.length_cons]; omega
                · dsimp only; omega
            · have a5 : ¬ p = 0 := by omega
              refine ⟨⟨p + k, n + 1⟩, ⟨?_, ?_, ?_⟩, ?_, rfl, .cons 0 rfl .nil⟩
              · dsimp only; omega
              · dsimp only; omega
              · dsimp only
                refine ⟨?_, ?_⟩
                · rw [← hI.1, okAll, decide_eq_false (show ¬ p + k = 0 by omega)]
                  have : okCh (decide (p = 0)) r = true := by simp [okCh, a1, a2, a3, a4, a5]; try omega
                  rw [this, Bool.true_and]
                · rw [← hI.2, List.length_cons]; omega
              · dsimp only; omega
  · have h17 := f17_of l
    rw [List.drop_eq_nil_of_le (by omega)] at hI
    have hok : okAll true (chars l) = true := by rw [← hI.1]; rfl
    have hct : (chars l).length = n := by rw [← hI.2]; simp [chars]
    cases hd : (digitsR l).2.1 with
    | true =>
      rw [hd] at h17
      refine Fn.use (h17) (go ?_)
      refine fork (fun b1 => go ?_) (fun b1 => go ?_)
      · refine fork (fun b2 => go ?_) (fun b2 => go ?_)
        · refine fork (fun b3 => go ?_) (fun b3 => go ?_)
          · refine VRet.mk [] .nil ?_
            simp [nameR, hok, hct, hd]
          · refine VRet.mk [] .nil ?_
            simp [nameR, hok, hct, hd]
        · refine VRet.mk [] .nil ?_
          simp [nameR, hok, hct, hd]
      · refine VRet.mk [] .nil ?_
        simp [nameR, hok, hct, hd]
    | false =>
      rw [hd] at h17
      refine Fn.use (h17) (go ?_)
      refine fork (fun b1 => go ?_) (fun b1 => go ?_)
      · refine fork (fun b2 => go ?_) (fun b2 => go ?_)
        · refine fork (fun b3 => go ?_) (fun b3 => go ?_)
          · refine VRet.mk [] .nil ?_
            simp [nameR, hok, hct, hd]
            exact ⟨⟨by omega, by omega⟩, b3⟩
          · refine VRet.mk [] .nil ?_
            simp [nameR, hok, hct, hd]
            exact fun _ _ => b3
        · refine VRet.mk [] .nil ?_
          simp [nameR, hok, hct, hd]
          intros; omega
      · refine VRet.mk [] .nil ?_
        simp [nameR, hok, hct, hd]
        intros; omega
end Go.Proofs.YthmklkggehgijaaDoor

namespace Go.Proofs.YthmklkggehgijaaDoor
open Go Go.Av
structure Tok where
  kind : Int
  text : List UInt8
  n : Int
  pos : Int
  deriving DecidableEq
def trimL (l : List UInt8) : List UInt8 := l.drop (spanR (fun r => !blankB r) (runes l))
def wlen (l : List UInt8) : Nat := spanR (fun r => blankB r) (runes l)
inductive TStep where
  | stop
  | skip (l : List UInt8)
  | bad (p e : Int)
  | tok (t : Tok) (l : List UInt8)
  deriving DecidableEq
/-- The next token, where so many bytes are in the whole. -/
def tokAt (N : Nat) (r : List UInt8) : TStep :=
  if r.take (wlen r) = [33] then
    (if Lib.indexByte r 10 < 0 then .stop else .skip (r.drop (Lib.indexByte r 10).toNat))
  else match r.take (wlen r) with
    | [] => .stop
    | c :: _ => if c = 34 then
        (if (textL (N - r.length) (r.drop 1) [] (N - r.length + 1)).2.2 = 0
          then .tok ⟨3, (textL (N - r.length) (r.drop 1) [] (N - r.length + 1)).1, 0, (N - r.length : Nat)⟩ (r.drop ((textL (N - r.length) (r.drop 1) [] (N - r.length + 1)).2.1 - (N - r.length : Nat)).toNat)
          else .bad (textL (N - r.length) (r.drop 1) [] (N - r.length + 1)).2.1 (textL (N - r.length) (r.drop 1) [] (N - r.length + 1)).2.2)
      else if (digitsR (r.take (wlen r))).2.1 then
        (if (digitsR (r.take (wlen r))).2.2 then .tok ⟨2, [], (digitsR (r.take (wlen r))).1, (N - r.length : Nat)⟩ (r.drop (wlen r)) else .bad (N - r.length : Nat) 11)
      else if nameR (r.take (wlen r)) then .tok ⟨1, r.take (wlen r), 0, (N - r.length : Nat)⟩ (r.drop (wlen r)) else .bad (N - r.length : Nat) 10
def toksN (N : Nat) : Nat → List UInt8 → List Tok → List Tok × Int × Int
  | 0, _, _ => ([], 0, -1)
  | k + 1, l, out => if l = [] then (out, 0, 0) else match tokAt N (trimL l) with
    | .stop => (out, 0, 0)
    | .skip l' => toksN N k l' out
    | .bad p e => ([], p, e)
    | .tok t l' => if out.length ≥ 4096 then ([], t.pos, 11) else toksN N k l' (out ++ [t])
def toks (N : Nat) (l : List UInt8) (out : List Tok) : List Tok × Int × Int := toksN N (l.length + 1) l out
def tokensR (s : List UInt8) : List Tok × Int × Int :=
  if s.length > 65536 then ([], 0, 11) else match faultR s with
    | some i => ([], i, 8)
    | none => toks s.length s []
def Tok.cells (t : Tok) : List AV := [.int .i64 t.kind, .str t.text, .int .i64 t.n, .int .i64 t.pos]
def toksC (l : List Tok) : List AV := (l.map Tok.cells).flatten
@[simp] theorem toksC_length (l : List Tok) : (toksC l).length = l.length * 4 := by
  induction l with
  | nil => rfl
  | cons t l ih => show (t.cells ++ toksC l).length = _; rw [List.length_append, ih]; simp [Tok.cells]; omega
theorem toksC_snoc (l : List Tok) (t : Tok) : toksC (l ++ [t]) = toksC l ++ t.cells := by simp [toksC]
theorem trimL_le (l : List UInt8) : (trimL l).length ≤ l.length := by simp [trimL]
theorem wlen_le (l : List UInt8) : wlen l ≤ l.length := spanR_le _ _
theorem indexByte_lt : ∀ (l : List UInt8) (c : UInt8), Lib.indexByte l c < l.length ∧ -1 ≤ Lib.indexByte l c
  | [], c => by simp [Lib.indexByte]
  | b :: l, c => by
    have := indexByte_lt l c
    unfold Lib.indexByte
    simp only [beq_iff_eq, List.length_cons]
    repeat' split
    all_goals omega
theorem textL_next (a : Nat) : ∀ (r acc : List UInt8) (i : Nat), (textL a r acc i).2.2 = 0 → (i : Int) + 1 ≤ (textL a r acc i).2.1 ∧ (textL a r acc i).2.1 ≤ i + r.length
  | [], acc, i, h => by simp [textL] at h
  | c :: r, acc, i, h => by
    rw [textL_cons] at h ⊢
    by_cases h1 : c = 34
    · rw [if_pos h1] at h ⊢
      by_cases h2 : acc.length > 4096
      · rw [if_pos h2] at h; simp at h
      · rw [if_neg h2]; simp; omega
    · rw [if_neg h1] at h ⊢
      by_cases h2 : c = 92
      · rw [if_pos h2] at h ⊢
        match r with
        | [] => simp at h
        | d :: r' =>
          dsimp only at h ⊢
          cases he : esc d with
          | none => rw [he] at h; simp at h
          | some e =>
            rw [he] at h
            dsimp only at h ⊢
            have := textL_next a r' (acc ++ [e]) (i + 2) h
            simp; omega
      · rw [if_neg h2] at h ⊢
        have := textL_next a r (acc ++ [c]) (i + 1) h
        simp; omega
/-- A step takes something away. -/
theorem tokAt_less {N : Nat} {r l' : List UInt8} (h : tokAt N r = .skip l' ∨ ∃ t, tokAt N r = .tok t l') : l'.length < r.length ∧ ∃ k, l' = r.drop k := by
  have hw := wlen_le r
  unfold tokAt at h
  by_cases h1 : r.take (wlen r) = [33]
  · rw [if_pos h1] at h
    have hb := indexByte_lt r 10
    by_cases h2 : Lib.indexByte r 10 < 0
    · rw [if_pos h2] at h; simp at h
    · rw [if_neg h2] at h
      simp at h
      subst h
      refine ⟨?_, _, rfl⟩
      have h3 : Lib.indexByte r 10 ≠ 0 := by
        cases r with
        | nil => simp at h1
        | cons c r =>
          have hc : c = 33 := by
            cases hn : wlen (c :: r) with
            | zero => rw [hn] at h1; simp at h1
            | succ n => rw [hn] at h1; simp at h1; exact h1.1
          subst hc
          unfold Lib.indexByte
          have := indexByte_lt r 10
          simp only [beq_iff_eq]
          rw [if_neg (by decide)]
          split
          all_goals omega
      rw [List.length_drop]; omega
  · rw [if_neg h1] at h
    cases hr : r.take (wlen r) with
    | nil => rw [hr] at h; simp at h
    | cons c q =>
      have hw0 : 0 < wlen r := by
        rcases Nat.eq_zero_or_pos (wlen r) with h0 | h0
        · rw [h0] at hr; simp at hr
        · exact h0
      have hcut : (r.drop (wlen r)).length < r.length := by rw [List.length_drop]; omega
      rw [hr] at h
      dsimp only at h
      by_cases hq : c = 34
      · rw [if_pos hq] at h
        by_cases he : (textL (N - r.length) (r.drop 1) [] (N - r.length + 1)).2.2 = 0
        · rw [if_pos he] at h
          obtain h | ⟨t, h⟩ := h
          · cases h
          · injection h with _ h
            subst h
            have := textL_next _ _ _ _ he
            refine ⟨?_, _, rfl⟩
            rw [List.length_drop]; omega
        · rw [if_neg he] at h; simp at h
      · rw [if_neg hq] at h
        cases hd : (digitsR (c :: q)).2.1 with
        | true =>
          rw [hd, if_pos rfl] at h
          cases ho : (digitsR (c :: q)).2.2 with
          | true => rw [ho, if_pos rfl] at h; simp at h; subst h; exact ⟨hcut, _, rfl⟩
          | false => rw [ho, if_neg (by simp)] at h; simp at h
        | false =>
          rw [hd, if_neg (by simp)] at h
          cases ho : nameR (c :: q) with
          | true => rw [ho, if_pos rfl] at h; simp at h; subst h; exact ⟨hcut, _, rfl⟩
          | false => rw [ho, if_neg (by simp)] at h; simp at h
theorem trimL_drop (l : List UInt8) : ∃ k, trimL l = l.drop k := ⟨_, rfl⟩
theorem toksN_eq (N : Nat) : ∀ (k : Nat) (l : List UInt8) (out : List Tok), l.length < k → toksN N k l out = toks N l out
  | 0, l, out, h => by omega
  | k + 1, l, out, h => by
    have hl := trimL_le l
    unfold toks
    simp only [toksN]
    by_cases e : l = []
    · rw [if_pos e, if_pos e]
    · rw [if_neg e, if_neg e]
      cases hs : tokAt N (trimL l) with
      | stop => rfl
      | bad p e => rfl
      | skip l' =>
        have := (tokAt_less (.inl hs)).1
        dsimp only
        rw [toksN_eq N k l' out (by omega)]
        obtain ⟨m, hm⟩ : ∃ m, l.length = m + 1 := ⟨l.length - 1, by omega⟩
        rw [hm, toksN_eq N (m + 1) l' out (by omega)]
      | tok t l' =>
        have := (tokAt_less (.inr ⟨t, hs⟩)).1
        dsimp only
        rw [toksN_eq N k l' _ (by omega)]
        obtain ⟨m, hm⟩ : ∃ m, l.length = m + 1 := ⟨l.length - 1, by omega⟩
        rw [hm, toksN_eq N (m + 1) l' _ (by omega)]
theorem toks_step (N : Nat) (l : List UInt8) (out : List Tok) : toks N l out = if l = [] then (out, 0, 0) else match tokAt N (trimL l) with
    | .stop => (out, 0, 0)
    | .skip l' => toks N l' out
    | .bad p e => ([], p, e)
    | .tok t l' => if out.length ≥ 4096 then ([], t.pos, 11) else toks N l' (out ++ [t]) := by
  have hl := trimL_le l
  by_cases e : l = []
  · subst e; rfl
  · unfold toks
    rw [toksN, if_neg e]
    obtain ⟨m, hm⟩ : ∃ m, l.length = m + 1 := ⟨l.length - 1, by cases l with | nil => exact absurd rfl e | cons => simp⟩
    cases hs : tokAt N (trimL l) with
    | stop => rw [if_neg e]
    | bad p e' => rw [if_neg e]
    | skip l' =>
      have := (tokAt_less (.inl hs)).1
      dsimp only
      rw [if_neg e, toksN_eq N _ l' out (by omega)]; rfl
    | tok t l' =>
      have := (tokAt_less (.inr ⟨t, hs⟩)).1
      dsimp only
      rw [if_neg e, toksN_eq N _ l' _ (by omega)]; rfl
end Go.Proofs.YthmklkggehgijaaDoor

namespace Go.Proofs.YthmklkggehgijaaDoor
open Go Go.Av
def qb (c : UInt8) : List UInt8 := if c = 10 then [92, 110] else if c = 34 then [92, 34] else if c = 92 then [92, 92] else [c]
def qL : List UInt8 → List UInt8
  | [] => []
  | c :: s => qb c ++ qL s
def quoteR (s : List UInt8) : List UInt8 := 34 :: (qL s ++ [34])
theorem qb_cases (c : UInt8) : (qb c = [c] ∧ c ≠ 10 ∧ c ≠ 34 ∧ c ≠ 92) ∨ ∃ d e, qb c = [92, d] ∧ esc d = some e ∧ c = e ∧ d.toNat < 128 ∧ c.toNat < 128 := by
  by_cases h1 : c = 10
  · subst h1; exact .inr ⟨110, 10, rfl, rfl, rfl, by decide, by decide⟩
  by_cases h2 : c = 34
  · subst h2; exact .inr ⟨34, 34, rfl, rfl, rfl, by decide, by decide⟩
  by_cases h3 : c = 92
  · subst h3; exact .inr ⟨92, 92, rfl, rfl, rfl, by decide, by decide⟩
  · left
    refine ⟨?_, h1, h2, h3⟩
    unfold qb
    rw [if_neg h1, if_neg h2, if_neg h3]
theorem fault_qL : ∀ (t a : List UInt8), faultR (a ++ t) = none → faultR (a ++ qL t) = none
  | [], a, h => h
  | c :: t, a, h => by
    rcases qb_cases c with ⟨e, _⟩ | ⟨d, x, e, _, _, hd, hc⟩
    · have := fault_qL t (a ++ [c]) (by simpa using h)
      rw [qL, e]
      simpa using this
    · have h2 := (faultR_app a c t hc).1 h
      have h3 := fault_qL t [] h2.2
      rw [qL, e]
      exact (faultR_app a 92 (d :: qL t) (by decide)).2 ⟨h2.1, (faultR_app [] d (qL t) hd).2 ⟨rfl, h3⟩⟩
theorem fault_quote {s t : List UInt8} (hs : faultR s = none) (ht : faultR t = none) : faultR (quoteR s ++ t) = none := by
  have : quoteR s ++ t = [] ++ 34 :: (qL s ++ 34 :: t) := by simp [quoteR]
  rw [this]
  exact (faultR_app [] 34 _ (by decide)).2 ⟨rfl, (faultR_app (qL s) 34 t (by decide)).2 ⟨fault_qL s [] hs, ht⟩⟩
theorem qL_le : ∀ (s : List UInt8), (qL s).length ≤ 2 * s.length
  | [] => by simp [qL]
  | c :: s => by
    have := qL_le s
    rcases qb_cases c with ⟨e, _⟩ | ⟨d, x, e, _⟩ <;> simp [qL, e] <;> omega
theorem textL_quote (a : Nat) (y : List UInt8) : ∀ (s acc : List UInt8) (i : Nat), acc.length + s.length ≤ 4096 →
    textL a (qL s ++ 34 :: y) acc i = (acc ++ s, ((i + (qL s).length + 1 : Nat) : Int), 0)
  | [], acc, i, h => by
    rw [qL, List.nil_append, textL_cons, if_pos rfl, if_neg (by simp at h; omega)]
    simp
  | c :: s, acc, i, h => by
    simp only [List.length_cons] at h
    rcases qb_cases c with ⟨e, h1, h2, h3⟩ | ⟨d, x, e, hx, hc, _, _⟩
    · rw [qL, e, List.append_assoc]
      show textL a (c :: (qL s ++ 34 :: y)) acc i = _
      rw [textL_cons, if_neg h2, if_neg h3, textL_quote a y s (acc ++ [c]) (i + 1) (by simp; omega)]
      simp only [List.append_assoc, List.singleton_append, List.length_cons, Prod.mk.injEq, true_and, and_true]
      omega
    · subst hc
      rw [qL, e, List.append_assoc]
      show textL a (92 :: (d :: (qL s ++ 34 :: y))) acc i = _
      rw [textL_cons, if_neg (by decide), if_pos rfl]
      dsimp only
      rw [hx]
      dsimp only
      rw [textL_quote a y s (acc ++ [c]) (i + 2) (by simp; omega)]
      simp only [List.append_assoc, List.singleton_append, List.cons_append, List.nil_append, List.length_cons, Prod.mk.injEq, true_and, and_true]
      omega
theorem nb34 : ¬ blankB ((34 : UInt8).toNat : Nat) = true := by decide
theorem wlen_quote (x : List UInt8) : ∃ k, wlen (34 :: x) = k + 1 := by
  unfold wlen
  rw [runes_ascii 34 x (by decide), spanR, if_neg nb34, Nat.add_comm]
  exact ⟨_, rfl⟩
theorem trimL_quote (x : List UInt8) : trimL (34 :: x) = 34 :: x := by
  unfold trimL
  rw [runes_ascii 34 x (by decide), spanR, if_pos (by simpa using nb34)]
  rfl
theorem tokAt_quote (N : Nat) (s y : List UInt8) (hs : s.length ≤ 4096) :
    tokAt N (quoteR s ++ y) = .tok ⟨3, s, 0, (N - (quoteR s ++ y).length : Nat)⟩ y := by
  have hq : quoteR s ++ y = 34 :: (qL s ++ 34 :: y) := by simp [quoteR]
  rw [hq]
  obtain ⟨k, hk⟩ := wlen_quote (qL s ++ 34 :: y)
  have ht := fun a => textL_quote a y s [] (a + 1) (by simpa using hs)
  unfold tokAt
  rw [hk, List.take_succ_cons, if_neg (by simp)]
  dsimp only
  rw [if_pos rfl, show (34 :: (qL s ++ 34 :: y) : List UInt8).drop 1 = qL s ++ 34 :: y from rfl, ht]
  dsimp only
  rw [if_pos rfl]
  generalize N - (34 :: (qL s ++ 34 :: y)).length = a
  have : (((a + 1 + (qL s).length + 1 : Nat) : Int) - (a : Int)).toNat = (qL s).length + 2 := by omega
  rw [this, show (qL s).length + 2 = ((qL s).length + 1) + 1 from rfl, List.drop_succ_cons, ← List.drop_drop, List.drop_left]
  rfl
theorem toks_quote (N : Nat) (s y : List UInt8) (out : List Tok) (hs : s.length ≤ 4096) (ho : out.length < 4096) :
    toks N (quoteR s ++ y) out = toks N y (out ++ [⟨3, s, 0, (N - (quoteR s ++ y).length : Nat)⟩]) := by
  have hq : quoteR s ++ y = 34 :: (qL s ++ 34 :: y) := by simp [quoteR]
  rw [toks_step, if_neg (by rw [hq]; simp)]
  have : trimL (quoteR s ++ y) = quoteR s ++ y := by rw [hq]; exact trimL_quote _
  rw [this, tokAt_quote N s y hs]
  dsimp only
  rw [if_neg (by omega)]
theorem blank_sp : blankB ((32 : UInt8).toNat : Nat) = true := by decide
theorem trimL_sp (t : List UInt8) : trimL (32 :: t) = trimL t := by
  unfold trimL
  rw [runes_ascii 32 t (by decide), spanR, if_neg (by rw [blank_sp]; simp), show 1 + spanR (fun r => !blankB r) (runes t) = spanR (fun r => !blankB r) (runes t) + 1 by omega]
  rfl
theorem toks_sp (N : Nat) (t : List UInt8) (out : List Tok) : toks N (32 :: t) out = toks N t out := by
  rw [toks_step, if_neg (by simp), trimL_sp]
  cases t with
  | nil => rfl
  | cons c t => rw [toks_step N (c :: t), if_neg (by simp)]
theorem toks_dup (N : Nat) (t : List UInt8) (out : List Tok) (ho : out.length < 4096) :
    toks N ([100, 117, 112, 32] ++ t) out = toks N t (out ++ [⟨1, [100, 117, 112], 0, (N - (t.length + 4) : Nat)⟩]) := by
  have hw : wlen ([100, 117, 112, 32] ++ t) = 3 := by
    unfold wlen
    show spanR _ (runes (100 :: 117 :: 112 :: 32 :: t)) = 3
    rw [runes_ascii 100 _ (by decide), runes_ascii 117 _ (by decide), runes_ascii 112 _ (by decide), runes_ascii 32 _ (by decide)]
    rfl
  have ht : trimL ([100, 117, 112, 32] ++ t) = [100, 117, 112, 32] ++ t := by
    unfold trimL
    show List.drop (spanR _ (runes (100 :: 117 :: 112 :: 32 :: t))) _ = _
    rw [runes_ascii 100 _ (by decide)]
    rfl
  have ha : tokAt N ([100, 117, 112, 32] ++ t) = .tok ⟨1, [100, 117, 112], 0, (N - (t.length + 4) : Nat)⟩ (32 :: t) := by
    unfold tokAt
    rw [hw, if_neg (by simp)]
    show (if (100 : UInt8) = 34 then _ else if (digitsR [100, 117, 112]).2.1 then _ else if nameR [100, 117, 112] then _ else _) = _
    rw [if_neg (by decide), if_neg (by decide), if_pos (by decide)]
    simp
  rw [toks_step, if_neg (by simp), ht, ha]
  dsimp only
  rw [if_neg (by omega), toks_sp]
theorem toks_swap (N : Nat) (t : List UInt8) (out : List Tok) (ho : out.length < 4096) :
    toks N ([115, 119, 97, 112, 32] ++ t) out = toks N t (out ++ [⟨1, [115, 119, 97, 112], 0, (N - (t.length + 5) : Nat)⟩]) := by
  have hw : wlen ([115, 119, 97, 112, 32] ++ t) = 4 := by
    unfold wlen
    show spanR _ (runes (115 :: 119 :: 97 :: 112 :: 32 :: t)) = 4
    rw [runes_ascii 115 _ (by decide), runes_ascii 119 _ (by decide), runes_ascii 97 _ (by decide), runes_ascii 112 _ (by decide), runes_ascii 32 _ (by decide)]
    rfl
  have ht : trimL ([115, 119, 97, 112, 32] ++ t) = [115, 119, 97, 112, 32] ++ t := by
    unfold trimL
    show List.drop (spanR _ (runes (115 :: 119 :: 97 :: 112 :: 32 :: t))) _ = _
    rw [runes_ascii 115 _ (by decide)]
    rfl
  have ha : tokAt N ([115, 119, 97, 112, 32] ++ t) = .tok ⟨1, [115, 119, 97, 112], 0, (N - (t.length + 5) : Nat)⟩ (32 :: t) := by
    unfold tokAt
    rw [hw, if_neg (by simp)]
    show (if (115 : UInt8) = 34 then _ else if (digitsR [115, 119, 97, 112]).2.1 then _ else if nameR [115, 119, 97, 112] then _ else _) = _
    rw [if_neg (by decide), if_neg (by decide), if_pos (by decide)]
    simp
  rw [toks_step, if_neg (by simp), ht, ha]
  dsimp only
  rw [if_neg (by omega), toks_sp]
def srcQ (s : List UInt8) : List UInt8 := [100, 117, 112, 32] ++ (quoteR s ++ ([115, 119, 97, 112, 32] ++ (quoteR s ++ [])))
theorem quoteR_length (s : List UInt8) : (quoteR s).length = (qL s).length + 2 := by simp [quoteR]
theorem srcQ_length (s : List UInt8) : (srcQ s).length = 2 * (qL s).length + 13 := by simp [srcQ, quoteR_length]; omega
theorem tokens_srcQ {s : List UInt8} (hf : faultR s = none) (hs : s.length ≤ 4096) :
    ∃ p q : Int, tokensR (srcQ s) = ([⟨1, [100, 117, 112], 0, 0⟩, ⟨3, s, 0, 4⟩, ⟨1, [115, 119, 97, 112], 0, p⟩, ⟨3, s, 0, q⟩], 0, 0) := by
  have hlen := srcQ_length s
  have hq := qL_le s
  have hfl : faultR (srcQ s) = none := by
    unfold srcQ
    have asc : ∀ (c : UInt8) (t : List UInt8), c.toNat < 128 → faultR t = none → faultR (c :: t) = none := fun c t hc ht => (faultR_app [] c t hc).2 ⟨rfl, ht⟩
    refine asc _ _ (by decide) (asc _ _ (by decide) (asc _ _ (by decide) (asc _ _ (by decide) (fault_quote hf ?_))))
    exact asc _ _ (by decide) (asc _ _ (by decide) (asc _ _ (by decide) (asc _ _ (by decide) (asc _ _ (by decide) (fault_quote hf rfl)))))
  have key : tokensR (srcQ s) = toks (srcQ s).length (srcQ s) [] := by
    unfold tokensR
    rw [if_neg (by omega), hfl]
  rw [key]
  generalize hN : (srcQ s).length = N
  have e0 : N = 2 * (qL s).length + 13 := by omega
  unfold srcQ
  rw [toks_dup N _ [] (by simp), toks_quote N s _ _ hs (by simp), toks_swap N _ _ (by simp), toks_quote N s [] _ hs (by simp)]
  have e1 : N - ((quoteR s ++ ([115, 119, 97, 112, 32] ++ (quoteR s ++ []))).length + 4) = 0 := by simp [quoteR_length]; omega
  have e2 : N - (quoteR s ++ ([115, 119, 97, 112, 32] ++ (quoteR s ++ []))).length = 4 := by simp [quoteR_length]; omega
  rw [e1, e2]
  exact ⟨_, _, rfl⟩
end Go.Proofs.YthmklkggehgijaaDoor
