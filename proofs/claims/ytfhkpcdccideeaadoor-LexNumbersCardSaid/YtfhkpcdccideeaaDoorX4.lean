/- Contracts of library functions, laid out of the shelf: each as it says. The tables of Go's library, out of a row's list. The types of the program, as a table. Functions of Go's library, over abstract values. Functions of Go's library, over abstract values: beginnings of texts. Texts as lists of characters: plain Lean, no program. Conditions: as each says. -/
import Derived.Shelf.Strings.Builder1
import Derived.Shelf.Strings.Builder2
import Derived.Shelf.Small.Utf8
import Derived.Shelf.Small.Strs
import Derived.Shelf.Utf8.RuneCount
import Derived.Shelf.Strings.Search1
import Derived.Shelf.Strings.Search2
import Derived.Shelf.Strings.Search3
import Derived.Shelf.Strings.Count
import Derived.Shelf.LaysM
import Derived.Shelf.Strings.Shaped
import Derived.Shelf.Strings.Split
import Derived.Shelf.Unicode.Decode
import Derived.Shelf.Strings.Runes
import Derived.Shelf.Strings.RuneCount
import Derived.Shelf.Unicode.DecodeSlow
import Derived.Shelf.Unicode.DecodeAny
import Derived.Test.YtfhkpcdccideeaaDoorProg
import Derived.Test.YtfhkpcdccideeaaDoorX3
import Derived.Lib.LaidU8T
import Derived.PinnedBridge
import Derived.Test.YtfhkpcdccideeaaDoorCards
import Derived.Lib.TrimUEq
set_option linter.all false
namespace Go.Proofs
open Go.Shelf
def Tryd.lays119_ren : Go.Shelf.Ren := ⟨fun | 119 => 42 | n => n, fun | 21 => 21 | 4 => 4 | n => n, fun | n => n⟩
theorem Tryd.lays119 : Go.Proofs.Lays.n119 Tryd.prog Tryd.lays119_ren := {
  mixed := by kernel_rfl
  f119 := Tryd.func42.trans (congrArg some (by kernel_rfl))
  t4 := Tryd.underlying4
  a4 := Tryd.isAgg4
  z4 := Tryd.sizeOf4
  v4 := Tryd.zeroValue4
  t21 := Tryd.underlying21
  a21 := Tryd.isAgg21
  z21 := Tryd.sizeOf21
  v21 := Tryd.zeroValue21 }
theorem Tryd.utf8_ValidRune (r : Int) (w : World) :
    Calls Tryd.prog 42 #[.int .i32 r] w fun e w' => e = .returned (.bool (Lib.validRune r)) ∧ w' = w := Any.utf8_ValidRune Tryd.lays119 r w
def Tryd.lays137_ren : Go.Shelf.Ren := ⟨fun | 137 => 22 | 217 => 32 | 266 => 38 | n => n, fun | 9 => 9 | 5 => 5 | 3 => 3 | n => n, fun | n => n⟩
theorem Tryd.lays137 : Go.Proofs.Lays.n137 Tryd.prog Tryd.lays137_ren := {
  mixed := by kernel_rfl
  f137 := Tryd.func22.trans (congrArg some (by kernel_rfl))
  f217 := Tryd.func32.trans (congrArg some (by kernel_rfl))
  f266 := Tryd.func38.trans (congrArg some (by kernel_rfl))
  t3 := Tryd.underlying3
  a3 := Tryd.isAgg3
  z3 := Tryd.sizeOf3
  v3 := Tryd.zeroValue3
  t5 := Tryd.underlying5
  a5 := Tryd.isAgg5
  z5 := Tryd.sizeOf5
  v5 := Tryd.zeroValue5
  t9 := Tryd.underlying9
  a9 := Tryd.isAgg9
  z9 := Tryd.sizeOf9
  v9 := Tryd.zeroValue9 }
open Go.RowKit in
theorem Tryd.strings_IndexByte (s : ByteArray) (c : Int) (w : World) :
    Calls Tryd.prog 22 #[.string s, .int .u8 c] w fun e w' => e = .returned (.int .i64 (Lib.indexByte s.data.toList c.toNat.toUInt8)) ∧ w' = w := Any.strings_IndexByte Tryd.lays137 s c w
def Tryd.lays224_ren : Go.Shelf.Ren := ⟨fun | 224 => 43 | n => n, fun | 3 => 3 | n => n, fun | n => n⟩
theorem Tryd.lays224 : Go.Proofs.Lays.n224 Tryd.prog Tryd.lays224_ren := {
  mixed := by kernel_rfl
  f224 := Tryd.func43.trans (congrArg some (by kernel_rfl))
  t3 := Tryd.underlying3
  a3 := Tryd.isAgg3
  z3 := Tryd.sizeOf3
  v3 := Tryd.zeroValue3 }
open Go.RowKit Go.Lib in
theorem Tryd.bytealg_Cutover (n : Int) (h0 : 0 ≤ n) (h1 : n < 4611686018427387904) (w : World) :
    Calls Tryd.prog 43 #[.int .i64 n] w fun e w' => e = .returned (.int .i64 ((n + 16) / 8)) ∧ w' = w := Any.bytealg_Cutover Tryd.lays224 n h0 h1 w
def Tryd.lays197_ren : Go.Shelf.Ren := ⟨fun | 197 => 28 | 260 => 36 | n => n, fun | 9 => 9 | 21 => 21 | 3 => 3 | 4 => 4 | 5 => 5 | 105 => 57 | 119 => 85 | 0 => 0 | 46 => 86 | 139 => 89 | 138 => 88 | n => n, fun | 3 => 0 | 4 => 1 | n => n⟩
theorem Tryd.lays197 : Go.Proofs.Lays.n197 Tryd.prog Tryd.lays197_ren := {
  mixed := by kernel_rfl
  f197 := Tryd.func28.trans (congrArg some (by kernel_rfl))
  f260 := Tryd.func36.trans (congrArg some (by kernel_rfl))
  t0 := Tryd.underlying0
  a0 := Tryd.isAgg0
  z0 := Tryd.sizeOf0
  v0 := Tryd.zeroValue0
  t3 := Tryd.underlying3
  a3 := Tryd.isAgg3
  z3 := Tryd.sizeOf3
  v3 := Tryd.zeroValue3
  t4 := Tryd.underlying4
  a4 := Tryd.isAgg4
  z4 := Tryd.sizeOf4
  v4 := Tryd.zeroValue4
  t5 := Tryd.underlying5
  a5 := Tryd.isAgg5
  z5 := Tryd.sizeOf5
  v5 := Tryd.zeroValue5
  t9 := Tryd.underlying9
  a9 := Tryd.isAgg9
  z9 := Tryd.sizeOf9
  v9 := Tryd.zeroValue9
  t21 := Tryd.underlying21
  a21 := Tryd.isAgg21
  z21 := Tryd.sizeOf21
  v21 := Tryd.zeroValue21
  t46 := Tryd.underlying86
  a46 := Tryd.isAgg86
  z46 := Tryd.sizeOf86
  v46 := Tryd.zeroValue86
  t105 := Tryd.underlying57
  a105 := Tryd.isAgg57
  z105 := Tryd.sizeOf57
  v105 := Tryd.zeroValue57
  t119 := Tryd.underlying85
  a119 := Tryd.isAgg85
  z119 := Tryd.sizeOf85
  t138 := Tryd.underlying88
  a138 := Tryd.isAgg88
  z138 := Tryd.sizeOf88
  v138 := Tryd.zeroValue88
  t139 := Tryd.underlying89
  a139 := Tryd.isAgg89
  z139 := Tryd.sizeOf89
  v139 := Tryd.zeroValue89
  g3 := by kernel_rfl
  g4 := by kernel_rfl }
open Go.RowKit Go.Lib in
theorem Tryd.utf8_DecodeRuneInString (s : ByteArray) (w : World) (hT : Lib.Utf8Tabs 0 1 w) :
    Calls Tryd.prog 28 #[.string s] w fun e w' => e = .returned (.tuple #[.int .i32 (Lib.decodeGo s).1, .int .i64 (Lib.decodeGo s).2]) ∧ Below w.heap.size w w' := Any.utf8_DecodeRuneInString Tryd.lays197 s w hT
end Go.Proofs

namespace Go.Proofs.YtfhkpcdccideeaaDoor
open Go Go.Av
theorem types : U8Types Tryd.prog Tryd.lays197_ren := ⟨Tryd.lays197.t5, Tryd.lays197.t119, Tryd.lays197.t138, Tryd.lays197.t139⟩
theorem extra : U8Extra Tryd.prog Tryd.lays197_ren := by constructor <;> kernel_rfl
theorem lay_of {W : World} (h : laidMetH Tryd.prog Rows.lexNumbersRow.laid W) : Lay Tryd.prog W := by
  intro a b ha hb
  have h' : laidMet Tryd.prog Rows.lexNumbersRow.laid W := h
  have h3 := Lib.laidMet.reads h' (List.mem_cons_of_mem _ (List.mem_cons_self ..))
  have h4 := Lib.laidMet.reads h' (List.mem_cons_self ..)
  have ra : Tryd.prog.globalNamed ("unicode" ++ slash ++ "utf8.first") = some 0 := by kernel_rfl
  have rb : Tryd.prog.globalNamed ("unicode" ++ slash ++ "utf8.acceptRanges") = some 1 := by kernel_rfl
  obtain rfl : 0 = a := Option.some.inj (ra.symm.trans ha)
  obtain rfl : 1 = b := Option.some.inj (rb.symm.trans hb)
  have e3 : Rows.laid_unicode_utf8_first = Lib.firstData := Pinned.utf8First_eq
  have e4 : Rows.laid_unicode_utf8_acceptRanges = Lib.acceptData := by kernel_rfl
  rw [e3] at h3
  rw [e4] at h4
  exact utf8Tabs_of_readsT types extra h3 h4
end Go.Proofs.YtfhkpcdccideeaaDoor

namespace Go.Proofs.YtfhkpcdccideeaaDoor
open Go Go.Av
def tb : Tab := [(1, ⟨.func, 1, 8, [.nilf], false⟩),
  (2, ⟨.int .i64, 1, 8, [.int .i64 0], true⟩),
  (3, ⟨.int .i64, 1, 8, [.int .i64 0], true⟩),
  (4, ⟨.bool, 1, 1, [.bool false], true⟩),
  (5, ⟨.int .u8, 1, 1, [.int .u8 0], true⟩),
  (6, ⟨.int .u8, 1, 1, [.int .u8 0], true⟩),
  (7, ⟨.struct [⟨0, 1, false, 2⟩, ⟨1, 1, false, 3⟩, ⟨2, 1, false, 4⟩, ⟨3, 1, false, 6⟩], 4, 24, [.int .i64 0, .int .i64 0, .bool false, .int .u8 0], false⟩),
  (8, ⟨.struct [⟨0, 1, false, 2⟩, ⟨1, 1, false, 3⟩, ⟨2, 1, false, 4⟩, ⟨3, 1, false, 6⟩], 4, 24, [.int .i64 0, .int .i64 0, .bool false, .int .u8 0], false⟩),
  (9, ⟨.str, 1, 16, [.str []], true⟩),
  (10, ⟨.str, 1, 16, [.str []], true⟩),
  (11, ⟨.str, 1, 16, [.str []], true⟩),
  (12, ⟨.int .u64, 1, 8, [.int .u64 0], true⟩),
  (13, ⟨.struct [⟨0, 1, false, 9⟩, ⟨1, 1, false, 12⟩], 2, 24, [.str [], .int .u64 0], false⟩),
  (14, ⟨.struct [⟨0, 1, false, 9⟩, ⟨1, 1, false, 12⟩], 2, 24, [.str [], .int .u64 0], false⟩),
  (15, ⟨.ptr 137, 1, 8, [.nilp], false⟩),
  (16, ⟨.ptr 140, 1, 8, [.nilp], false⟩),
  (17, ⟨.ptr 149, 1, 8, [.nilp], false⟩),
  (18, ⟨.struct [⟨0, 1, false, 17⟩], 1, 8, [.nilp], false⟩),
  (19, ⟨.struct [⟨0, 1, false, 17⟩], 1, 8, [.nilp], false⟩),
  (20, ⟨.iface, 1, 16, [.nili], false⟩),
  (21, ⟨.int .i32, 1, 4, [.int .i32 0], true⟩),
  (22, ⟨.func, 1, 8, [.nilf], false⟩),
  (23, ⟨.func, 1, 8, [.nilf], false⟩),
  (24, ⟨.int .i64, 1, 8, [.int .i64 0], true⟩),
  (26, ⟨.func, 1, 8, [.nilf], false⟩),
  (27, ⟨.func, 1, 8, [.nilf], false⟩),
  (28, ⟨.func, 1, 8, [.nilf], false⟩),
  (29, ⟨.slice 34, 1, 24, [.nils], false⟩),
  (31, ⟨.func, 1, 8, [.nilf], false⟩),
  (32, ⟨.func, 1, 8, [.nilf], false⟩),
  (33, ⟨.struct [⟨0, 1, false, 3⟩, ⟨1, 1, false, 9⟩, ⟨2, 1, false, 2⟩, ⟨3, 1, false, 3⟩], 4, 40, [.int .i64 0, .str [], .int .i64 0, .int .i64 0], true⟩),
  (34, ⟨.struct [⟨0, 1, false, 3⟩, ⟨1, 1, false, 9⟩, ⟨2, 1, false, 2⟩, ⟨3, 1, false, 3⟩], 4, 40, [.int .i64 0, .str [], .int .i64 0, .int .i64 0], true⟩),
  (35, ⟨.func, 1, 8, [.nilf], false⟩),
  (36, ⟨.func, 1, 8, [.nilf], false⟩),
  (37, ⟨.func, 1, 8, [.nilf], false⟩),
  (39, ⟨.func, 1, 8, [.nilf], false⟩),
  (40, ⟨.func, 1, 8, [.nilf], false⟩),
  (41, ⟨.int .u64, 1, 8, [.int .u64 0], true⟩),
  (42, ⟨.slice 5, 1, 24, [.nils], false⟩),
  (44, ⟨.func, 1, 8, [.nilf], false⟩),
  (45, ⟨.func, 1, 8, [.nilf], false⟩),
  (46, ⟨.func, 1, 8, [.nilf], false⟩),
  (47, ⟨.func, 1, 8, [.nilf], false⟩),
  (49, ⟨.func, 1, 8, [.nilf], false⟩),
  (50, ⟨.slice 53, 1, 24, [.nils], false⟩),
  (51, ⟨.func, 1, 8, [.nilf], false⟩),
  (52, ⟨.struct [⟨0, 1, false, 21⟩, ⟨1, 1, false, 3⟩, ⟨2, 1, false, 3⟩, ⟨3, 1, false, 4⟩], 4, 32, [.int .i32 0, .int .i64 0, .int .i64 0, .bool false], true⟩),
  (53, ⟨.struct [⟨0, 1, false, 21⟩, ⟨1, 1, false, 3⟩, ⟨2, 1, false, 3⟩, ⟨3, 1, false, 4⟩], 4, 32, [.int .i32 0, .int .i64 0, .int .i64 0, .bool false], true⟩),
  (54, ⟨.ptr 79, 1, 8, [.nilp], false⟩),
  (55, ⟨.func, 1, 8, [.nilf], false⟩),
  (56, ⟨.func, 1, 8, [.nilf], false⟩),
  (58, ⟨.func, 1, 8, [.nilf], false⟩),
  (60, ⟨.func, 1, 8, [.nilf], false⟩),
  (61, ⟨.func, 1, 8, [.nilf], false⟩),
  (62, ⟨.func, 1, 8, [.nilf], false⟩),
  (63, ⟨.slice 9, 1, 24, [.nils], false⟩),
  (64, ⟨.struct [], 0, 0, [], true⟩),
  (65, ⟨.struct [], 0, 0, [], true⟩),
  (66, ⟨.struct [], 0, 0, [], true⟩),
  (67, ⟨.int .u32, 1, 4, [.int .u32 0], true⟩),
  (70, ⟨.struct [⟨0, 1, false, 21⟩, ⟨1, 1, false, 67⟩], 2, 8, [.int .i32 0, .int .u32 0], true⟩),
  (71, ⟨.struct [⟨0, 1, false, 21⟩, ⟨1, 1, false, 67⟩], 2, 8, [.int .i32 0, .int .u32 0], true⟩),
  (76, ⟨.iface, 1, 16, [.nili], false⟩),
  (77, ⟨.iface, 1, 16, [.nili], false⟩),
  (78, ⟨.struct [⟨0, 3, true, 75⟩, ⟨3, 1, false, 77⟩, ⟨4, 1, false, 63⟩], 5, 56, [.int .u32 0, .int .i32 0, .int .u32 0, .nili, .nils], false⟩),
  (79, ⟨.struct [⟨0, 3, true, 75⟩, ⟨3, 1, false, 77⟩, ⟨4, 1, false, 63⟩], 5, 56, [.int .u32 0, .int .i32 0, .int .u32 0, .nili, .nils], false⟩),
  (80, ⟨.func, 1, 8, [.nilf], false⟩),
  (81, ⟨.slice 21, 1, 24, [.nils], false⟩),
  (82, ⟨.func, 1, 8, [.nilf], false⟩),
  (83, ⟨.ptr 75, 1, 8, [.nilp], false⟩),
  (84, ⟨.func, 1, 8, [.nilf], false⟩),
  (86, ⟨.int .u64, 1, 8, [.int .u64 0], true⟩),
  (87, ⟨.struct [⟨0, 1, false, 5⟩, ⟨1, 1, false, 5⟩], 2, 2, [.int .u8 0, .int .u8 0], true⟩),
  (88, ⟨.struct [⟨0, 1, false, 5⟩, ⟨1, 1, false, 5⟩], 2, 2, [.int .u8 0, .int .u8 0], true⟩),
  (90, ⟨.func, 1, 8, [.nilf], false⟩),
  (91, ⟨.func, 1, 8, [.nilf], false⟩),
  (92, ⟨.ptr 69, 1, 8, [.nilp], false⟩),
  (93, ⟨.func, 1, 8, [.nilf], false⟩),
  (94, ⟨.ptr 67, 1, 8, [.nilp], false⟩),
  (95, ⟨.func, 1, 8, [.nilf], false⟩),
  (96, ⟨.ptr 112, 1, 8, [.nilp], false⟩),
  (97, ⟨.func, 1, 8, [.nilf], false⟩),
  (98, ⟨.ptr 118, 1, 8, [.nilp], false⟩),
  (99, ⟨.func, 1, 8, [.nilf], false⟩),
  (101, ⟨.ptr 100, 1, 8, [.nilp], false⟩),
  (105, ⟨.ptr 104, 1, 8, [.nilp], false⟩),
  (106, ⟨.ptr 73, 1, 8, [.nilp], false⟩),
  (107, ⟨.func, 1, 8, [.nilf], false⟩),
  (108, ⟨.func, 1, 8, [.nilf], false⟩),
  (109, ⟨.ptr 130, 1, 8, [.nilp], false⟩),
  (110, ⟨.func, 1, 8, [.nilf], false⟩),
  (111, ⟨.struct [⟨0, 1, false, 109⟩, ⟨1, 1, false, 9⟩], 2, 24, [.nilp, .str []], false⟩),
  (112, ⟨.struct [⟨0, 1, false, 109⟩, ⟨1, 1, false, 9⟩], 2, 24, [.nilp, .str []], false⟩),
  (113, ⟨.ptr 116, 1, 8, [.nilp], false⟩),
  (114, ⟨.slice 113, 1, 24, [.nils], false⟩),
  (115, ⟨.struct [⟨0, 1, false, 9⟩, ⟨1, 1, false, 3⟩, ⟨2, 1, false, 9⟩, ⟨3, 1, false, 113⟩, ⟨4, 1, false, 114⟩], 5, 72, [.str [], .int .i64 0, .str [], .nilp, .nils], false⟩),
  (116, ⟨.struct [⟨0, 1, false, 9⟩, ⟨1, 1, false, 3⟩, ⟨2, 1, false, 9⟩, ⟨3, 1, false, 113⟩, ⟨4, 1, false, 114⟩], 5, 72, [.str [], .int .i64 0, .str [], .nilp, .nils], false⟩),
  (119, ⟨.func, 1, 8, [.nilf], false⟩),
  (120, ⟨.ptr 71, 1, 8, [.nilp], false⟩),
  (121, ⟨.func, 1, 8, [.nilf], false⟩),
  (122, ⟨.ptr 21, 1, 8, [.nilp], false⟩),
  (123, ⟨.func, 1, 8, [.nilf], false⟩),
  (125, ⟨.func, 1, 8, [.nilf], false⟩),
  (126, ⟨.func, 1, 8, [.nilf], false⟩),
  (127, ⟨.slice 3, 1, 24, [.nils], false⟩),
  (131, ⟨.func, 1, 8, [.nilf], false⟩),
  (132, ⟨.func, 1, 8, [.nilf], false⟩),
  (133, ⟨.func, 1, 8, [.nilf], false⟩),
  (134, ⟨.func, 1, 8, [.nilf], false⟩),
  (135, ⟨.func, 1, 8, [.nilf], false⟩),
  (136, ⟨.struct [⟨0, 1, false, 17⟩, ⟨1, 1, false, 17⟩, ⟨2, 1, false, 17⟩, ⟨3, 1, false, 9⟩], 4, 40, [.nilp, .nilp, .nilp, .str []], false⟩),
  (137, ⟨.struct [⟨0, 1, false, 17⟩, ⟨1, 1, false, 17⟩, ⟨2, 1, false, 17⟩, ⟨3, 1, false, 9⟩], 4, 40, [.nilp, .nilp, .nilp, .str []], false⟩),
  (141, ⟨.func, 1, 8, [.nilf], false⟩),
  (142, ⟨.int .u8, 1, 1, [.int .u8 0], true⟩),
  (143, ⟨.int .u8, 1, 1, [.int .u8 0], true⟩),
  (144, ⟨.func, 1, 8, [.nilf], false⟩),
  (145, ⟨.ptr 5, 1, 8, [.nilp], false⟩),
  (146, ⟨.int .i32, 1, 4, [.int .i32 0], true⟩),
  (147, ⟨.int .i32, 1, 4, [.int .i32 0], true⟩),
  (148, ⟨.struct [⟨0, 1, false, 12⟩, ⟨1, 1, false, 12⟩, ⟨2, 1, false, 67⟩, ⟨3, 1, false, 142⟩, ⟨4, 1, false, 5⟩, ⟨5, 1, false, 5⟩, ⟨6, 1, false, 143⟩, ⟨7, 1, false, 144⟩, ⟨8, 1, false, 145⟩, ⟨9, 1, false, 146⟩, ⟨10, 1, false, 147⟩], 11, 48, [.int .u64 0, .int .u64 0, .int .u32 0, .int .u8 0, .int .u8 0, .int .u8 0, .int .u8 0, .nilf, .nilp, .int .i32 0, .int .i32 0], false⟩),
  (149, ⟨.struct [⟨0, 1, false, 12⟩, ⟨1, 1, false, 12⟩, ⟨2, 1, false, 67⟩, ⟨3, 1, false, 142⟩, ⟨4, 1, false, 5⟩, ⟨5, 1, false, 5⟩, ⟨6, 1, false, 143⟩, ⟨7, 1, false, 144⟩, ⟨8, 1, false, 145⟩, ⟨9, 1, false, 146⟩, ⟨10, 1, false, 147⟩], 11, 48, [.int .u64 0, .int .u64 0, .int .u32 0, .int .u8 0, .int .u8 0, .int .u8 0, .int .u8 0, .nilf, .nilp, .int .i32 0, .int .i32 0], false⟩),
  (150, ⟨.func, 1, 8, [.nilf], false⟩),
  (151, ⟨.ptr 153, 1, 8, [.nilp], false⟩),
  (152, ⟨.struct [⟨0, 1, false, 151⟩, ⟨1, 1, false, 42⟩], 2, 32, [.nilp, .nils], false⟩),
  (153, ⟨.struct [⟨0, 1, false, 151⟩, ⟨1, 1, false, 42⟩], 2, 32, [.nilp, .nils], false⟩),
  (154, ⟨.func, 1, 8, [.nilf], false⟩),
  (155, ⟨.iface, 1, 16, [.nili], false⟩),
  (156, ⟨.iface, 1, 16, [.nili], false⟩),
  (158, ⟨.func, 1, 8, [.nilf], false⟩),
  (159, ⟨.func, 1, 8, [.nilf], false⟩),
  (160, ⟨.func, 1, 8, [.nilf], false⟩),
  (161, ⟨.slice 5, 1, 24, [.nils], false⟩),
  (162, ⟨.ptr 161, 1, 8, [.nilp], false⟩),
  (163, ⟨.iface, 1, 16, [.nili], false⟩),
  (164, ⟨.iface, 1, 16, [.nili], false⟩),
  (165, ⟨.iface, 1, 16, [.nili], false⟩),
  (166, ⟨.iface, 1, 16, [.nili], false⟩),
  (167, ⟨.func, 1, 8, [.nilf], false⟩),
  (169, ⟨.func, 1, 8, [.nilf], false⟩),
  (171, ⟨.struct [⟨0, 1, false, 164⟩], 1, 16, [.nili], false⟩),
  (172, ⟨.struct [⟨0, 1, false, 164⟩], 1, 16, [.nili], false⟩),
  (173, ⟨.func, 1, 8, [.nilf], false⟩),
  (175, ⟨.func, 1, 8, [.nilf], false⟩)]
theorem tb_tab : tabB Tryd.prog tb = true := by kernel_rfl
theorem tb_rt : Tryd.prog.underlying Tryd.prog.rt.typeAssertionError = some (.pointer 137) := by kernel_rfl
theorem tb_mixed : Tryd.prog.follows .mixedOrders = true := by kernel_rfl
theorem tb_ok : ProgOk Tryd.prog tb where
  tab := tb_tab
  rt := ⟨_, tb_rt⟩
  mixed := tb_mixed
end Go.Proofs.YtfhkpcdccideeaaDoor

namespace Go.Proofs.YtfhkpcdccideeaaDoor
open Go Go.Av
theorem fn_IndexByte (l : List UInt8) (c : Int) : Av.Fn Tryd.prog 22 [.str l, .int .u8 c] (.int .i64 (Lib.indexByte l c.toNat.toUInt8)) := by
  refine Fn.of_calls (fn := Tryd.f22) (by kernel_rfl) rfl (by kernel_rfl) ?_
  intro W w g us hl hr hb
  obtain ⟨u1, _, rfl, ⟨h1, _⟩, u2, _, rfl, ⟨h2, _⟩, h3⟩ := hr
  have h1 : u1 = _ := h1; have h2 : u2 = _ := h2; have h3 : _ = [] := h3
  subst h1; subst h2; subst h3
  refine (Tryd.strings_IndexByte ⟨⟨l⟩⟩ c w).mono fun e w' ⟨h1, h2⟩ => ?_
  subst h2
  exact ⟨_, h1, rfl, RowKit.Below.refl _ _⟩
theorem fn_ValidRune (r : Int) : Av.Fn Tryd.prog 42 [.int .i32 r] (.bool (Lib.validRune r)) := by
  refine Fn.of_calls (fn := Tryd.f42) (by kernel_rfl) rfl (by kernel_rfl) ?_
  intro W w g us hl hr hb
  obtain ⟨u1, _, rfl, ⟨h1, _⟩, h3⟩ := hr
  have h1 : u1 = _ := h1; have h3 : _ = [] := h3
  subst h1; subst h3
  refine (Tryd.utf8_ValidRune r w).mono fun e w' ⟨h1, h2⟩ => ?_
  subst h2
  exact ⟨_, h1, rfl, RowKit.Below.refl _ _⟩
theorem fn_Cutover (n : Int) (h0 : 0 ≤ n) (h1 : n < 4611686018427387904) : Av.Fn Tryd.prog 43 [.int .i64 n] (.int .i64 ((n + 16) / 8)) := by
  refine Fn.of_calls (fn := Tryd.f43) (by kernel_rfl) rfl (by kernel_rfl) ?_
  intro W w g us hl hr hb
  obtain ⟨u1, _, rfl, ⟨h1, _⟩, h3⟩ := hr
  have h1 : u1 = _ := h1; have h3 : _ = [] := h3
  subst h1; subst h3
  refine (Tryd.bytealg_Cutover n (by assumption) (by assumption) w).mono fun e w' ⟨h1, h2⟩ => ?_
  subst h2
  exact ⟨_, h1, rfl, RowKit.Below.refl _ _⟩
theorem fn_Decode (l : List UInt8) : Av.Fn Tryd.prog 28 [.str l] (.tup [.int .i32 (Lib.decodeGo ⟨⟨l⟩⟩).1, .int .i64 (Lib.decodeGo ⟨⟨l⟩⟩).2]) := by
  refine Fn.of_calls (fn := Tryd.f28) (by kernel_rfl) rfl (by kernel_rfl) ?_
  intro W w g us hl hr hb
  obtain ⟨u1, _, rfl, ⟨h1, _⟩, h3⟩ := hr
  have h1 : u1 = _ := h1; have h3 : _ = [] := h3
  subst h1; subst h3
  refine (Tryd.utf8_DecodeRuneInString ⟨⟨l⟩⟩ w (hl.now hb (a := 0) (b := 1) (by kernel_rfl) (by kernel_rfl))).mono fun e w' ⟨h1, h2⟩ => ?_
  exact ⟨_, h1, ⟨_, rfl, _, _, rfl, ⟨rfl, by simp⟩, _, _, rfl, ⟨rfl, by simp⟩, rfl⟩, h2⟩
end Go.Proofs.YtfhkpcdccideeaaDoor

namespace Go.Proofs.YtfhkpcdccideeaaDoor
open Go Go.Av
/-- Does a text begin with another? -/
def begins (s p : List UInt8) : Bool := decide (p.length ≤ s.length) && decide (s.take p.length = p)
theorem fn_sHasPrefix (s p : List UInt8) : Av.Fn Tryd.prog 35 [.str s, .str p] (.bool (begins s p)) := by
  refine ACalls.of_W tb_ok (fn := Tryd.f35) (n := 18) (by kernel_rfl) rfl (by kernel_rfl) rfl rfl (by simp) ?_
  (conv => whnf)
  repeat ((first | refine VGd.mk rfl ?_ | refine VGo.at _ rfl ?_ | refine VGo.out rfl ?_ | refine VOne.mk rfl ?_ | refine VIf.tt ?_ | refine VIf.ff ?_ | refine VFz.nil ?_ | refine VFz.nils ?_ | refine VFz.full ?_ | refine VFz.own 0 _ _ _ rfl (by simp) ?_ | refine VFz.own 1 _ _ _ rfl (by simp) ?_ | refine VFz.keep ?_ | refine VObj.mk 0 _ rfl ?_ | refine VObj.mk 1 _ rfl ?_ | refine VObj.mk 2 _ rfl ?_ | refine VObj.mk 3 _ rfl ?_ | refine VTake.mk _ rfl rfl ?_ | (apply VInt.to; focus (simp only [Int.reduceAdd, Int.reduceSub, Int.reduceMul]; rfl); focus decide; focus decide) | refine VInt.fit (by omega) (by omega) ?_ | refine VGd.mk (by omega) ?_ | refine VIdx.at _ rfl (by first | omega | decide | simp) ?_ | (apply VQ.mk; focus ((conv => whnf); (repeat ((first | refine VGd.mk rfl ?_ | refine VGo.at _ rfl ?_ | refine VGo.out rfl ?_ | refine VOne.mk rfl ?_ | refine VIf.tt ?_ | refine VIf.ff ?_ | refine VFz.nil ?_ | refine VFz.nils ?_ | refine VFz.full ?_ | refine VFz.own 0 _ _ _ rfl (by simp) ?_ | refine VFz.own 1 _ _ _ rfl (by simp) ?_ | refine VFz.keep ?_ | refine VObj.mk 0 _ rfl ?_ | refine VObj.mk 1 _ rfl ?_ | refine VObj.mk 2 _ rfl ?_ | refine VObj.mk 3 _ rfl ?_ | refine VTake.mk _ rfl rfl ?_ | (apply VInt.to; focus (simp only [Int.reduceAdd, Int.reduceSub, Int.reduceMul]; rfl); focus decide; focus decide) | refine VInt.fit (by omega) (by omega) ?_ | refine VGd.mk (by omega) ?_ | refine VIdx.at _ rfl (by first | omega | decide | simp) ?_); (conv => whnf))); exact ⟨rfl, rfl⟩))); (conv => whnf))
  (first | refine VIf.dec (fun h => ?_) (fun h => ?_) | refine VIf.ndec (fun h => ?_) (fun h => ?_) | refine VIf.mk (fun h => ?_) (fun h => ?_)) <;> ((conv => whnf); repeat ((first | refine VGd.mk rfl ?_ | refine VGo.at _ rfl ?_ | refine VGo.out rfl ?_ | refine VOne.mk rfl ?_ | refine VIf.tt ?_ | refine VIf.ff ?_ | refine VFz.nil ?_ | refine VFz.nils ?_ | refine VFz.full ?_ | refine VFz.own 0 _ _ _ rfl (by simp) ?_ | refine VFz.own 1 _ _ _ rfl (by simp) ?_ | refine VFz.keep ?_ | refine VObj.mk 0 _ rfl ?_ | refine VObj.mk 1 _ rfl ?_ | refine VObj.mk 2 _ rfl ?_ | refine VObj.mk 3 _ rfl ?_ | refine VTake.mk _ rfl rfl ?_ | (apply VInt.to; focus (simp only [Int.reduceAdd, Int.reduceSub, Int.reduceMul]; rfl); focus decide; focus decide) | refine VInt.fit (by omega) (by omega) ?_ | refine VGd.mk (by omega) ?_ | refine VIdx.at _ rfl (by first | omega | decide | simp) ?_ | (apply VQ.mk; focus ((conv => whnf); (repeat ((first | refine VGd.mk rfl ?_ | refine VGo.at _ rfl ?_ | refine VGo.out rfl ?_ | refine VOne.mk rfl ?_ | refine VIf.tt ?_ | refine VIf.ff ?_ | refine VFz.nil ?_ | refine VFz.nils ?_ | refine VFz.full ?_ | refine VFz.own 0 _ _ _ rfl (by simp) ?_ | refine VFz.own 1 _ _ _ rfl (by simp) ?_ | refine VFz.keep ?_ | refine VObj.mk 0 _ rfl ?_ | refine VObj.mk 1 _ rfl ?_ | refine VObj.mk 2 _ rfl ?_ | refine VObj.mk 3 _ rfl ?_ | refine VTake.mk _ rfl rfl ?_ | (apply VInt.to; focus (simp only [Int.reduceAdd, Int.reduceSub, Int.reduceMul]; rfl); focus decide; focus decide) | refine VInt.fit (by omega) (by omega) ?_ | refine VGd.mk (by omega) ?_ | refine VIdx.at _ rfl (by first | omega | decide | simp) ?_); (conv => whnf))); exact ⟨rfl, rfl⟩))); (conv => whnf)))
  · refine VRet.mk [] .nil ?_
    simp [begins, Int.ofNat_le.1 h]
  · refine VRet.mk [] .nil ?_
    simp [begins]
    omega
theorem fn_HasPrefix (s p : List UInt8) : Av.Fn Tryd.prog 27 [.str s, .str p] (.bool (begins s p)) := by
  refine ACalls.of_W tb_ok (fn := Tryd.f27) (n := 8) (by kernel_rfl) rfl (by kernel_rfl) rfl rfl (by simp) ?_
  (conv => whnf)
  repeat ((first | refine VGd.mk rfl ?_ | refine VGo.at _ rfl ?_ | refine VGo.out rfl ?_ | refine VOne.mk rfl ?_ | refine VIf.tt ?_ | refine VIf.ff ?_ | refine VFz.nil ?_ | refine VFz.nils ?_ | refine VFz.full ?_ | refine VFz.own 0 _ _ _ rfl (by simp) ?_ | refine VFz.own 1 _ _ _ rfl (by simp) ?_ | refine VFz.keep ?_ | refine VObj.mk 0 _ rfl ?_ | refine VObj.mk 1 _ rfl ?_ | refine VObj.mk 2 _ rfl ?_ | refine VObj.mk 3 _ rfl ?_ | refine VTake.mk _ rfl rfl ?_ | (apply VInt.to; focus (simp only [Int.reduceAdd, Int.reduceSub, Int.reduceMul]; rfl); focus decide; focus decide) | refine VInt.fit (by omega) (by omega) ?_ | refine VGd.mk (by omega) ?_ | refine VIdx.at _ rfl (by first | omega | decide | simp) ?_ | (apply VQ.mk; focus ((conv => whnf); (repeat ((first | refine VGd.mk rfl ?_ | refine VGo.at _ rfl ?_ | refine VGo.out rfl ?_ | refine VOne.mk rfl ?_ | refine VIf.tt ?_ | refine VIf.ff ?_ | refine VFz.nil ?_ | refine VFz.nils ?_ | refine VFz.full ?_ | refine VFz.own 0 _ _ _ rfl (by simp) ?_ | refine VFz.own 1 _ _ _ rfl (by simp) ?_ | refine VFz.keep ?_ | refine VObj.mk 0 _ rfl ?_ | refine VObj.mk 1 _ rfl ?_ | refine VObj.mk 2 _ rfl ?_ | refine VObj.mk 3 _ rfl ?_ | refine VTake.mk _ rfl rfl ?_ | (apply VInt.to; focus (simp only [Int.reduceAdd, Int.reduceSub, Int.reduceMul]; rfl); focus decide; focus decide) | refine VInt.fit (by omega) (by omega) ?_ | refine VGd.mk (by omega) ?_ | refine VIdx.at _ rfl (by first | omega | decide | simp) ?_); (conv => whnf))); exact ⟨rfl, rfl⟩))); (conv => whnf))
  refine Fn.use (fn_sHasPrefix s p) ?_
  (conv => whnf)
  repeat ((first | refine VGd.mk rfl ?_ | refine VGo.at _ rfl ?_ | refine VGo.out rfl ?_ | refine VOne.mk rfl ?_ | refine VIf.tt ?_ | refine VIf.ff ?_ | refine VFz.nil ?_ | refine VFz.nils ?_ | refine VFz.full ?_ | refine VFz.own 0 _ _ _ rfl (by simp) ?_ | refine VFz.own 1 _ _ _ rfl (by simp) ?_ | refine VFz.keep ?_ | refine VObj.mk 0 _ rfl ?_ | refine VObj.mk 1 _ rfl ?_ | refine VObj.mk 2 _ rfl ?_ | refine VObj.mk 3 _ rfl ?_ | refine VTake.mk _ rfl rfl ?_ | (apply VInt.to; focus (simp only [Int.reduceAdd, Int.reduceSub, Int.reduceMul]; rfl); focus decide; focus decide) | refine VInt.fit (by omega) (by omega) ?_ | refine VGd.mk (by omega) ?_ | refine VIdx.at _ rfl (by first | omega | decide | simp) ?_ | (apply VQ.mk; focus ((conv => whnf); (repeat ((first | refine VGd.mk rfl ?_ | refine VGo.at _ rfl ?_ | refine VGo.out rfl ?_ | refine VOne.mk rfl ?_ | refine VIf.tt ?_ | refine VIf.ff ?_ | refine VFz.nil ?_ | refine VFz.nils ?_ | refine VFz.full ?_ | refine VFz.own 0 _ _ _ rfl (by simp) ?_ | refine VFz.own 1 _ _ _ rfl (by simp) ?_ | refine VFz.keep ?_ | refine VObj.mk 0 _ rfl ?_ | refine VObj.mk 1 _ rfl ?_ | refine VObj.mk 2 _ rfl ?_ | refine VObj.mk 3 _ rfl ?_ | refine VTake.mk _ rfl rfl ?_ | (apply VInt.to; focus (simp only [Int.reduceAdd, Int.reduceSub, Int.reduceMul]; rfl); focus decide; focus decide) | refine VInt.fit (by omega) (by omega) ?_ | refine VGd.mk (by omega) ?_ | refine VIdx.at _ rfl (by first | omega | decide | simp) ?_); (conv => whnf))); exact ⟨rfl, rfl⟩))); (conv => whnf))
  refine VRet.mk [] .nil ?_
  simp
end Go.Proofs.YtfhkpcdccideeaaDoor

namespace Go.Av
open Go

/-- The first character of a text, and how many bytes it has. -/
def dec (l : List UInt8) : Nat × Nat := Utf8.decode ⟨⟨l⟩⟩ 0
theorem dec_at (l : List UInt8) (p : Nat) : Utf8.decode ⟨⟨l⟩⟩ p = dec (l.drop p) := (Lib.decodeL_drop ⟨⟨l⟩⟩ p).symm
theorem dec_N (l : List UInt8) : dec l = Lib.decodeN l.length (l.getD 0 0).toNat (l.getD 1 0).toNat (l.getD 2 0).toNat (l.getD 3 0).toNat := Lib.decodeL_N l
theorem dec_pos (l : List UInt8) (h : l ≠ []) : 1 ≤ (dec l).2 ∧ (dec l).2 ≤ l.length ∧ (dec l).2 ≤ 4 ∧ (dec l).1 ≤ 1114111 := by
  have hl : 1 ≤ l.length := by cases l with | nil => exact absurd rfl h | cons => simp
  rw [dec_N]
  unfold Lib.decodeN
  repeat' split
  all_goals simp only
  all_goals omega
/-- The characters of a text, each with how many bytes it has. -/
def runesN : Nat → List UInt8 → List (Nat × Nat)
  | 0, _ => []
  | n + 1, l => if l = [] then [] else dec l :: runesN n (l.drop (dec l).2)
def runes (l : List UInt8) : List (Nat × Nat) := runesN l.length l
theorem runesN_eq : ∀ (n : Nat) (l : List UInt8), l.length ≤ n → runesN n l = runesN l.length l
  | 0, l, h => by have : l = [] := List.length_eq_zero_iff.1 (by omega); subst this; rfl
  | n + 1, l, h => by
    by_cases e : l = []
    · subst e; simp [runesN]
    · obtain ⟨h1, h2, _⟩ := dec_pos l e
      obtain ⟨m, hm⟩ : ∃ m, l.length = m + 1 := ⟨l.length - 1, by omega⟩
      rw [hm]
      simp only [runesN, e, if_false]
      have h3 : (l.drop (dec l).2).length ≤ m := by rw [List.length_drop]; omega
      rw [runesN_eq n _ (by rw [List.length_drop]; omega), runesN_eq m _ h3]
@[simp] theorem runes_nil : runes [] = [] := rfl
theorem runes_cons {l : List UInt8} (h : l ≠ []) : runes l = dec l :: runes (l.drop (dec l).2) := by
  obtain ⟨h1, h2, _⟩ := dec_pos l h
  obtain ⟨m, hm⟩ : ∃ m, l.length = m + 1 := ⟨l.length - 1, by omega⟩
  unfold runes
  rw [hm]
  simp only [runesN, h, if_false]
  rw [runesN_eq m _ (by rw [List.length_drop]; omega)]
end Go.Av
