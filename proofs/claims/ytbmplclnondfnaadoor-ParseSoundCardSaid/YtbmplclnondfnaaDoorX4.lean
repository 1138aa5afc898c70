/- Contracts of library functions, laid out of the shelf: each as it says. The tables of Go's library, out of a row's list. The types of the program, as a table. Values and items as trees, and what they are in memory. Conditions: none. Functions of Go's library, over abstract values. Functions of Go's library, over abstract values: beginnings of texts. Texts as lists of characters: plain Lean, no program. Conditions: as each says. Lex: text: the string that begins at a place. strings.IndexFunc and strings.TrimLeftFunc, at a function with a contract. Texts that stand one behind the other, and bytes that belong to no character. Conditions: as each says. Lex: fault. Lex: blanks. Lex: is a character a blank? Lex: digits, numbers. Lex: Name. The tokens of a text, as plain Lean tells them. Conditions: none. What parse reads, as plain Lean tells it. Conditions: none. -/
import Derived.Shelf.Strings.Builder1
import Derived.Shelf.Strings.Builder2
import Derived.Shelf.Small.Utf8
import Derived.Shelf.Small.Strs
import Derived.Shelf.Strings.BuilderF
import Derived.Shelf.Utf8.RuneCount
import Derived.Shelf.Strings.Builder2Cap
import Derived.Shelf.Strings.Search1
import Derived.Shelf.Strings.Search2
import Derived.Shelf.Strings.Search3
import Derived.Shelf.Strings.Count
import Derived.Shelf.LaysM
import Derived.Shelf.Strings.Shaped
import Derived.Shelf.Strings.Prefix
import Derived.Shelf.Strings.Split
import Derived.Shelf.Unicode.Decode
import Derived.Shelf.Strings.Runes
import Derived.Shelf.Strings.RuneCount
import Derived.Shelf.Unicode.DecodeSlow
import Derived.Shelf.Unicode.DecodeAny
import Derived.Shelf.Slices.Turned
import Derived.Test.YtbmplclnondfnaaDoorProg
import Derived.Test.YtbmplclnondfnaaDoorX3
import Derived.Lib.LaidU8T
import Derived.PinnedBridge
import Derived.Test.YtbmplclnondfnaaDoorCards
import Derived.Lib.TrimUEq
set_option linter.all false
namespace Go.Proofs
open Go.Shelf
def Tryd.lays119_ren : Go.Shelf.Ren := ⟨fun | 119 => 91 | n => n, fun | 21 => 21 | 4 => 4 | n => n, fun | n => n⟩
theorem Tryd.lays119 : Go.Proofs.Lays.n119 Tryd.prog Tryd.lays119_ren := {
  mixed := by kernel_rfl
  f119 := Tryd.func91.trans (congrArg some (by kernel_rfl))
  t4 := Tryd.underlying4
  a4 := Tryd.isAgg4
  z4 := Tryd.sizeOf4
  v4 := Tryd.zeroValue4
  t21 := Tryd.underlying21
  a21 := Tryd.isAgg21
  z21 := Tryd.sizeOf21
  v21 := Tryd.zeroValue21 }
theorem Tryd.utf8_ValidRune (r : Int) (w : World) :
    Calls Tryd.prog 91 #[.int .i32 r] w fun e w' => e = .returned (.bool (Lib.validRune r)) ∧ w' = w := Any.utf8_ValidRune Tryd.lays119 r w
def Tryd.lays137_ren : Go.Shelf.Ren := ⟨fun | 137 => 47 | 217 => 72 | 266 => 82 | n => n, fun | 9 => 9 | 5 => 5 | 3 => 3 | n => n, fun | n => n⟩
theorem Tryd.lays137 : Go.Proofs.Lays.n137 Tryd.prog Tryd.lays137_ren := {
  mixed := by kernel_rfl
  f137 := Tryd.func47.trans (congrArg some (by kernel_rfl))
  f217 := Tryd.func72.trans (congrArg some (by kernel_rfl))
  f266 := Tryd.func82.trans (congrArg some (by kernel_rfl))
  t3 := Tryd.underlying3
  a3 := Tryd.isAgg3
  z3 := Tryd.sizeOf3
  v3 := Tryd.zeroValue3
  t5 := Tryd.underlying5
  a5 := Tryd.isAgg5
  z5 := Tryd.sizeOf5
  v5 := Tryd.zeroValue5
  t9 := Tryd.underlying9
  a9 := Tryd.isAgg9
  z9 := Tryd.sizeOf9
  v9 := Tryd.zeroValue9 }
open Go.RowKit in
theorem Tryd.strings_IndexByte (s : ByteArray) (c : Int) (w : World) :
    Calls Tryd.prog 47 #[.string s, .int .u8 c] w fun e w' => e = .returned (.int .i64 (Lib.indexByte s.data.toList c.toNat.toUInt8)) ∧ w' = w := Any.strings_IndexByte Tryd.lays137 s c w
def Tryd.lays224_ren : Go.Shelf.Ren := ⟨fun | 224 => 92 | n => n, fun | 3 => 3 | n => n, fun | n => n⟩
theorem Tryd.lays224 : Go.Proofs.Lays.n224 Tryd.prog Tryd.lays224_ren := {
  mixed := by kernel_rfl
  f224 := Tryd.func92.trans (congrArg some (by kernel_rfl))
  t3 := Tryd.underlying3
  a3 := Tryd.isAgg3
  z3 := Tryd.sizeOf3
  v3 := Tryd.zeroValue3 }
open Go.RowKit Go.Lib in
theorem Tryd.bytealg_Cutover (n : Int) (h0 : 0 ≤ n) (h1 : n < 4611686018427387904) (w : World) :
    Calls Tryd.prog 92 #[.int .i64 n] w fun e w' => e = .returned (.int .i64 ((n + 16) / 8)) ∧ w' = w := Any.bytealg_Cutover Tryd.lays224 n h0 h1 w
def Tryd.lays197_ren : Go.Shelf.Ren := ⟨fun | 197 => 73 | 260 => 83 | n => n, fun | 9 => 9 | 21 => 21 | 3 => 3 | 4 => 4 | 5 => 5 | 105 => 143 | 119 => 175 | 0 => 0 | 46 => 183 | 139 => 187 | 138 => 186 | n => n, fun | 3 => 1 | 4 => 2 | n => n⟩
theorem Tryd.lays197 : Go.Proofs.Lays.n197 Tryd.prog Tryd.lays197_ren := {
  mixed := by kernel_rfl
  f197 := Tryd.func73.trans (congrArg some (by kernel_rfl))
  f260 := Tryd.func83.trans (congrArg some (by kernel_rfl))
  t0 := Tryd.underlying0
  a0 := Tryd.isAgg0
  z0 := Tryd.sizeOf0
  v0 := Tryd.zeroValue0
  t3 := Tryd.underlying3
  a3 := Tryd.isAgg3
  z3 := Tryd.sizeOf3
  v3 := Tryd.zeroValue3
  t4 := Tryd.underlying4
  a4 := Tryd.isAgg4
  z4 := Tryd.sizeOf4
  v4 := Tryd.zeroValue4
  t5 := Tryd.underlying5
  a5 := Tryd.isAgg5
  z5 := Tryd.sizeOf5
  v5 := Tryd.zeroValue5
  t9 := Tryd.underlying9
  a9 := Tryd.isAgg9
  z9 := Tryd.sizeOf9
  v9 := Tryd.zeroValue9
  t21 := Tryd.underlying21
  a21 := Tryd.isAgg21
  z21 := Tryd.sizeOf21
  v21 := Tryd.zeroValue21
  t46 := Tryd.underlying183
  a46 := Tryd.isAgg183
  z46 := Tryd.sizeOf183
  v46 := Tryd.zeroValue183
  t105 := Tryd.underlying143
  a105 := Tryd.isAgg143
  z105 := Tryd.sizeOf143
  v105 := Tryd.zeroValue143
  t119 := Tryd.underlying175
  a119 := Tryd.isAgg175
  z119 := Tryd.sizeOf175
  t138 := Tryd.underlying186
  a138 := Tryd.isAgg186
  z138 := Tryd.sizeOf186
  v138 := Tryd.zeroValue186
  t139 := Tryd.underlying187
  a139 := Tryd.isAgg187
  z139 := Tryd.sizeOf187
  v139 := Tryd.zeroValue187
  g3 := by kernel_rfl
  g4 := by kernel_rfl }
open Go.RowKit Go.Lib in
theorem Tryd.utf8_DecodeRuneInString (s : ByteArray) (w : World) (hT : Lib.Utf8Tabs 1 2 w) :
    Calls Tryd.prog 73 #[.string s] w fun e w' => e = .returned (.tuple #[.int .i32 (Lib.decodeGo s).1, .int .i64 (Lib.decodeGo s).2]) ∧ Below w.heap.size w w' := Any.utf8_DecodeRuneInString Tryd.lays197 s w hT
def Tryd.lays110_ren : Go.Shelf.Ren := ⟨fun | 110 => 75 | 109 => 84 | n => n, fun | 31 => 122 | 9 => 9 | 4 => 4 | 3 => 3 | 0 => 0 | n => n, fun | n => n⟩
theorem Tryd.lays110 : Go.Proofs.Lays.n110 Tryd.prog Tryd.lays110_ren := {
  mixed := by kernel_rfl
  f109 := Tryd.func84.trans (congrArg some (by kernel_rfl))
  f110 := Tryd.func75.trans (congrArg some (by kernel_rfl))
  t0 := Tryd.underlying0
  a0 := Tryd.isAgg0
  z0 := Tryd.sizeOf0
  v0 := Tryd.zeroValue0
  t3 := Tryd.underlying3
  a3 := Tryd.isAgg3
  z3 := Tryd.sizeOf3
  v3 := Tryd.zeroValue3
  t4 := Tryd.underlying4
  a4 := Tryd.isAgg4
  z4 := Tryd.sizeOf4
  v4 := Tryd.zeroValue4
  t9 := Tryd.underlying9
  a9 := Tryd.isAgg9
  z9 := Tryd.sizeOf9
  v9 := Tryd.zeroValue9
  t31 := Tryd.underlying122
  a31 := Tryd.isAgg122
  z31 := Tryd.sizeOf122
  v31 := Tryd.zeroValue122 }
open Go.Lib in
theorem Tryd.slices_Contains_string (b off n c : Nat) (zs : List ByteArray) (x : ByteArray) (w : World) (hz : n ≤ zs.length) (hbig : n ≤ 9223372036854775807) (hc : ∀ j, j < zs.length → w.cell? ⟨b, off + j, none⟩ = some (.string (zs.getD j ByteArray.empty))) :
    Calls Tryd.prog 75 #[.slice (some ⟨b, off, none⟩) n c, .string x] w fun e w' => e = .returned (.bool (Lib.containsS (zs.take n) x)) ∧ w' = w := Any.slices_Contains_string Tryd.lays110 b off n c zs x w hz hbig hc
end Go.Proofs

namespace Go.Proofs.YtbmplclnondfnaaDoor
open Go Go.Av
theorem types : U8Types Tryd.prog Tryd.lays197_ren := ⟨Tryd.lays197.t5, Tryd.lays197.t119, Tryd.lays197.t138, Tryd.lays197.t139⟩
theorem extra : U8Extra Tryd.prog Tryd.lays197_ren := by constructor <;> kernel_rfl
theorem lay_of {W : World} (h : laidMetH Tryd.prog Rows.parseNestsRow.laid W) : Lay Tryd.prog W := by
  intro a b ha hb
  have h' : laidMet Tryd.prog Rows.parseNestsRow.laid W := h
  have h3 := Lib.laidMet.reads h' (List.mem_cons_of_mem _ (List.mem_cons_self ..))
  have h4 := Lib.laidMet.reads h' (List.mem_cons_self ..)
  have ra : Tryd.prog.globalNamed ("unicode" ++ slash ++ "utf8.first") = some 1 := by kernel_rfl
  have rb : Tryd.prog.globalNamed ("unicode" ++ slash ++ "utf8.acceptRanges") = some 2 := by kernel_rfl
  obtain rfl : 1 = a := Option.some.inj (ra.symm.trans ha)
  obtain rfl : 2 = b := Option.some.inj (rb.symm.trans hb)
  have e3 : Rows.laid_unicode_utf8_first = Lib.firstData := Pinned.utf8First_eq
  have e4 : Rows.laid_unicode_utf8_acceptRanges = Lib.acceptData := by kernel_rfl
  rw [e3] at h3
  rw [e4] at h4
  exact utf8Tabs_of_readsT types extra h3 h4
def cells0 : Array Value := ((List.range 256).map fun c => Value.int .u8 (Lib.firstT c : Nat)).toArray
def cells1 : Array Value := ((List.range 32).map fun i => Value.int .u8 ((if i % 2 = 0 then Lib.accLo (i / 2) else Lib.accHi (i / 2) : Nat) : Int)).toArray
def setCells (c : Array Value) : Obj → Obj
  | .cells _ t frozen => .cells c t frozen
  | o => o
noncomputable def laidWorld (os : Os) : World :=
  { World.holding Tryd.prog os ⟨#[], #[], []⟩ with heap := ((World.holding Tryd.prog os ⟨#[], #[], []⟩).heap.modify 1 (setCells cells0)).modify 2 (setCells cells1) }
end Go.Proofs.YtbmplclnondfnaaDoor

namespace Go.Proofs.YtbmplclnondfnaaDoor
open Go Go.Av
def tb : Tab := [(1, ⟨.func, 1, 8, [.nilf], false⟩),
  (2, ⟨.int .i64, 1, 8, [.int .i64 0], true⟩),
  (3, ⟨.int .i64, 1, 8, [.int .i64 0], true⟩),
  (4, ⟨.bool, 1, 1, [.bool false], true⟩),
  (5, ⟨.int .u8, 1, 1, [.int .u8 0], true⟩),
  (6, ⟨.int .u8, 1, 1, [.int .u8 0], true⟩),
  (7, ⟨.struct [⟨0, 1, false, 2⟩, ⟨1, 1, false, 3⟩, ⟨2, 1, false, 4⟩, ⟨3, 1, false, 6⟩], 4, 24, [.int .i64 0, .int .i64 0, .bool false, .int .u8 0], false⟩),
  (8, ⟨.struct [⟨0, 1, false, 2⟩, ⟨1, 1, false, 3⟩, ⟨2, 1, false, 4⟩, ⟨3, 1, false, 6⟩], 4, 24, [.int .i64 0, .int .i64 0, .bool false, .int .u8 0], false⟩),
  (9, ⟨.str, 1, 16, [.str []], true⟩),
  (10, ⟨.str, 1, 16, [.str []], true⟩),
  (11, ⟨.str, 1, 16, [.str []], true⟩),
  (12, ⟨.int .u64, 1, 8, [.int .u64 0], true⟩),
  (13, ⟨.struct [⟨0, 1, false, 9⟩, ⟨1, 1, false, 12⟩], 2, 24, [.str [], .int .u64 0], false⟩),
  (14, ⟨.struct [⟨0, 1, false, 9⟩, ⟨1, 1, false, 12⟩], 2, 24, [.str [], .int .u64 0], false⟩),
  (15, ⟨.ptr 219, 1, 8, [.nilp], false⟩),
  (16, ⟨.ptr 222, 1, 8, [.nilp], false⟩),
  (17, ⟨.ptr 230, 1, 8, [.nilp], false⟩),
  (18, ⟨.struct [⟨0, 1, false, 17⟩], 1, 8, [.nilp], false⟩),
  (19, ⟨.struct [⟨0, 1, false, 17⟩], 1, 8, [.nilp], false⟩),
  (20, ⟨.iface, 1, 16, [.nili], false⟩),
  (21, ⟨.int .i32, 1, 4, [.int .i32 0], true⟩),
  (22, ⟨.func, 1, 8, [.nilf], false⟩),
  (23, ⟨.slice 68, 1, 24, [.nils], false⟩),
  (24, ⟨.int .i64, 1, 8, [.int .i64 0], true⟩),
  (26, ⟨.func, 1, 8, [.nilf], false⟩),
  (27, ⟨.slice 52, 1, 24, [.nils], false⟩),
  (29, ⟨.func, 1, 8, [.nilf], false⟩),
  (30, ⟨.slice 40, 1, 24, [.nils], false⟩),
  (31, ⟨.func, 1, 8, [.nilf], false⟩),
  (32, ⟨.func, 1, 8, [.nilf], false⟩),
  (33, ⟨.func, 1, 8, [.nilf], false⟩),
  (34, ⟨.slice 38, 1, 24, [.nils], false⟩),
  (35, ⟨.struct [⟨0, 1, false, 9⟩, ⟨1, 1, false, 3⟩, ⟨2, 1, false, 3⟩, ⟨3, 1, false, 34⟩], 4, 56, [.str [], .int .i64 0, .int .i64 0, .nils], false⟩),
  (36, ⟨.struct [⟨0, 1, false, 9⟩, ⟨1, 1, false, 3⟩, ⟨2, 1, false, 3⟩, ⟨3, 1, false, 34⟩], 4, 56, [.str [], .int .i64 0, .int .i64 0, .nils], false⟩),
  (37, ⟨.struct [⟨0, 1, false, 3⟩, ⟨1, 1, false, 2⟩, ⟨2, 1, false, 9⟩, ⟨3, 1, false, 34⟩], 4, 56, [.int .i64 0, .int .i64 0, .str [], .nils], false⟩),
  (38, ⟨.struct [⟨0, 1, false, 3⟩, ⟨1, 1, false, 2⟩, ⟨2, 1, false, 9⟩, ⟨3, 1, false, 34⟩], 4, 56, [.int .i64 0, .int .i64 0, .str [], .nils], false⟩),
  (39, ⟨.struct [⟨0, 1, false, 4⟩, ⟨1, 4, true, 36⟩, ⟨5, 4, true, 38⟩], 9, 120, [.bool false, .str [], .int .i64 0, .int .i64 0, .nils, .int .i64 0, .int .i64 0, .str [], .nils], false⟩),
  (40, ⟨.struct [⟨0, 1, false, 4⟩, ⟨1, 4, true, 36⟩, ⟨5, 4, true, 38⟩], 9, 120, [.bool false, .str [], .int .i64 0, .int .i64 0, .nils, .int .i64 0, .int .i64 0, .str [], .nils], false⟩),
  (41, ⟨.func, 1, 8, [.nilf], false⟩),
  (42, ⟨.func, 1, 8, [.nilf], false⟩),
  (43, ⟨.slice 66, 1, 24, [.nils], false⟩),
  (45, ⟨.func, 1, 8, [.nilf], false⟩),
  (46, ⟨.func, 1, 8, [.nilf], false⟩),
  (47, ⟨.func, 1, 8, [.nilf], false⟩),
  (49, ⟨.func, 1, 8, [.nilf], false⟩),
  (50, ⟨.func, 1, 8, [.nilf], false⟩),
  (51, ⟨.struct [⟨0, 1, false, 3⟩, ⟨1, 1, false, 9⟩, ⟨2, 1, false, 2⟩, ⟨3, 1, false, 3⟩], 4, 40, [.int .i64 0, .str [], .int .i64 0, .int .i64 0], true⟩),
  (52, ⟨.struct [⟨0, 1, false, 3⟩, ⟨1, 1, false, 9⟩, ⟨2, 1, false, 2⟩, ⟨3, 1, false, 3⟩], 4, 40, [.int .i64 0, .str [], .int .i64 0, .int .i64 0], true⟩),
  (53, ⟨.func, 1, 8, [.nilf], false⟩),
  (55, ⟨.func, 1, 8, [.nilf], false⟩),
  (56, ⟨.ptr 104, 1, 8, [.nilp], false⟩),
  (58, ⟨.func, 1, 8, [.nilf], false⟩),
  (59, ⟨.struct [⟨0, 1, false, 3⟩, ⟨1, 1, false, 3⟩], 2, 16, [.int .i64 0, .int .i64 0], true⟩),
  (60, ⟨.struct [⟨0, 1, false, 3⟩, ⟨1, 1, false, 3⟩], 2, 16, [.int .i64 0, .int .i64 0], true⟩),
  (61, ⟨.struct [⟨0, 1, false, 9⟩, ⟨1, 2, true, 60⟩, ⟨3, 1, false, 43⟩], 4, 56, [.str [], .int .i64 0, .int .i64 0, .nils], false⟩),
  (62, ⟨.struct [⟨0, 1, false, 9⟩, ⟨1, 2, true, 60⟩, ⟨3, 1, false, 43⟩], 4, 56, [.str [], .int .i64 0, .int .i64 0, .nils], false⟩),
  (63, ⟨.func, 1, 8, [.nilf], false⟩),
  (64, ⟨.func, 1, 8, [.nilf], false⟩),
  (65, ⟨.iface, 1, 16, [.nili], false⟩),
  (66, ⟨.iface, 1, 16, [.nili], false⟩),
  (67, ⟨.struct [⟨0, 1, false, 4⟩, ⟨1, 4, true, 62⟩, ⟨5, 1, false, 66⟩], 6, 80, [.bool false, .str [], .int .i64 0, .int .i64 0, .nils, .nili], false⟩),
  (68, ⟨.struct [⟨0, 1, false, 4⟩, ⟨1, 4, true, 62⟩, ⟨5, 1, false, 66⟩], 6, 80, [.bool false, .str [], .int .i64 0, .int .i64 0, .nils, .nili], false⟩),
  (70, ⟨.func, 1, 8, [.nilf], false⟩),
  (71, ⟨.func, 1, 8, [.nilf], false⟩),
  (72, ⟨.slice 76, 1, 24, [.nils], false⟩),
  (73, ⟨.func, 1, 8, [.nilf], false⟩),
  (74, ⟨.func, 1, 8, [.nilf], false⟩),
  (75, ⟨.struct [⟨0, 1, false, 21⟩, ⟨1, 1, false, 3⟩, ⟨2, 1, false, 3⟩, ⟨3, 1, false, 4⟩], 4, 32, [.int .i32 0, .int .i64 0, .int .i64 0, .bool false], true⟩),
  (76, ⟨.struct [⟨0, 1, false, 21⟩, ⟨1, 1, false, 3⟩, ⟨2, 1, false, 3⟩, ⟨3, 1, false, 4⟩], 4, 32, [.int .i32 0, .int .i64 0, .int .i64 0, .bool false], true⟩),
  (78, ⟨.func, 1, 8, [.nilf], false⟩),
  (79, ⟨.int .u64, 1, 8, [.int .u64 0], true⟩),
  (81, ⟨.func, 1, 8, [.nilf], false⟩),
  (83, ⟨.func, 1, 8, [.nilf], false⟩),
  (84, ⟨.func, 1, 8, [.nilf], false⟩),
  (85, ⟨.func, 1, 8, [.nilf], false⟩),
  (86, ⟨.func, 1, 8, [.nilf], false⟩),
  (87, ⟨.func, 1, 8, [.nilf], false⟩),
  (88, ⟨.func, 1, 8, [.nilf], false⟩),
  (90, ⟨.func, 1, 8, [.nilf], false⟩),
  (91, ⟨.ptr 138, 1, 8, [.nilp], false⟩),
  (92, ⟨.func, 1, 8, [.nilf], false⟩),
  (93, ⟨.func, 1, 8, [.nilf], false⟩),
  (94, ⟨.func, 1, 8, [.nilf], false⟩),
  (95, ⟨.func, 1, 8, [.nilf], false⟩),
  (96, ⟨.func, 1, 8, [.nilf], false⟩),
  (97, ⟨.func, 1, 8, [.nilf], false⟩),
  (99, ⟨.func, 1, 8, [.nilf], false⟩),
  (100, ⟨.struct [⟨0, 1, false, 3⟩, ⟨1, 1, false, 24⟩], 2, 16, [.int .i64 0, .int .i64 0], true⟩),
  (101, ⟨.struct [⟨0, 1, false, 3⟩, ⟨1, 1, false, 24⟩], 2, 16, [.int .i64 0, .int .i64 0], true⟩),
  (103, ⟨.struct [⟨0, 1, false, 27⟩, ⟨1, 1, false, 3⟩, ⟨2, 1, false, 3⟩, ⟨3, 1, false, 3⟩], 4, 48, [.nils, .int .i64 0, .int .i64 0, .int .i64 0], false⟩),
  (104, ⟨.struct [⟨0, 1, false, 27⟩, ⟨1, 1, false, 3⟩, ⟨2, 1, false, 3⟩, ⟨3, 1, false, 3⟩], 4, 48, [.nils, .int .i64 0, .int .i64 0, .int .i64 0], false⟩),
  (105, ⟨.func, 1, 8, [.nilf], false⟩),
  (106, ⟨.func, 1, 8, [.nilf], false⟩),
  (107, ⟨.func, 1, 8, [.nilf], false⟩),
  (108, ⟨.func, 1, 8, [.nilf], false⟩),
  (109, ⟨.iface, 1, 16, [.nili], false⟩),
  (110, ⟨.iface, 1, 16, [.nili], false⟩),
  (112, ⟨.func, 1, 8, [.nilf], false⟩),
  (113, ⟨.struct [⟨0, 1, false, 110⟩], 1, 16, [.nili], false⟩),
  (114, ⟨.struct [⟨0, 1, false, 110⟩], 1, 16, [.nili], false⟩),
  (115, ⟨.struct [⟨0, 1, false, 9⟩], 1, 16, [.str []], true⟩),
  (116, ⟨.struct [⟨0, 1, false, 9⟩], 1, 16, [.str []], true⟩),
  (117, ⟨.func, 1, 8, [.nilf], false⟩),
  (118, ⟨.func, 1, 8, [.nilf], false⟩),
  (119, ⟨.func, 1, 8, [.nilf], false⟩),
  (120, ⟨.func, 1, 8, [.nilf], false⟩),
  (121, ⟨.func, 1, 8, [.nilf], false⟩),
  (122, ⟨.slice 9, 1, 24, [.nils], false⟩),
  (123, ⟨.struct [], 0, 0, [], true⟩),
  (124, ⟨.struct [], 0, 0, [], true⟩),
  (125, ⟨.struct [], 0, 0, [], true⟩),
  (126, ⟨.int .u32, 1, 4, [.int .u32 0], true⟩),
  (129, ⟨.struct [⟨0, 1, false, 21⟩, ⟨1, 1, false, 126⟩], 2, 8, [.int .i32 0, .int .u32 0], true⟩),
  (130, ⟨.struct [⟨0, 1, false, 21⟩, ⟨1, 1, false, 126⟩], 2, 8, [.int .i32 0, .int .u32 0], true⟩),
  (135, ⟨.iface, 1, 16, [.nili], false⟩),
  (136, ⟨.iface, 1, 16, [.nili], false⟩),
  (137, ⟨.struct [⟨0, 3, true, 134⟩, ⟨3, 1, false, 136⟩, ⟨4, 1, false, 122⟩], 5, 56, [.int .u32 0, .int .i32 0, .int .u32 0, .nili, .nils], false⟩),
  (138, ⟨.struct [⟨0, 3, true, 134⟩, ⟨3, 1, false, 136⟩, ⟨4, 1, false, 122⟩], 5, 56, [.int .u32 0, .int .i32 0, .int .u32 0, .nili, .nils], false⟩),
  (139, ⟨.func, 1, 8, [.nilf], false⟩),
  (140, ⟨.func, 1, 8, [.nilf], false⟩),
  (141, ⟨.func, 1, 8, [.nilf], false⟩),
  (142, ⟨.slice 5, 1, 24, [.nils], false⟩),
  (144, ⟨.func, 1, 8, [.nilf], false⟩),
  (146, ⟨.func, 1, 8, [.nilf], false⟩),
  (147, ⟨.struct [⟨0, 1, false, 2⟩], 1, 8, [.int .i64 0], true⟩),
  (148, ⟨.struct [⟨0, 1, false, 2⟩], 1, 8, [.int .i64 0], true⟩),
  (149, ⟨.struct [⟨0, 1, false, 9⟩], 1, 16, [.str []], true⟩),
  (150, ⟨.struct [⟨0, 1, false, 9⟩], 1, 16, [.str []], true⟩),
  (151, ⟨.struct [⟨0, 1, false, 4⟩], 1, 1, [.bool false], true⟩),
  (152, ⟨.struct [⟨0, 1, false, 4⟩], 1, 1, [.bool false], true⟩),
  (153, ⟨.struct [⟨0, 1, false, 43⟩], 1, 24, [.nils], false⟩),
  (154, ⟨.struct [⟨0, 1, false, 43⟩], 1, 24, [.nils], false⟩),
  (155, ⟨.slice 110, 1, 24, [.nils], false⟩),
  (156, ⟨.struct [⟨0, 1, false, 155⟩], 1, 24, [.nils], false⟩),
  (157, ⟨.struct [⟨0, 1, false, 155⟩], 1, 24, [.nils], false⟩),
  (158, ⟨.func, 1, 8, [.nilf], false⟩),
  (159, ⟨.func, 1, 8, [.nilf], false⟩),
  (160, ⟨.struct [⟨0, 1, false, 3⟩], 1, 8, [.int .i64 0], true⟩),
  (161, ⟨.struct [⟨0, 1, false, 3⟩], 1, 8, [.int .i64 0], true⟩),
  (162, ⟨.ptr 134, 1, 8, [.nilp], false⟩),
  (163, ⟨.func, 1, 8, [.nilf], false⟩),
  (164, ⟨.func, 1, 8, [.nilf], false⟩),
  (165, ⟨.slice 21, 1, 24, [.nils], false⟩),
  (166, ⟨.func, 1, 8, [.nilf], false⟩),
  (167, ⟨.ptr 128, 1, 8, [.nilp], false⟩),
  (168, ⟨.func, 1, 8, [.nilf], false⟩),
  (169, ⟨.ptr 126, 1, 8, [.nilp], false⟩),
  (170, ⟨.func, 1, 8, [.nilf], false⟩),
  (171, ⟨.ptr 194, 1, 8, [.nilp], false⟩),
  (172, ⟨.func, 1, 8, [.nilf], false⟩),
  (173, ⟨.ptr 200, 1, 8, [.nilp], false⟩),
  (174, ⟨.func, 1, 8, [.nilf], false⟩),
  (177, ⟨.ptr 176, 1, 8, [.nilp], false⟩),
  (181, ⟨.ptr 180, 1, 8, [.nilp], false⟩),
  (182, ⟨.func, 1, 8, [.nilf], false⟩),
  (183, ⟨.int .u64, 1, 8, [.int .u64 0], true⟩),
  (184, ⟨.func, 1, 8, [.nilf], false⟩),
  (185, ⟨.struct [⟨0, 1, false, 5⟩, ⟨1, 1, false, 5⟩], 2, 2, [.int .u8 0, .int .u8 0], true⟩),
  (186, ⟨.struct [⟨0, 1, false, 5⟩, ⟨1, 1, false, 5⟩], 2, 2, [.int .u8 0, .int .u8 0], true⟩),
  (188, ⟨.ptr 132, 1, 8, [.nilp], false⟩),
  (189, ⟨.func, 1, 8, [.nilf], false⟩),
  (190, ⟨.func, 1, 8, [.nilf], false⟩),
  (191, ⟨.ptr 212, 1, 8, [.nilp], false⟩),
  (192, ⟨.func, 1, 8, [.nilf], false⟩),
  (193, ⟨.struct [⟨0, 1, false, 191⟩, ⟨1, 1, false, 9⟩], 2, 24, [.nilp, .str []], false⟩),
  (194, ⟨.struct [⟨0, 1, false, 191⟩, ⟨1, 1, false, 9⟩], 2, 24, [.nilp, .str []], false⟩),
  (195, ⟨.ptr 198, 1, 8, [.nilp], false⟩),
  (196, ⟨.slice 195, 1, 24, [.nils], false⟩),
  (197, ⟨.struct [⟨0, 1, false, 9⟩, ⟨1, 1, false, 3⟩, ⟨2, 1, false, 9⟩, ⟨3, 1, false, 195⟩, ⟨4, 1, false, 196⟩], 5, 72, [.str [], .int .i64 0, .str [], .nilp, .nils], false⟩),
  (198, ⟨.struct [⟨0, 1, false, 9⟩, ⟨1, 1, false, 3⟩, ⟨2, 1, false, 9⟩, ⟨3, 1, false, 195⟩, ⟨4, 1, false, 196⟩], 5, 72, [.str [], .int .i64 0, .str [], .nilp, .nils], false⟩),
  (201, ⟨.func, 1, 8, [.nilf], false⟩),
  (202, ⟨.ptr 130, 1, 8, [.nilp], false⟩),
  (203, ⟨.func, 1, 8, [.nilf], false⟩),
  (204, ⟨.ptr 21, 1, 8, [.nilp], false⟩),
  (205, ⟨.func, 1, 8, [.nilf], false⟩),
  (207, ⟨.func, 1, 8, [.nilf], false⟩),
  (208, ⟨.func, 1, 8, [.nilf], false⟩),
  (209, ⟨.slice 3, 1, 24, [.nils], false⟩),
  (213, ⟨.func, 1, 8, [.nilf], false⟩),
  (214, ⟨.func, 1, 8, [.nilf], false⟩),
  (215, ⟨.func, 1, 8, [.nilf], false⟩),
  (216, ⟨.func, 1, 8, [.nilf], false⟩),
  (217, ⟨.func, 1, 8, [.nilf], false⟩),
  (218, ⟨.struct [⟨0, 1, false, 17⟩, ⟨1, 1, false, 17⟩, ⟨2, 1, false, 17⟩, ⟨3, 1, false, 9⟩], 4, 40, [.nilp, .nilp, .nilp, .str []], false⟩),
  (219, ⟨.struct [⟨0, 1, false, 17⟩, ⟨1, 1, false, 17⟩, ⟨2, 1, false, 17⟩, ⟨3, 1, false, 9⟩], 4, 40, [.nilp, .nilp, .nilp, .str []], false⟩),
  (223, ⟨.int .u8, 1, 1, [.int .u8 0], true⟩),
  (224, ⟨.int .u8, 1, 1, [.int .u8 0], true⟩),
  (225, ⟨.func, 1, 8, [.nilf], false⟩),
  (226, ⟨.ptr 5, 1, 8, [.nilp], false⟩),
  (227, ⟨.int .i32, 1, 4, [.int .i32 0], true⟩),
  (228, ⟨.int .i32, 1, 4, [.int .i32 0], true⟩),
  (229, ⟨.struct [⟨0, 1, false, 12⟩, ⟨1, 1, false, 12⟩, ⟨2, 1, false, 126⟩, ⟨3, 1, false, 223⟩, ⟨4, 1, false, 5⟩, ⟨5, 1, false, 5⟩, ⟨6, 1, false, 224⟩, ⟨7, 1, false, 225⟩, ⟨8, 1, false, 226⟩, ⟨9, 1, false, 227⟩, ⟨10, 1, false, 228⟩], 11, 48, [.int .u64 0, .int .u64 0, .int .u32 0, .int .u8 0, .int .u8 0, .int .u8 0, .int .u8 0, .nilf, .nilp, .int .i32 0, .int .i32 0], false⟩),
  (230, ⟨.struct [⟨0, 1, false, 12⟩, ⟨1, 1, false, 12⟩, ⟨2, 1, false, 126⟩, ⟨3, 1, false, 223⟩, ⟨4, 1, false, 5⟩, ⟨5, 1, false, 5⟩, ⟨6, 1, false, 224⟩, ⟨7, 1, false, 225⟩, ⟨8, 1, false, 226⟩, ⟨9, 1, false, 227⟩, ⟨10, 1, false, 228⟩], 11, 48, [.int .u64 0, .int .u64 0, .int .u32 0, .int .u8 0, .int .u8 0, .int .u8 0, .int .u8 0, .nilf, .nilp, .int .i32 0, .int .i32 0], false⟩),
  (231, ⟨.func, 1, 8, [.nilf], false⟩),
  (232, ⟨.ptr 234, 1, 8, [.nilp], false⟩),
  (233, ⟨.struct [⟨0, 1, false, 232⟩, ⟨1, 1, false, 142⟩], 2, 32, [.nilp, .nils], false⟩),
  (234, ⟨.struct [⟨0, 1, false, 232⟩, ⟨1, 1, false, 142⟩], 2, 32, [.nilp, .nils], false⟩),
  (235, ⟨.iface, 1, 16, [.nili], false⟩),
  (236, ⟨.iface, 1, 16, [.nili], false⟩),
  (238, ⟨.func, 1, 8, [.nilf], false⟩),
  (239, ⟨.func, 1, 8, [.nilf], false⟩),
  (240, ⟨.func, 1, 8, [.nilf], false⟩),
  (241, ⟨.slice 5, 1, 24, [.nils], false⟩),
  (242, ⟨.ptr 241, 1, 8, [.nilp], false⟩),
  (243, ⟨.iface, 1, 16, [.nili], false⟩),
  (244, ⟨.iface, 1, 16, [.nili], false⟩),
  (245, ⟨.iface, 1, 16, [.nili], false⟩),
  (246, ⟨.iface, 1, 16, [.nili], false⟩),
  (247, ⟨.func, 1, 8, [.nilf], false⟩),
  (249, ⟨.func, 1, 8, [.nilf], false⟩),
  (251, ⟨.struct [⟨0, 1, false, 244⟩], 1, 16, [.nili], false⟩),
  (252, ⟨.struct [⟨0, 1, false, 244⟩], 1, 16, [.nili], false⟩),
  (253, ⟨.func, 1, 8, [.nilf], false⟩),
  (255, ⟨.func, 1, 8, [.nilf], false⟩)]
theorem tb_tab : tabB Tryd.prog tb = true := by kernel_rfl
theorem tb_rt : Tryd.prog.underlying Tryd.prog.rt.typeAssertionError = some (.pointer 219) := by kernel_rfl
theorem tb_mixed : Tryd.prog.follows .mixedOrders = true := by kernel_rfl
theorem tb_ok : ProgOk Tryd.prog tb where
  tab := tb_tab
  rt := ⟨_, tb_rt⟩
  mixed := tb_mixed
end Go.Proofs.YtbmplclnondfnaaDoor

namespace Go.Proofs.YtbmplclnondfnaaDoor
open Go Go.Av
/-- A value or an item; 'call': an item that is a Call, items that are Pushes stand as their values; 'none': nil; 'odd': of another dynamic type. -/
inductive Tree where
  | none
  | int (n : Int)
  | str (s : List UInt8)
  | bool (b : Bool)
  | list (l : List Tree)
  | quot (l : List Tree)
  | box (n : Int)
  | call (s : List UInt8)
  | odd (t : Nat) (v : AV)
mutual
def valAV : Tree → AV
  | .none => .nili
  | .int n => .iface 148 (.agg [.int .i64 n])
  | .str s => .iface 150 (.agg [.str s])
  | .bool b => .iface 152 (.agg [.bool b])
  | .list l => .iface 157 (.agg [.fz (valAVs l) l.length false])
  | .quot l => .iface 154 (.agg [.fz (itemAVs l) l.length false])
  | .box n => .iface 161 (.agg [.int .i64 n])
  | .call _ => .nili
  | .odd t v => .iface t v
def valAVs : List Tree → List AV
  | [] => []
  | t :: r => valAV t :: valAVs r
def itemAVs : List Tree → List AV
  | [] => []
  | t :: r => (match t with
    | .none => .nili
    | .call s => .iface 116 (.agg [.str s])
    | .odd t v => .iface t v
    | .int n => .iface 114 (.agg [.iface 148 (.agg [.int .i64 n])])
    | .str s => .iface 114 (.agg [.iface 150 (.agg [.str s])])
    | .bool b => .iface 114 (.agg [.iface 152 (.agg [.bool b])])
    | .list l => .iface 114 (.agg [.iface 157 (.agg [.fz (valAVs l) l.length false])])
    | .quot l => .iface 114 (.agg [.iface 154 (.agg [.fz (itemAVs l) l.length false])])
    | .box n => .iface 114 (.agg [.iface 161 (.agg [.int .i64 n])])) :: itemAVs r
end
/-- An item. -/
def itemAV (t : Tree) : AV := match t with
  | .none => .nili
  | .call s => .iface 116 (.agg [.str s])
  | .odd t v => .iface t v
  | t => .iface 114 (.agg [valAV t])
theorem itemAVs_cons (t : Tree) (r : List Tree) : itemAVs (t :: r) = itemAV t :: itemAVs r := by
  cases t <;> simp [itemAVs, itemAV, valAV]
theorem itemAVs_map : ∀ l : List Tree, itemAVs l = l.map itemAV
  | [] => by simp [itemAVs]
  | t :: r => by rw [itemAVs_cons, itemAVs_map r]; rfl
theorem valAVs_map : ∀ l : List Tree, valAVs l = l.map valAV
  | [] => by simp [valAVs]
  | t :: r => by rw [valAVs, valAVs_map r]; rfl
@[simp] theorem itemAVs_length (l : List Tree) : (itemAVs l).length = l.length := by simp [itemAVs_map]
@[simp] theorem valAVs_length (l : List Tree) : (valAVs l).length = l.length := by simp [valAVs_map]
theorem itemAVs_snoc (l : List Tree) (t : Tree) : itemAVs (l ++ [t]) = itemAVs l ++ [itemAV t] := by simp [itemAVs_map]
theorem valAVs_snoc (l : List Tree) (t : Tree) : valAVs (l ++ [t]) = valAVs l ++ [valAV t] := by simp [valAVs_map]
theorem valAV_one (t : Tree) (h : ∀ u v, t ≠ .odd u v) : (valAV t).one = true := by
  cases t <;> first | rfl | (exact absurd rfl (h _ _))
theorem valAV_one' (t : Tree) : (valAV t).one = true := by cases t <;> rfl
theorem itemAV_one (t : Tree) : (itemAV t).one = true := by cases t <;> rfl
end Go.Proofs.YtbmplclnondfnaaDoor

namespace Go.Proofs.YtbmplclnondfnaaDoor
open Go Go.Av
theorem fn_IndexByte (l : List UInt8) (c : Int) : Av.Fn Tryd.prog 47 [.str l, .int .u8 c] (.int .i64 (Lib.indexByte l c.toNat.toUInt8)) := by
  refine Fn.of_calls (fn := Tryd.f47) (by kernel_rfl) rfl (by kernel_rfl) ?_
  intro W w g us hl hr hb
  obtain ⟨u1, _, rfl, ⟨h1, _⟩, u2, _, rfl, ⟨h2, _⟩, h3⟩ := hr
  have h1 : u1 = _ := h1; have h2 : u2 = _ := h2; have h3 : _ = [] := h3
  subst h1; subst h2; subst h3
  refine (Tryd.strings_IndexByte ⟨⟨l⟩⟩ c w).mono fun e w' ⟨h1, h2⟩ => ?_
  subst h2
  exact ⟨_, h1, rfl, RowKit.Below.refl _ _⟩
theorem fn_ValidRune (r : Int) : Av.Fn Tryd.prog 91 [.int .i32 r] (.bool (Lib.validRune r)) := by
  refine Fn.of_calls (fn := Tryd.f91) (by kernel_rfl) rfl (by kernel_rfl) ?_
  intro W w g us hl hr hb
  obtain ⟨u1, _, rfl, ⟨h1, _⟩, h3⟩ := hr
  have h1 : u1 = _ := h1; have h3 : _ = [] := h3
  subst h1; subst h3
  refine (Tryd.utf8_ValidRune r w).mono fun e w' ⟨h1, h2⟩ => ?_
  subst h2
  exact ⟨_, h1, rfl, RowKit.Below.refl _ _⟩
theorem fn_Cutover (n : Int) (h0 : 0 ≤ n) (h1 : n < 4611686018427387904) : Av.Fn Tryd.prog 92 [.int .i64 n] (.int .i64 ((n + 16) / 8)) := by
  refine Fn.of_calls (fn := Tryd.f92) (by kernel_rfl) rfl (by kernel_rfl) ?_
  intro W w g us hl hr hb
  obtain ⟨u1, _, rfl, ⟨h1, _⟩, h3⟩ := hr
  have h1 : u1 = _ := h1; have h3 : _ = [] := h3
  subst h1; subst h3
  refine (Tryd.bytealg_Cutover n (by assumption) (by assumption) w).mono fun e w' ⟨h1, h2⟩ => ?_
  subst h2
  exact ⟨_, h1, rfl, RowKit.Below.refl _ _⟩
theorem fn_Decode (l : List UInt8) : Av.Fn Tryd.prog 73 [.str l] (.tup [.int .i32 (Lib.decodeGo ⟨⟨l⟩⟩).1, .int .i64 (Lib.decodeGo ⟨⟨l⟩⟩).2]) := by
  refine Fn.of_calls (fn := Tryd.f73) (by kernel_rfl) rfl (by kernel_rfl) ?_
  intro W w g us hl hr hb
  obtain ⟨u1, _, rfl, ⟨h1, _⟩, h3⟩ := hr
  have h1 : u1 = _ := h1; have h3 : _ = [] := h3
  subst h1; subst h3
  refine (Tryd.utf8_DecodeRuneInString ⟨⟨l⟩⟩ w (hl.now hb (by kernel_rfl) (by kernel_rfl))).mono fun e w' ⟨h1, h2⟩ => ?_
  exact ⟨_, h1, ⟨_, rfl, _, _, rfl, ⟨rfl, by simp⟩, _, _, rfl, ⟨rfl, by simp⟩, rfl⟩, h2⟩
end Go.Proofs.YtbmplclnondfnaaDoor

namespace Go.Proofs.YtbmplclnondfnaaDoor
open Go Go.Av
/-- Does a text begin with another? -/
def begins (s p : List UInt8) : Bool := decide (p.length ≤ s.length) && decide (s.take p.length = p)
theorem fn_sHasPrefix (s p : List UInt8) : Av.Fn Tryd.prog 77 [.str s, .str p] (.bool (begins s p)) := by
  refine ACalls.of_W tb_ok (fn := Tryd.f77) (n := 18) (by kernel_rfl) rfl (by kernel_rfl) rfl rfl (by simp) (go ?_)
  refine fork (fun h => go ?_) (fun h => go ?_)
  · refine VRet.mk [] .nil ?_
    simp [begins, Int.ofNat_le.1 h]
  · refine VRet.mk [] .nil ?_
    simp [begins]
    omega
theorem fn_HasPrefix (s p : List UInt8) : Av.Fn Tryd.prog 67 [.str s, .str p] (.bool (begins s p)) := by
  refine ACalls.of_W tb_ok (fn := Tryd.f67) (n := 8) (by kernel_rfl) rfl (by kernel_rfl) rfl rfl (by simp) (go ?_)
  refine Fn.use (fn_sHasPrefix s p) (go ?_)
  refine VRet.mk [] .nil ?_
  simp
end Go.Proofs.YtbmplclnondfnaaDoor

namespace Go.Av
open Go

/-- The first character of a text, and how many bytes it has. -/
def dec (l : List UInt8) : Nat × Nat := Utf8.decode ⟨⟨l⟩⟩ 0
theorem dec_at (l : List UInt8) (p : Nat) : Utf8.decode ⟨⟨l⟩⟩ p = dec (l.drop p) := (Lib.decodeL_drop ⟨⟨l⟩⟩ p).symm
theorem dec_N (l : List UInt8) : dec l = Lib.decodeN l.length (l.getD 0 0).toNat (l.getD 1 0).toNat (l.getD 2 0).toNat (l.getD 3 0).toNat := Lib.decodeL_N l
theorem dec_pos (l : List UInt8) (h : l ≠ []) : 1 ≤ (dec l).2 ∧ (dec l).2 ≤ l.length ∧ (dec l).2 ≤ 4 ∧ (dec l).1 ≤ 1114111 := by
  have hl : 1 ≤ l.length := by cases l with | nil => exact absurd rfl h | cons => simp
  rw [dec_N]
  unfold Lib.decodeN
  repeat' split
  all_goals simp only
  all_goals omega
/-- The characters of a text, each with how many bytes it has. -/
def runesN : Nat → List UInt8 → List (Nat × Nat)
  | 0, _ => []
  | n + 1, l => if l = [] then [] else dec l :: runesN n (l.drop (dec l).2)
def runes (l : List UInt8) : List (Nat × Nat) := runesN l.length l
theorem runesN_eq : ∀ (n : Nat) (l : List UInt8), l.length ≤ n → runesN n l = runesN l.length l
  | 0, l, h => by have : l = [] := List.length_eq_zero_iff.1 (by omega); subst this; rfl
  | n + 1, l, h => by
    by_cases e : l = []
    · subst e; simp [runesN]
    · obtain ⟨h1, h2, _⟩ := dec_pos l e
      obtain ⟨m, hm⟩ : ∃ m, l.length = m + 1 := ⟨l.length - 1, by omega⟩
      rw [hm]
      simp only [runesN, e, if_false]
      have h3 : (l.drop (dec l).2).length ≤ m := by rw [List.length_drop]; omega
      rw [runesN_eq n _ (by rw [List.length_drop]; omega), runesN_eq m _ h3]
@[simp] theorem runes_nil : runes [] = [] := rfl
theorem runes_cons {l : List UInt8} (h : l ≠ []) : runes l = dec l :: runes (l.drop (dec l).2) := by
  obtain ⟨h1, h2, _⟩ := dec_pos l h
  obtain ⟨m, hm⟩ : ∃ m, l.length = m + 1 := ⟨l.length - 1, by omega⟩
  unfold runes
  rw [hm]
  simp only [runesN, h, if_false]
  rw [runesN_eq m _ (by rw [List.length_drop]; omega)]
/-- How many bytes stand ahead of the first character of a kind. -/
def spanR (p : Nat → Bool) : List (Nat × Nat) → Nat
  | [] => 0
  | (r, k) :: rs => if p r then 0 else k + spanR p rs
theorem runes_ind {C : List UInt8 → Prop} (h0 : C []) (h1 : ∀ l, l ≠ [] → C (l.drop (dec l).2) → C l) : ∀ l, C l := by
  intro l
  induction hn : l.length using Nat.strongRecOn generalizing l with
  | _ n ih =>
    by_cases e : l = []
    · rw [e]; exact h0
    · obtain ⟨h2, h3, _⟩ := dec_pos l e
      exact h1 l e (ih _ (by rw [List.length_drop]; omega) _ rfl)
theorem sum_runes (l : List UInt8) : ((runes l).map (·.2)).sum = l.length := by
  induction l using runes_ind with
  | h0 => rfl
  | h1 l hl ih =>
    obtain ⟨h2, h3, _⟩ := dec_pos l hl
    rw [runes_cons hl, List.map_cons, List.sum_cons, ih, List.length_drop]; omega
theorem spanR_sum (p : Nat → Bool) : ∀ rs : List (Nat × Nat), spanR p rs ≤ (rs.map (·.2)).sum
  | [] => Nat.le_refl _
  | (r, k) :: rs => by
    have := spanR_sum p rs
    unfold spanR
    split
    · simp
    · simp; omega
theorem spanR_le (p : Nat → Bool) (l : List UInt8) : spanR p (runes l) ≤ l.length := by
  have := spanR_sum p (runes l); rwa [sum_runes] at this
theorem spanR_none {p : Nat → Bool} : ∀ {rs : List (Nat × Nat)}, rs.any (fun x => p x.1) = false → spanR p rs = (rs.map (·.2)).sum
  | [], _ => rfl
  | (r, k) :: rs, h => by
    rw [List.any_cons, Bool.or_eq_false_iff] at h
    unfold spanR
    rw [if_neg (by simp [h.1]), spanR_none h.2, List.map_cons, List.sum_cons]
end Go.Av

namespace Go.Proofs.YtbmplclnondfnaaDoor
open Go Go.Av
def esc (c : UInt8) : Option UInt8 := if c = 110 then some 10 else if c = 34 then some 34 else if c = 92 then some 92 else none
/-- The string behind a quote at a place: its text, where it ends or is at fault, the error. -/
def textL (a : Nat) : List UInt8 → List UInt8 → Nat → List UInt8 × Int × Int
  | [], _, _ => ([], a, 9)
  | c :: r, acc, i =>
    if c = 34 then (if acc.length > 4096 then ([], a, 11) else (acc, i + 1, 0))
    else if c = 92 then (match r with
      | [] => (([], i, 9) : List UInt8 × Int × Int)
      | d :: r' => match esc d with
        | none => ([], i, 9)
        | some e => textL a r' (acc ++ [e]) (i + 2))
    else textL a r (acc ++ [c]) (i + 1)
theorem textL_cons (a : Nat) (c : UInt8) (r acc : List UInt8) (i : Nat) : textL a (c :: r) acc i =
    (if c = 34 then (if acc.length > 4096 then ([], a, 11) else (acc, i + 1, 0))
    else if c = 92 then (match r with
      | [] => (([], i, 9) : List UInt8 × Int × Int)
      | d :: r' => match esc d with
        | none => ([], i, 9)
        | some e => textL a r' (acc ++ [e]) (i + 2))
    else textL a r (acc ++ [c]) (i + 1) : List UInt8 × Int × Int) := by rw [textL.eq_def]
def textR (s : List UInt8) (a : Nat) : List UInt8 × Int × Int := textL a (s.drop (a + 1)) [] (a + 1)
def bytesC (l : List UInt8) : List AV := l.map fun c => .int .u8 c.toNat
theorem bytesC_append (l m : List UInt8) : bytesC (l ++ m) = bytesC l ++ bytesC m := by simp [bytesC]
@[simp] theorem bytesC_length (l : List UInt8) : (bytesC l).length = l.length := by simp [bytesC]
theorem take_bytesC (l : List UInt8) : (bytesC l).take l.length = l.map fun c => .int .u8 c.toNat := by rw [List.take_of_length_le (by simp)]; rfl
/-- A slice that grows: nil, or an object of one's own. -/
def accV (o : Option Nat) (n : Nat) : AV := match o with
  | none => .nils
  | some b => .own b n
def accS (o : Option Nat) (esz : Nat) (cells : List AV) : St := match o with
  | none => []
  | some b => [(b, .arr esz cells 0)]
theorem escK (d : UInt8) : (match esc d with | none => Lib.indexByte [110, 34, 92] d = -1 | some e => ∃ k : Nat, k < 3 ∧ Lib.indexByte [110, 34, 92] d = k ∧ ([10, 34, 92] : List UInt8)[k]? = some e) := by
  unfold esc
  by_cases h1 : d = 110
  · subst h1; exact ⟨0, by decide, by decide, rfl⟩
  by_cases h2 : d = 34
  · subst h2; exact ⟨1, by decide, by decide, rfl⟩
  by_cases h3 : d = 92
  · subst h3; exact ⟨2, by decide, by decide, rfl⟩
  rw [if_neg h1, if_neg h2, if_neg h3]
  simp [Lib.indexByte, Ne.symm h1, Ne.symm h2, Ne.symm h3]
theorem drop_getD {s : List UInt8} {i : Nat} (h : i < s.length) : s.drop i = s.getD i 0 :: s.drop (i + 1) := by
  rw [List.drop_eq_getElem_cons h]; simp [h]
structure TxtI where
  o : Option Nat
  acc : List UInt8
  i : Nat
theorem f_text (s : List UInt8) (a : Nat) (ha : a < s.length) (hs : s.length ≤ 65536) :
    Av.Fn Tryd.prog 48 [.str s, .int .i64 a] (.tup [.str (textR s a).1, .int .i64 (textR s a).2.1, .int .i64 (textR s a).2.2]) := by
  refine ACalls.of_W tb_ok (fn := Tryd.f48) (n := 60) (by kernel_rfl) rfl (by kernel_rfl) rfl rfl (by simp) (go ?_)
  refine VLoop.mk [7, 8] TxtI (fun i => [accV i.o i.acc.length, .int .i64 i.i]) (fun i => accS i.o 1 (bytesC i.acc))
    (fun i => i.i ≤ s.length + 1 ∧ i.acc.length ≤ i.i ∧ (i.o = none → i.acc = []) ∧ textL a (s.drop i.i) i.acc i.i = textR s a) (fun i => s.length + 1 - i.i) ⟨none, [], a + 1⟩ ?_ ?_
  · exact ⟨⟨by dsimp only; omega, by simp, by simp, rfl⟩, rfl, .nil⟩
  rintro ⟨o, acc, i⟩ ⟨hi, hal, ho, hI⟩
  dsimp only at hi hal ho hI ⊢
  cases o with
  | none =>
    have hacc := ho rfl
    subst hacc
    refine go ?_
    refine fork (fun hlt => go ?_) (fun hlt => go ?_)
    · have hlt : i < s.length := by omega
      have hdr := drop_getD hlt
      generalize hc : s.getD i 0 = c at hdr
      refine fork (fun h34 => go ?_) (fun h34 => go ?_)
      · have h34 : c = 34 := by rw [← UInt8.toNat_inj]; exact Int.ofNat_inj.1 h34
        rw [hdr, textL_cons, if_pos h34] at hI
        rw [if_neg (by simp)] at hI
        refine VRet.mk [] .nil ?_
        rw [← hI]; exact ⟨rfl, rfl⟩
      · have h34 : ¬ c = 34 := by rw [← UInt8.toNat_inj]; exact fun e => h34 (Int.ofNat_inj.2 e)
        refine fork (fun h92 => go ?_) (fun h92 => go ?_)
        · have h92 : c = 92 := by rw [← UInt8.toNat_inj]; exact Int.ofNat_inj.1 h92
          refine fork (fun h2 => go ?_) (fun h2 => go ?_)
          · have h2 : i + 1 < s.length := by omega
            have hdr2 := drop_getD h2
            generalize hd : s.getD (i + 1) 0 = d at hdr2
            have fb := fn_IndexByte [110, 34, 92] d.toNat
            simp only [Int.toNat_natCast, Nat.toUInt8, UInt8.ofNat_toNat] at fb
            refine Fn.use (fb) (go ?_)
            have hk := escK d
            cases he : esc d with
            | none =>
              rw [he] at hk
              dsimp only at hk
              rw [hk]
              refine go ?_
              refine VRet.mk [] .nil ?_
              rw [← hI, hdr, textL_cons, if_neg h34, if_pos h92, hdr2]; simp [he]
            | some e =>
              rw [he] at hk
              dsimp only at hk
              obtain ⟨k, hk3, hk, hke⟩ := hk
              rw [hk]
              refine VIf.no (by simp) (go ?_)
              have hgd : ([10, 34, 92] : List UInt8).getD k 0 = e := by rw [List.getD_eq_getElem?_getD, hke]; rfl
              rw [hgd]
              refine VAll.mk (fun b2 => go ?_)
              refine ⟨⟨some b2, [] ++ [e], i + 2⟩, ⟨?_, ?_, ?_, ?_⟩, ?_, ?_, ?_⟩
              · dsimp only; omega
              · simp; try omega
              · intro h; cases h
              · dsimp only; rw [← hI, hdr, textL_cons]; rw [if_neg h34, if_pos h92, hdr2]; simp [he]
              · dsimp only; omega
              · simp [accV, List.length_nil]; try omega
              · simp only [accS, bytesC_append]; simp [bytesC, List.take_of_length_le]; exact .cons 0 rfl .nil
          · refine go ?_
            refine VRet.mk [] .nil ?_
            rw [← hI, hdr, textL_cons, if_neg h34, if_pos h92, List.drop_eq_nil_of_le (by omega)]
            exact ⟨rfl, rfl⟩
        · have h92 : ¬ c = 92 := by rw [← UInt8.toNat_inj]; exact fun e => h92 (Int.ofNat_inj.2 e)
          rw [hc]
          refine VAll.mk (fun b2 => go ?_)
          refine ⟨⟨some b2, [] ++ [c], i + 1⟩, ⟨?_, ?_, ?_, ?_⟩, ?_, ?_, ?_⟩
          · dsimp only; omega
          · simp; try omega
          · intro h; cases h
          · dsimp only; rw [← hI, hdr, textL_cons]; rw [if_neg h34, if_neg h92]
          · dsimp only; omega
          · simp [accV, List.length_nil]; try omega
          · simp only [accS, bytesC_append]; simp [bytesC, List.take_of_length_le]; exact .cons 0 rfl .nil
    · rw [List.drop_eq_nil_of_le (by omega), textL] at hI
      refine VRet.mk [] .nil ?_
      rw [← hI]; exact ⟨rfl, rfl⟩
  | some b =>
    refine go ?_
    refine fork (fun hlt => go ?_) (fun hlt => go ?_)
    · have hlt : i < s.length := by omega
      have hdr := drop_getD hlt
      generalize hc : s.getD i 0 = c at hdr
      refine fork (fun h34 => go ?_) (fun h34 => go ?_)
      · have h34 : c = 34 := by rw [← UInt8.toNat_inj]; exact Int.ofNat_inj.1 h34
        rw [hdr, textL_cons, if_pos h34] at hI
        refine fork (fun hbig => go ?_) (fun hbig => go ?_)
        · rw [if_pos (by omega)] at hI
          refine VRet.mk [] .nil ?_
          rw [← hI]; exact ⟨rfl, rfl⟩
        · rw [if_neg (by omega)] at hI
          refine VBytes.mk acc (take_bytesC acc) rfl (go ?_)
          refine VRet.mk [] .nil ?_
          rw [← hI]; exact ⟨rfl, rfl⟩
      · have h34 : ¬ c = 34 := by rw [← UInt8.toNat_inj]; exact fun e => h34 (Int.ofNat_inj.2 e)
        refine fork (fun h92 => go ?_) (fun h92 => go ?_)
        · have h92 : c = 92 := by rw [← UInt8.toNat_inj]; exact Int.ofNat_inj.1 h92
          refine fork (fun h2 => go ?_) (fun h2 => go ?_)
          · have h2 : i + 1 < s.length := by omega
            have hdr2 := drop_getD h2
            generalize hd : s.getD (i + 1) 0 = d at hdr2
            have fb := fn_IndexByte [110, 34, 92] d.toNat
            simp only [Int.toNat_natCast, Nat.toUInt8, UInt8.ofNat_toNat] at fb
            refine Fn.use (fb) (go ?_)
            have hk := escK d
            cases he : esc d with
            | none =>
              rw [he] at hk
              dsimp only at hk
              rw [hk]
              refine go ?_
              refine VRet.mk [] .nil ?_
              rw [← hI, hdr, textL_cons, if_neg h34, if_pos h92, hdr2]; simp [he]
            | some e =>
              rw [he] at hk
              dsimp only at hk
              obtain ⟨k, hk3, hk, hke⟩ := hk
              rw [hk]
              refine VIf.no (by simp) (go ?_)
              have hgd : ([10, 34, 92] : List UInt8).getD k 0 = e := by rw [List.getD_eq_getElem?_getD, hke]; rfl
              rw [hgd]
              refine VGd.mk (by simp; omega) (go ?_)
              refine VAll.mk (fun b2 => go ?_)
              refine ⟨⟨some b2, acc ++ [e], i + 2⟩, ⟨?_, ?_, ?_, ?_⟩, ?_, ?_, ?_⟩
              · dsimp only; omega
              · simp; try omega
              · intro h; cases h
              · dsimp only; rw [← hI, hdr, textL_cons]; rw [if_neg h34, if_pos h92, hdr2]; simp [he]
              · dsimp only; omega
              · simp [accV, List.length_nil]; try omega
              · simp only [accS, bytesC_append]; simp [bytesC, List.take_of_length_le]; exact .cons 0 rfl .nil
          · refine go ?_
            refine VRet.mk [] .nil ?_
            rw [← hI, hdr, textL_cons, if_neg h34, if_pos h92, List.drop_eq_nil_of_le (by omega)]
            exact ⟨rfl, rfl⟩
        · have h92 : ¬ c = 92 := by rw [← UInt8.toNat_inj]; exact fun e => h92 (Int.ofNat_inj.2 e)
          rw [hc]
          refine VGd.mk (by simp; omega) (go ?_)
          refine VAll.mk (fun b2 => go ?_)
          refine ⟨⟨some b2, acc ++ [c], i + 1⟩, ⟨?_, ?_, ?_, ?_⟩, ?_, ?_, ?_⟩
          · dsimp only; omega
          · simp; try omega
          · intro h; cases h
          · dsimp only; rw [← hI, hdr, textL_cons]; rw [if_neg h34, if_neg h92]
          · dsimp only; omega
          · simp [accV, List.length_nil]; try omega
          · simp only [accS, bytesC_append]; simp [bytesC, List.take_of_length_le]; exact .cons 0 rfl .nil
    · rw [List.drop_eq_nil_of_le (by omega), textL] at hI
      refine VRet.mk [] .nil ?_
      rw [← hI]; exact ⟨rfl, rfl⟩
end Go.Proofs.YtbmplclnondfnaaDoor

namespace Go.Proofs.YtbmplclnondfnaaDoor
open Go Go.Av
theorem fn_indexFunc (f : Nat) (p : Nat → Bool) (hf : ∀ r : Nat, r ≤ 1114111 → Av.Fn Tryd.prog f [.int .i32 r] (.bool (p r))) (l : List UInt8) (want : Bool) :
    Av.Fn Tryd.prog 70 [.str l, .fn (.func f) [] [], .bool want] (.int .i64 (if (runes l).any (fun x => p x.1 == want) then (spanR (fun r => p r == want) (runes l) : Int) else -1)) := by
  refine ACalls.of_W tb_ok (fn := Tryd.f70) (n := 21) (by kernel_rfl) rfl (by kernel_rfl) rfl rfl (by simp) (go ?_)
  refine VAll.mk (fun b => go ?_)
  refine VLoop.mk [] Nat (fun i => []) (fun i => [(b, .siter l i)])
    (fun i => i ≤ l.length ∧ (runes l).any (fun x => p x.1 == want) = (runes (l.drop i)).any (fun x => p x.1 == want) ∧ spanR (fun r => p r == want) (runes l) = i + spanR (fun r => p r == want) (runes (l.drop i))) (fun i => l.length - i) 0 ?_ ?_
  · exact ⟨⟨by simp, by simp, by simp⟩, rfl, .cons 0 rfl .nil⟩
  rintro i ⟨hi, hany, hsp⟩
  refine go ?_
  refine fork (fun hlt => go ?_) (fun hlt => go ?_)
  · have hne' : l.drop i ≠ [] := by simp; omega
    have hc := dec_pos _ hne'
    rw [runes_cons hne', List.length_drop] at *
    rw [← dec_at] at hc hany hsp
    generalize hdc : Utf8.decode ⟨⟨l⟩⟩ i = c
    rw [hdc] at hc hany hsp
    rw [List.drop_drop] at hany hsp
    obtain ⟨r, k⟩ := c
    dsimp only at hc hany hsp ⊢
    refine Fn.use (hf r (by omega)) (go ?_)
    cases hw : (p r == want) with
    | true =>
      refine VIf.yes (by first | simpa using hw | simp [hw]) (go ?_)
      refine VRet.mk [] .nil ?_
      rw [hany, hsp]
      simp [hw, spanR]
    | false =>
      refine VIf.no (by first | simpa using hw | simp [hw]) (go ?_)
      refine ⟨i + k, ⟨by omega, ?_, ?_⟩, by omega, rfl, .cons 0 rfl .nil⟩
      · rw [hany]; simp [hw]
      · rw [hsp]; simp [hw, spanR]; omega
  · rw [List.drop_eq_nil_of_le (by omega)] at hany
    refine VRet.mk [] .nil ?_
    rw [hany]
    simp
theorem fn_IndexFunc (f : Nat) (p : Nat → Bool) (hf : ∀ r : Nat, r ≤ 1114111 → Av.Fn Tryd.prog f [.int .i32 r] (.bool (p r))) (l : List UInt8) :
    Av.Fn Tryd.prog 46 [.str l, .fn (.func f) [] []] (.int .i64 (if (runes l).any (fun x => p x.1) then (spanR p (runes l) : Int) else -1)) := by
  have h := fn_indexFunc f p hf l true
  simp only [beq_true] at h
  refine ACalls.of_W tb_ok (fn := Tryd.f46) (n := 8) (by kernel_rfl) rfl (by kernel_rfl) rfl rfl (by simp) (go ?_)
  refine Fn.use (h) (go ?_)
  refine VRet.mk [] .nil ?_
  simp
theorem fn_TrimLeftFunc (f : Nat) (p : Nat → Bool) (hf : ∀ r : Nat, r ≤ 1114111 → Av.Fn Tryd.prog f [.int .i32 r] (.bool (p r))) (l : List UInt8) :
    Av.Fn Tryd.prog 44 [.str l, .fn (.func f) [] []] (.str (l.drop (spanR (fun r => !p r) (runes l)))) := by
  have h := fn_indexFunc f p hf l false
  simp only [beq_false] at h
  have hle := spanR_le (fun r => !p r) l
  refine ACalls.of_W tb_ok (fn := Tryd.f44) (n := 14) (by kernel_rfl) rfl (by kernel_rfl) rfl rfl (by simp) (go ?_)
  refine Fn.use (h) (go ?_)
  by_cases ha : (runes l).any (fun x => !p x.1) = true
  · rw [if_pos ha]
    refine fork (fun h1 => go ?_) (fun h1 => go ?_)
    · exfalso; have := h1; omega
    · refine VRet.mk [] .nil ?_
      simp
  · rw [if_neg ha]
    rw [spanR_none (by simpa using ha), sum_runes]
    refine fork (fun h1 => go ?_) (fun h1 => go ?_)
    · refine VRet.mk [] .nil ?_
      simp
    · exact absurd rfl h1
end Go.Proofs.YtbmplclnondfnaaDoor

namespace Go.Av
open Go
theorem dec_ascii (c : UInt8) (t : List UInt8) (hc : c.toNat < 128) : dec (c :: t) = (c.toNat, 1) := by
  rw [dec_N]; simp [Lib.decodeN, hc]
/-- A byte of ASCII ends what stands ahead. -/
theorem dec_app {x : List UInt8} (hx : x ≠ []) (c : UInt8) (t : List UInt8) (hc : c.toNat < 128) : dec (x ++ c :: t) = dec x := by
  rw [dec_N, dec_N]
  match x, hx with
  | [a], _ => simp [Lib.decodeN]; repeat' split
              all_goals first | rfl | (exfalso; omega)
  | [a, b], _ => simp [Lib.decodeN]; repeat' split
                 all_goals first | rfl | (exfalso; omega)
  | [a, b, d], _ => simp [Lib.decodeN]; repeat' split
                    all_goals first | rfl | (exfalso; omega)
  | a :: b :: d :: e :: r, _ => simp [Lib.decodeN]
theorem runes_app (x : List UInt8) (c : UInt8) (t : List UInt8) (hc : c.toNat < 128) : runes (x ++ c :: t) = runes x ++ runes (c :: t) := by
  induction x using runes_ind with
  | h0 => rfl
  | h1 x hx ih =>
    obtain ⟨h1, h2, _⟩ := dec_pos x hx
    rw [runes_cons (l := x ++ c :: t) (by simp), dec_app hx c t hc, runes_cons hx, List.cons_append]
    congr 1
    rw [List.drop_append_of_le_length h2]
    exact ih
theorem runes_ascii (c : UInt8) (t : List UInt8) (hc : c.toNat < 128) : runes (c :: t) = (c.toNat, 1) :: runes t := by
  rw [runes_cons (by simp), dec_ascii c t hc]; rfl
def badB (c : Nat × Nat) : Bool := decide (c = (65533, 1))
theorem begins_fffd (l : List UInt8) : (decide ((3 : Nat) ≤ l.length) && decide (l.take 3 = [239, 191, 189])) = decide ((l.getD 0 0).toNat = 239 ∧ (l.getD 1 0).toNat = 191 ∧ (l.getD 2 0).toNat = 189) := by
  match l with
  | [] => simp
  | [a] => simp
  | [a, b] => simp
  | a :: b :: d :: r =>
    simp only [← UInt8.toNat_inj, List.take_succ_cons, List.take_zero, List.cons.injEq, and_true, List.getD_cons_zero, List.getD_cons_succ]
    simp
/-- The replacement character is no fault where its own bytes stand. -/
theorem dec_bad {l : List UInt8} (h : l ≠ []) : (decide ((dec l).1 = 65533) && !(decide ((3 : Nat) ≤ l.length) && decide (l.take 3 = [239, 191, 189]))) = badB (dec l) := by
  have hl : 1 ≤ l.length := by cases l with | nil => exact absurd rfl h | cons => simp
  rw [begins_fffd]
  rw [dec_N]
  have b0 := (l.getD 0 0).toNat_lt
  have b1 := (l.getD 1 0).toNat_lt
  have b2 := (l.getD 2 0).toNat_lt
  have b3 := (l.getD 3 0).toNat_lt
  have hlen : (l.getD 1 0).toNat ≠ 0 → 1 < l.length := by
    intro h; refine Decidable.byContradiction fun hn => h ?_
    rw [List.getD_eq_getElem?_getD, List.getElem?_eq_none (by omega)]; rfl
  have hlen2 : (l.getD 2 0).toNat ≠ 0 → 2 < l.length := by
    intro h; refine Decidable.byContradiction fun hn => h ?_
    rw [List.getD_eq_getElem?_getD, List.getElem?_eq_none (by omega)]; rfl
  generalize (l.getD 0 0).toNat = a at *
  generalize (l.getD 1 0).toNat = b at *
  generalize (l.getD 2 0).toNat = c at *
  generalize (l.getD 3 0).toNat = d at *
  generalize l.length = n at *
  rw [Bool.eq_iff_iff]
  simp only [badB, Bool.and_eq_true, Bool.not_eq_true', decide_eq_true_eq, decide_eq_false_iff_not]
  unfold Lib.decodeN
  repeat' split
  all_goals
    simp only [Prod.mk.injEq]
    first
    | (refine ⟨fun h => ⟨h.1, ?_⟩, fun h => ⟨h.1, ?_⟩⟩ <;> (obtain ⟨e1, e2⟩ := h; omega))
    | (simp; omega)
def faultL : List (Nat × Nat) → Option Nat
  | [] => none
  | c :: rs => if badB c then some 0 else (faultL rs).map (c.2 + ·)
def faultR (l : List UInt8) : Option Nat := faultL (runes l)
def faultV (l : List UInt8) : Int := match faultR l with
  | none => -1
  | some i => i
theorem faultL_app : ∀ (a b : List (Nat × Nat)), faultL (a ++ b) = none ↔ faultL a = none ∧ faultL b = none
  | [], b => by simp [faultL]
  | c :: a, b => by
    rw [List.cons_append, faultL, faultL]
    cases badB c with
    | true => simp
    | false => simp [faultL_app a b]
theorem faultR_app (x : List UInt8) (c : UInt8) (t : List UInt8) (hc : c.toNat < 128) : faultR (x ++ c :: t) = none ↔ faultR x = none ∧ faultR t = none := by
  unfold faultR
  rw [runes_app x c t hc, faultL_app, runes_ascii c t hc, faultL]
  have : badB (c.toNat, 1) = false := by simp [badB]; omega
  rw [this]; simp
end Go.Av

namespace Go.Proofs.YtbmplclnondfnaaDoor
open Go Go.Av
theorem f_fault (l : List UInt8) : Av.Fn Tryd.prog 41 [.str l] (.int .i64 (faultV l)) := by
  refine ACalls.of_W tb_ok (fn := Tryd.f41) (n := 21) (by kernel_rfl) rfl (by kernel_rfl) rfl rfl (by simp) (go ?_)
  refine VAll.mk (fun b => go ?_)
  refine VLoop.mk [] Nat (fun i => []) (fun i => [(b, .siter l i)])
    (fun i => i ≤ l.length ∧ faultR l = (faultR (l.drop i)).map (i + ·)) (fun i => l.length - i) 0 ?_ ?_
  · exact ⟨⟨by simp, by simp⟩, rfl, .cons 0 rfl .nil⟩
  rintro i ⟨hi, hI⟩
  refine go ?_
  refine fork (fun hlt => go ?_) (fun hlt => go ?_)
  · have hne' : l.drop i ≠ [] := by simp; omega
    have hc := dec_pos _ hne'
    have hbad := dec_bad hne'
    have hb := fn_HasPrefix (l.drop i) [239, 191, 189]
    rw [show begins (l.drop i) [239, 191, 189] = (decide ((3 : Nat) ≤ (l.drop i).length) && decide ((l.drop i).take 3 = [239, 191, 189])) from rfl] at hb
    unfold faultR at hI
    rw [runes_cons hne', faultL, ← hbad] at hI
    rw [← dec_at] at hc hI hbad
    generalize hdc : Utf8.decode ⟨⟨l⟩⟩ i = c at hc hI hbad
    rw [List.drop_drop] at hI
    obtain ⟨r, k⟩ := c
    dsimp only at hc hI hbad ⊢
    rw [List.length_drop] at hc
    refine fork (fun h1 => go ?_) (fun h1 => go ?_)
    · have h1 : r = 65533 := by omega
      generalize (decide ((3 : Nat) ≤ (l.drop i).length) && decide ((l.drop i).take 3 = [239, 191, 189])) = q at hb hI
      cases q with
      | true =>
        refine Fn.use (hb) (go ?_)
        refine ⟨i + k, ⟨by omega, ?_⟩, by omega, rfl, .cons 0 rfl .nil⟩
        unfold faultR; rw [hI]; simp [h1, Option.map_map, Function.comp_def, Nat.add_assoc]
      | false =>
        refine Fn.use (hb) (go ?_)
        refine VRet.mk [] .nil ?_
        have : faultR l = some i := by unfold faultR; rw [hI]; simp [h1]
        simp [faultV, this]
    · have h1 : ¬ r = 65533 := by omega
      refine ⟨i + k, ⟨by omega, ?_⟩, by omega, rfl, .cons 0 rfl .nil⟩
      unfold faultR
      rw [hI]; simp [h1, Option.map_map, Function.comp_def, Nat.add_assoc]
  · rw [List.drop_eq_nil_of_le (by omega)] at hI
    refine VRet.mk [] .nil ?_
    have : faultR l = none := by rw [hI]; rfl
    simp [faultV, this]
end Go.Proofs.YtbmplclnondfnaaDoor

namespace Go.Proofs.YtbmplclnondfnaaDoor
open Go Go.Av
/-- The blanks, as a text. -/
def blanks : List UInt8 := [9, 10, 13, 32, 194, 160, 227, 128, 128]
def blankB (r : Int) : Bool := decide (r = 9) || decide (r = 10) || decide (r = 13) || decide (r = 32) || decide (r = 160) || decide (r = 12288)
theorem ascii_blank : ∀ n : Fin 128, (decide (0 ≤ Lib.indexByte blanks (UInt8.ofNat n.1)) = blankB n.1) := by decide +kernel
def posn (i : Nat) : Nat := [0, 1, 2, 3, 4, 6, 9].getD i 9
theorem posn_next : ∀ i : Fin 6, (Utf8.decode ⟨⟨blanks⟩⟩ (posn i.1)).1 < 13000 ∧ posn i.1 + (Utf8.decode ⟨⟨blanks⟩⟩ (posn i.1)).2 = posn (i.1 + 1) ∧ posn i.1 < 9 := by decide +kernel
theorem f37_ascii (r : Int) (h0 : 0 ≤ r) (h1 : r < 128) : ∃ k : Int, decide (0 ≤ k) = blankB r ∧ Av.Fn Tryd.prog 81 [.str blanks, .int .i32 r] (.int .i64 k) := by
  refine ⟨Lib.indexByte blanks r.toNat.toUInt8, ?_, ?_⟩
  · have := ascii_blank ⟨r.toNat, by omega⟩
    simp only [show ((r.toNat : Nat) : Int) = r by omega] at this
    exact this
  · refine ACalls.of_W tb_ok (fn := Tryd.f81) (n := 187) (by kernel_rfl) rfl (by kernel_rfl) rfl rfl (by simp) (go ?_)
    refine fork (fun h2 => go ?_) (fun h2 => go ?_)
    · refine fork (fun h3 => go ?_) (fun h3 => go ?_)
      · refine Fn.use (fn_IndexByte blanks r) (go ?_)
        refine VRet.mk [] .nil ?_
        simp
      · omega
    · omega
theorem f37_bad : Av.Fn Tryd.prog 81 [.str blanks, .int .i32 65533] (.int .i64 (-1)) := by
  refine ACalls.of_W tb_ok (fn := Tryd.f81) (n := 187) (by kernel_rfl) rfl (by kernel_rfl) rfl rfl (by simp) (go ?_)
  refine VAll.mk (fun b => go ?_)
  refine VLoop.mk [] Nat (fun _ => []) (fun i => [(b, .siter blanks (posn i))]) (fun i => i ≤ 6) (fun i => 6 - i) 0 ?_ ?_
  · exact ⟨by omega, rfl, .cons 0 rfl .nil⟩
  intro i hi
  refine go ?_
  refine fork (fun h => go ?_) (fun h => go ?_)
  · have hi6 : i < 6 := by
      rcases Nat.lt_or_ge i 6 with h6 | h6
      · exact h6
      · obtain rfl : i = 6 := by omega
        exact absurd h (by decide)
    obtain ⟨h1, h2, h3⟩ := posn_next ⟨i, hi6⟩
    dsimp only at h1 h2 h3
    generalize Utf8.decode ⟨⟨blanks⟩⟩ (posn i) = c at *
    refine go ?_
    refine fork (fun h4 => go ?_) (fun h4 => go ?_)
    · omega
    · exact ⟨i + 1, by omega, by omega, rfl, .cons 0 (by rw [h2]; rfl) .nil⟩
  · refine VRet.mk [] .nil ?_
    simp
theorem f37_invalid (r : Int) (h0 : 128 ≤ r) (h1 : r ≠ 65533) (h3 : Lib.validRune r = false) : Av.Fn Tryd.prog 81 [.str blanks, .int .i32 r] (.int .i64 (-1)) := by
  refine ACalls.of_W tb_ok (fn := Tryd.f81) (n := 187) (by kernel_rfl) rfl (by kernel_rfl) rfl rfl (by simp) (go ?_)
  refine fork (fun h4 => go ?_) (fun h4 => go ?_)
  · refine fork (fun h5 => go ?_) (fun h5 => go ?_)
    · omega
    · refine fork (fun h6 => go ?_) (fun h6 => go ?_)
      · omega
      · have h := fn_ValidRune r
        rw [h3] at h
        refine Fn.use (h) (go ?_)
        refine VRet.mk [] .nil ?_
        simp
  · omega
theorem blanks_other {c : UInt8} (hc : 128 ≤ c.toNat ∧ c.toNat < 192 ∧ c.toNat ≠ 160 ∧ c.toNat ≠ 128) (k : Nat) : Lib.indexByte (List.drop k blanks) (c.toNat : Int).toNat.toUInt8 = -1 := by
  have key : ∀ n : Fin 256, (128 ≤ n.1 ∧ n.1 < 192 ∧ n.1 ≠ 160 ∧ n.1 ≠ 128) → ∀ k : Fin 10, Lib.indexByte (List.drop k.1 blanks) n.1.toUInt8 = -1 := by decide +kernel
  have h := key ⟨c.toNat, c.toNat_lt⟩ hc
  by_cases hk : k < 10
  · exact h ⟨k, hk⟩
  · rw [List.drop_eq_nil_of_le (by simp [blanks]; omega)]; rfl
theorem f37_2a (r : Int) (e : UInt8) (h0 : 128 ≤ r) (h1 : r ≠ 65533) (h3 : Lib.validRune r = true) (hE : (Utf8.encode r).data.toList = [e, 160]) :
    Av.Fn Tryd.prog 81 [.str blanks, .int .i32 r] (.int .i64 (if e.toNat = 194 then 4 else -1)) := by
  refine ACalls.of_W tb_ok (fn := Tryd.f81) (n := 187) (by kernel_rfl) rfl (by kernel_rfl) rfl rfl (by simp) (go ?_)
  refine fork (fun h4 => go ?_) (fun h4 => go ?_)
  · refine fork (fun h5 => go ?_) (fun h5 => go ?_)
    · omega
    · refine fork (fun h6 => go ?_) (fun h6 => go ?_)
      · omega
      · have h := fn_ValidRune r
        rw [h3] at h
        refine Fn.use (h) (go ?_)
        refine VSem.scope 1 ?_
        refine go ?_
        rw [hE]
        refine go ?_
        refine VInt.to (1) (by simp) (by omega) (by omega) (go ?_)
        refine VLoop.un 5 [9, 10] ?_
        refine go ?_
        refine VSem.scope 1 ?_
        refine go ?_
        refine VQ.mk (.int .i64 3) (by refine go ?_; refine Fn.use (fn_IndexByte _ _) (go ?_); exact ⟨congrArg _ (by show Lib.indexByte (List.drop 2 blanks) 160 = 3; decide +kernel), rfl⟩) (go ?_)
        refine VLoop.un 5 [12] ?_
        refine go ?_
        refine fork (fun h7 => go ?_) (fun h7 => go ?_)
        · have h7 : ¬ (194 : Int) = e.toNat := h7
          rw [if_neg (by omega)]
          refine Fn.use (fn_Cutover _ (by decide) (by decide)) (go ?_)
          refine VSem.scope 1 ?_
          refine go ?_
          refine VQ.mk (.int .i64 (-1)) (by refine go ?_; refine Fn.use (fn_IndexByte _ _) (go ?_); exact ⟨congrArg _ (by show Lib.indexByte (List.drop 7 blanks) 160 = -1; decide +kernel), rfl⟩) (go ?_)
          refine VRet.mk [] .nil ?_
          simp
        · refine VRet.mk [] .nil ?_
          have h7 : (194 : Int) = e.toNat := h7
          rw [if_pos (by omega)]
          simp
  · omega
theorem f37_2b (r : Int) (e : UInt8) (h0 : 128 ≤ r) (h1 : r ≠ 65533) (h3 : Lib.validRune r = true) (hE : (Utf8.encode r).data.toList = [e, 128]) (he : 194 ≤ e.toNat ∧ e.toNat < 224) :
    Av.Fn Tryd.prog 81 [.str blanks, .int .i32 r] (.int .i64 (-1)) := by
  refine ACalls.of_W tb_ok (fn := Tryd.f81) (n := 187) (by kernel_rfl) rfl (by kernel_rfl) rfl rfl (by simp) (go ?_)
  refine fork (fun h4 => go ?_) (fun h4 => go ?_)
  · refine fork (fun h5 => go ?_) (fun h5 => go ?_)
    · omega
    · refine fork (fun h6 => go ?_) (fun h6 => go ?_)
      · omega
      · have h := fn_ValidRune r
        rw [h3] at h
        refine Fn.use (h) (go ?_)
        refine VSem.scope 1 ?_
        refine go ?_
        rw [hE]
        refine go ?_
        refine VInt.to (1) (by simp) (by omega) (by omega) (go ?_)
        refine VLoop.un 5 [9, 10] ?_
        refine go ?_
        refine VSem.scope 1 ?_
        refine go ?_
        refine VQ.mk (.int .i64 5) (by refine go ?_; refine Fn.use (fn_IndexByte _ _) (go ?_); exact ⟨congrArg _ (by show Lib.indexByte (List.drop 2 blanks) 128 = 5; decide +kernel), rfl⟩) (go ?_)
        refine VLoop.un 5 [12] ?_
        refine go ?_
        refine fork (fun h7 => go ?_) (fun h7 => go ?_)
        · refine Fn.use (fn_Cutover _ (by decide) (by decide)) (go ?_)
          refine VSem.scope 1 ?_
          refine go ?_
          refine VLoop.un 5 [12] ?_
          refine go ?_
          refine fork (fun h8 => go ?_) (fun h8 => go ?_)
          · refine Fn.use (fn_Cutover _ (by decide) (by decide)) (go ?_)
            refine VRet.mk [] .nil ?_
            simp
          · exfalso
            have h8 : (128 : Int) = e.toNat := h8
            omega
        · exfalso
          have h7 : (227 : Int) = e.toNat := h7
          omega
  · omega
theorem f37_3a (r : Int) (e e' : UInt8) (h0 : 128 ≤ r) (h1 : r ≠ 65533) (h3 : Lib.validRune r = true) (hE : (Utf8.encode r).data.toList = [e, e', 160]) (he : 128 ≤ e'.toNat ∧ e'.toNat < 192) :
    Av.Fn Tryd.prog 81 [.str blanks, .int .i32 r] (.int .i64 (-1)) := by
  refine ACalls.of_W tb_ok (fn := Tryd.f81) (n := 187) (by kernel_rfl) rfl (by kernel_rfl) rfl rfl (by simp) (go ?_)
  refine fork (fun h4 => go ?_) (fun h4 => go ?_)
  · refine fork (fun h5 => go ?_) (fun h5 => go ?_)
    · omega
    · refine fork (fun h6 => go ?_) (fun h6 => go ?_)
      · omega
      · have h := fn_ValidRune r
        rw [h3] at h
        refine Fn.use (h) (go ?_)
        refine VSem.scope 1 ?_
        refine go ?_
        rw [hE]
        refine go ?_
        refine VInt.to (2) (by simp) (by omega) (by omega) (go ?_)
        refine VLoop.un 5 [9, 10] ?_
        refine go ?_
        refine VSem.scope 1 ?_
        refine go ?_
        refine VQ.mk (.int .i64 2) (by refine go ?_; refine Fn.use (fn_IndexByte _ _) (go ?_); exact ⟨congrArg _ (by show Lib.indexByte (List.drop 3 blanks) 160 = 2; decide +kernel), rfl⟩) (go ?_)
        refine VLoop.un 5 [12] ?_
        refine go ?_
        refine fork (fun h7 => go ?_) (fun h7 => go ?_)
        · refine Fn.use (fn_Cutover _ (by decide) (by decide)) (go ?_)
          refine VSem.scope 1 ?_
          refine go ?_
          refine VQ.mk (.int .i64 (-1)) (by refine go ?_; refine Fn.use (fn_IndexByte _ _) (go ?_); exact ⟨congrArg _ (by show Lib.indexByte (List.drop 7 blanks) 160 = -1; decide +kernel), rfl⟩) (go ?_)
          refine VRet.mk [] .nil ?_
          simp
        · exfalso
          have h7 : (194 : Int) = e'.toNat := h7
          omega
  · omega
theorem f37_3b (r : Int) (e e' : UInt8) (h0 : 128 ≤ r) (h1 : r ≠ 65533) (h3 : Lib.validRune r = true) (hE : (Utf8.encode r).data.toList = [e, e', 128]) (he : 128 ≤ e'.toNat ∧ e'.toNat < 192) :
    Av.Fn Tryd.prog 81 [.str blanks, .int .i32 r] (.int .i64 (if e.toNat = 227 ∧ e'.toNat = 128 then 6 else -1)) := by
  refine ACalls.of_W tb_ok (fn := Tryd.f81) (n := 187) (by kernel_rfl) rfl (by kernel_rfl) rfl rfl (by simp) (go ?_)
  refine fork (fun h4 => go ?_) (fun h4 => go ?_)
  · refine fork (fun h5 => go ?_) (fun h5 => go ?_)
    · omega
    · refine fork (fun h6 => go ?_) (fun h6 => go ?_)
      · omega
      · have h := fn_ValidRune r
        rw [h3] at h
        refine Fn.use (h) (go ?_)
        refine VSem.scope 1 ?_
        refine go ?_
        rw [hE]
        refine go ?_
        refine VInt.to (2) (by simp) (by omega) (by omega) (go ?_)
        refine VLoop.un 5 [9, 10] ?_
        refine go ?_
        refine VSem.scope 1 ?_
        refine go ?_
        refine VQ.mk (.int .i64 4) (by refine go ?_; refine Fn.use (fn_IndexByte _ _) (go ?_); exact ⟨congrArg _ (by show Lib.indexByte (List.drop 3 blanks) 128 = 4; decide +kernel), rfl⟩) (go ?_)
        refine VLoop.un 5 [12] ?_
        refine go ?_
        refine fork (fun h7 => go ?_) (fun h7 => go ?_)
        · refine Fn.use (fn_Cutover _ (by decide) (by decide)) (go ?_)
          refine VSem.scope 1 ?_
          refine go ?_
          refine VLoop.un 5 [12] ?_
          refine go ?_
          refine fork (fun h8 => go ?_) (fun h8 => go ?_)
          · have h8 : ¬ (128 : Int) = e'.toNat := h8
            rw [if_neg (by omega)]
            refine Fn.use (fn_Cutover _ (by decide) (by decide)) (go ?_)
            refine VRet.mk [] .nil ?_
            simp
          · have h8 : (128 : Int) = e'.toNat := h8
            refine fork (fun h9 => go ?_) (fun h9 => go ?_)
            · have h9 : ¬ (227 : Int) = e.toNat := h9
              rw [if_neg (by omega)]
              refine Fn.use (fn_Cutover _ (by decide) (by decide)) (go ?_)
              refine VRet.mk [] .nil ?_
              simp
            · have h9 : (227 : Int) = e.toNat := h9
              rw [if_pos (by omega)]
              refine VRet.mk [] .nil ?_
              simp
        · exfalso
          have h7 : (227 : Int) = e'.toNat := h7
          omega
  · omega
theorem f37_4a (r : Int) (e e'' e' : UInt8) (h0 : 128 ≤ r) (h1 : r ≠ 65533) (h3 : Lib.validRune r = true) (hE : (Utf8.encode r).data.toList = [e, e'', e', 160]) (he : 128 ≤ e'.toNat ∧ e'.toNat < 192) :
    Av.Fn Tryd.prog 81 [.str blanks, .int .i32 r] (.int .i64 (-1)) := by
  refine ACalls.of_W tb_ok (fn := Tryd.f81) (n := 187) (by kernel_rfl) rfl (by kernel_rfl) rfl rfl (by simp) (go ?_)
  refine fork (fun h4 => go ?_) (fun h4 => go ?_)
  · refine fork (fun h5 => go ?_) (fun h5 => go ?_)
    · omega
    · refine fork (fun h6 => go ?_) (fun h6 => go ?_)
      · omega
      · have h := fn_ValidRune r
        rw [h3] at h
        refine Fn.use (h) (go ?_)
        refine VSem.scope 1 ?_
        refine go ?_
        rw [hE]
        refine go ?_
        refine VInt.to (3) (by simp) (by omega) (by omega) (go ?_)
        refine VLoop.un 5 [9, 10] ?_
        refine go ?_
        refine VSem.scope 1 ?_
        refine go ?_
        refine VQ.mk (.int .i64 1) (by refine go ?_; refine Fn.use (fn_IndexByte _ _) (go ?_); exact ⟨congrArg _ (by show Lib.indexByte (List.drop 4 blanks) 160 = 1; decide +kernel), rfl⟩) (go ?_)
        refine VLoop.un 5 [12] ?_
        refine go ?_
        refine fork (fun h7 => go ?_) (fun h7 => go ?_)
        · refine Fn.use (fn_Cutover _ (by decide) (by decide)) (go ?_)
          refine VSem.scope 1 ?_
          refine go ?_
          refine VQ.mk (.int .i64 (-1)) (by refine go ?_; refine Fn.use (fn_IndexByte _ _) (go ?_); exact ⟨congrArg _ (by show Lib.indexByte (List.drop 7 blanks) 160 = -1; decide +kernel), rfl⟩) (go ?_)
          refine VRet.mk [] .nil ?_
          simp
        · exfalso
          have h7 : (194 : Int) = e'.toNat := h7
          omega
  · omega
theorem f37_4b (r : Int) (e e'' e' : UInt8) (h0 : 128 ≤ r) (h1 : r ≠ 65533) (h3 : Lib.validRune r = true) (hE : (Utf8.encode r).data.toList = [e, e'', e', 128]) (he : 128 ≤ e'.toNat ∧ e'.toNat < 192) (he' : 128 ≤ e''.toNat ∧ e''.toNat < 192) :
    Av.Fn Tryd.prog 81 [.str blanks, .int .i32 r] (.int .i64 (-1)) := by
  refine ACalls.of_W tb_ok (fn := Tryd.f81) (n := 187) (by kernel_rfl) rfl (by kernel_rfl) rfl rfl (by simp) (go ?_)
  refine fork (fun h4 => go ?_) (fun h4 => go ?_)
  · refine fork (fun h5 => go ?_) (fun h5 => go ?_)
    · omega
    · refine fork (fun h6 => go ?_) (fun h6 => go ?_)
      · omega
      · have h := fn_ValidRune r
        rw [h3] at h
        refine Fn.use (h) (go ?_)
        refine VSem.scope 1 ?_
        refine go ?_
        rw [hE]
        refine go ?_
        refine VInt.to (3) (by simp) (by omega) (by omega) (go ?_)
        refine VLoop.un 5 [9, 10] ?_
        refine go ?_
        refine VSem.scope 1 ?_
        refine go ?_
        refine VQ.mk (.int .i64 3) (by refine go ?_; refine Fn.use (fn_IndexByte _ _) (go ?_); exact ⟨congrArg _ (by show Lib.indexByte (List.drop 4 blanks) 128 = 3; decide +kernel), rfl⟩) (go ?_)
        refine VLoop.un 5 [12] ?_
        refine go ?_
        refine fork (fun h7 => go ?_) (fun h7 => go ?_)
        · refine Fn.use (fn_Cutover _ (by decide) (by decide)) (go ?_)
          refine VSem.scope 1 ?_
          refine go ?_
          refine VLoop.un 5 [12] ?_
          refine go ?_
          refine fork (fun h8 => go ?_) (fun h8 => go ?_)
          · refine Fn.use (fn_Cutover _ (by decide) (by decide)) (go ?_)
            refine VRet.mk [] .nil ?_
            simp
          · refine fork (fun h9 => go ?_) (fun h9 => go ?_)
            · refine Fn.use (fn_Cutover _ (by decide) (by decide)) (go ?_)
              refine VRet.mk [] .nil ?_
              simp
            · exfalso
              have h9 : (227 : Int) = e''.toNat := h9
              omega
        · exfalso
          have h7 : (227 : Int) = e'.toNat := h7
          omega
  · omega
theorem f37_2c (r : Int) (e c : UInt8) (h0 : 128 ≤ r) (h1 : r ≠ 65533) (h3 : Lib.validRune r = true) (hE : (Utf8.encode r).data.toList = [e, c]) (hc : 128 ≤ c.toNat ∧ c.toNat < 192 ∧ c.toNat ≠ 160 ∧ c.toNat ≠ 128) :
    Av.Fn Tryd.prog 81 [.str blanks, .int .i32 r] (.int .i64 (-1)) := by
  refine ACalls.of_W tb_ok (fn := Tryd.f81) (n := 187) (by kernel_rfl) rfl (by kernel_rfl) rfl rfl (by simp) (go ?_)
  refine fork (fun h4 => go ?_) (fun h4 => go ?_)
  · refine fork (fun h5 => go ?_) (fun h5 => go ?_)
    · omega
    · refine fork (fun h6 => go ?_) (fun h6 => go ?_)
      · omega
      · have h := fn_ValidRune r
        rw [h3] at h
        refine Fn.use (h) (go ?_)
        refine VSem.scope 1 ?_
        refine go ?_
        rw [hE]
        refine go ?_
        refine VInt.to (1) (by simp) (by omega) (by omega) (go ?_)
        refine VLoop.un 5 [9, 10] ?_
        refine go ?_
        refine VSem.scope 1 ?_
        refine go ?_
        refine fork (fun h7 => go ?_) (fun h7 => go ?_)
        · refine VQ.mk (.int .i64 (-1)) (by refine go ?_; refine Fn.use (fn_IndexByte _ _) (go ?_); exact ⟨congrArg _ (by show Lib.indexByte (List.drop 2 blanks) (c.toNat : Int).toNat.toUInt8 = -1; exact blanks_other hc 2), rfl⟩) (go ?_)
          refine VRet.mk [] .nil ?_
          simp
        · exfalso
          have h7 : (10 : Int) = c.toNat := h7
          omega
  · omega
theorem f37_3c (r : Int) (e e' c : UInt8) (h0 : 128 ≤ r) (h1 : r ≠ 65533) (h3 : Lib.validRune r = true) (hE : (Utf8.encode r).data.toList = [e, e', c]) (hc : 128 ≤ c.toNat ∧ c.toNat < 192 ∧ c.toNat ≠ 160 ∧ c.toNat ≠ 128) :
    Av.Fn Tryd.prog 81 [.str blanks, .int .i32 r] (.int .i64 (-1)) := by
  refine ACalls.of_W tb_ok (fn := Tryd.f81) (n := 187) (by kernel_rfl) rfl (by kernel_rfl) rfl rfl (by simp) (go ?_)
  refine fork (fun h4 => go ?_) (fun h4 => go ?_)
  · refine fork (fun h5 => go ?_) (fun h5 => go ?_)
    · omega
    · refine fork (fun h6 => go ?_) (fun h6 => go ?_)
      · omega
      · have h := fn_ValidRune r
        rw [h3] at h
        refine Fn.use (h) (go ?_)
        refine VSem.scope 1 ?_
        refine go ?_
        rw [hE]
        refine go ?_
        refine VInt.to (2) (by simp) (by omega) (by omega) (go ?_)
        refine VLoop.un 5 [9, 10] ?_
        refine go ?_
        refine VSem.scope 1 ?_
        refine go ?_
        refine fork (fun h7 => go ?_) (fun h7 => go ?_)
        · refine VQ.mk (.int .i64 (-1)) (by refine go ?_; refine Fn.use (fn_IndexByte _ _) (go ?_); exact ⟨congrArg _ (by show Lib.indexByte (List.drop 3 blanks) (c.toNat : Int).toNat.toUInt8 = -1; exact blanks_other hc 3), rfl⟩) (go ?_)
          refine VRet.mk [] .nil ?_
          simp
        · exfalso
          have h7 : (13 : Int) = c.toNat := h7
          omega
  · omega
theorem f37_4c (r : Int) (e e'' e' c : UInt8) (h0 : 128 ≤ r) (h1 : r ≠ 65533) (h3 : Lib.validRune r = true) (hE : (Utf8.encode r).data.toList = [e, e'', e', c]) (hc : 128 ≤ c.toNat ∧ c.toNat < 192 ∧ c.toNat ≠ 160 ∧ c.toNat ≠ 128) :
    Av.Fn Tryd.prog 81 [.str blanks, .int .i32 r] (.int .i64 (-1)) := by
  refine ACalls.of_W tb_ok (fn := Tryd.f81) (n := 187) (by kernel_rfl) rfl (by kernel_rfl) rfl rfl (by simp) (go ?_)
  refine fork (fun h4 => go ?_) (fun h4 => go ?_)
  · refine fork (fun h5 => go ?_) (fun h5 => go ?_)
    · omega
    · refine fork (fun h6 => go ?_) (fun h6 => go ?_)
      · omega
      · have h := fn_ValidRune r
        rw [h3] at h
        refine Fn.use (h) (go ?_)
        refine VSem.scope 1 ?_
        refine go ?_
        rw [hE]
        refine go ?_
        refine VInt.to (3) (by simp) (by omega) (by omega) (go ?_)
        refine VLoop.un 5 [9, 10] ?_
        refine go ?_
        refine VSem.scope 1 ?_
        refine go ?_
        refine fork (fun h7 => go ?_) (fun h7 => go ?_)
        · refine VQ.mk (.int .i64 (-1)) (by refine go ?_; refine Fn.use (fn_IndexByte _ _) (go ?_); exact ⟨congrArg _ (by show Lib.indexByte (List.drop 4 blanks) (c.toNat : Int).toNat.toUInt8 = -1; exact blanks_other hc 4), rfl⟩) (go ?_)
          refine VRet.mk [] .nil ?_
          simp
        · exfalso
          have h7 : (32 : Int) = c.toNat := h7
          omega
  · omega
end Go.Proofs.YtbmplclnondfnaaDoor

namespace Go.Proofs.YtbmplclnondfnaaDoor
open Go Go.Av
theorem ofNat_toNat {n : Nat} (h : n < 256) : (UInt8.ofNat n).toNat = n := by simp; omega
theorem f37_of (r : Int) (hr : 0 ≤ r ∧ r ≤ 1114111) : ∃ k : Int, decide (0 ≤ k) = blankB r ∧ Av.Fn Tryd.prog 81 [.str blanks, .int .i32 r] (.int .i64 k) := by
  by_cases h1 : r < 128
  · exact f37_ascii r hr.1 h1
  by_cases h2 : r = 65533
  · exact ⟨-1, by subst h2; decide, by subst h2; exact f37_bad⟩
  cases h3 : Lib.validRune r with
  | false =>
    refine ⟨-1, ?_, f37_invalid r (by omega) h2 h3⟩
    simp [Lib.validRune] at h3
    simp [blankB]
    omega
  | true =>
    have hv : Utf8.valid r = true := by
      simp [Lib.validRune] at h3
      simp [Utf8.valid]; omega
    obtain ⟨n, rfl⟩ : ∃ n : Nat, r = n := ⟨r.toNat, by omega⟩
    have hn : (n : Int).toNat = n := by omega
    by_cases c2 : n < 2048
    · have hE : (Utf8.encode n).data.toList = [UInt8.ofNat (192 + n / 64), UInt8.ofNat (128 + n % 64)] := by
        simp only [Utf8.encode, hv, if_true, hn]
        rw [if_neg (by omega), if_pos (by omega)]
      by_cases ca : n % 64 = 32
      · rw [ca] at hE
        refine ⟨_, ?_, f37_2a n _ (by omega) h2 h3 hE⟩
        rw [ofNat_toNat (by omega)]
        by_cases hh : 192 + n / 64 = 194
        · rw [if_pos hh]; simp [blankB]; omega
        · rw [if_neg hh]; simp [blankB]; omega
      by_cases cb : n % 64 = 0
      · rw [cb] at hE
        refine ⟨_, ?_, f37_2b n _ (by omega) h2 h3 hE (by rw [ofNat_toNat (by omega)]; omega)⟩
        simp [blankB]; omega
      · refine ⟨_, ?_, f37_2c n _ _ (by omega) h2 h3 hE (by rw [ofNat_toNat (by omega)]; omega)⟩
        simp [blankB]; omega
    by_cases c3 : n < 65536
    · have hE : (Utf8.encode n).data.toList = [UInt8.ofNat (224 + n / 4096), UInt8.ofNat (128 + n / 64 % 64), UInt8.ofNat (128 + n % 64)] := by
        simp only [Utf8.encode, hv, if_true, hn]
        rw [if_neg (by omega), if_neg (by omega), if_pos (by omega)]
      by_cases ca : n % 64 = 32
      · rw [ca] at hE
        refine ⟨_, ?_, f37_3a n _ _ (by omega) h2 h3 hE (by rw [ofNat_toNat (by omega)]; omega)⟩
        simp [blankB]; omega
      by_cases cb : n % 64 = 0
      · rw [cb] at hE
        refine ⟨_, ?_, f37_3b n _ _ (by omega) h2 h3 hE (by rw [ofNat_toNat (by omega)]; omega)⟩
        rw [ofNat_toNat (by omega), ofNat_toNat (by omega)]
        by_cases hh : 224 + n / 4096 = 227 ∧ 128 + n / 64 % 64 = 128
        · rw [if_pos hh]; simp [blankB]; omega
        · rw [if_neg hh]; simp [blankB]; omega
      · refine ⟨_, ?_, f37_3c n _ _ _ (by omega) h2 h3 hE (by rw [ofNat_toNat (by omega)]; omega)⟩
        simp [blankB]; omega
    · have hE : (Utf8.encode n).data.toList = [UInt8.ofNat (240 + n / 262144), UInt8.ofNat (128 + n / 4096 % 64), UInt8.ofNat (128 + n / 64 % 64), UInt8.ofNat (128 + n % 64)] := by
        simp only [Utf8.encode, hv, if_true, hn]
        rw [if_neg (by omega), if_neg (by omega), if_neg (by omega)]
      by_cases ca : n % 64 = 32
      · rw [ca] at hE
        refine ⟨_, ?_, f37_4a n _ _ _ (by omega) h2 h3 hE (by rw [ofNat_toNat (by omega)]; omega)⟩
        simp [blankB]; omega
      by_cases cb : n % 64 = 0
      · rw [cb] at hE
        refine ⟨_, ?_, f37_4b n _ _ _ (by omega) h2 h3 hE (by rw [ofNat_toNat (by omega)]; omega) (by rw [ofNat_toNat (by omega)]; omega)⟩
        simp [blankB]; omega
      · refine ⟨_, ?_, f37_4c n _ _ _ _ (by omega) h2 h3 hE (by rw [ofNat_toNat (by omega)]; omega)⟩
        simp [blankB]; omega
theorem f30_of (r : Int) (hr : 0 ≤ r ∧ r ≤ 1114111) : Av.Fn Tryd.prog 71 [.str blanks, .int .i32 r] (.bool (blankB r)) := by
  obtain ⟨k, h1, h2⟩ := f37_of r hr
  refine ACalls.of_W tb_ok (fn := Tryd.f71) (n := 9) (by kernel_rfl) rfl (by kernel_rfl) rfl rfl (by simp) (go ?_)
  refine Fn.use (h2) (go ?_)
  refine VRet.mk [] .nil ?_
  simp [← h1]
theorem f18_of (r : Int) (hr : 0 ≤ r ∧ r ≤ 1114111) : Av.Fn Tryd.prog 45 [.int .i32 r] (.bool (blankB r)) := by
  refine ACalls.of_W tb_ok (fn := Tryd.f45) (n := 5) (by kernel_rfl) rfl (by kernel_rfl) rfl rfl (by simp) (go ?_)
  refine Fn.use (f30_of r hr) (go ?_)
  refine VRet.mk [] .nil ?_
  simp
end Go.Proofs.YtbmplclnondfnaaDoor

namespace Go.Proofs.YtbmplclnondfnaaDoor
open Go Go.Av
def zeros : List Int := [48, 1632, 65296]
def digOf (r : Int) : List Int → AV
  | [] => .tup [.int .i64 0, .int .i32 0, .bool false]
  | z :: l => if z ≤ r ∧ r ≤ z + 9 then .tup [.int .i64 (r - z), .int .i32 z, .bool true] else digOf r l
theorem f29_of (r : Int) (hr : -2147483648 ≤ r ∧ r ≤ 2147483647) : Av.Fn Tryd.prog 74 [.int .i32 r] (digOf r zeros) := by
  refine ACalls.of_W tb_ok (fn := Tryd.f74) (n := 28) (by kernel_rfl) rfl (by kernel_rfl) rfl rfl (by simp) (go ?_)
  refine VLoop.mk [9] Nat (fun i => [.int .i64 i]) (fun _ => []) (fun i => i ≤ 3 ∧ digOf r zeros = digOf r (zeros.drop i)) (fun i => 3 - i) 0 ?_ ?_
  · exact ⟨⟨by omega, rfl⟩, rfl, .nil⟩
  intro i ⟨hi, he⟩
  refine go ?_
  refine fork (fun h => go ?_) (fun h => go ?_)
  · obtain ⟨z, hz, hz1, hz2⟩ : ∃ z, ([.int .i32 48, .int .i32 1632, .int .i32 65296] : List AV)[i]? = some (.int .i32 z) ∧ (48 ≤ z ∧ z ≤ 65296) ∧ digOf r (zeros.drop i) = digOf r (z :: zeros.drop (i + 1)) := by
      obtain rfl | rfl | rfl : i = 0 ∨ i = 1 ∨ i = 2 := by omega
      · exact ⟨48, rfl, by omega, rfl⟩
      · exact ⟨1632, rfl, by omega, rfl⟩
      · exact ⟨65296, rfl, by omega, rfl⟩
    refine VNth.mk (.int .i32 z) (by simpa using hz) ?_
    refine go ?_
    rw [hz2, digOf] at he
    refine fork (fun h2 => go ?_) (fun h2 => go ?_)
    · refine fork (fun h3 => go ?_) (fun h3 => go ?_)
      · refine VRet.mk [] .nil ?_
        simp only [he]
        rw [if_pos (by omega)]
        simp
      · rw [if_neg (by omega)] at he
        exact ⟨i + 1, ⟨by omega, he⟩, by omega, rfl, .nil⟩
    · rw [if_neg (by omega)] at he
      exact ⟨i + 1, ⟨by omega, he⟩, by omega, rfl, .nil⟩
  · refine VRet.mk [] .nil ?_
    obtain rfl : i = 3 := by omega
    rw [he]
    simp [zeros, digOf]
end Go.Proofs.YtbmplclnondfnaaDoor

namespace Go.Proofs.YtbmplclnondfnaaDoor
open Go Go.Av
/-- A character as a digit: its value, its script's nought. -/
def digR (r : Int) : Option (Int × Int) :=
  if 48 ≤ r ∧ r ≤ 57 then some (r - 48, 48) else if 1632 ≤ r ∧ r ≤ 1641 then some (r - 1632, 1632) else if 65296 ≤ r ∧ r ≤ 65305 then some (r - 65296, 65296) else none
def digV : Option (Int × Int) → AV
  | none => .tup [.int .i64 0, .int .i32 0, .bool false]
  | some (d, z) => .tup [.int .i64 d, .int .i32 z, .bool true]
theorem digOf_eq (r : Int) : digOf r zeros = digV (digR r) := by
  simp only [digOf, zeros, digR]
  repeat' split
  all_goals first | rfl | omega
theorem digR_bound {r d z : Int} (h : digR r = some (d, z)) : 0 ≤ d ∧ d ≤ 9 ∧ 48 ≤ z ∧ z ≤ 65296 ∧ r = z + d := by
  unfold digR at h
  repeat' split at h
  all_goals simp at h
  all_goals omega
/-- The digits of a number, one behind the other: what has been read, is it small enough, its script. -/
def digLoop : List Nat → Int → Bool → Int → Option (Int × Bool × Int)
  | [], n, ok, z => some (n, ok, z)
  | r :: rs, n, ok, z => match digR r with
    | none => none
    | some (d, z') => if 0 ≤ z ∧ z' ≠ z then none else
      if n > (1152921504606846976 - d) / 10 then digLoop rs d false z' else digLoop rs (10 * n + d) ok z'
def minusB (l : List UInt8) : Bool := begins l [45] || begins l [226, 136, 146]
def digitsR (l : List UInt8) : Int × Bool × Bool :=
  match digLoop ((runes (if minusB l then l.drop (dec l).2 else l)).map (·.1)) 0 true (-1) with
  | none => (0, false, false)
  | some (n, ok, z) => (if minusB l then -n else n, decide (0 ≤ z), ok && decide ((if minusB l then -n else n) ≤ 1152921504606846975))
theorem decodeGo_eq {l : List UInt8} (h : l ≠ []) : Lib.decodeGo ⟨⟨l⟩⟩ = dec l := by
  unfold Lib.decodeGo dec
  rw [if_neg]
  intro e
  exact h (List.length_eq_zero_iff.1 e)
theorem begins_ne {l p : List UInt8} (hp : p ≠ []) (h : begins l p = true) : l ≠ [] := by
  intro e; subst e
  simp [begins] at h
  exact hp h
theorem digitsR_some {l l' : List UInt8} {n z : Int} {ok : Bool} (hl : l' = if minusB l then l.drop (dec l).2 else l) (h : digLoop ((runes l').map (·.1)) 0 true (-1) = some (n, ok, z)) :
    digitsR l = (if minusB l then -n else n, decide (0 ≤ z), ok && decide ((if minusB l then -n else n) ≤ 1152921504606846975)) := by
  subst hl; simp only [digitsR, h]
theorem digitsR_none {l l' : List UInt8} (hl : l' = if minusB l then l.drop (dec l).2 else l) (h : digLoop ((runes l').map (·.1)) 0 true (-1) = none) : digitsR l = (0, false, false) := by
  subst hl; simp only [digitsR, h]
theorem f29_digR (r : Int) (hr : -2147483648 ≤ r ∧ r ≤ 2147483647) : Av.Fn Tryd.prog 74 [.int .i32 r] (digV (digR r)) := by
  rw [← digOf_eq]; exact f29_of r hr
/-- What Number says: the number, the error. -/
def numberR (l : List UInt8) : Int × Int :=
  if (digitsR l).2.1 then (if (digitsR l).2.2 then ((digitsR l).1, 0) else (0, 11)) else (0, 9)
structure DigI where
  p : Nat
  n : Int
  ok : Bool
  z : Int
theorem f17_of (l : List UInt8) : Av.Fn Tryd.prog 49 [.str l] (.tup [.int .i64 (digitsR l).1, .bool (digitsR l).2.1, .bool (digitsR l).2.2]) := by
  refine ACalls.of_W tb_ok (fn := Tryd.f49) (n := 72) (by kernel_rfl) rfl (by kernel_rfl) rfl rfl (by simp) (go ?_)
  have g1 := fn_HasPrefix l [45]
  have g2 := fn_HasPrefix l [226, 136, 146]
  cases h1 : begins l [45] with
  | true =>
    rw [h1] at g1
    refine Fn.use (g1) (go ?_)
    have hne := begins_ne (by simp) h1
    have hd := dec_pos l hne
    have hm : minusB l = true := by simp [minusB, h1]
    have fd := fn_Decode l
    rw [decodeGo_eq hne] at fd
    refine Fn.use (fd) (go ?_)
    obtain ⟨l', hl'⟩ : ∃ l', l' = l.drop (dec l).2 := ⟨_, rfl⟩
    rw [← hl']
    replace hl' : l' = if minusB l then l.drop (dec l).2 else l := by rw [if_pos hm]; exact hl'
    refine go ?_
    refine VAll.mk (fun b => go ?_)
    refine VLoop.mk [2, 4, 8] DigI (fun i => [.int .i64 i.n, .bool i.ok, .int .i32 i.z]) (fun i => [(b, .siter l' i.p)])
      (fun i => i.p ≤ l'.length ∧ (0 ≤ i.n ∧ i.n ≤ 1152921504606846976) ∧ (-1 ≤ i.z ∧ i.z ≤ 65296) ∧ digLoop ((runes (l'.drop i.p)).map (·.1)) i.n i.ok i.z = digLoop ((runes l').map (·.1)) 0 true (-1)) (fun i => l'.length - i.p) ⟨0, 0, true, -1⟩ ?_ ?_
    · exact ⟨⟨by simp, by simp, by simp, by simp⟩, rfl, .cons 0 rfl .nil⟩
    rintro ⟨p, n, ok, z⟩ ⟨hp, hn, hz, hI⟩
    dsimp only at hp hn hz hI ⊢
    refine go ?_
    refine fork (fun hlt => go ?_) (fun hlt => go ?_)
    · have hne' : l'.drop p ≠ [] := by simp; omega
      have hc := dec_pos _ hne'
      have hru := runes_cons hne'
      rw [← dec_at] at hc hru
      generalize hdc : Utf8.decode ⟨⟨l'⟩⟩ p = c
      rw [hdc] at hc hru
      rw [List.length_drop] at hc
      rw [List.drop_drop] at hru
      rw [hru, List.map_cons, digLoop] at hI
      obtain ⟨r, k⟩ := c
      dsimp only at hc hru hI ⊢
      refine Fn.use (f29_digR r (by omega)) (go ?_)
      cases hd : digR r with
      | none =>
        rw [hd] at hI
        dsimp only at hI
        refine go ?_
        refine VRet.mk [] .nil ?_
        rw [digitsR_none (l := l) hl' hI.symm]
        simp
      | some dz =>
        obtain ⟨d, z'⟩ := dz
        have hb := digR_bound hd
        rw [hd] at hI
        dsimp only at hI
        refine go ?_
        refine fork (fun hz0 => go ?_) (fun hz0 => go ?_)
        · refine fork (fun hz1 => go ?_) (fun hz1 => go ?_)
          · rw [if_pos ⟨hz0, hz1⟩] at hI
            refine VRet.mk [] .nil ?_
            rw [digitsR_none (l := l) hl' hI.symm]
            simp
          · have hz1 : z' = z := hz1
            rw [if_neg (by simp [hz1])] at hI
            rw [Int.tdiv_eq_ediv_of_nonneg (by omega)]
            refine go ?_
            refine fork (fun hgt => go ?_) (fun hgt => go ?_)
            · rw [if_pos (by omega)] at hI
              refine ⟨⟨p + k, 10 * 0 + d, false, z'⟩, ⟨?_, ?_, ?_, ?_⟩, ?_, rfl, .cons 0 rfl .nil⟩
              · dsimp only; omega
              · dsimp only; omega
              · dsimp only; omega
              · dsimp only; rw [show (10 * 0 + d : Int) = d by omega]; exact hI
              · dsimp only; omega
            · rw [if_neg (by omega)] at hI
              refine ⟨⟨p + k, 10 * n + d, ok, z'⟩, ⟨?_, ?_, ?_, ?_⟩, ?_, rfl, .cons 0 rfl .nil⟩
              · dsimp only; omega
              · dsimp only; omega
              · dsimp only; omega
              · exact hI
              · dsimp only; omega
        · rw [if_neg (fun h => hz0 h.1)] at hI
          rw [Int.tdiv_eq_ediv_of_nonneg (by omega)]
          refine go ?_
          refine fork (fun hgt => go ?_) (fun hgt => go ?_)
          · rw [if_pos (by omega)] at hI
            refine ⟨⟨p + k, 10 * 0 + d, false, z'⟩, ⟨?_, ?_, ?_, ?_⟩, ?_, rfl, .cons 0 rfl .nil⟩
            · dsimp only; omega
            · dsimp only; omega
            · dsimp only; omega
            · dsimp only; rw [show (10 * 0 + d : Int) = d by omega]; exact hI
            · dsimp only; omega
          · rw [if_neg (by omega)] at hI
            refine ⟨⟨p + k, 10 * n + d, ok, z'⟩, ⟨?_, ?_, ?_, ?_⟩, ?_, rfl, .cons 0 rfl .nil⟩
            · dsimp only; omega
            · dsimp only; omega
            · dsimp only; omega
            · exact hI
            · dsimp only; omega
    · rw [List.drop_eq_nil_of_le (by omega), runes_nil, List.map_nil, digLoop] at hI
      rw [digitsR_some (l := l) hl' hI.symm]
      cases hok : ok with
      | true =>
        refine go ?_
        refine VRet.mk [] .nil ?_
        simp [hm]
      | false =>
        refine go ?_
        refine VRet.mk [] .nil ?_
        simp [hm]
  | false =>
    rw [h1] at g1
    refine Fn.use (g1) (go ?_)
    cases h2 : begins l [226, 136, 146] with
    | true =>
      rw [h2] at g2
      refine Fn.use (g2) (go ?_)
      have hne := begins_ne (by simp) h2
      have hd := dec_pos l hne
      have hm : minusB l = true := by simp [minusB, h2]
      have fd := fn_Decode l
      rw [decodeGo_eq hne] at fd
      refine Fn.use (fd) (go ?_)
      obtain ⟨l', hl'⟩ : ∃ l', l' = l.drop (dec l).2 := ⟨_, rfl⟩
      rw [← hl']
      replace hl' : l' = if minusB l then l.drop (dec l).2 else l := by rw [if_pos hm]; exact hl'
      refine go ?_
      refine VAll.mk (fun b => go ?_)
      refine VLoop.mk [2, 4, 8] DigI (fun i => [.int .i64 i.n, .bool i.ok, .int .i32 i.z]) (fun i => [(b, .siter l' i.p)])
        (fun i => i.p ≤ l'.length ∧ (0 ≤ i.n ∧ i.n ≤ 1152921504606846976) ∧ (-1 ≤ i.z ∧ i.z ≤ 65296) ∧ digLoop ((runes (l'.drop i.p)).map (·.1)) i.n i.ok i.z = digLoop ((runes l').map (·.1)) 0 true (-1)) (fun i => l'.length - i.p) ⟨0, 0, true, -1⟩ ?_ ?_
      · exact ⟨⟨by simp, by simp, by simp, by simp⟩, rfl, .cons 0 rfl .nil⟩
      rintro ⟨p, n, ok, z⟩ ⟨hp, hn, hz, hI⟩
      dsimp only at hp hn hz hI ⊢
      refine go ?_
      refine fork (fun hlt => go ?_) (fun hlt => go ?_)
      · have hne' : l'.drop p ≠ [] := by simp; omega
        have hc := dec_pos _ hne'
        have hru := runes_cons hne'
        rw [← dec_at] at hc hru
        generalize hdc : Utf8.decode ⟨⟨l'⟩⟩ p = c
        rw [hdc] at hc hru
        rw [List.length_drop] at hc
        rw [List.drop_drop] at hru
        rw [hru, List.map_cons, digLoop] at hI
        obtain ⟨r, k⟩ := c
        dsimp only at hc hru hI ⊢
        refine Fn.use (f29_digR r (by omega)) (go ?_)
        cases hd : digR r with
        | none =>
          rw [hd] at hI
          dsimp only at hI
          refine go ?_
          refine VRet.mk [] .nil ?_
          rw [digitsR_none (l := l) hl' hI.symm]
          simp
        | some dz =>
          obtain ⟨d, z'⟩ := dz
          have hb := digR_bound hd
          rw [hd] at hI
          dsimp only at hI
          refine go ?_
          refine fork (fun hz0 => go ?_) (fun hz0 => go ?_)
          · refine fork (fun hz1 => go ?_) (fun hz1 => go ?_)
            · rw [if_pos ⟨hz0, hz1⟩] at hI
              refine VRet.mk [] .nil ?_
              rw [digitsR_none (l := l) hl' hI.symm]
              simp
            · have hz1 : z' = z := hz1
              rw [if_neg (by simp [hz1])] at hI
              rw [Int.tdiv_eq_ediv_of_nonneg (by omega)]
              refine go ?_
              refine fork (fun hgt => go ?_) (fun hgt => go ?_)
              · rw [if_pos (by omega)] at hI
                refine ⟨⟨p + k, 10 * 0 + d, false, z'⟩, ⟨?_, ?_, ?_, ?_⟩, ?_, rfl, .cons 0 rfl .nil⟩
                · dsimp only; omega
                · dsimp only; omega
                · dsimp only; omega
                · dsimp only; rw [show (10 * 0 + d : Int) = d by omega]; exact hI
                · dsimp only; omega
              · rw [if_neg (by omega)] at hI
                refine ⟨⟨p + k, 10 * n + d, ok, z'⟩, ⟨?_, ?_, ?_, ?_⟩, ?_, rfl, .cons 0 rfl .nil⟩
                · dsimp only; omega
                · dsimp only; omega
                · dsimp only; omega
                · exact hI
                · dsimp only; omega
          · rw [if_neg (fun h => hz0 h.1)] at hI
            rw [Int.tdiv_eq_ediv_of_nonneg (by omega)]
            refine go ?_
            refine fork (fun hgt => go ?_) (fun hgt => go ?_)
            · rw [if_pos (by omega)] at hI
              refine ⟨⟨p + k, 10 * 0 + d, false, z'⟩, ⟨?_, ?_, ?_, ?_⟩, ?_, rfl, .cons 0 rfl .nil⟩
              · dsimp only; omega
              · dsimp only; omega
              · dsimp only; omega
              · dsimp only; rw [show (10 * 0 + d : Int) = d by omega]; exact hI
              · dsimp only; omega
            · rw [if_neg (by omega)] at hI
              refine ⟨⟨p + k, 10 * n + d, ok, z'⟩, ⟨?_, ?_, ?_, ?_⟩, ?_, rfl, .cons 0 rfl .nil⟩
              · dsimp only; omega
              · dsimp only; omega
              · dsimp only; omega
              · exact hI
              · dsimp only; omega
      · rw [List.drop_eq_nil_of_le (by omega), runes_nil, List.map_nil, digLoop] at hI
        rw [digitsR_some (l := l) hl' hI.symm]
        cases hok : ok with
        | true =>
          refine go ?_
          refine VRet.mk [] .nil ?_
          simp [hm]
        | false =>
          refine go ?_
          refine VRet.mk [] .nil ?_
          simp [hm]
    | false =>
      rw [h2] at g2
      refine Fn.use (g2) (go ?_)
      have hm : minusB l = false := by simp [minusB, h1, h2]
      have hl' : l = if minusB l then l.drop (dec l).2 else l := by simp [hm]
      refine VAll.mk (fun b => go ?_)
      refine VLoop.mk [2, 4, 8] DigI (fun i => [.int .i64 i.n, .bool i.ok, .int .i32 i.z]) (fun i => [(b, .siter l i.p)])
        (fun i => i.p ≤ l.length ∧ (0 ≤ i.n ∧ i.n ≤ 1152921504606846976) ∧ (-1 ≤ i.z ∧ i.z ≤ 65296) ∧ digLoop ((runes (l.drop i.p)).map (·.1)) i.n i.ok i.z = digLoop ((runes l).map (·.1)) 0 true (-1)) (fun i => l.length - i.p) ⟨0, 0, true, -1⟩ ?_ ?_
      · exact ⟨⟨by simp, by simp, by simp, by simp⟩, rfl, .cons 0 rfl .nil⟩
      rintro ⟨p, n, ok, z⟩ ⟨hp, hn, hz, hI⟩
      dsimp only at hp hn hz hI ⊢
      refine go ?_
      refine fork (fun hlt => go ?_) (fun hlt => go ?_)
      · have hne' : l.drop p ≠ [] := by simp; omega
        have hc := dec_pos _ hne'
        have hru := runes_cons hne'
        rw [← dec_at] at hc hru
        generalize hdc : Utf8.decode ⟨⟨l⟩⟩ p = c
        rw [hdc] at hc hru
        rw [List.length_drop] at hc
        rw [List.drop_drop] at hru
        rw [hru, List.map_cons, digLoop] at hI
        obtain ⟨r, k⟩ := c
        dsimp only at hc hru hI ⊢
        refine Fn.use (f29_digR r (by omega)) (go ?_)
        cases hd : digR r with
        | none =>
          rw [hd] at hI
          dsimp only at hI
          refine go ?_
          refine VRet.mk [] .nil ?_
          rw [digitsR_none (l := l) hl' hI.symm]
          simp
        | some dz =>
          obtain ⟨d, z'⟩ := dz
          have hb := digR_bound hd
          rw [hd] at hI
          dsimp only at hI
          refine go ?_
          refine fork (fun hz0 => go ?_) (fun hz0 => go ?_)
          · refine fork (fun hz1 => go ?_) (fun hz1 => go ?_)
            · rw [if_pos ⟨hz0, hz1⟩] at hI
              refine VRet.mk [] .nil ?_
              rw [digitsR_none (l := l) hl' hI.symm]
              simp
            · have hz1 : z' = z := hz1
              rw [if_neg (by simp [hz1])] at hI
              rw [Int.tdiv_eq_ediv_of_nonneg (by omega)]
              refine go ?_
              refine fork (fun hgt => go ?_) (fun hgt => go ?_)
              · rw [if_pos (by omega)] at hI
                refine ⟨⟨p + k, 10 * 0 + d, false, z'⟩, ⟨?_, ?_, ?_, ?_⟩, ?_, rfl, .cons 0 rfl .nil⟩
                · dsimp only; omega
                · dsimp only; omega
                · dsimp only; omega
                · dsimp only; rw [show (10 * 0 + d : Int) = d by omega]; exact hI
                · dsimp only; omega
              · rw [if_neg (by omega)] at hI
                refine ⟨⟨p + k, 10 * n + d, ok, z'⟩, ⟨?_, ?_, ?_, ?_⟩, ?_, rfl, .cons 0 rfl .nil⟩
                · dsimp only; omega
                · dsimp only; omega
                · dsimp only; omega
                · exact hI
                · dsimp only; omega
          · rw [if_neg (fun h => hz0 h.1)] at hI
            rw [Int.tdiv_eq_ediv_of_nonneg (by omega)]
            refine go ?_
            refine fork (fun hgt => go ?_) (fun hgt => go ?_)
            · rw [if_pos (by omega)] at hI
              refine ⟨⟨p + k, 10 * 0 + d, false, z'⟩, ⟨?_, ?_, ?_, ?_⟩, ?_, rfl, .cons 0 rfl .nil⟩
              · dsimp only; omega
              · dsimp only; omega
              · dsimp only; omega
              · dsimp only; rw [show (10 * 0 + d : Int) = d by omega]; exact hI
              · dsimp only; omega
            · rw [if_neg (by omega)] at hI
              refine ⟨⟨p + k, 10 * n + d, ok, z'⟩, ⟨?_, ?_, ?_, ?_⟩, ?_, rfl, .cons 0 rfl .nil⟩
              · dsimp only; omega
              · dsimp only; omega
              · dsimp only; omega
              · exact hI
              · dsimp only; omega
      · rw [List.drop_eq_nil_of_le (by omega), runes_nil, List.map_nil, digLoop] at hI
        rw [digitsR_some (l := l) hl' hI.symm]
        cases hok : ok with
        | true =>
          refine go ?_
          refine VRet.mk [] .nil ?_
          simp [hm]
        | false =>
          refine go ?_
          refine VRet.mk [] .nil ?_
          simp [hm]
end Go.Proofs.YtbmplclnondfnaaDoor

namespace Go.Proofs.YtbmplclnondfnaaDoor
open Go Go.Av
/-- May a character stand in a name? -/
def okCh (first : Bool) (r : Nat) : Bool := !(decide (r = 65533) || blankB r || decide (r < 32) || decide (r = 127) || (first && decide (r = 34)))
def okAll : Bool → List Nat → Bool
  | _, [] => true
  | f, r :: rs => okCh f r && okAll false rs
def chars (l : List UInt8) : List Nat := (runes l).map (·.1)
def nameR (l : List UInt8) : Bool := okAll true (chars l) && (decide (1 ≤ (chars l).length) && decide ((chars l).length ≤ 32) && decide (l ≠ [33]) && !(digitsR l).2.1)
theorem chars_cons {l : List UInt8} (h : l ≠ []) : chars l = (dec l).1 :: chars (l.drop (dec l).2) := by simp [chars, runes_cons h]
theorem nameR_bad {l : List UInt8} (h : okAll true (chars l) = false) : nameR l = false := by simp [nameR, h]
theorem f11_of (l : List UInt8) (hlen : l.length ≤ 4611686018427387904) : Av.Fn Tryd.prog 40 [.str l] (.bool (nameR l)) := by
  refine ACalls.of_W tb_ok (fn := Tryd.f40) (n := 59) (by kernel_rfl) rfl (by kernel_rfl) rfl rfl (by simp) (go ?_)
  refine VAll.mk (fun b => go ?_)
  refine VLoop.mk [3] (Nat × Nat) (fun i => [.int .i64 i.2]) (fun i => [(b, .siter l i.1)])
    (fun i => i.1 ≤ l.length ∧ i.2 ≤ i.1 ∧ (okAll (decide (i.1 = 0)) (chars (l.drop i.1)) = okAll true (chars l) ∧ i.2 + (chars (l.drop i.1)).length = (chars l).length)) (fun i => l.length - i.1) ⟨0, 0⟩ ?_ ?_
  · exact ⟨⟨by simp, by simp, by simp, by simp⟩, rfl, .cons 0 rfl .nil⟩
  rintro ⟨p, n⟩ ⟨hp, hn, hI⟩
  dsimp only at hp hn hI ⊢
  refine go ?_
  refine fork (fun hlt => go ?_) (fun hlt => go ?_)
  · have hne' : l.drop p ≠ [] := by simp; omega
    have hc := dec_pos _ hne'
    rw [chars_cons hne', List.length_drop] at *
    rw [← dec_at] at hc hI
    generalize hdc : Utf8.decode ⟨⟨l⟩⟩ p = c
    rw [hdc] at hc hI
    rw [List.drop_drop] at hI
    obtain ⟨r, k⟩ := c
    dsimp only at hc hI ⊢
    refine fork (fun a1 => go ?_) (fun a1 => go ?_)
    · have a1 : r = 65533 := by omega
      refine VRet.mk [] .nil ?_
      rw [nameR_bad (by rw [← hI.1]; simp [okAll, okCh, a1])]
      simp
    · have hb := f18_of r (by omega)
      cases a2 : blankB r with
      | true =>
        rw [a2] at hb
        refine Fn.use (hb) (go ?_)
        refine VRet.mk [] .nil ?_
        rw [nameR_bad (by rw [← hI.1]; simp [okAll, okCh, a2])]
        simp
      | false =>
        rw [a2] at hb
        refine Fn.use (hb) (go ?_)
        refine fork (fun a3 => go ?_) (fun a3 => go ?_)
        · have a3 : r < 32 := by omega
          refine VRet.mk [] .nil ?_
          rw [nameR_bad (by rw [← hI.1]; simp [okAll, okCh, a3])]
          simp
        · have a3 : ¬ r < 32 := by omega
          refine fork (fun a4 => go ?_) (fun a4 => go ?_)
          · have a4 : r = 127 := by omega
            refine VRet.mk [] .nil ?_
            rw [nameR_bad (by rw [← hI.1]; simp [okAll, okCh, a4])]
            simp
          · have a4 : ¬ r = 127 := by omega
            have a1 : ¬ r = 65533 := by omega
            refine fork (fun a5 => go ?_) (fun a5 => go ?_)
            · have a5 : p = 0 := by omega
              refine fork (fun a6 => go ?_) (fun a6 => go ?_)
              · have a6 : r = 34 := by omega
                refine VRet.mk [] .nil ?_
                rw [nameR_bad (by rw [← hI.1]; simp [okAll, okCh, a5, a6])]
                simp
              · have a6 : ¬ r = 34 := by omega
                refine ⟨⟨p + k, n + 1⟩, ⟨?_, ?_, ?_⟩, ?_, rfl, .cons 0 rfl .nil⟩
                · dsimp only; omega
                · dsimp only; omega
                · dsimp only
                  refine ⟨?_, ?_⟩
                  · rw [← hI.1, okAll, decide_eq_false (show ¬ p + k = 0 by omega)]
                    have : okCh (decide (p = 0)) r = true := by simp [okCh, a1, a2, a3, a4, a6]; try omega
                    rw [this, Bool.true_and]
                  · rw [← hI.2, List.length_cons]; omega
                · dsimp only; omega
            · have a5 : ¬ p = 0 := by omega
              refine ⟨⟨p + k, n + 1⟩, ⟨?_, ?_, ?_⟩, ?_, rfl, .cons 0 rfl .nil⟩
              · dsimp only; omega
              · dsimp only; omega
              · dsimp only
                refine ⟨?_, ?_⟩
                · rw [← hI.1, okAll, decide_eq_false (show ¬ p + k = 0 by omega)]
                  have : okCh (decide (p = 0)) r = true := by simp [okCh, a1, a2, a3, a4, a5]; try omega
                  rw [this, Bool.true_and]
                · rw [← hI.2, List.length_cons]; omega
              · dsimp only; omega
  · have h17 := f17_of l
    rw [List.drop_eq_nil_of_le (by omega)] at hI
    have hok : okAll true (chars l) = true := by rw [← hI.1]; rfl
    have hct : (chars l).length = n := by rw [← hI.2]; simp [chars]
    cases hd : (digitsR l).2.1 with
    | true =>
      rw [hd] at h17
      refine Fn.use (h17) (go ?_)
      refine fork (fun b1 => go ?_) (fun b1 => go ?_)
      · refine fork (fun b2 => go ?_) (fun b2 => go ?_)
        · refine fork (fun b3 => go ?_) (fun b3 => go ?_)
          · refine VRet.mk [] .nil ?_
            simp [nameR, hok, hct, hd]
          · refine VRet.mk [] .nil ?_
            simp [nameR, hok, hct, hd]
        · refine VRet.mk [] .nil ?_
          simp [nameR, hok, hct, hd]
      · refine VRet.mk [] .nil ?_
        simp [nameR, hok, hct, hd]
    | false =>
      rw [hd] at h17
      refine Fn.use (h17) (go ?_)
      refine fork (fun b1 => go ?_) (fun b1 => go ?_)
      · refine fork (fun b2 => go ?_) (fun b2 => go ?_)
        · refine fork (fun b3 => go ?_) (fun b3 => go ?_)
          · refine VRet.mk [] .nil ?_
            simp [nameR, hok, hct, hd]
            exact ⟨⟨by omega, by omega⟩, b3⟩
          · refine VRet.mk [] .nil ?_
            simp [nameR, hok, hct, hd]
            exact fun _ _ => b3
        · refine VRet.mk [] .nil ?_
          simp [nameR, hok, hct, hd]
          intros; omega
      · refine VRet.mk [] .nil ?_
        simp [nameR, hok, hct, hd]
        intros; omega
end Go.Proofs.YtbmplclnondfnaaDoor

namespace Go.Proofs.YtbmplclnondfnaaDoor
open Go Go.Av
structure Tok where
  kind : Int
  text : List UInt8
  n : Int
  pos : Int
  deriving DecidableEq
def trimL (l : List UInt8) : List UInt8 := l.drop (spanR (fun r => !blankB r) (runes l))
def wlen (l : List UInt8) : Nat := spanR (fun r => blankB r) (runes l)
inductive TStep where
  | stop
  | skip (l : List UInt8)
  | bad (p e : Int)
  | tok (t : Tok) (l : List UInt8)
  deriving DecidableEq
/-- The next token, where so many bytes are in the whole. -/
def tokAt (N : Nat) (r : List UInt8) : TStep :=
  if r.take (wlen r) = [33] then
    (if Lib.indexByte r 10 < 0 then .stop else .skip (r.drop (Lib.indexByte r 10).toNat))
  else match r.take (wlen r) with
    | [] => .stop
    | c :: _ => if c = 34 then
        (if (textL (N - r.length) (r.drop 1) [] (N - r.length + 1)).2.2 = 0
          then .tok ⟨3, (textL (N - r.length) (r.drop 1) [] (N - r.length + 1)).1, 0, (N - r.length : Nat)⟩ (r.drop ((textL (N - r.length) (r.drop 1) [] (N - r.length + 1)).2.1 - (N - r.length : Nat)).toNat)
          else .bad (textL (N - r.length) (r.drop 1) [] (N - r.length + 1)).2.1 (textL (N - r.length) (r.drop 1) [] (N - r.length + 1)).2.2)
      else if (digitsR (r.take (wlen r))).2.1 then
        (if (digitsR (r.take (wlen r))).2.2 then .tok ⟨2, [], (digitsR (r.take (wlen r))).1, (N - r.length : Nat)⟩ (r.drop (wlen r)) else .bad (N - r.length : Nat) 11)
      else if nameR (r.take (wlen r)) then .tok ⟨1, r.take (wlen r), 0, (N - r.length : Nat)⟩ (r.drop (wlen r)) else .bad (N - r.length : Nat) 10
def toksN (N : Nat) : Nat → List UInt8 → List Tok → List Tok × Int × Int
  | 0, _, _ => ([], 0, -1)
  | k + 1, l, out => if l = [] then (out, 0, 0) else match tokAt N (trimL l) with
    | .stop => (out, 0, 0)
    | .skip l' => toksN N k l' out
    | .bad p e => ([], p, e)
    | .tok t l' => if out.length ≥ 4096 then ([], t.pos, 11) else toksN N k l' (out ++ [t])
def toks (N : Nat) (l : List UInt8) (out : List Tok) : List Tok × Int × Int := toksN N (l.length + 1) l out
def tokensR (s : List UInt8) : List Tok × Int × Int :=
  if s.length > 65536 then ([], 0, 11) else match faultR s with
    | some i => ([], i, 8)
    | none => toks s.length s []
def Tok.cells (t : Tok) : List AV := [.int .i64 t.kind, .str t.text, .int .i64 t.n, .int .i64 t.pos]
def toksC (l : List Tok) : List AV := (l.map Tok.cells).flatten
@[simp] theorem toksC_length (l : List Tok) : (toksC l).length = l.length * 4 := by
  induction l with
  | nil => rfl
  | cons t l ih => show (t.cells ++ toksC l).length = _; rw [List.length_append, ih]; simp [Tok.cells]; omega
theorem toksC_snoc (l : List Tok) (t : Tok) : toksC (l ++ [t]) = toksC l ++ t.cells := by simp [toksC]
theorem trimL_le (l : List UInt8) : (trimL l).length ≤ l.length := by simp [trimL]
theorem wlen_le (l : List UInt8) : wlen l ≤ l.length := spanR_le _ _
theorem indexByte_lt : ∀ (l : List UInt8) (c : UInt8), Lib.indexByte l c < l.length ∧ -1 ≤ Lib.indexByte l c
  | [], c => by simp [Lib.indexByte]
  | b :: l, c => by
    have := indexByte_lt l c
    unfold Lib.indexByte
    simp only [beq_iff_eq, List.length_cons]
    repeat' split
    all_goals omega
theorem textL_next (a : Nat) : ∀ (r acc : List UInt8) (i : Nat), (textL a r acc i).2.2 = 0 → (i : Int) + 1 ≤ (textL a r acc i).2.1 ∧ (textL a r acc i).2.1 ≤ i + r.length
  | [], acc, i, h => by simp [textL] at h
  | c :: r, acc, i, h => by
    rw [textL_cons] at h ⊢
    by_cases h1 : c = 34
    · rw [if_pos h1] at h ⊢
      by_cases h2 : acc.length > 4096
      · rw [if_pos h2] at h; simp at h
      · rw [if_neg h2]; simp; omega
    · rw [if_neg h1] at h ⊢
      by_cases h2 : c = 92
      · rw [if_pos h2] at h ⊢
        match r with
        | [] => simp at h
        | d :: r' =>
          dsimp only at h ⊢
          cases he : esc d with
          | none => rw [he] at h; simp at h
          | some e =>
            rw [he] at h
            dsimp only at h ⊢
            have := textL_next a r' (acc ++ [e]) (i + 2) h
            simp; omega
      · rw [if_neg h2] at h ⊢
        have := textL_next a r (acc ++ [c]) (i + 1) h
        simp; omega
/-- A step takes something away. -/
theorem tokAt_less {N : Nat} {r l' : List UInt8} (h : tokAt N r = .skip l' ∨ ∃ t, tokAt N r = .tok t l') : l'.length < r.length ∧ ∃ k, l' = r.drop k := by
  have hw := wlen_le r
  unfold tokAt at h
  by_cases h1 : r.take (wlen r) = [33]
  · rw [if_pos h1] at h
    have hb := indexByte_lt r 10
    by_cases h2 : Lib.indexByte r 10 < 0
    · rw [if_pos h2] at h; simp at h
    · rw [if_neg h2] at h
      simp at h
      subst h
      refine ⟨?_, _, rfl⟩
      have h3 : Lib.indexByte r 10 ≠ 0 := by
        cases r with
        | nil => simp at h1
        | cons c r =>
          have hc : c = 33 := by
            cases hn : wlen (c :: r) with
            | zero => rw [hn] at h1; simp at h1
            | succ n => rw [hn] at h1; simp at h1; exact h1.1
          subst hc
          unfold Lib.indexByte
          have := indexByte_lt r 10
          simp only [beq_iff_eq]
          rw [if_neg (by decide)]
          split
          all_goals omega
      rw [List.length_drop]; omega
  · rw [if_neg h1] at h
    cases hr : r.take (wlen r) with
    | nil => rw [hr] at h; simp at h
    | cons c q =>
      have hw0 : 0 < wlen r := by
        rcases Nat.eq_zero_or_pos (wlen r) with h0 | h0
        · rw [h0] at hr; simp at hr
        · exact h0
      have hcut : (r.drop (wlen r)).length < r.length := by rw [List.length_drop]; omega
      rw [hr] at h
      dsimp only at h
      by_cases hq : c = 34
      · rw [if_pos hq] at h
        by_cases he : (textL (N - r.length) (r.drop 1) [] (N - r.length + 1)).2.2 = 0
        · rw [if_pos he] at h
          obtain h | ⟨t, h⟩ := h
          · cases h
          · injection h with _ h
            subst h
            have := textL_next _ _ _ _ he
            refine ⟨?_, _, rfl⟩
            rw [List.length_drop]; omega
        · rw [if_neg he] at h; simp at h
      · rw [if_neg hq] at h
        cases hd : (digitsR (c :: q)).2.1 with
        | true =>
          rw [hd, if_pos rfl] at h
          cases ho : (digitsR (c :: q)).2.2 with
          | true => rw [ho, if_pos rfl] at h; simp at h; subst h; exact ⟨hcut, _, rfl⟩
          | false => rw [ho, if_neg (by simp)] at h; simp at h
        | false =>
          rw [hd, if_neg (by simp)] at h
          cases ho : nameR (c :: q) with
          | true => rw [ho, if_pos rfl] at h; simp at h; subst h; exact ⟨hcut, _, rfl⟩
          | false => rw [ho, if_neg (by simp)] at h; simp at h
theorem trimL_drop (l : List UInt8) : ∃ k, trimL l = l.drop k := ⟨_, rfl⟩
theorem toksN_eq (N : Nat) : ∀ (k : Nat) (l : List UInt8) (out : List Tok), l.length < k → toksN N k l out = toks N l out
  | 0, l, out, h => by omega
  | k + 1, l, out, h => by
    have hl := trimL_le l
    unfold toks
    simp only [toksN]
    by_cases e : l = []
    · rw [if_pos e, if_pos e]
    · rw [if_neg e, if_neg e]
      cases hs : tokAt N (trimL l) with
      | stop => rfl
      | bad p e => rfl
      | skip l' =>
        have := (tokAt_less (.inl hs)).1
        dsimp only
        rw [toksN_eq N k l' out (by omega)]
        obtain ⟨m, hm⟩ : ∃ m, l.length = m + 1 := ⟨l.length - 1, by omega⟩
        rw [hm, toksN_eq N (m + 1) l' out (by omega)]
      | tok t l' =>
        have := (tokAt_less (.inr ⟨t, hs⟩)).1
        dsimp only
        rw [toksN_eq N k l' _ (by omega)]
        obtain ⟨m, hm⟩ : ∃ m, l.length = m + 1 := ⟨l.length - 1, by omega⟩
        rw [hm, toksN_eq N (m + 1) l' _ (by omega)]
theorem toks_step (N : Nat) (l : List UInt8) (out : List Tok) : toks N l out = if l = [] then (out, 0, 0) else match tokAt N (trimL l) with
    | .stop => (out, 0, 0)
    | .skip l' => toks N l' out
    | .bad p e => ([], p, e)
    | .tok t l' => if out.length ≥ 4096 then ([], t.pos, 11) else toks N l' (out ++ [t]) := by
  have hl := trimL_le l
  by_cases e : l = []
  · subst e; rfl
  · unfold toks
    rw [toksN, if_neg e]
    obtain ⟨m, hm⟩ : ∃ m, l.length = m + 1 := ⟨l.length - 1, by cases l with | nil => exact absurd rfl e | cons => simp⟩
    cases hs : tokAt N (trimL l) with
    | stop => rw [if_neg e]
    | bad p e' => rw [if_neg e]
    | skip l' =>
      have := (tokAt_less (.inl hs)).1
      dsimp only
      rw [if_neg e, toksN_eq N _ l' out (by omega)]; rfl
    | tok t l' =>
      have := (tokAt_less (.inr ⟨t, hs⟩)).1
      dsimp only
      rw [if_neg e, toksN_eq N _ l' _ (by omega)]; rfl
end Go.Proofs.YtbmplclnondfnaaDoor

namespace Go.Proofs.YtbmplclnondfnaaDoor
open Go Go.Av
abbrev PE := Int × Int
structure RS where
  l : List Tok
  opn : Nat
  sz : Nat
abbrev PR (α : Type) := Except PE (α × RS)
def reservedL : List (List UInt8) := [[58], [59], [40], [41], [45, 45], [91], [93], [123], [125], [116], [102]]
def reservedR (s : List UInt8) : Bool := reservedL.contains s
def countR (p : Int) (s : RS) : Except PE RS :=
  if 0 < s.opn then (if 1024 < s.sz + 1 then .error (p, 11) else .ok { s with sz := s.sz + 1 }) else .ok s
def enterR (p : Int) (s : RS) : Except PE RS :=
  if 32 < s.opn + 1 then .error (p, 11) else countR p { s with opn := s.opn + 1, sz := if s.opn + 1 = 1 then 0 else s.sz }
def atR (fin : Int) (l : List Tok) : Int := match l with
  | [] => fin
  | t :: _ => t.pos
def peekR (l : List Tok) : Option (List UInt8) := match l with
  | [] => none
  | t :: _ => if t.kind = 1 then some t.text else none
def takeR (fin : Int) (s : RS) : PR Tok := match s.l with
  | [] => .error (fin, 9)
  | t :: r => .ok (t, { s with l := r })
mutual
def litR (fin : Int) : Nat → RS → PR (Option Tree)
  | 0, _ => .error (0, -1)
  | k + 1, s => match s.l with
    | [] => .ok (none, s)
    | t :: r =>
      if t.kind = 2 then (match countR t.pos { s with l := r } with
        | .error e => .error e
        | .ok s' => .ok (some (.int t.n), s'))
      else if t.kind = 3 then (match countR t.pos { s with l := r } with
        | .error e => .error e
        | .ok s' => .ok (some (.str t.text), s'))
      else if t.text = [116] ∨ t.text = [102] then (match countR t.pos { s with l := r } with
        | .error e => .error e
        | .ok s' => .ok (some (.bool (decide (t.text = [116]))), s'))
      else if t.text = [91] then (match enterR t.pos { s with l := r } with
        | .error e => .error e
        | .ok s1 => match itemsR fin k [93] s1 [] with
          | .error e => .error e
          | .ok (ys, s2) => .ok (some (.quot ys), { s2 with opn := s2.opn - 1 }))
      else if t.text = [123] then (match enterR t.pos { s with l := r } with
        | .error e => .error e
        | .ok s1 => match valsR fin k s1 [] with
          | .error e => .error e
          | .ok (ys, s2) => .ok (some (.list ys), { s2 with opn := s2.opn - 1 }))
      else .ok (none, s)
def itemR (fin : Int) : Nat → RS → PR (Option Tree)
  | 0, _ => .error (0, -1)
  | k + 1, s => match litR fin k s with
    | .error e => .error e
    | .ok (some v, s') => .ok (some v, s')
    | .ok (none, s') => match peekR s'.l with
      | none => .ok (none, s')
      | some w => if reservedR w then .ok (none, s') else match takeR fin s' with
        | .error e => .error e
        | .ok (t, s1) => match countR t.pos s1 with
          | .error e => .error e
          | .ok s2 => .ok (some (.call w), s2)
def itemsR (fin : Int) : Nat → List UInt8 → RS → List Tree → PR (List Tree)
  | 0, _, _, _ => .error (0, -1)
  | k + 1, shut, s, acc => if peekR s.l = some shut then (match takeR fin s with
      | .error e => .error e
      | .ok (_, s') => .ok (acc, s'))
    else match itemR fin k s with
      | .error e => .error e
      | .ok (none, s') => .error (atR fin s'.l, 9)
      | .ok (some y, s') => itemsR fin k shut s' (acc ++ [y])
def valsR (fin : Int) : Nat → RS → List Tree → PR (List Tree)
  | 0, _, _ => .error (0, -1)
  | k + 1, s, acc => if peekR s.l = some [125] then (match takeR fin s with
      | .error e => .error e
      | .ok (_, s') => .ok (acc, s'))
    else match litR fin k s with
      | .error e => .error e
      | .ok (none, s') => .error (atR fin s'.l, 9)
      | .ok (some y, s') => valsR fin k s' (acc ++ [y])
end
def wordR (fin : Int) (want : List UInt8) (s : RS) : PR (List UInt8) := match peekR s.l with
  | none => .error (atR fin s.l, 9)
  | some w => if (want ≠ [] ∧ w ≠ want) ∨ (want = [] ∧ reservedR w = true) then .error (atR fin s.l, 9) else match takeR fin s with
    | .error e => .error e
    | .ok (_, s') => .ok (w, s')
def namesR (fin : Int) (shut : List UInt8) : Nat → RS → Nat → PR Nat
  | 0, _, _ => .error (0, -1)
  | k + 1, s, n => if peekR s.l = some shut then (match takeR fin s with
      | .error e => .error e
      | .ok (_, s') => .ok (n, s'))
    else match wordR fin [] s with
      | .error e => .error e
      | .ok (_, s') => if 16 < n + 1 then .error (atR fin s.l, 11) else namesR fin shut k s' (n + 1)
structure DefT where
  name : List UInt8
  inn : Nat
  out : Nat
  body : List Tree
/-- As many steps as suffice. -/
def fuel (s : RS) : Nat := 3 * s.l.length + 3
def defineR (fin : Int) (p : Int) (s : RS) : PR DefT := match enterR p s with
  | .error e => .error e
  | .ok s1 => match wordR fin [] s1 with
    | .error e => .error e
    | .ok (nm, s2) => match wordR fin [40] s2 with
      | .error e => .error e
      | .ok (_, s3) => match namesR fin [45, 45] (fuel s3) s3 0 with
        | .error e => .error e
        | .ok (i, s4) => match namesR fin [41] (fuel s4) s4 0 with
          | .error e => .error e
          | .ok (o, s5) => match itemsR fin (fuel s5) [59] s5 [] with
            | .error e => .error e
            | .ok (b, s6) => .ok (⟨nm, i, o, b⟩, { s6 with opn := s6.opn - 1 })
inductive FormT where
  | define (d : DefT)
  | item (t : Tree)
def formsR (fin : Int) : Nat → RS → List FormT → PR (List FormT)
  | 0, _, _ => .error (0, -1)
  | k + 1, s, acc => if peekR s.l = some [58] then (match takeR fin s with
      | .error e => .error e
      | .ok (t, s1) => match defineR fin t.pos s1 with
        | .error e => .error e
        | .ok (d, s2) => formsR fin k s2 (acc ++ [.define d]))
    else match itemR fin (fuel s) s with
      | .error e => .error e
      | .ok (none, s') => .ok (acc, s')
      | .ok (some y, s') => formsR fin k s' (acc ++ [.item y])
def onlyR (fin : Int) : Nat → RS → List Tree → PR (List Tree)
  | 0, _, _ => .error (0, -1)
  | k + 1, s, acc => match itemR fin (fuel s) s with
      | .error e => .error e
      | .ok (none, s') => .ok (acc, s')
      | .ok (some y, s') => onlyR fin k s' (acc ++ [y])
def finR {α : Type} (fin : Int) (x : PR (List α)) : List α × Int × Int := match x with
  | .error e => ([], e.1, e.2)
  | .ok x => if x.2.l ≠ [] then ([], atR fin x.2.l, 9) else (x.1, 0, 0)
def readR {α : Type} (s : List UInt8) (what : RS → PR (List α)) : List α × Int × Int :=
  if (tokensR s).2.2 ≠ 0 then ([], (tokensR s).2.1, (tokensR s).2.2) else finR s.length (what ⟨(tokensR s).1, 0, 0⟩)
def parseR (s : List UInt8) : List FormT × Int × Int := readR s fun r => formsR s.length (r.l.length + 1) r []
def itemsOnlyR (s : List UInt8) : List Tree × Int × Int := readR s fun r => onlyR s.length (r.l.length + 1) r []
end Go.Proofs.YtbmplclnondfnaaDoor
