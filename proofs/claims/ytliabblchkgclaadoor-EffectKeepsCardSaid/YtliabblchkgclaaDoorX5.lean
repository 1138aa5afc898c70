/- Contracts of library functions, laid out of the shelf: each as it says. The tables of Go's library, out of a row's list. The types of the program, as a table. Values and items as trees, and what they are in memory. Conditions: none. The reference's trees, and what trees are as such. Conditions: none. Functions of Go's library, over abstract values. Functions of Go's library, over abstract values: beginnings of texts. Texts as lists of characters: plain Lean, no program. Conditions: as each says. Lex: text: the string that begins at a place. The trees of values and items: the walks. Conditions: as each says. Are two trees of the reference the same? Conditions: as each says. Trees of the reference as values and items: plain Lean and the walks. Conditions: as each says. The reference's trees as a row's arguments. Conditions: as each says. -/
import Derived.Shelf.Small.Utf8
import Derived.Shelf.Small.Strs
import Derived.Shelf.Strings.Search1
import Derived.Shelf.Strings.Search2
import Derived.Shelf.Strings.Cut
import Derived.Shelf.LaysM
import Derived.Shelf.Strings.Shaped
import Derived.Shelf.Strings.Prefix
import Derived.Shelf.Strings.Fields
import Derived.Shelf.Strings.SplitShaped
import Derived.Shelf.Unicode.Latin
import Derived.Shelf.Unicode.Decode
import Derived.Shelf.Strings.Runes
import Derived.Shelf.Unicode.DecodeSlow
import Derived.Shelf.Unicode.DecodeAny
import Derived.Shelf.Unicode.Is16White
import Derived.Shelf.Unicode.IsSpaceAny
import Derived.Shelf.Unicode.Is16WhiteD
import Derived.Shelf.Unicode.IsSpaceAnyD
import Derived.Shelf.Unicode.Is16Any
import Derived.Shelf.Unicode.Is32Any
import Derived.Shelf.Unicode.ExclAny
import Derived.Shelf.Slices.Turned
import Derived.Test.YtliabblchkgclaaDoorProg
import Derived.Test.YtliabblchkgclaaDoorX4
import Derived.Lib.LaidU8T
import Derived.PinnedBridge
import Derived.Test.YtliabblchkgclaaDoorCards
import Derived.Lib.TrimUEq
set_option linter.all false
set_option maxRecDepth 20000
namespace Go.Proofs
open Go.Shelf
def Tryd.lays119_ren : Go.Shelf.Ren := ⟨fun | 119 => 81 | n => n, fun | 21 => 21 | 4 => 4 | n => n, fun | n => n⟩
theorem Tryd.lays119 : Go.Proofs.Lays.n119 Tryd.prog Tryd.lays119_ren := {
  mixed := by kernel_rfl
  f119 := Tryd.func81.trans (congrArg some (by kernel_rfl))
  t4 := Tryd.underlying4
  a4 := Tryd.isAgg4
  z4 := Tryd.sizeOf4
  v4 := Tryd.zeroValue4
  t21 := Tryd.underlying21
  a21 := Tryd.isAgg21
  z21 := Tryd.sizeOf21
  v21 := Tryd.zeroValue21 }
theorem Tryd.utf8_ValidRune (r : Int) (w : World) :
    Calls Tryd.prog 81 #[.int .i32 r] w fun e w' => e = .returned (.bool (Lib.validRune r)) ∧ w' = w := Any.utf8_ValidRune Tryd.lays119 r w
def Tryd.lays137_ren : Go.Shelf.Ren := ⟨fun | 137 => 80 | 217 => 59 | 266 => 65 | n => n, fun | 9 => 9 | 5 => 5 | 3 => 3 | n => n, fun | n => n⟩
theorem Tryd.lays137 : Go.Proofs.Lays.n137 Tryd.prog Tryd.lays137_ren := {
  mixed := by kernel_rfl
  f137 := Tryd.func80.trans (congrArg some (by kernel_rfl))
  f217 := Tryd.func59.trans (congrArg some (by kernel_rfl))
  f266 := Tryd.func65.trans (congrArg some (by kernel_rfl))
  t3 := Tryd.underlying3
  a3 := Tryd.isAgg3
  z3 := Tryd.sizeOf3
  v3 := Tryd.zeroValue3
  t5 := Tryd.underlying5
  a5 := Tryd.isAgg5
  z5 := Tryd.sizeOf5
  v5 := Tryd.zeroValue5
  t9 := Tryd.underlying9
  a9 := Tryd.isAgg9
  z9 := Tryd.sizeOf9
  v9 := Tryd.zeroValue9 }
open Go.RowKit in
theorem Tryd.strings_IndexByte (s : ByteArray) (c : Int) (w : World) :
    Calls Tryd.prog 80 #[.string s, .int .u8 c] w fun e w' => e = .returned (.int .i64 (Lib.indexByte s.data.toList c.toNat.toUInt8)) ∧ w' = w := Any.strings_IndexByte Tryd.lays137 s c w
def Tryd.lays217_ren : Go.Shelf.Ren := ⟨fun | 217 => 59 | 266 => 65 | n => n, fun | 9 => 9 | 5 => 5 | 3 => 3 | n => n, fun | n => n⟩
theorem Tryd.lays217 : Go.Proofs.Lays.n217 Tryd.prog Tryd.lays217_ren := {
  mixed := by kernel_rfl
  f217 := Tryd.func59.trans (congrArg some (by kernel_rfl))
  f266 := Tryd.func65.trans (congrArg some (by kernel_rfl))
  t3 := Tryd.underlying3
  a3 := Tryd.isAgg3
  z3 := Tryd.sizeOf3
  v3 := Tryd.zeroValue3
  t5 := Tryd.underlying5
  a5 := Tryd.isAgg5
  z5 := Tryd.sizeOf5
  v5 := Tryd.zeroValue5
  t9 := Tryd.underlying9
  a9 := Tryd.isAgg9
  z9 := Tryd.sizeOf9
  v9 := Tryd.zeroValue9 }
open Go.RowKit Go.Lib in
theorem Tryd.stringslite_IndexByte (s : ByteArray) (c : Int) (w : World) :
    Calls Tryd.prog 59 #[.string s, .int .u8 c] w fun e w' => e = .returned (.int .i64 (Lib.indexByte s.data.toList c.toNat.toUInt8)) ∧ w' = w := Any.stringslite_IndexByte Tryd.lays217 s c w
def Tryd.lays224_ren : Go.Shelf.Ren := ⟨fun | 224 => 61 | n => n, fun | 3 => 3 | n => n, fun | n => n⟩
theorem Tryd.lays224 : Go.Proofs.Lays.n224 Tryd.prog Tryd.lays224_ren := {
  mixed := by kernel_rfl
  f224 := Tryd.func61.trans (congrArg some (by kernel_rfl))
  t3 := Tryd.underlying3
  a3 := Tryd.isAgg3
  z3 := Tryd.sizeOf3
  v3 := Tryd.zeroValue3 }
open Go.RowKit Go.Lib in
theorem Tryd.bytealg_Cutover (n : Int) (h0 : 0 ≤ n) (h1 : n < 4611686018427387904) (w : World) :
    Calls Tryd.prog 61 #[.int .i64 n] w fun e w' => e = .returned (.int .i64 ((n + 16) / 8)) ∧ w' = w := Any.bytealg_Cutover Tryd.lays224 n h0 h1 w
def Tryd.lays157_ren : Go.Shelf.Ren := ⟨fun | 157 => 28 | 229 => 41 | 199 => 42 | 261 => 52 | 311 => 57 | 312 => 58 | n => n, fun | 9 => 9 | 31 => 78 | 3 => 3 | 5 => 5 | 4 => 4 | 119 => 112 | 0 => 0 | 40 => 114 | 152 => 126 | 21 => 21 | 154 => 128 | 51 => 129 | 141 => 131 | 196 => 138 | 193 => 135 | 198 => 141 | 49 => 139 | 194 => 136 | 201 => 144 | 226 => 154 | 46 => 148 | 227 => 155 | n => n, fun | 0 => 0 | 6 => 1 | n => n⟩
theorem Tryd.lays157 : Go.Proofs.Lays.n157 Tryd.prog Tryd.lays157_ren := {
  mixed := by kernel_rfl
  f157 := Tryd.func28.trans (congrArg some (by kernel_rfl))
  f199 := Tryd.func42.trans (congrArg some (by kernel_rfl))
  f229 := Tryd.func41.trans (congrArg some (by kernel_rfl))
  f261 := Tryd.func52.trans (congrArg some (by kernel_rfl))
  f311 := Tryd.func57.trans (congrArg some (by kernel_rfl))
  f312 := Tryd.func58.trans (congrArg some (by kernel_rfl))
  t0 := Tryd.underlying0
  a0 := Tryd.isAgg0
  z0 := Tryd.sizeOf0
  v0 := Tryd.zeroValue0
  t3 := Tryd.underlying3
  a3 := Tryd.isAgg3
  z3 := Tryd.sizeOf3
  v3 := Tryd.zeroValue3
  t4 := Tryd.underlying4
  a4 := Tryd.isAgg4
  z4 := Tryd.sizeOf4
  v4 := Tryd.zeroValue4
  t5 := Tryd.underlying5
  a5 := Tryd.isAgg5
  z5 := Tryd.sizeOf5
  v5 := Tryd.zeroValue5
  t9 := Tryd.underlying9
  a9 := Tryd.isAgg9
  z9 := Tryd.sizeOf9
  v9 := Tryd.zeroValue9
  t21 := Tryd.underlying21
  a21 := Tryd.isAgg21
  z21 := Tryd.sizeOf21
  v21 := Tryd.zeroValue21
  t31 := Tryd.underlying78
  a31 := Tryd.isAgg78
  z31 := Tryd.sizeOf78
  v31 := Tryd.zeroValue78
  t40 := Tryd.underlying114
  a40 := Tryd.isAgg114
  z40 := Tryd.sizeOf114
  v40 := Tryd.zeroValue114
  t46 := Tryd.underlying148
  a46 := Tryd.isAgg148
  z46 := Tryd.sizeOf148
  v46 := Tryd.zeroValue148
  t49 := Tryd.underlying139
  a49 := Tryd.isAgg139
  z49 := Tryd.sizeOf139
  v49 := Tryd.zeroValue139
  t51 := Tryd.underlying129
  a51 := Tryd.isAgg129
  z51 := Tryd.sizeOf129
  v51 := Tryd.zeroValue129
  t119 := Tryd.underlying112
  a119 := Tryd.isAgg112
  z119 := Tryd.sizeOf112
  t141 := Tryd.underlying131
  a141 := Tryd.isAgg131
  z141 := Tryd.sizeOf131
  v141 := Tryd.zeroValue131
  t152 := Tryd.underlying126
  a152 := Tryd.isAgg126
  z152 := Tryd.sizeOf126
  v152 := Tryd.zeroValue126
  t154 := Tryd.underlying128
  a154 := Tryd.isAgg128
  z154 := Tryd.sizeOf128
  v154 := Tryd.zeroValue128
  t193 := Tryd.underlying135
  a193 := Tryd.isAgg135
  z193 := Tryd.sizeOf135
  v193 := Tryd.zeroValue135
  t194 := Tryd.underlying136
  a194 := Tryd.isAgg136
  z194 := Tryd.sizeOf136
  v194 := Tryd.zeroValue136
  t196 := Tryd.underlying138
  a196 := Tryd.isAgg138
  z196 := Tryd.sizeOf138
  v196 := Tryd.zeroValue138
  t198 := Tryd.underlying141
  a198 := Tryd.isAgg141
  z198 := Tryd.sizeOf141
  v198 := Tryd.zeroValue141
  t201 := Tryd.underlying144
  a201 := Tryd.isAgg144
  z201 := Tryd.sizeOf144
  v201 := Tryd.zeroValue144
  t226 := Tryd.underlying154
  a226 := Tryd.isAgg154
  z226 := Tryd.sizeOf154
  v226 := Tryd.zeroValue154
  t227 := Tryd.underlying155
  a227 := Tryd.isAgg155
  z227 := Tryd.sizeOf155
  v227 := Tryd.zeroValue155
  g0 := by kernel_rfl
  g6 := by kernel_rfl }
open Go.RowKit Go.Lib in
theorem Tryd.strings_Fields (s : ByteArray) (w : World) (hs : s.size < 4294967281) (hascii : ∀ (j : Nat) b, s.data.toList[j]? = some b → b.toNat < 128) (htab : Lib.TabIs Tryd.prog w "strings.asciiSpace" .u8 Lib.asciiSpaceTab) :
    Calls Tryd.prog 28 #[.string s] w fun e w' =>
      e = .returned (.slice (some ⟨w.heap.size, 0, none⟩) (Lib.fields s.data.toList).length (Lib.fields s.data.toList).length) ∧ w' = w.alloc (.cells ((Lib.fields s.data.toList).map fun l => Value.string ⟨l.toArray⟩).toArray 9) := Any.strings_Fields Tryd.lays157 (by kernel_rfl) (by kernel_rfl) s w hs hascii htab
def Tryd.lays197_ren : Go.Shelf.Ren := ⟨fun | 197 => 74 | 260 => 79 | n => n, fun | 9 => 9 | 21 => 21 | 3 => 3 | 4 => 4 | 5 => 5 | 105 => 163 | 119 => 112 | 0 => 0 | 46 => 148 | 139 => 152 | 138 => 151 | n => n, fun | 3 => 3 | 4 => 4 | n => n⟩
theorem Tryd.lays197 : Go.Proofs.Lays.n197 Tryd.prog Tryd.lays197_ren := {
  mixed := by kernel_rfl
  f197 := Tryd.func74.trans (congrArg some (by kernel_rfl))
  f260 := Tryd.func79.trans (congrArg some (by kernel_rfl))
  t0 := Tryd.underlying0
  a0 := Tryd.isAgg0
  z0 := Tryd.sizeOf0
  v0 := Tryd.zeroValue0
  t3 := Tryd.underlying3
  a3 := Tryd.isAgg3
  z3 := Tryd.sizeOf3
  v3 := Tryd.zeroValue3
  t4 := Tryd.underlying4
  a4 := Tryd.isAgg4
  z4 := Tryd.sizeOf4
  v4 := Tryd.zeroValue4
  t5 := Tryd.underlying5
  a5 := Tryd.isAgg5
  z5 := Tryd.sizeOf5
  v5 := Tryd.zeroValue5
  t9 := Tryd.underlying9
  a9 := Tryd.isAgg9
  z9 := Tryd.sizeOf9
  v9 := Tryd.zeroValue9
  t21 := Tryd.underlying21
  a21 := Tryd.isAgg21
  z21 := Tryd.sizeOf21
  v21 := Tryd.zeroValue21
  t46 := Tryd.underlying148
  a46 := Tryd.isAgg148
  z46 := Tryd.sizeOf148
  v46 := Tryd.zeroValue148
  t105 := Tryd.underlying163
  a105 := Tryd.isAgg163
  z105 := Tryd.sizeOf163
  v105 := Tryd.zeroValue163
  t119 := Tryd.underlying112
  a119 := Tryd.isAgg112
  z119 := Tryd.sizeOf112
  t138 := Tryd.underlying151
  a138 := Tryd.isAgg151
  z138 := Tryd.sizeOf151
  v138 := Tryd.zeroValue151
  t139 := Tryd.underlying152
  a139 := Tryd.isAgg152
  z139 := Tryd.sizeOf152
  v139 := Tryd.zeroValue152
  g3 := by kernel_rfl
  g4 := by kernel_rfl }
open Go.RowKit Go.Lib in
theorem Tryd.utf8_DecodeRuneInString (s : ByteArray) (w : World) (hT : Lib.Utf8Tabs 3 4 w) :
    Calls Tryd.prog 74 #[.string s] w fun e w' => e = .returned (.tuple #[.int .i32 (Lib.decodeGo s).1, .int .i64 (Lib.decodeGo s).2]) ∧ Below w.heap.size w w' := Any.utf8_DecodeRuneInString Tryd.lays197 s w hT
def Tryd.lays110_ren : Go.Shelf.Ren := ⟨fun | 110 => 71 | 109 => 76 | n => n, fun | 31 => 78 | 9 => 9 | 4 => 4 | 3 => 3 | 0 => 0 | n => n, fun | n => n⟩
theorem Tryd.lays110 : Go.Proofs.Lays.n110 Tryd.prog Tryd.lays110_ren := {
  mixed := by kernel_rfl
  f109 := Tryd.func76.trans (congrArg some (by kernel_rfl))
  f110 := Tryd.func71.trans (congrArg some (by kernel_rfl))
  t0 := Tryd.underlying0
  a0 := Tryd.isAgg0
  z0 := Tryd.sizeOf0
  v0 := Tryd.zeroValue0
  t3 := Tryd.underlying3
  a3 := Tryd.isAgg3
  z3 := Tryd.sizeOf3
  v3 := Tryd.zeroValue3
  t4 := Tryd.underlying4
  a4 := Tryd.isAgg4
  z4 := Tryd.sizeOf4
  v4 := Tryd.zeroValue4
  t9 := Tryd.underlying9
  a9 := Tryd.isAgg9
  z9 := Tryd.sizeOf9
  v9 := Tryd.zeroValue9
  t31 := Tryd.underlying78
  a31 := Tryd.isAgg78
  z31 := Tryd.sizeOf78
  v31 := Tryd.zeroValue78 }
open Go.Lib in
theorem Tryd.slices_Contains_string (b off n c : Nat) (zs : List ByteArray) (x : ByteArray) (w : World) (hz : n ≤ zs.length) (hbig : n ≤ 9223372036854775807) (hc : ∀ j, j < zs.length → w.cell? ⟨b, off + j, none⟩ = some (.string (zs.getD j ByteArray.empty))) :
    Calls Tryd.prog 71 #[.slice (some ⟨b, off, none⟩) n c, .string x] w fun e w' => e = .returned (.bool (Lib.containsS (zs.take n) x)) ∧ w' = w := Any.slices_Contains_string Tryd.lays110 b off n c zs x w hz hbig hc
end Go.Proofs

namespace Go.Proofs.YtliabblchkgclaaDoor
open Go Go.Av
theorem types : U8Types Tryd.prog Tryd.lays197_ren := ⟨Tryd.lays197.t5, Tryd.lays197.t119, Tryd.lays197.t138, Tryd.lays197.t139⟩
theorem extra : U8Extra Tryd.prog Tryd.lays197_ren := by constructor <;> kernel_rfl
theorem lay_of {W : World} (h : laidMetH Tryd.prog Rows.effectKeepsRow.laid W) : Lay Tryd.prog W := by
  have h' : laidMet Tryd.prog Rows.effectKeepsRow.laid W := h
  refine ⟨fun a b ha hb => ?_, fun a ha => ?_⟩
  rotate_left
  · obtain ⟨g', t', cs, fuel, p, hg', ht', hvar, hd⟩ := Lib.laidMet.reads h' (List.mem_cons_of_mem _ (List.mem_cons_of_mem _ (List.mem_cons_self ..)))
    have e0 : Tryd.prog.globalNamed "strings.asciiSpace" = some 0 := by kernel_rfl
    obtain rfl := Option.some.inj (e0.symm.trans hg')
    have e1 : (Tryd.prog.globals[0]?).map (·.type) = some 112 := by kernel_rfl
    obtain rfl := Option.some.inj (e1.symm.trans ht')
    rw [show Rows.laid_strings_asciiSpace = Lib.tabData .u8 Lib.asciiSpaceTab by kernel_rfl] at hd
    unfold Lib.TabIs
    rw [hvar, ← Lib.cells_of_tab (n := 256) (e := 5) (show Tryd.prog.underlying 112 = some (.array 256 5) by kernel_rfl) (show Tryd.prog.underlying 5 = some (.int .u8) by kernel_rfl) (by kernel_rfl) (by kernel_rfl) hd]
  have h3 := Lib.laidMet.reads h' (List.mem_cons_of_mem _ (List.mem_cons_of_mem _ (List.mem_cons_of_mem _ (List.mem_cons_self ..))))
  have h4 := Lib.laidMet.reads h' (List.mem_cons_self ..)
  have ra : Tryd.prog.globalNamed ("unicode" ++ slash ++ "utf8.first") = some 3 := by kernel_rfl
  have rb : Tryd.prog.globalNamed ("unicode" ++ slash ++ "utf8.acceptRanges") = some 4 := by kernel_rfl
  obtain rfl : 3 = a := Option.some.inj (ra.symm.trans ha)
  obtain rfl : 4 = b := Option.some.inj (rb.symm.trans hb)
  have e3 : Rows.laid_unicode_utf8_first = Lib.firstData := Pinned.utf8First_eq
  have e4 : Rows.laid_unicode_utf8_acceptRanges = Lib.acceptData := by kernel_rfl
  rw [e3] at h3
  rw [e4] at h4
  exact utf8Tabs_of_readsT types extra h3 h4
def cells4 : Array Value := ((List.range 32).map fun i => Value.int .u8 ((if i % 2 = 0 then Lib.accLo (i / 2) else Lib.accHi (i / 2) : Nat) : Int)).toArray
noncomputable def cells1 : Array Value := #[.pointer (some ⟨(World.holding Tryd.prog (default : Os) ⟨#[], #[], []⟩).heap.size, 0, none⟩)]
noncomputable def tableW : Array Value := #[.slice (some ⟨(World.holding Tryd.prog (default : Os) ⟨#[], #[], []⟩).heap.size + 1, 0, none⟩) 7 7, .slice none 0 0, .int .i64 2]
def cells0 : Array Value := ([0, 0, 0, 0, 0, 0, 0, 0, 0, 1, 1, 1, 1, 1, 0, 0, 0, 0, 0, 0, 0, 0, 0, 0, 0, 0, 0, 0, 0, 0, 0, 0, 1, 0, 0, 0, 0, 0, 0, 0, 0, 0, 0, 0, 0, 0, 0, 0, 0, 0, 0, 0, 0, 0, 0, 0, 0, 0, 0, 0, 0, 0, 0, 0, 0, 0, 0, 0, 0, 0, 0, 0, 0, 0, 0, 0, 0, 0, 0, 0, 0, 0, 0, 0, 0, 0, 0, 0, 0, 0, 0, 0, 0, 0, 0, 0, 0, 0, 0, 0, 0, 0, 0, 0, 0, 0, 0, 0, 0, 0, 0, 0, 0, 0, 0, 0, 0, 0, 0, 0, 0, 0, 0, 0, 0, 0, 0, 0, 0, 0, 0, 0, 0, 0, 0, 0, 0, 0, 0, 0, 0, 0, 0, 0, 0, 0, 0, 0, 0, 0, 0, 0, 0, 0, 0, 0, 0, 0, 0, 0, 0, 0, 0, 0, 0, 0, 0, 0, 0, 0, 0, 0, 0, 0, 0, 0, 0, 0, 0, 0, 0, 0, 0, 0, 0, 0, 0, 0, 0, 0, 0, 0, 0, 0, 0, 0, 0, 0, 0, 0, 0, 0, 0, 0, 0, 0, 0, 0, 0, 0, 0, 0, 0, 0, 0, 0, 0, 0, 0, 0, 0, 0, 0, 0, 0, 0, 0, 0, 0, 0, 0, 0, 0, 0, 0, 0, 0, 0, 0, 0, 0, 0, 0, 0, 0, 0, 0, 0, 0, 0, 0, 0, 0, 0, 0, 0] : List Int).map (fun z => Value.int .u8 z) |>.toArray
def cells3 : Array Value := ((List.range 256).map fun c => Value.int .u8 (Lib.firstT c : Nat)).toArray
def setCells (c : Array Value) : Obj → Obj
  | .cells _ t frozen => .cells c t frozen
  | o => o
noncomputable def laidWorld (os : Os) : World :=
  { World.holding Tryd.prog os ⟨#[], #[], []⟩ with heap := (((((((World.holding Tryd.prog os ⟨#[], #[], []⟩).heap).modify 4 (setCells cells4)).modify 1 (setCells cells1)).modify 0 (setCells cells0)).modify 3 (setCells cells3)).push (.cells tableW 138) |>.push (.cells (([9, 13, 1, 32, 133, 101, 160, 5760, 5600, 8192, 8202, 1, 8232, 8233, 1, 8239, 8287, 48, 12288, 12288, 1] : List Int).map (fun z => Value.int .u16 z) |>.toArray) 141)) }
end Go.Proofs.YtliabblchkgclaaDoor

namespace Go.Proofs.YtliabblchkgclaaDoor
open Go Go.Av
def tb : Tab := [(1, ⟨.func, 1, 8, [.nilf], false, none⟩),
  (2, ⟨.int .i64, 1, 8, [.int .i64 0], true, none⟩),
  (3, ⟨.int .i64, 1, 8, [.int .i64 0], true, none⟩),
  (4, ⟨.bool, 1, 1, [.bool false], true, none⟩),
  (5, ⟨.int .u8, 1, 1, [.int .u8 0], true, none⟩),
  (6, ⟨.int .u8, 1, 1, [.int .u8 0], true, none⟩),
  (7, ⟨.struct [⟨0, 1, false, 2⟩, ⟨1, 1, false, 3⟩, ⟨2, 1, false, 4⟩, ⟨3, 1, false, 6⟩], 4, 24, [.int .i64 0, .int .i64 0, .bool false, .int .u8 0], false, none⟩),
  (8, ⟨.struct [⟨0, 1, false, 2⟩, ⟨1, 1, false, 3⟩, ⟨2, 1, false, 4⟩, ⟨3, 1, false, 6⟩], 4, 24, [.int .i64 0, .int .i64 0, .bool false, .int .u8 0], false, none⟩),
  (9, ⟨.str, 1, 16, [.str []], true, none⟩),
  (10, ⟨.str, 1, 16, [.str []], true, none⟩),
  (11, ⟨.str, 1, 16, [.str []], true, none⟩),
  (12, ⟨.int .u64, 1, 8, [.int .u64 0], true, none⟩),
  (13, ⟨.struct [⟨0, 1, false, 9⟩, ⟨1, 1, false, 12⟩], 2, 24, [.str [], .int .u64 0], false, none⟩),
  (14, ⟨.struct [⟨0, 1, false, 9⟩, ⟨1, 1, false, 12⟩], 2, 24, [.str [], .int .u64 0], false, none⟩),
  (15, ⟨.ptr 172, 1, 8, [.nilp], false, none⟩),
  (16, ⟨.ptr 175, 1, 8, [.nilp], false, none⟩),
  (17, ⟨.ptr 184, 1, 8, [.nilp], false, none⟩),
  (18, ⟨.struct [⟨0, 1, false, 17⟩], 1, 8, [.nilp], false, none⟩),
  (19, ⟨.struct [⟨0, 1, false, 17⟩], 1, 8, [.nilp], false, none⟩),
  (20, ⟨.iface, 1, 16, [.nili], false, none⟩),
  (21, ⟨.int .i32, 1, 4, [.int .i32 0], true, none⟩),
  (22, ⟨.slice 28, 1, 24, [.nils], false, none⟩),
  (23, ⟨.func, 1, 8, [.nilf], false, none⟩),
  (24, ⟨.iface, 1, 16, [.nili], false, none⟩),
  (25, ⟨.iface, 1, 16, [.nili], false, none⟩),
  (26, ⟨.func, 1, 8, [.nilf], false, none⟩),
  (27, ⟨.struct [⟨0, 1, false, 3⟩, ⟨1, 1, false, 2⟩, ⟨2, 1, false, 9⟩, ⟨3, 1, false, 22⟩], 4, 56, [.int .i64 0, .int .i64 0, .str [], .nils], false, none⟩),
  (28, ⟨.struct [⟨0, 1, false, 3⟩, ⟨1, 1, false, 2⟩, ⟨2, 1, false, 9⟩, ⟨3, 1, false, 22⟩], 4, 56, [.int .i64 0, .int .i64 0, .str [], .nils], false, none⟩),
  (29, ⟨.struct [⟨0, 1, false, 3⟩, ⟨1, 1, false, 3⟩], 2, 16, [.int .i64 0, .int .i64 0], true, none⟩),
  (30, ⟨.struct [⟨0, 1, false, 3⟩, ⟨1, 1, false, 3⟩], 2, 16, [.int .i64 0, .int .i64 0], true, none⟩),
  (31, ⟨.int .i64, 1, 8, [.int .i64 0], true, none⟩),
  (33, ⟨.func, 1, 8, [.nilf], false, none⟩),
  (34, ⟨.slice 25, 1, 24, [.nils], false, none⟩),
  (35, ⟨.func, 1, 8, [.nilf], false, none⟩),
  (36, ⟨.struct [⟨0, 1, false, 9⟩], 1, 16, [.str []], true, none⟩),
  (37, ⟨.struct [⟨0, 1, false, 9⟩], 1, 16, [.str []], true, none⟩),
  (39, ⟨.func, 1, 8, [.nilf], false, none⟩),
  (40, ⟨.func, 1, 8, [.nilf], false, none⟩),
  (41, ⟨.slice 47, 1, 24, [.nils], false, none⟩),
  (42, ⟨.slice 45, 1, 24, [.nils], false, none⟩),
  (43, ⟨.func, 1, 8, [.nilf], false, none⟩),
  (44, ⟨.struct [⟨0, 1, false, 9⟩, ⟨1, 2, true, 30⟩], 3, 32, [.str [], .int .i64 0, .int .i64 0], true, none⟩),
  (45, ⟨.struct [⟨0, 1, false, 9⟩, ⟨1, 2, true, 30⟩], 3, 32, [.str [], .int .i64 0, .int .i64 0], true, none⟩),
  (46, ⟨.struct [⟨0, 1, false, 9⟩, ⟨1, 1, false, 3⟩, ⟨2, 1, false, 3⟩], 3, 32, [.str [], .int .i64 0, .int .i64 0], true, none⟩),
  (47, ⟨.struct [⟨0, 1, false, 9⟩, ⟨1, 1, false, 3⟩, ⟨2, 1, false, 3⟩], 3, 32, [.str [], .int .i64 0, .int .i64 0], true, none⟩),
  (48, ⟨.func, 1, 8, [.nilf], false, none⟩),
  (49, ⟨.func, 1, 8, [.nilf], false, none⟩),
  (50, ⟨.func, 1, 8, [.nilf], false, none⟩),
  (51, ⟨.func, 1, 8, [.nilf], false, none⟩),
  (52, ⟨.func, 1, 8, [.nilf], false, none⟩),
  (54, ⟨.func, 1, 8, [.nilf], false, none⟩),
  (55, ⟨.iface, 1, 16, [.nili], false, none⟩),
  (56, ⟨.iface, 1, 16, [.nili], false, none⟩),
  (57, ⟨.func, 1, 8, [.nilf], false, none⟩),
  (58, ⟨.struct [⟨0, 1, false, 56⟩], 1, 16, [.nili], false, none⟩),
  (59, ⟨.struct [⟨0, 1, false, 56⟩], 1, 16, [.nili], false, none⟩),
  (60, ⟨.func, 1, 8, [.nilf], false, none⟩),
  (61, ⟨.ptr 66, 1, 8, [.nilp], false, none⟩),
  (62, ⟨.map 9 30, 1, 8, [.nilm], false, none⟩),
  (63, ⟨.ptr 3, 1, 8, [.nilp], false, none⟩),
  (64, ⟨.slice 100, 1, 24, [.nils], false, none⟩),
  (65, ⟨.struct [⟨0, 1, false, 62⟩, ⟨1, 1, false, 63⟩, ⟨2, 1, false, 3⟩, ⟨3, 1, false, 64⟩], 4, 48, [.nilm, .nilp, .int .i64 0, .nils], false, none⟩),
  (66, ⟨.struct [⟨0, 1, false, 62⟩, ⟨1, 1, false, 63⟩, ⟨2, 1, false, 3⟩, ⟨3, 1, false, 64⟩], 4, 48, [.nilm, .nilp, .int .i64 0, .nils], false, none⟩),
  (67, ⟨.func, 1, 8, [.nilf], false, none⟩),
  (68, ⟨.struct [⟨0, 1, false, 31⟩], 1, 8, [.int .i64 0], true, none⟩),
  (69, ⟨.struct [⟨0, 1, false, 31⟩], 1, 8, [.int .i64 0], true, none⟩),
  (71, ⟨.func, 1, 8, [.nilf], false, none⟩),
  (72, ⟨.func, 1, 8, [.nilf], false, none⟩),
  (73, ⟨.func, 1, 8, [.nilf], false, none⟩),
  (74, ⟨.func, 1, 8, [.nilf], false, none⟩),
  (75, ⟨.func, 1, 8, [.nilf], false, none⟩),
  (76, ⟨.func, 1, 8, [.nilf], false, none⟩),
  (77, ⟨.func, 1, 8, [.nilf], false, none⟩),
  (78, ⟨.slice 9, 1, 24, [.nils], false, none⟩),
  (79, ⟨.func, 1, 8, [.nilf], false, none⟩),
  (81, ⟨.func, 1, 8, [.nilf], false, none⟩),
  (82, ⟨.struct [⟨0, 1, false, 2⟩], 1, 8, [.int .i64 0], true, none⟩),
  (83, ⟨.struct [⟨0, 1, false, 2⟩], 1, 8, [.int .i64 0], true, none⟩),
  (84, ⟨.struct [⟨0, 1, false, 9⟩], 1, 16, [.str []], true, none⟩),
  (85, ⟨.struct [⟨0, 1, false, 9⟩], 1, 16, [.str []], true, none⟩),
  (86, ⟨.struct [⟨0, 1, false, 4⟩], 1, 1, [.bool false], true, none⟩),
  (87, ⟨.struct [⟨0, 1, false, 4⟩], 1, 1, [.bool false], true, none⟩),
  (88, ⟨.slice 56, 1, 24, [.nils], false, none⟩),
  (89, ⟨.func, 1, 8, [.nilf], false, none⟩),
  (90, ⟨.struct [⟨0, 1, false, 88⟩], 1, 24, [.nils], false, none⟩),
  (91, ⟨.struct [⟨0, 1, false, 88⟩], 1, 24, [.nils], false, none⟩),
  (92, ⟨.struct [⟨0, 1, false, 34⟩], 1, 24, [.nils], false, none⟩),
  (93, ⟨.struct [⟨0, 1, false, 34⟩], 1, 24, [.nils], false, none⟩),
  (94, ⟨.struct [⟨0, 1, false, 3⟩], 1, 8, [.int .i64 0], true, none⟩),
  (95, ⟨.struct [⟨0, 1, false, 3⟩], 1, 8, [.int .i64 0], true, none⟩),
  (96, ⟨.func, 1, 8, [.nilf], false, none⟩),
  (99, ⟨.struct [⟨0, 1, false, 4⟩, ⟨1, 1, false, 34⟩], 2, 32, [.bool false, .nils], false, none⟩),
  (100, ⟨.struct [⟨0, 1, false, 4⟩, ⟨1, 1, false, 34⟩], 2, 32, [.bool false, .nils], false, none⟩),
  (101, ⟨.func, 1, 8, [.nilf], false, none⟩),
  (102, ⟨.func, 1, 8, [.nilf], false, none⟩),
  (103, ⟨.func, 1, 8, [.nilf], false, none⟩),
  (104, ⟨.slice 107, 1, 24, [.nils], false, none⟩),
  (105, ⟨.func, 1, 8, [.nilf], false, none⟩),
  (106, ⟨.struct [⟨0, 1, false, 21⟩, ⟨1, 1, false, 3⟩, ⟨2, 1, false, 3⟩, ⟨3, 1, false, 4⟩], 4, 32, [.int .i32 0, .int .i64 0, .int .i64 0, .bool false], true, none⟩),
  (107, ⟨.struct [⟨0, 1, false, 21⟩, ⟨1, 1, false, 3⟩, ⟨2, 1, false, 3⟩, ⟨3, 1, false, 4⟩], 4, 32, [.int .i32 0, .int .i64 0, .int .i64 0, .bool false], true, none⟩),
  (108, ⟨.func, 1, 8, [.nilf], false, none⟩),
  (109, ⟨.slice 3, 1, 24, [.nils], false, none⟩),
  (111, ⟨.func, 1, 8, [.nilf], false, none⟩),
  (112, ⟨.other, 256, 256, [], false, some (256, 5)⟩),
  (113, ⟨.func, 1, 8, [.nilf], false, none⟩),
  (114, ⟨.func, 1, 8, [.nilf], false, none⟩),
  (116, ⟨.func, 1, 8, [.nilf], false, none⟩),
  (117, ⟨.func, 1, 8, [.nilf], false, none⟩),
  (118, ⟨.map 9 109, 1, 8, [.nilm], false, none⟩),
  (119, ⟨.func, 1, 8, [.nilf], false, none⟩),
  (120, ⟨.func, 1, 8, [.nilf], false, none⟩),
  (121, ⟨.func, 1, 8, [.nilf], false, none⟩),
  (122, ⟨.int .u64, 1, 8, [.int .u64 0], true, none⟩),
  (124, ⟨.func, 1, 8, [.nilf], false, none⟩),
  (125, ⟨.func, 1, 8, [.nilf], false, none⟩),
  (126, ⟨.slice 128, 1, 24, [.nils], false, none⟩),
  (127, ⟨.struct [⟨0, 1, false, 3⟩, ⟨1, 1, false, 3⟩], 2, 16, [.int .i64 0, .int .i64 0], true, none⟩),
  (128, ⟨.struct [⟨0, 1, false, 3⟩, ⟨1, 1, false, 3⟩], 2, 16, [.int .i64 0, .int .i64 0], true, none⟩),
  (129, ⟨.int .u32, 1, 4, [.int .u32 0], true, none⟩),
  (130, ⟨.func, 1, 8, [.nilf], false, none⟩),
  (131, ⟨.ptr 138, 1, 8, [.nilp], false, none⟩),
  (132, ⟨.func, 1, 8, [.nilf], false, none⟩),
  (133, ⟨.func, 1, 8, [.nilf], false, none⟩),
  (134, ⟨.func, 1, 8, [.nilf], false, none⟩),
  (135, ⟨.slice 141, 1, 24, [.nils], false, none⟩),
  (136, ⟨.slice 144, 1, 24, [.nils], false, none⟩),
  (137, ⟨.struct [⟨0, 1, false, 135⟩, ⟨1, 1, false, 136⟩, ⟨2, 1, false, 3⟩], 3, 56, [.nils, .nils, .int .i64 0], false, none⟩),
  (138, ⟨.struct [⟨0, 1, false, 135⟩, ⟨1, 1, false, 136⟩, ⟨2, 1, false, 3⟩], 3, 56, [.nils, .nils, .int .i64 0], false, none⟩),
  (139, ⟨.int .u16, 1, 2, [.int .u16 0], true, none⟩),
  (140, ⟨.struct [⟨0, 1, false, 139⟩, ⟨1, 1, false, 139⟩, ⟨2, 1, false, 139⟩], 3, 6, [.int .u16 0, .int .u16 0, .int .u16 0], true, none⟩),
  (141, ⟨.struct [⟨0, 1, false, 139⟩, ⟨1, 1, false, 139⟩, ⟨2, 1, false, 139⟩], 3, 6, [.int .u16 0, .int .u16 0, .int .u16 0], true, none⟩),
  (142, ⟨.func, 1, 8, [.nilf], false, none⟩),
  (143, ⟨.struct [⟨0, 1, false, 129⟩, ⟨1, 1, false, 129⟩, ⟨2, 1, false, 129⟩], 3, 12, [.int .u32 0, .int .u32 0, .int .u32 0], true, none⟩),
  (144, ⟨.struct [⟨0, 1, false, 129⟩, ⟨1, 1, false, 129⟩, ⟨2, 1, false, 129⟩], 3, 12, [.int .u32 0, .int .u32 0, .int .u32 0], true, none⟩),
  (145, ⟨.func, 1, 8, [.nilf], false, none⟩),
  (146, ⟨.func, 1, 8, [.nilf], false, none⟩),
  (147, ⟨.func, 1, 8, [.nilf], false, none⟩),
  (148, ⟨.int .u64, 1, 8, [.int .u64 0], true, none⟩),
  (149, ⟨.func, 1, 8, [.nilf], false, none⟩),
  (150, ⟨.struct [⟨0, 1, false, 5⟩, ⟨1, 1, false, 5⟩], 2, 2, [.int .u8 0, .int .u8 0], true, none⟩),
  (151, ⟨.struct [⟨0, 1, false, 5⟩, ⟨1, 1, false, 5⟩], 2, 2, [.int .u8 0, .int .u8 0], true, none⟩),
  (152, ⟨.other, 32, 32, [], false, some (16, 151)⟩),
  (154, ⟨.ptr 141, 1, 8, [.nilp], false, none⟩),
  (155, ⟨.ptr 144, 1, 8, [.nilp], false, none⟩),
  (157, ⟨.func, 1, 8, [.nilf], false, none⟩),
  (159, ⟨.func, 1, 8, [.nilf], false, none⟩),
  (160, ⟨.func, 1, 8, [.nilf], false, none⟩),
  (161, ⟨.func, 1, 8, [.nilf], false, none⟩),
  (162, ⟨.func, 1, 8, [.nilf], false, none⟩),
  (164, ⟨.func, 1, 8, [.nilf], false, none⟩),
  (166, ⟨.func, 1, 8, [.nilf], false, none⟩),
  (167, ⟨.func, 1, 8, [.nilf], false, none⟩),
  (168, ⟨.func, 1, 8, [.nilf], false, none⟩),
  (169, ⟨.slice 21, 1, 24, [.nils], false, none⟩),
  (170, ⟨.func, 1, 8, [.nilf], false, none⟩),
  (171, ⟨.struct [⟨0, 1, false, 17⟩, ⟨1, 1, false, 17⟩, ⟨2, 1, false, 17⟩, ⟨3, 1, false, 9⟩], 4, 40, [.nilp, .nilp, .nilp, .str []], false, none⟩),
  (172, ⟨.struct [⟨0, 1, false, 17⟩, ⟨1, 1, false, 17⟩, ⟨2, 1, false, 17⟩, ⟨3, 1, false, 9⟩], 4, 40, [.nilp, .nilp, .nilp, .str []], false, none⟩),
  (173, ⟨.other, 0, 0, [], false, some (0, 16)⟩),
  (176, ⟨.func, 1, 8, [.nilf], false, none⟩),
  (177, ⟨.int .u8, 1, 1, [.int .u8 0], true, none⟩),
  (178, ⟨.int .u8, 1, 1, [.int .u8 0], true, none⟩),
  (179, ⟨.func, 1, 8, [.nilf], false, none⟩),
  (180, ⟨.ptr 5, 1, 8, [.nilp], false, none⟩),
  (181, ⟨.int .i32, 1, 4, [.int .i32 0], true, none⟩),
  (182, ⟨.int .i32, 1, 4, [.int .i32 0], true, none⟩),
  (183, ⟨.struct [⟨0, 1, false, 12⟩, ⟨1, 1, false, 12⟩, ⟨2, 1, false, 129⟩, ⟨3, 1, false, 177⟩, ⟨4, 1, false, 5⟩, ⟨5, 1, false, 5⟩, ⟨6, 1, false, 178⟩, ⟨7, 1, false, 179⟩, ⟨8, 1, false, 180⟩, ⟨9, 1, false, 181⟩, ⟨10, 1, false, 182⟩], 11, 48, [.int .u64 0, .int .u64 0, .int .u32 0, .int .u8 0, .int .u8 0, .int .u8 0, .int .u8 0, .nilf, .nilp, .int .i32 0, .int .i32 0], false, none⟩),
  (184, ⟨.struct [⟨0, 1, false, 12⟩, ⟨1, 1, false, 12⟩, ⟨2, 1, false, 129⟩, ⟨3, 1, false, 177⟩, ⟨4, 1, false, 5⟩, ⟨5, 1, false, 5⟩, ⟨6, 1, false, 178⟩, ⟨7, 1, false, 179⟩, ⟨8, 1, false, 180⟩, ⟨9, 1, false, 181⟩, ⟨10, 1, false, 182⟩], 11, 48, [.int .u64 0, .int .u64 0, .int .u32 0, .int .u8 0, .int .u8 0, .int .u8 0, .int .u8 0, .nilf, .nilp, .int .i32 0, .int .i32 0], false, none⟩)]
theorem tb_tab : tabB Tryd.prog tb = true := by kernel_rfl
theorem tb_rt : Tryd.prog.underlying Tryd.prog.rt.typeAssertionError = some (.pointer 172) := by kernel_rfl
theorem tb_mixed : Tryd.prog.follows .mixedOrders = true := by kernel_rfl
theorem tb_ok : ProgOk Tryd.prog tb where
  tab := tb_tab
  rt := ⟨_, tb_rt⟩
  mixed := tb_mixed
end Go.Proofs.YtliabblchkgclaaDoor

namespace Go.Proofs.YtliabblchkgclaaDoor
open Go Go.Av
/-- A value or an item; 'call': an item that is a Call, items that are Pushes stand as their values; 'none': nil; 'odd': of another dynamic type. -/
inductive Tree where
  | none
  | int (n : Int)
  | str (s : List UInt8)
  | bool (b : Bool)
  | list (l : List Tree)
  | quot (l : List Tree)
  | box (n : Int)
  | call (s : List UInt8)
  | odd (t : Nat) (v : AV)
mutual
def valAV : Tree → AV
  | .none => .nili
  | .int n => .iface 83 (.agg [.int .i64 n])
  | .str s => .iface 85 (.agg [.str s])
  | .bool b => .iface 87 (.agg [.bool b])
  | .list l => .iface 91 (.agg [.fz (valAVs l) l.length false])
  | .quot l => .iface 93 (.agg [.fz (itemAVs l) l.length false])
  | .box n => .iface 95 (.agg [.int .i64 n])
  | .call _ => .nili
  | .odd t v => .iface t v
def valAVs : List Tree → List AV
  | [] => []
  | t :: r => valAV t :: valAVs r
def itemAVs : List Tree → List AV
  | [] => []
  | t :: r => (match t with
    | .none => .nili
    | .call s => .iface 37 (.agg [.str s])
    | .odd t v => .iface t v
    | .int n => .iface 59 (.agg [.iface 83 (.agg [.int .i64 n])])
    | .str s => .iface 59 (.agg [.iface 85 (.agg [.str s])])
    | .bool b => .iface 59 (.agg [.iface 87 (.agg [.bool b])])
    | .list l => .iface 59 (.agg [.iface 91 (.agg [.fz (valAVs l) l.length false])])
    | .quot l => .iface 59 (.agg [.iface 93 (.agg [.fz (itemAVs l) l.length false])])
    | .box n => .iface 59 (.agg [.iface 95 (.agg [.int .i64 n])])) :: itemAVs r
end
/-- An item. -/
def itemAV (t : Tree) : AV := match t with
  | .none => .nili
  | .call s => .iface 37 (.agg [.str s])
  | .odd t v => .iface t v
  | t => .iface 59 (.agg [valAV t])
theorem itemAVs_cons (t : Tree) (r : List Tree) : itemAVs (t :: r) = itemAV t :: itemAVs r := by
  cases t <;> simp [itemAVs, itemAV, valAV]
theorem itemAVs_map : ∀ l : List Tree, itemAVs l = l.map itemAV
  | [] => by simp [itemAVs]
  | t :: r => by rw [itemAVs_cons, itemAVs_map r]; rfl
theorem valAVs_map : ∀ l : List Tree, valAVs l = l.map valAV
  | [] => by simp [valAVs]
  | t :: r => by rw [valAVs, valAVs_map r]; rfl
@[simp] theorem itemAVs_length (l : List Tree) : (itemAVs l).length = l.length := by simp [itemAVs_map]
@[simp] theorem valAVs_length (l : List Tree) : (valAVs l).length = l.length := by simp [valAVs_map]
theorem itemAVs_snoc (l : List Tree) (t : Tree) : itemAVs (l ++ [t]) = itemAVs l ++ [itemAV t] := by simp [itemAVs_map]
theorem valAVs_snoc (l : List Tree) (t : Tree) : valAVs (l ++ [t]) = valAVs l ++ [valAV t] := by simp [valAVs_map]
theorem valAV_one (t : Tree) (h : ∀ u v, t ≠ .odd u v) : (valAV t).one = true := by
  cases t <;> first | rfl | (exact absurd rfl (h _ _))
theorem valAV_one' (t : Tree) : (valAV t).one = true := by cases t <;> rfl
theorem itemAV_one (t : Tree) : (itemAV t).one = true := by cases t <;> rfl
end Go.Proofs.YtliabblchkgclaaDoor

namespace Go.Proofs.YtliabblchkgclaaDoor
open Go Go.Av
/-- A tree of the reference: its kind, number, text and list. -/
inductive RV where
  | mk (k n : Int) (s : List UInt8) (l : List RV)
mutual
def rvAV : RV → List AV
  | .mk k n s l => [.int .i64 k, .int .i64 n, .str s, .fz (rvsC l) l.length false]
def rvsC : List RV → List AV
  | [] => []
  | v :: r => rvAV v ++ rvsC r
end
def RV.cells (v : RV) : List AV := rvAV v
@[simp] theorem rvAV_length (v : RV) : (rvAV v).length = 4 := by cases v; simp [rvAV]
@[simp] theorem rvsC_length : ∀ l : List RV, (rvsC l).length = l.length * 4
  | [] => by simp [rvsC]
  | v :: r => by rw [rvsC, List.length_append, rvAV_length, rvsC_length r, List.length_cons]; omega
theorem rvsC_app (a b : List RV) : rvsC (a ++ b) = rvsC a ++ rvsC b := by
  induction a with
  | nil => simp [rvsC]
  | cons v r ih => simp [rvsC, ih]
theorem rvsC_snoc (a : List RV) (v : RV) : rvsC (a ++ [v]) = rvsC a ++ rvAV v := by simp [rvsC_app, rvsC]
theorem take_rvsC (l : List RV) : (rvsC l).take (l.length * 4) = rvsC l := List.take_of_length_le (by simp)
theorem rvsC_at : ∀ {l : List RV} {r : List AV} {i : Nat} {v : RV}, l[i]? = some v → ((rvsC l ++ r).drop (i * 4)).take 4 = rvAV v
  | [], _, _, _, h => by simp at h
  | x :: l, r, 0, v, h => by
    simp at h; subst h
    obtain ⟨k, n, s, l'⟩ := x
    simp [rvsC, rvAV]
  | x :: l, r, i + 1, v, h => by
    have := rvsC_at (l := l) (r := r) (i := i) (v := v) (by simpa using h)
    rw [← this, show (i + 1) * 4 = 4 + i * 4 by omega, ← List.drop_drop, rvsC, List.append_assoc, List.drop_left' (rvAV_length x)]
mutual
/-- No dynamic type but the six and the two; and no list of more than 2^40. -/
def Tree.clean : Tree → Bool
  | .odd _ _ => false
  | .list l => decide (l.length ≤ 2513169434916) && cleanAll l
  | .quot l => decide (l.length ≤ 2513169434916) && cleanAll l
  | _ => true
def cleanAll : List Tree → Bool
  | [] => true
  | t :: r => t.clean && cleanAll r
end
mutual
def Tree.depth : Tree → Nat
  | .list l => depthAll l + 1
  | .quot l => depthAll l + 1
  | _ => 0
def depthAll : List Tree → Nat
  | [] => 0
  | t :: r => max t.depth (depthAll r)
end
mutual
/-- The tree of a value. -/
def valRV : Tree → RV
  | .int n => .mk 1 n [] []
  | .str s => .mk 2 0 s []
  | .bool b => .mk 3 (if b then 1 else 0) [] []
  | .list l => .mk 4 0 [] (valRVs l)
  | .quot l => .mk 5 0 [] (itemRVs l)
  | .box n => .mk 6 n [] []
  | .none => .mk 8 0 [] []
  | .call _ => .mk 8 0 [] []
  | .odd _ _ => .mk 8 0 [] []
def valRVs : List Tree → List RV
  | [] => []
  | t :: r => valRV t :: valRVs r
def itemRVs : List Tree → List RV
  | [] => []
  | t :: r => (match t with
    | .call s => .mk 7 0 s []
    | .int n => .mk 1 n [] []
    | .str s => .mk 2 0 s []
    | .bool b => .mk 3 (if b then 1 else 0) [] []
    | .list l => .mk 4 0 [] (valRVs l)
    | .quot l => .mk 5 0 [] (itemRVs l)
    | .box n => .mk 6 n [] []
    | .none => .mk 8 0 [] []
    | .odd _ _ => .mk 8 0 [] []) :: itemRVs r
end
/-- The tree of an item. -/
def itemRV (t : Tree) : RV := match t with
  | .call s => .mk 7 0 s []
  | t => valRV t
theorem itemRVs_cons (t : Tree) (r : List Tree) : itemRVs (t :: r) = itemRV t :: itemRVs r := by
  cases t <;> simp [itemRVs, itemRV, valRV]
theorem itemRVs_map : ∀ l : List Tree, itemRVs l = l.map itemRV
  | [] => by simp [itemRVs]
  | t :: r => by rw [itemRVs_cons, itemRVs_map r]; rfl
theorem valRVs_map : ∀ l : List Tree, valRVs l = l.map valRV
  | [] => by simp [valRVs]
  | t :: r => by rw [valRVs, valRVs_map r]; rfl
@[simp] theorem itemRVs_length (l : List Tree) : (itemRVs l).length = l.length := by simp [itemRVs_map]
@[simp] theorem valRVs_length (l : List Tree) : (valRVs l).length = l.length := by simp [valRVs_map]
theorem cleanAll_at : ∀ {l : List Tree} {i : Nat} {t : Tree}, cleanAll l = true → l[i]? = some t → t.clean = true
  | [], _, _, _, h => by simp at h
  | x :: l, 0, t, hc, h => by simp at h; subst h; simp [cleanAll] at hc; exact hc.1
  | x :: l, i + 1, t, hc, h => by simp [cleanAll] at hc; exact cleanAll_at hc.2 (by simpa using h)
theorem depthAll_at : ∀ {l : List Tree} {i : Nat} {t : Tree}, l[i]? = some t → t.depth ≤ depthAll l
  | [], _, _, h => by simp at h
  | x :: l, 0, t, h => by simp at h; subst h; rw [depthAll]; omega
  | x :: l, i + 1, t, h => by
    have := depthAll_at (l := l) (i := i) (t := t) (by simpa using h)
    rw [depthAll]; omega
/-- The size of lists, everywhere. -/
theorem take_succ_at {α : Type} {l : List α} {i : Nat} {x : α} (h : l[i]? = some x) : l.take (i + 1) = l.take i ++ [x] := by
  rw [List.take_add_one, h]; rfl
end Go.Proofs.YtliabblchkgclaaDoor

namespace Go.Proofs.YtliabblchkgclaaDoor
open Go Go.Av
theorem fn_IndexByte (l : List UInt8) (c : Int) : Av.Fn Tryd.prog 80 [.str l, .int .u8 c] (.int .i64 (Lib.indexByte l c.toNat.toUInt8)) := by
  refine Fn.of_calls (fn := Tryd.f80) (by kernel_rfl) rfl (by kernel_rfl) ?_
  intro W w g us hl hr hb
  obtain ⟨u1, _, rfl, ⟨h1, _⟩, u2, _, rfl, ⟨h2, _⟩, h3⟩ := hr
  have h1 : u1 = _ := h1; have h2 : u2 = _ := h2; have h3 : _ = [] := h3
  subst h1; subst h2; subst h3
  refine (Tryd.strings_IndexByte ⟨⟨l⟩⟩ c w).mono fun e w' ⟨h1, h2⟩ => ?_
  subst h2
  exact ⟨_, h1, rfl, RowKit.Below.refl _ _⟩
theorem fn_ValidRune (r : Int) : Av.Fn Tryd.prog 81 [.int .i32 r] (.bool (Lib.validRune r)) := by
  refine Fn.of_calls (fn := Tryd.f81) (by kernel_rfl) rfl (by kernel_rfl) ?_
  intro W w g us hl hr hb
  obtain ⟨u1, _, rfl, ⟨h1, _⟩, h3⟩ := hr
  have h1 : u1 = _ := h1; have h3 : _ = [] := h3
  subst h1; subst h3
  refine (Tryd.utf8_ValidRune r w).mono fun e w' ⟨h1, h2⟩ => ?_
  subst h2
  exact ⟨_, h1, rfl, RowKit.Below.refl _ _⟩
theorem fn_Cutover (n : Int) (h0 : 0 ≤ n) (h1 : n < 4611686018427387904) : Av.Fn Tryd.prog 61 [.int .i64 n] (.int .i64 ((n + 16) / 8)) := by
  refine Fn.of_calls (fn := Tryd.f61) (by kernel_rfl) rfl (by kernel_rfl) ?_
  intro W w g us hl hr hb
  obtain ⟨u1, _, rfl, ⟨h1, _⟩, h3⟩ := hr
  have h1 : u1 = _ := h1; have h3 : _ = [] := h3
  subst h1; subst h3
  refine (Tryd.bytealg_Cutover n (by assumption) (by assumption) w).mono fun e w' ⟨h1, h2⟩ => ?_
  subst h2
  exact ⟨_, h1, rfl, RowKit.Below.refl _ _⟩
theorem fn_Decode (l : List UInt8) : Av.Fn Tryd.prog 74 [.str l] (.tup [.int .i32 (Lib.decodeGo ⟨⟨l⟩⟩).1, .int .i64 (Lib.decodeGo ⟨⟨l⟩⟩).2]) := by
  refine Fn.of_calls (fn := Tryd.f74) (by kernel_rfl) rfl (by kernel_rfl) ?_
  intro W w g us hl hr hb
  obtain ⟨u1, _, rfl, ⟨h1, _⟩, h3⟩ := hr
  have h1 : u1 = _ := h1; have h3 : _ = [] := h3
  subst h1; subst h3
  refine (Tryd.utf8_DecodeRuneInString ⟨⟨l⟩⟩ w (hl.now hb (by kernel_rfl) (by kernel_rfl))).mono fun e w' ⟨h1, h2⟩ => ?_
  exact ⟨_, h1, ⟨_, rfl, _, _, rfl, ⟨rfl, by simp⟩, _, _, rfl, ⟨rfl, by simp⟩, rfl⟩, h2⟩
end Go.Proofs.YtliabblchkgclaaDoor

namespace Go.Proofs.YtliabblchkgclaaDoor
open Go Go.Av
/-- Does a text begin with another? -/
def begins (s p : List UInt8) : Bool := decide (p.length ≤ s.length) && decide (s.take p.length = p)
theorem fn_sHasPrefix (s p : List UInt8) : Av.Fn Tryd.prog 78 [.str s, .str p] (.bool (begins s p)) := by
  refine ACalls.of_W tb_ok (fn := Tryd.f78) (n := 18) (by kernel_rfl) rfl (by kernel_rfl) rfl rfl (by simp) (go ?_)
  refine fork (fun h => go ?_) (fun h => go ?_)
  · refine VRet.mk [] .nil ?_
    simp [begins, Int.ofNat_le.1 h]
  · refine VRet.mk [] .nil ?_
    simp [begins]
    omega
theorem fn_HasPrefix (s p : List UInt8) : Av.Fn Tryd.prog 73 [.str s, .str p] (.bool (begins s p)) := by
  refine ACalls.of_W tb_ok (fn := Tryd.f73) (n := 8) (by kernel_rfl) rfl (by kernel_rfl) rfl rfl (by simp) (go ?_)
  refine Fn.use (fn_sHasPrefix s p) (go ?_)
  refine VRet.mk [] .nil ?_
  simp
end Go.Proofs.YtliabblchkgclaaDoor

namespace Go.Av
open Go

/-- The first character of a text, and how many bytes it has. -/
def dec (l : List UInt8) : Nat × Nat := Utf8.decode ⟨⟨l⟩⟩ 0
theorem dec_at (l : List UInt8) (p : Nat) : Utf8.decode ⟨⟨l⟩⟩ p = dec (l.drop p) := (Lib.decodeL_drop ⟨⟨l⟩⟩ p).symm
theorem dec_N (l : List UInt8) : dec l = Lib.decodeN l.length (l.getD 0 0).toNat (l.getD 1 0).toNat (l.getD 2 0).toNat (l.getD 3 0).toNat := Lib.decodeL_N l
theorem dec_pos (l : List UInt8) (h : l ≠ []) : 1 ≤ (dec l).2 ∧ (dec l).2 ≤ l.length ∧ (dec l).2 ≤ 4 ∧ (dec l).1 ≤ 1114111 := by
  have hl : 1 ≤ l.length := by cases l with | nil => exact absurd rfl h | cons => simp
  rw [dec_N]
  unfold Lib.decodeN
  repeat' split
  all_goals simp only
  all_goals omega
/-- The characters of a text, each with how many bytes it has. -/
def runesN : Nat → List UInt8 → List (Nat × Nat)
  | 0, _ => []
  | n + 1, l => if l = [] then [] else dec l :: runesN n (l.drop (dec l).2)
def runes (l : List UInt8) : List (Nat × Nat) := runesN l.length l
theorem runesN_eq : ∀ (n : Nat) (l : List UInt8), l.length ≤ n → runesN n l = runesN l.length l
  | 0, l, h => by have : l = [] := List.length_eq_zero_iff.1 (by omega); subst this; rfl
  | n + 1, l, h => by
    by_cases e : l = []
    · subst e; simp [runesN]
    · obtain ⟨h1, h2, _⟩ := dec_pos l e
      obtain ⟨m, hm⟩ : ∃ m, l.length = m + 1 := ⟨l.length - 1, by omega⟩
      rw [hm]
      simp only [runesN, e, if_false]
      have h3 : (l.drop (dec l).2).length ≤ m := by rw [List.length_drop]; omega
      rw [runesN_eq n _ (by rw [List.length_drop]; omega), runesN_eq m _ h3]
@[simp] theorem runes_nil : runes [] = [] := rfl
theorem runes_cons {l : List UInt8} (h : l ≠ []) : runes l = dec l :: runes (l.drop (dec l).2) := by
  obtain ⟨h1, h2, _⟩ := dec_pos l h
  obtain ⟨m, hm⟩ : ∃ m, l.length = m + 1 := ⟨l.length - 1, by omega⟩
  unfold runes
  rw [hm]
  simp only [runesN, h, if_false]
  rw [runesN_eq m _ (by rw [List.length_drop]; omega)]
/-- How many bytes stand ahead of the first character of a kind. -/
def spanR (p : Nat → Bool) : List (Nat × Nat) → Nat
  | [] => 0
  | (r, k) :: rs => if p r then 0 else k + spanR p rs
theorem runes_ind {C : List UInt8 → Prop} (h0 : C []) (h1 : ∀ l, l ≠ [] → C (l.drop (dec l).2) → C l) : ∀ l, C l := by
  intro l
  induction hn : l.length using Nat.strongRecOn generalizing l with
  | _ n ih =>
    by_cases e : l = []
    · rw [e]; exact h0
    · obtain ⟨h2, h3, _⟩ := dec_pos l e
      exact h1 l e (ih _ (by rw [List.length_drop]; omega) _ rfl)
theorem sum_runes (l : List UInt8) : ((runes l).map (·.2)).sum = l.length := by
  induction l using runes_ind with
  | h0 => rfl
  | h1 l hl ih =>
    obtain ⟨h2, h3, _⟩ := dec_pos l hl
    rw [runes_cons hl, List.map_cons, List.sum_cons, ih, List.length_drop]; omega
theorem spanR_sum (p : Nat → Bool) : ∀ rs : List (Nat × Nat), spanR p rs ≤ (rs.map (·.2)).sum
  | [] => Nat.le_refl _
  | (r, k) :: rs => by
    have := spanR_sum p rs
    unfold spanR
    split
    · simp
    · simp; omega
theorem spanR_le (p : Nat → Bool) (l : List UInt8) : spanR p (runes l) ≤ l.length := by
  have := spanR_sum p (runes l); rwa [sum_runes] at this
theorem spanR_none {p : Nat → Bool} : ∀ {rs : List (Nat × Nat)}, rs.any (fun x => p x.1) = false → spanR p rs = (rs.map (·.2)).sum
  | [], _ => rfl
  | (r, k) :: rs, h => by
    rw [List.any_cons, Bool.or_eq_false_iff] at h
    unfold spanR
    rw [if_neg (by simp [h.1]), spanR_none h.2, List.map_cons, List.sum_cons]
end Go.Av

namespace Go.Proofs.YtliabblchkgclaaDoor
open Go Go.Av
def esc (c : UInt8) : Option UInt8 := if c = 110 then some 10 else if c = 34 then some 34 else if c = 92 then some 92 else none
/-- The string behind a quote at a place: its text, where it ends or is at fault, the error. -/
def textL (a : Nat) : List UInt8 → List UInt8 → Nat → List UInt8 × Int × Int
  | [], _, _ => ([], a, 9)
  | c :: r, acc, i =>
    if c = 34 then (if acc.length > 4096 then ([], a, 11) else (acc, i + 1, 0))
    else if c = 92 then (match r with
      | [] => (([], i, 9) : List UInt8 × Int × Int)
      | d :: r' => match esc d with
        | none => ([], i, 9)
        | some e => textL a r' (acc ++ [e]) (i + 2))
    else textL a r (acc ++ [c]) (i + 1)
theorem textL_cons (a : Nat) (c : UInt8) (r acc : List UInt8) (i : Nat) : textL a (c :: r) acc i =
    (if c = 34 then (if acc.length > 4096 then ([], a, 11) else (acc, i + 1, 0))
    else if c = 92 then (match r with
      | [] => (([], i, 9) : List UInt8 × Int × Int)
      | d :: r' => match esc d with
        | none => ([], i, 9)
        | some e => textL a r' (acc ++ [e]) (i + 2))
    else textL a r (acc ++ [c]) (i + 1) : List UInt8 × Int × Int) := by rw [textL.eq_def]
def textR (s : List UInt8) (a : Nat) : List UInt8 × Int × Int := textL a (s.drop (a + 1)) [] (a + 1)
def bytesC (l : List UInt8) : List AV := l.map fun c => .int .u8 c.toNat
theorem bytesC_append (l m : List UInt8) : bytesC (l ++ m) = bytesC l ++ bytesC m := by simp [bytesC]
@[simp] theorem bytesC_length (l : List UInt8) : (bytesC l).length = l.length := by simp [bytesC]
theorem take_bytesC (l : List UInt8) : (bytesC l).take l.length = l.map fun c => .int .u8 c.toNat := by rw [List.take_of_length_le (by simp)]; rfl
/-- A slice that grows: nil, or an object of one's own. -/
def accV (o : Option Nat) (n : Nat) : AV := match o with
  | none => .nils
  | some b => .own b n
def accS (o : Option Nat) (esz : Nat) (cells : List AV) : St := match o with
  | none => []
  | some b => [(b, .arr esz cells 0)]
theorem escK (d : UInt8) : (match esc d with | none => Lib.indexByte [110, 34, 92] d = -1 | some e => ∃ k : Nat, k < 3 ∧ Lib.indexByte [110, 34, 92] d = k ∧ ([10, 34, 92] : List UInt8)[k]? = some e) := by
  unfold esc
  by_cases h1 : d = 110
  · subst h1; exact ⟨0, by decide, by decide, rfl⟩
  by_cases h2 : d = 34
  · subst h2; exact ⟨1, by decide, by decide, rfl⟩
  by_cases h3 : d = 92
  · subst h3; exact ⟨2, by decide, by decide, rfl⟩
  rw [if_neg h1, if_neg h2, if_neg h3]
  simp [Lib.indexByte, Ne.symm h1, Ne.symm h2, Ne.symm h3]
theorem drop_getD {s : List UInt8} {i : Nat} (h : i < s.length) : s.drop i = s.getD i 0 :: s.drop (i + 1) := by
  rw [List.drop_eq_getElem_cons h]; simp [h]
structure TxtI where
  o : Option Nat
  acc : List UInt8
  i : Nat






end Go.Proofs.YtliabblchkgclaaDoor

namespace Go.Proofs.YtliabblchkgclaaDoor
open Go Go.Av
structure AccI where
  k : Nat
  o : Option Nat

theorem f_ItemTrees' (l : List Tree) (h : ∀ (i : Nat) t, l[i]? = some t → Av.Fn Tryd.prog 26 [itemAV t] (.agg (rvAV (itemRV t)))) (hl : l.length ≤ 2513169434916) :
    Av.Fn Tryd.prog 13 [.fz (itemAVs l) l.length false] (.fz (rvsC (itemRVs l)) l.length false) := by
  refine ACalls.of_W tb_ok (fn := Tryd.f13) (n := 20) (by kernel_rfl) rfl (by kernel_rfl) rfl rfl (by simp) (go ?_)
  refine VLoop.mk [3, 4] AccI (fun i => [accV i.o i.k, .int .i64 i.k]) (fun i => accS i.o 4 (rvsC (itemRVs (l.take i.k)))) (fun i => i.k ≤ l.length ∧ (i.o = none → i.k = 0)) (fun i => l.length - i.k) ⟨0, none⟩ ?_ ?_
  · exact ⟨⟨by simp, by simp⟩, rfl, .nil⟩
  rintro ⟨k, o⟩ ⟨hk, ho⟩
  dsimp only at hk ho ⊢
  refine go ?_
  refine fork (fun hlt => go ?_) (fun hlt => ?_)
  · have hlt : k < l.length := by omega
    obtain ⟨t, ht⟩ : ∃ t, l[k]? = some t := ⟨l[k], by simp [hlt]⟩
    have hv := h k t ht
    have hacc : rvsC (itemRVs (l.take (k + 1))) = rvsC (itemRVs (l.take k)) ++ rvAV (itemRV t) := by
      rw [take_succ_at ht, itemRVs_map, itemRVs_map, List.map_append, rvsC_app]; simp [rvsC]
    obtain ⟨v, e⟩ : ∃ v, v = itemRV t := ⟨_, rfl⟩
    rw [← e] at hv hacc
    obtain ⟨v1, v2, v3, v4⟩ := v
    rw [rvAV] at hv hacc
    have hlen : (rvsC (itemRVs (l.take k))).length = k * 4 := by rw [rvsC_length, itemRVs_length, List.length_take, Nat.min_eq_left hk]
    refine VNth.mk (itemAV t) (by simp [mulN_eq, itemAVs_map, ht]) (go ?_)
    refine Fn.use (hv) (go ?_)
    cases o with
    | none =>
      obtain rfl : k = 0 := ho rfl
      refine go ?_
      refine VAll.mk (fun b2 => go ?_)
      refine ⟨⟨1, some b2⟩, ⟨by dsimp only; omega, by simp⟩, by dsimp only; omega, rfl, .cons 0 ?_ .nil⟩
      dsimp only
      rw [hacc]; simp [itemRVs, rvsC]
    | some bo =>
      refine go ?_
      refine VGd.mk ⟨rfl, by omega, by rw [mulN_eq, hlen]; exact Nat.le_refl _, by dsimp only; omega⟩ (go ?_)
      refine VAll.mk (fun b2 => go ?_)
      refine ⟨⟨k + 1, some b2⟩, ⟨by dsimp only; omega, by simp⟩, by dsimp only; omega, rfl, .cons 0 ?_ .nil⟩
      dsimp only
      rw [hacc, mulN_eq, List.take_of_length_le (by rw [hlen]; exact Nat.le_refl _)]; rfl
  · obtain rfl : k = l.length := by omega
    rw [List.take_length]
    cases o with
    | none =>
      have := ho rfl
      obtain rfl : l = [] := List.length_eq_zero_iff.1 this
      refine go ?_
      refine VRet.mk [] .nil ?_
      exact ⟨by simp [itemRVs, rvsC], rfl⟩
    | some bo =>
      refine go ?_
      refine VRet.mk [] .nil ?_
      exact ⟨by simp [mulN_eq, List.take_of_length_le], rfl⟩
theorem f_Trees' (l : List Tree) (h : ∀ (i : Nat) t, l[i]? = some t → Av.Fn Tryd.prog 39 [valAV t] (.agg (rvAV (valRV t)))) (hl : l.length ≤ 2513169434916) :
    Av.Fn Tryd.prog 51 [.fz (valAVs l) l.length false] (.fz (rvsC (valRVs l)) l.length false) := by
  refine ACalls.of_W tb_ok (fn := Tryd.f51) (n := 20) (by kernel_rfl) rfl (by kernel_rfl) rfl rfl (by simp) (go ?_)
  refine VLoop.mk [3, 4] AccI (fun i => [accV i.o i.k, .int .i64 i.k]) (fun i => accS i.o 4 (rvsC (valRVs (l.take i.k)))) (fun i => i.k ≤ l.length ∧ (i.o = none → i.k = 0)) (fun i => l.length - i.k) ⟨0, none⟩ ?_ ?_
  · exact ⟨⟨by simp, by simp⟩, rfl, .nil⟩
  rintro ⟨k, o⟩ ⟨hk, ho⟩
  dsimp only at hk ho ⊢
  refine go ?_
  refine fork (fun hlt => go ?_) (fun hlt => ?_)
  · have hlt : k < l.length := by omega
    obtain ⟨t, ht⟩ : ∃ t, l[k]? = some t := ⟨l[k], by simp [hlt]⟩
    have hv := h k t ht
    have hacc : rvsC (valRVs (l.take (k + 1))) = rvsC (valRVs (l.take k)) ++ rvAV (valRV t) := by
      rw [take_succ_at ht, valRVs_map, valRVs_map, List.map_append, rvsC_app]; simp [rvsC]
    obtain ⟨v, e⟩ : ∃ v, v = valRV t := ⟨_, rfl⟩
    rw [← e] at hv hacc
    obtain ⟨v1, v2, v3, v4⟩ := v
    rw [rvAV] at hv hacc
    have hlen : (rvsC (valRVs (l.take k))).length = k * 4 := by rw [rvsC_length, valRVs_length, List.length_take, Nat.min_eq_left hk]
    refine VNth.mk (valAV t) (by simp [mulN_eq, valAVs_map, ht]) (go ?_)
    refine Fn.use (hv) (go ?_)
    cases o with
    | none =>
      obtain rfl : k = 0 := ho rfl
      refine go ?_
      refine VAll.mk (fun b2 => go ?_)
      refine ⟨⟨1, some b2⟩, ⟨by dsimp only; omega, by simp⟩, by dsimp only; omega, rfl, .cons 0 ?_ .nil⟩
      dsimp only
      rw [hacc]; simp [valRVs, rvsC]
    | some bo =>
      refine go ?_
      refine VGd.mk ⟨rfl, by omega, by rw [mulN_eq, hlen]; exact Nat.le_refl _, by dsimp only; omega⟩ (go ?_)
      refine VAll.mk (fun b2 => go ?_)
      refine ⟨⟨k + 1, some b2⟩, ⟨by dsimp only; omega, by simp⟩, by dsimp only; omega, rfl, .cons 0 ?_ .nil⟩
      dsimp only
      rw [hacc, mulN_eq, List.take_of_length_le (by rw [hlen]; exact Nat.le_refl _)]; rfl
  · obtain rfl : k = l.length := by omega
    rw [List.take_length]
    cases o with
    | none =>
      have := ho rfl
      obtain rfl : l = [] := List.length_eq_zero_iff.1 this
      refine go ?_
      refine VRet.mk [] .nil ?_
      exact ⟨by simp [valRVs, rvsC], rfl⟩
    | some bo =>
      refine go ?_
      refine VRet.mk [] .nil ?_
      exact ⟨by simp [mulN_eq, List.take_of_length_le], rfl⟩
theorem thawV (a b c : AV) : FzO (.ret (.agg [a, b, c, .nils])) (.ret (.agg [a, b, c, .fz [] 0 false])) [] [] :=
  .ret (.agg (.cons (.keep a []) (.cons (.keep b []) (.cons (.keep c []) (.cons (.nils []) (.nil [])))))) .nil


theorem f_Tree' (t : Tree) (hc : t.clean = true) (h4 : ∀ l, t = .list l → Av.Fn Tryd.prog 51 [.fz (valAVs l) l.length false] (.fz (rvsC (valRVs l)) l.length false))
    (h5 : ∀ l, t = .quot l → Av.Fn Tryd.prog 13 [.fz (itemAVs l) l.length false] (.fz (rvsC (itemRVs l)) l.length false)) :
    Av.Fn Tryd.prog 39 [valAV t] (.agg (rvAV (valRV t))) := by
  cases t with
  | odd t v => simp [Tree.clean] at hc
  | none =>
    simp only [valAV, valRV, rvAV, rvsC, List.length_nil]
    refine ACalls.thaw (ACalls.of_W tb_ok (fn := Tryd.f39) (n := 50) (by kernel_rfl) rfl (by kernel_rfl) rfl rfl (by simp) (go ?_))
    refine VAll.mk (fun b => go ?_)
    refine VRet.mk [] .nil ?_
    exact ⟨_, _, thawV _ _ _, rfl, rfl⟩
  | call s =>
    simp only [valAV, valRV, rvAV, rvsC, List.length_nil]
    refine ACalls.thaw (ACalls.of_W tb_ok (fn := Tryd.f39) (n := 50) (by kernel_rfl) rfl (by kernel_rfl) rfl rfl (by simp) (go ?_))
    refine VAll.mk (fun b => go ?_)
    refine VRet.mk [] .nil ?_
    exact ⟨_, _, thawV _ _ _, rfl, rfl⟩
  | int n =>
    simp only [valAV, valRV, rvAV, rvsC, List.length_nil]
    refine ACalls.thaw (ACalls.of_W tb_ok (fn := Tryd.f39) (n := 50) (by kernel_rfl) rfl (by kernel_rfl) rfl rfl (by simp) (go ?_))
    refine VAll.mk (fun b => go ?_)
    refine VAll.mk (fun b2 => go ?_)
    refine VRet.mk [] .nil ?_
    exact ⟨_, _, thawV _ _ _, rfl, rfl⟩
  | str s =>
    simp only [valAV, valRV, rvAV, rvsC, List.length_nil]
    refine ACalls.thaw (ACalls.of_W tb_ok (fn := Tryd.f39) (n := 50) (by kernel_rfl) rfl (by kernel_rfl) rfl rfl (by simp) (go ?_))
    refine VAll.mk (fun b => go ?_)
    refine VAll.mk (fun b2 => go ?_)
    refine VRet.mk [] .nil ?_
    exact ⟨_, _, thawV _ _ _, rfl, rfl⟩
  | bool b =>
    simp only [valAV, valRV, rvAV, rvsC, List.length_nil]
    refine ACalls.thaw (ACalls.of_W tb_ok (fn := Tryd.f39) (n := 50) (by kernel_rfl) rfl (by kernel_rfl) rfl rfl (by simp) (go ?_))
    refine VAll.mk (fun b => go ?_)
    refine VAll.mk (fun b2 => go ?_)
    refine fork (fun hb => go ?_) (fun hb => go ?_)
    · refine VRet.mk [] .nil ?_
      subst hb; exact ⟨_, _, thawV _ _ _, rfl, rfl⟩
    · refine VRet.mk [] .nil ?_
      subst hb; exact ⟨_, _, thawV _ _ _, rfl, rfl⟩
  | list l =>
    have h4 := h4 l rfl
    simp only [valAV, valRV, rvAV, rvsC, List.length_nil]
    refine ACalls.thaw (ACalls.of_W tb_ok (fn := Tryd.f39) (n := 50) (by kernel_rfl) rfl (by kernel_rfl) rfl rfl (by simp) (go ?_))
    refine VAll.mk (fun b => go ?_)
    refine VAll.mk (fun b2 => go ?_)
    refine Fn.use (h4) (go ?_)
    refine VRet.mk [] .nil ?_
    exact ⟨_, _, .same _ _, by simp, rfl⟩
  | quot l =>
    have h5 := h5 l rfl
    simp only [valAV, valRV, rvAV, rvsC, List.length_nil]
    refine ACalls.thaw (ACalls.of_W tb_ok (fn := Tryd.f39) (n := 50) (by kernel_rfl) rfl (by kernel_rfl) rfl rfl (by simp) (go ?_))
    refine VAll.mk (fun b => go ?_)
    refine VAll.mk (fun b2 => go ?_)
    refine Fn.use (h5) (go ?_)
    refine VRet.mk [] .nil ?_
    exact ⟨_, _, .same _ _, by simp, rfl⟩
  | box n =>
    simp only [valAV, valRV, rvAV, rvsC, List.length_nil]
    refine ACalls.thaw (ACalls.of_W tb_ok (fn := Tryd.f39) (n := 50) (by kernel_rfl) rfl (by kernel_rfl) rfl rfl (by simp) (go ?_))
    refine VAll.mk (fun b => go ?_)
    refine VAll.mk (fun b2 => go ?_)
    refine VRet.mk [] .nil ?_
    exact ⟨_, _, thawV _ _ _, rfl, rfl⟩
theorem f_ItemTree' (t : Tree) (hc : t.clean = true) (h : (∀ s, t ≠ .call s) → Av.Fn Tryd.prog 39 [valAV t] (.agg (rvAV (valRV t)))) :
    Av.Fn Tryd.prog 26 [itemAV t] (.agg (rvAV (itemRV t))) := by
  cases t with
  | odd t v => simp [Tree.clean] at hc
  | none =>
    simp only [itemAV, itemRV, valRV, rvAV, rvsC, List.length_nil]
    refine ACalls.thaw (ACalls.of_W tb_ok (fn := Tryd.f26) (n := 19) (by kernel_rfl) rfl (by kernel_rfl) rfl rfl (by simp) (go ?_))
    refine VAll.mk (fun b => go ?_)
    refine VRet.mk [] .nil ?_
    exact ⟨_, _, thawV _ _ _, rfl, rfl⟩
  | call s =>
    simp only [itemAV, itemRV, valRV, rvAV, rvsC, List.length_nil]
    refine ACalls.thaw (ACalls.of_W tb_ok (fn := Tryd.f26) (n := 19) (by kernel_rfl) rfl (by kernel_rfl) rfl rfl (by simp) (go ?_))
    refine VAll.mk (fun b => go ?_)
    refine VAll.mk (fun b2 => go ?_)
    refine VRet.mk [] .nil ?_
    exact ⟨_, _, thawV _ _ _, rfl, rfl⟩
  | int n =>
    have h := h (by intro s; exact Tree.noConfusion)
    simp only [itemAV, itemRV]
    obtain ⟨v, e⟩ : ∃ v, v = valRV (.int n) := ⟨_, rfl⟩
    rw [← e] at h ⊢
    obtain ⟨v1, v2, v3, v4⟩ := v
    rw [rvAV] at h ⊢
    refine ACalls.of_W tb_ok (fn := Tryd.f26) (n := 19) (by kernel_rfl) rfl (by kernel_rfl) rfl rfl (by simp) (go ?_)
    refine VAll.mk (fun b => go ?_)
    refine VAll.mk (fun b2 => go ?_)
    refine Fn.use (h) (go ?_)
    refine VRet.mk [] .nil ?_
    exact ⟨rfl, rfl⟩
  | str s =>
    have h := h (by intro s; exact Tree.noConfusion)
    simp only [itemAV, itemRV]
    obtain ⟨v, e⟩ : ∃ v, v = valRV (.str s) := ⟨_, rfl⟩
    rw [← e] at h ⊢
    obtain ⟨v1, v2, v3, v4⟩ := v
    rw [rvAV] at h ⊢
    refine ACalls.of_W tb_ok (fn := Tryd.f26) (n := 19) (by kernel_rfl) rfl (by kernel_rfl) rfl rfl (by simp) (go ?_)
    refine VAll.mk (fun b => go ?_)
    refine VAll.mk (fun b2 => go ?_)
    refine Fn.use (h) (go ?_)
    refine VRet.mk [] .nil ?_
    exact ⟨rfl, rfl⟩
  | bool b =>
    have h := h (by intro s; exact Tree.noConfusion)
    simp only [itemAV, itemRV]
    obtain ⟨v, e⟩ : ∃ v, v = valRV (.bool b) := ⟨_, rfl⟩
    rw [← e] at h ⊢
    obtain ⟨v1, v2, v3, v4⟩ := v
    rw [rvAV] at h ⊢
    refine ACalls.of_W tb_ok (fn := Tryd.f26) (n := 19) (by kernel_rfl) rfl (by kernel_rfl) rfl rfl (by simp) (go ?_)
    refine VAll.mk (fun b => go ?_)
    refine VAll.mk (fun b2 => go ?_)
    refine Fn.use (h) (go ?_)
    refine VRet.mk [] .nil ?_
    exact ⟨rfl, rfl⟩
  | list l =>
    have h := h (by intro s; exact Tree.noConfusion)
    simp only [itemAV, itemRV]
    obtain ⟨v, e⟩ : ∃ v, v = valRV (.list l) := ⟨_, rfl⟩
    rw [← e] at h ⊢
    obtain ⟨v1, v2, v3, v4⟩ := v
    rw [rvAV] at h ⊢
    refine ACalls.of_W tb_ok (fn := Tryd.f26) (n := 19) (by kernel_rfl) rfl (by kernel_rfl) rfl rfl (by simp) (go ?_)
    refine VAll.mk (fun b => go ?_)
    refine VAll.mk (fun b2 => go ?_)
    refine Fn.use (h) (go ?_)
    refine VRet.mk [] .nil ?_
    exact ⟨rfl, rfl⟩
  | quot l =>
    have h := h (by intro s; exact Tree.noConfusion)
    simp only [itemAV, itemRV]
    obtain ⟨v, e⟩ : ∃ v, v = valRV (.quot l) := ⟨_, rfl⟩
    rw [← e] at h ⊢
    obtain ⟨v1, v2, v3, v4⟩ := v
    rw [rvAV] at h ⊢
    refine ACalls.of_W tb_ok (fn := Tryd.f26) (n := 19) (by kernel_rfl) rfl (by kernel_rfl) rfl rfl (by simp) (go ?_)
    refine VAll.mk (fun b => go ?_)
    refine VAll.mk (fun b2 => go ?_)
    refine Fn.use (h) (go ?_)
    refine VRet.mk [] .nil ?_
    exact ⟨rfl, rfl⟩
  | box n =>
    have h := h (by intro s; exact Tree.noConfusion)
    simp only [itemAV, itemRV]
    obtain ⟨v, e⟩ : ∃ v, v = valRV (.box n) := ⟨_, rfl⟩
    rw [← e] at h ⊢
    obtain ⟨v1, v2, v3, v4⟩ := v
    rw [rvAV] at h ⊢
    refine ACalls.of_W tb_ok (fn := Tryd.f26) (n := 19) (by kernel_rfl) rfl (by kernel_rfl) rfl rfl (by simp) (go ?_)
    refine VAll.mk (fun b => go ?_)
    refine VAll.mk (fun b2 => go ?_)
    refine Fn.use (h) (go ?_)
    refine VRet.mk [] .nil ?_
    exact ⟨rfl, rfl⟩
theorem f_trees (n : Nat) :
    (∀ t : Tree, t.clean = true → t.depth ≤ n → Av.Fn Tryd.prog 39 [valAV t] (.agg (rvAV (valRV t))) ∧ Av.Fn Tryd.prog 26 [itemAV t] (.agg (rvAV (itemRV t)))) ∧
    (∀ l : List Tree, cleanAll l = true → l.length ≤ 2513169434916 → depthAll l ≤ n → Av.Fn Tryd.prog 51 [.fz (valAVs l) l.length false] (.fz (rvsC (valRVs l)) l.length false) ∧
      Av.Fn Tryd.prog 13 [.fz (itemAVs l) l.length false] (.fz (rvsC (itemRVs l)) l.length false)) := by
  have lists : ∀ n, (∀ t : Tree, t.clean = true → t.depth ≤ n → Av.Fn Tryd.prog 39 [valAV t] (.agg (rvAV (valRV t))) ∧ Av.Fn Tryd.prog 26 [itemAV t] (.agg (rvAV (itemRV t)))) →
      (∀ l : List Tree, cleanAll l = true → l.length ≤ 2513169434916 → depthAll l ≤ n → Av.Fn Tryd.prog 51 [.fz (valAVs l) l.length false] (.fz (rvsC (valRVs l)) l.length false) ∧
      Av.Fn Tryd.prog 13 [.fz (itemAVs l) l.length false] (.fz (rvsC (itemRVs l)) l.length false)) := fun n h l hc hl hd =>
    ⟨f_Trees' l (fun i t ht => (h t (cleanAll_at hc ht) (Nat.le_trans (depthAll_at ht) hd)).1) hl, f_ItemTrees' l (fun i t ht => (h t (cleanAll_at hc ht) (Nat.le_trans (depthAll_at ht) hd)).2) hl⟩
  have both : ∀ t : Tree, t.clean = true → Av.Fn Tryd.prog 39 [valAV t] (.agg (rvAV (valRV t))) → Av.Fn Tryd.prog 39 [valAV t] (.agg (rvAV (valRV t))) ∧ Av.Fn Tryd.prog 26 [itemAV t] (.agg (rvAV (itemRV t))) :=
    fun t hc h => ⟨h, f_ItemTree' t hc fun _ => h⟩
  suffices H : ∀ t : Tree, t.clean = true → t.depth ≤ n → Av.Fn Tryd.prog 39 [valAV t] (.agg (rvAV (valRV t))) from
    ⟨fun t hc hd => both t hc (H t hc hd), lists n fun t hc hd => both t hc (H t hc hd)⟩
  induction n with
  | zero =>
    intro t hc hd
    refine f_Tree' t hc ?_ ?_
    · rintro l rfl; simp [Tree.depth] at hd
    · rintro l rfl; simp [Tree.depth] at hd
  | succ n ih =>
    intro t hc hd
    have L := lists n fun t hc hd => both t hc (ih t hc hd)
    refine f_Tree' t hc ?_ ?_
    · rintro l rfl
      simp only [Tree.clean, Bool.and_eq_true, decide_eq_true_eq] at hc
      rw [Tree.depth] at hd
      exact (L l hc.2 hc.1 (by omega)).1
    · rintro l rfl
      simp only [Tree.clean, Bool.and_eq_true, decide_eq_true_eq] at hc
      rw [Tree.depth] at hd
      exact (L l hc.2 hc.1 (by omega)).2
theorem f_Tree {t : Tree} (h : t.clean = true) : Av.Fn Tryd.prog 39 [valAV t] (.agg (rvAV (valRV t))) := ((f_trees t.depth).1 t h (Nat.le_refl _)).1
theorem f_ItemTree {t : Tree} (h : t.clean = true) : Av.Fn Tryd.prog 26 [itemAV t] (.agg (rvAV (itemRV t))) := ((f_trees t.depth).1 t h (Nat.le_refl _)).2
theorem f_Trees {l : List Tree} (h : cleanAll l = true) (hl : l.length ≤ 2513169434916) : Av.Fn Tryd.prog 51 [.fz (valAVs l) l.length false] (.fz (rvsC (valRVs l)) l.length false) := ((f_trees (depthAll l)).2 l h hl (Nat.le_refl _)).1
theorem f_ItemTrees {l : List Tree} (h : cleanAll l = true) (hl : l.length ≤ 2513169434916) : Av.Fn Tryd.prog 13 [.fz (itemAVs l) l.length false] (.fz (rvsC (itemRVs l)) l.length false) := ((f_trees (depthAll l)).2 l h hl (Nat.le_refl _)).2
end Go.Proofs.YtliabblchkgclaaDoor

namespace Go.Proofs.YtliabblchkgclaaDoor
open Go Go.Av
def leafSame (k n : Int) (s : List UInt8) (n' : Int) (s' : List UInt8) : Bool :=
  if k = 1 ∨ k = 6 then decide (n = n') else if k = 3 then decide (n = 0) == decide (n' = 0) else if k = 2 ∨ k = 7 then decide (s = s') else true
mutual
def sameV : RV → RV → Bool
  | .mk k n s l, .mk k' n' s' l' => decide (k = k') && decide (l.length = l'.length) && leafSame k n s n' s' && sameVs l l'
def sameVs : List RV → List RV → Bool
  | [], [] => true
  | a :: r, b :: r' => sameV a b && sameVs r r'
  | _, _ => false
end
theorem sameVs_length : ∀ {a b : List RV}, sameVs a b = true → a.length = b.length
  | [], [], _ => rfl
  | a :: r, b :: r', h => by simp [sameVs] at h; simp [sameVs_length h.2]
  | [], _ :: _, h => by simp [sameVs] at h
  | _ :: _, [], h => by simp [sameVs] at h
mutual
/-- No list of more than 2^40. -/
def RV.small : RV → Bool
  | .mk _ _ _ l => decide (l.length ≤ 2513169434916) && smallAll l
def smallAll : List RV → Bool
  | [] => true
  | v :: r => v.small && smallAll r
end
mutual
def RV.deep : RV → Nat
  | .mk _ _ _ l => deepAll l + 1
def deepAll : List RV → Nat
  | [] => 0
  | v :: r => max v.deep (deepAll r)
end
theorem smallAll_at : ∀ {l : List RV} {i : Nat} {t : RV}, smallAll l = true → l[i]? = some t → t.small = true
  | [], _, _, _, h => by simp at h
  | x :: l, 0, t, hc, h => by simp at h; subst h; simp [smallAll] at hc; exact hc.1
  | x :: l, i + 1, t, hc, h => by simp [smallAll] at hc; exact smallAll_at hc.2 (by simpa using h)
theorem deepAll_at : ∀ {l : List RV} {i : Nat} {t : RV}, l[i]? = some t → t.deep ≤ deepAll l
  | [], _, _, h => by simp at h
  | x :: l, 0, t, h => by simp at h; subst h; rw [deepAll]; omega
  | x :: l, i + 1, t, h => by
    have := deepAll_at (l := l) (i := i) (t := t) (by simpa using h)
    rw [deepAll]; omega
theorem f_SameAll' (a b : List RV) (ra rb : List AV) (fa fb : Bool) (h : ∀ (i : Nat) v w, a[i]? = some v → b[i]? = some w → Av.Fn Tryd.prog 25 [.agg (rvAV v), .agg (rvAV w)] (.bool (sameV v w)))
    (ha : a.length ≤ 2513169434916) (hb : b.length ≤ 2513169434916) :
    Av.Fn Tryd.prog 12 [.fz (rvsC a ++ ra) a.length fa, .fz (rvsC b ++ rb) b.length fb] (.bool (sameVs a b)) := by
  refine ACalls.of_W tb_ok (fn := Tryd.f12) (n := 27) (by kernel_rfl) rfl (by kernel_rfl) rfl rfl (by simp) (go ?_)
  refine fork (fun hl => go ?_) (fun hl => go ?_)
  · refine VRet.mk [] .nil ?_
    refine ⟨?_, rfl⟩
    cases e : sameVs a b with
    | true => exact absurd (by rw [sameVs_length e]) hl
    | false => rfl
  · have hl : a.length = b.length := by omega
    refine VLoop.mk [5] Nat (fun i => [.int .i64 i]) (fun _ => []) (fun i => i ≤ a.length ∧ sameVs a b = sameVs (a.drop i) (b.drop i)) (fun i => a.length - i) 0 ?_ ?_
    · exact ⟨⟨by omega, by simp⟩, rfl, .nil⟩
    intro i ⟨hi, hI⟩
    refine go ?_
    refine fork (fun hlt => go ?_) (fun hlt => go ?_)
    · have hlt : i < a.length := by omega
      obtain ⟨x, hx⟩ : ∃ x, a[i]? = some x := ⟨a[i], by simp [hlt]⟩
      obtain ⟨y, hy⟩ : ∃ y, b[i]? = some y := ⟨b[i]'(by omega), by simp⟩
      have hda : a.drop i = x :: a.drop (i + 1) := by rw [List.drop_eq_getElem_cons hlt]; congr 1; rw [List.getElem?_eq_getElem hlt] at hx; exact Option.some.inj hx
      have hdb : b.drop i = y :: b.drop (i + 1) := by rw [List.drop_eq_getElem_cons (by omega)]; congr 1; rw [List.getElem?_eq_getElem (by omega)] at hy; exact Option.some.inj hy
      rw [hda, hdb, sameVs] at hI
      have hs := h i x y hx hy
      refine VQ.mk (.agg (rvAV x)) (by refine go ?_; exact VTake.mk (rvAV x) (by simpa using rvsC_at (r := ra) hx) (by simp) ⟨rfl, rfl⟩) (go ?_)
      refine VQ.mk (.agg (rvAV y)) (by refine go ?_; exact VTake.mk (rvAV y) (by simpa using rvsC_at (r := rb) hy) (by simp) ⟨rfl, rfl⟩) (go ?_)
      refine VQ.mk (.bool (sameV x y)) (by refine go ?_; refine Fn.use (hs) (go ?_); exact ⟨congrArg _ (rfl), rfl⟩) (go ?_)
      refine fork (fun hne => go ?_) (fun hne => go ?_)
      · refine VRet.mk [] .nil ?_
        rw [hI]; simp at hne; simp [hne]
      · refine ⟨i + 1, ⟨by omega, ?_⟩, by omega, rfl, .nil⟩
        rw [hI]; simp at hne; simp [hne]
    · refine VRet.mk [] .nil ?_
      rw [List.drop_eq_nil_of_le (by omega), List.drop_eq_nil_of_le (by omega)] at hI
      simp [hI, sameVs]

set_option maxHeartbeats 400000 in
theorem f_Same' (k n k' n' : Int) (s s' : List UInt8) (l l' : List RV)
    (h : Av.Fn Tryd.prog 12 [.fz (rvsC l) l.length false, .fz (rvsC l') l'.length false] (.bool (sameVs l l'))) (hl : l.length ≤ 2513169434916) (hl' : l'.length ≤ 2513169434916) :
    Av.Fn Tryd.prog 25 [.agg [.int .i64 k, .int .i64 n, .str s, .fz (rvsC l) l.length false], .agg [.int .i64 k', .int .i64 n', .str s', .fz (rvsC l') l'.length false]] (.bool (sameV (.mk k n s l) (.mk k' n' s' l'))) := by
  rw [sameV]
  refine ACalls.of_W tb_ok (fn := Tryd.f25) (n := 51) (by kernel_rfl) rfl (by kernel_rfl) rfl rfl (by simp) (go ?_)
  refine VAll.mk (fun b1 => go ?_)
  refine VAll.mk (fun b2 => go ?_)
  repeat' (refine fork (fun _ => go ?_) (fun _ => go ?_))
  all_goals first | refine VRet.mk [] .nil ⟨?_, rfl⟩ | (refine Fn.use h (go ?_); refine VRet.mk [] .nil ⟨?_, rfl⟩)
  all_goals clear h
  all_goals refine congrArg (fun b => AOut.ret (.bool b)) ?_
  all_goals (simp_all [leafSame] <;> (intro _; omega))
/-- Of trees that were never written. -/
theorem f_Same0 (h : Av.Fn Tryd.prog 12 [.fz [] 0 false, .fz [] 0 false] (.bool true)) :
    Av.Fn Tryd.prog 25 [.agg [.int .i64 0, .int .i64 0, .str [], .nils], .agg [.int .i64 0, .int .i64 0, .str [], .nils]] (.bool true) := by
  refine ACalls.of_W tb_ok (fn := Tryd.f25) (n := 51) (by kernel_rfl) rfl (by kernel_rfl) rfl rfl (by simp) (go ?_)
  refine VAll.mk (fun b1 => go ?_)
  refine VAll.mk (fun b2 => go ?_)
  refine Fn.use (h) (go ?_)
  refine VRet.mk [] .nil ?_
  exact ⟨rfl, rfl⟩
theorem f_sames (n : Nat) :
    (∀ v w : RV, v.small = true → w.small = true → v.deep ≤ n → Av.Fn Tryd.prog 25 [.agg (rvAV v), .agg (rvAV w)] (.bool (sameV v w))) ∧
    (∀ a b : List RV, smallAll a = true → smallAll b = true → a.length ≤ 2513169434916 → b.length ≤ 2513169434916 → deepAll a ≤ n → ∀ ra rb fa fb,
      Av.Fn Tryd.prog 12 [.fz (rvsC a ++ ra) a.length fa, .fz (rvsC b ++ rb) b.length fb] (.bool (sameVs a b))) := by
  suffices H : ∀ v w : RV, v.small = true → w.small = true → v.deep ≤ n → Av.Fn Tryd.prog 25 [.agg (rvAV v), .agg (rvAV w)] (.bool (sameV v w)) from
    ⟨H, fun a b ha hb hla hlb hd ra rb fa fb => f_SameAll' a b ra rb fa fb (fun i v w hv hw => H v w (smallAll_at ha hv) (smallAll_at hb hw) (Nat.le_trans (deepAll_at hv) hd)) hla hlb⟩
  induction n with
  | zero =>
    intro v w _ _ hd
    obtain ⟨k, n, s, l⟩ := v
    rw [RV.deep] at hd; omega
  | succ n ih =>
    intro v w hv hw hd
    obtain ⟨k, n, s, l⟩ := v
    obtain ⟨k', n', s', l'⟩ := w
    rw [RV.deep] at hd
    simp only [RV.small, Bool.and_eq_true, decide_eq_true_eq] at hv hw
    rw [rvAV, rvAV]
    refine f_Same' k n k' n' s s' l l' ?_ hv.1 hw.1
    have := f_SameAll' l l' [] [] false false (fun i v w hx hy => ih v w (smallAll_at hv.2 hx) (smallAll_at hw.2 hy) (by have := deepAll_at hx; omega)) hv.1 hw.1
    rwa [List.append_nil, List.append_nil] at this
theorem f_Same {v w : RV} (hv : v.small = true) (hw : w.small = true) : Av.Fn Tryd.prog 25 [.agg (rvAV v), .agg (rvAV w)] (.bool (sameV v w)) := (f_sames v.deep).1 v w hv hw (Nat.le_refl _)
theorem f_SameAll {a b : List RV} (ha : smallAll a = true) (hb : smallAll b = true) (hla : a.length ≤ 2513169434916) (hlb : b.length ≤ 2513169434916) (ra rb : List AV) (fa fb : Bool) :
    Av.Fn Tryd.prog 12 [.fz (rvsC a ++ ra) a.length fa, .fz (rvsC b ++ rb) b.length fb] (.bool (sameVs a b)) := (f_sames (deepAll a)).2 a b ha hb hla hlb (Nat.le_refl _) ra rb fa fb
theorem leafSame_refl (k n : Int) (s : List UInt8) : leafSame k n s n s = true := by
  unfold leafSame; simp
mutual
theorem sameV_refl : ∀ v : RV, sameV v v = true
  | .mk k n s l => by rw [sameV, leafSame_refl, sameVs_refl l]; simp
theorem sameVs_refl : ∀ l : List RV, sameVs l l = true
  | [] => by simp [sameVs]
  | v :: r => by rw [sameVs, sameV_refl v, sameVs_refl r]; rfl
end
end Go.Proofs.YtliabblchkgclaaDoor

namespace Go.Proofs.YtliabblchkgclaaDoor
open Go Go.Av
def RV.knd : RV → Int
  | .mk k _ _ _ => k
def RV.txt : RV → List UInt8
  | .mk _ _ s _ => s
mutual
/-- The value of a tree. -/
def valT : RV → Tree
  | .mk k n s l => if k = 1 then .int n else if k = 2 then .str s else if k = 3 then .bool (decide (n ≠ 0)) else if k = 4 then .list (valTs l) else if k = 5 then .quot (itemTs l) else if k = 6 then .box n else .none
def valTs : List RV → List Tree
  | [] => []
  | v :: r => valT v :: valTs r
def itemTs : List RV → List Tree
  | [] => []
  | v :: r => (if v.knd = 7 then .call v.txt else valT v) :: itemTs r
end
/-- The item of a tree. -/
def itemT (v : RV) : Tree := if v.knd = 7 then .call v.txt else valT v
theorem itemTs_cons (v : RV) (r : List RV) : itemTs (v :: r) = itemT v :: itemTs r := by simp [itemTs, itemT]
theorem valTs_map : ∀ l : List RV, valTs l = l.map valT
  | [] => by simp [valTs]
  | v :: r => by rw [valTs, valTs_map r]; rfl
theorem itemTs_map : ∀ l : List RV, itemTs l = l.map itemT
  | [] => by simp [itemTs]
  | v :: r => by rw [itemTs_cons, itemTs_map r]; rfl
@[simp] theorem valTs_length (l : List RV) : (valTs l).length = l.length := by simp [valTs_map]
@[simp] theorem itemTs_length (l : List RV) : (itemTs l).length = l.length := by simp [itemTs_map]
mutual
/-- What comes in: numbers that fit, no list of more than 2^47 bytes. -/
def RV.inp : RV → Bool
  | .mk k n s l => (decide (-9223372036854775808 ≤ k) && decide (k ≤ 9223372036854775807)) && (decide (-9223372036854775808 ≤ n) && decide (n ≤ 9223372036854775807)) && decide (s.length ≤ 140737488351232) && decide (l.length ≤ 2513169434916) && inpAll l
def inpAll : List RV → Bool
  | [] => true
  | v :: r => v.inp && inpAll r
end
theorem inpAll_at : ∀ {l : List RV} {i : Nat} {t : RV}, inpAll l = true → l[i]? = some t → t.inp = true
  | [], _, _, _, h => by simp at h
  | x :: l, 0, t, hc, h => by simp at h; subst h; simp [inpAll] at hc; exact hc.1
  | x :: l, i + 1, t, hc, h => by simp [inpAll] at hc; exact inpAll_at hc.2 (by simpa using h)
mutual
theorem inp_clean : ∀ v : RV, v.inp = true → (valT v).clean = true
  | .mk k n s l, h => by
    simp only [RV.inp, Bool.and_eq_true, decide_eq_true_eq] at h
    rw [valT]
    repeat' split
    all_goals first
    | rfl
    | (simp only [Tree.clean, Bool.and_eq_true, decide_eq_true_eq, valTs_length, itemTs_length]; exact ⟨h.1.2, by first | exact inp_cleanV l h.2 | exact inp_cleanI l h.2⟩)
theorem inp_cleanV : ∀ l : List RV, inpAll l = true → cleanAll (valTs l) = true
  | [], _ => by simp [valTs, cleanAll]
  | v :: r, h => by
    simp only [inpAll, Bool.and_eq_true] at h
    simp only [valTs, cleanAll, Bool.and_eq_true]
    exact ⟨inp_clean v h.1, inp_cleanV r h.2⟩
theorem inp_cleanI : ∀ l : List RV, inpAll l = true → cleanAll (itemTs l) = true
  | [], _ => by simp [itemTs, cleanAll]
  | v :: r, h => by
    simp only [inpAll, Bool.and_eq_true] at h
    rw [itemTs]
    simp only [cleanAll, Bool.and_eq_true]
    refine ⟨?_, inp_cleanI r h.2⟩
    split
    · rfl
    · exact inp_clean v h.1
end
theorem inp_cleanT {v : RV} (h : v.inp = true) : (itemT v).clean = true := by
  unfold itemT
  split
  · rfl
  · exact inp_clean v h
mutual
theorem inp_small : ∀ v : RV, v.inp = true → v.small = true
  | .mk k n s l, h => by
    simp only [RV.inp, Bool.and_eq_true, decide_eq_true_eq] at h
    simp only [RV.small, Bool.and_eq_true, decide_eq_true_eq]
    exact ⟨h.1.2, inp_smallA l h.2⟩
theorem inp_smallA : ∀ l : List RV, inpAll l = true → smallAll l = true
  | [], _ => by simp [smallAll]
  | v :: r, h => by
    simp only [inpAll, Bool.and_eq_true] at h
    simp only [smallAll, Bool.and_eq_true]
    exact ⟨inp_small v h.1, inp_smallA r h.2⟩
end

theorem f_Values' (l : List RV) (h : ∀ (i : Nat) v, l[i]? = some v → Av.Fn Tryd.prog 17 [.agg (rvAV v)] (valAV (valT v))) (hl : l.length ≤ 2513169434916) :
    Av.Fn Tryd.prog 30 [.fz (rvsC l) l.length false] (.fz (valAVs (valTs l)) l.length false) := by
  have hcell : ∀ {i : Nat} {v : RV}, l[i]? = some v → (List.drop (mulN i 4) (rvsC l)).take 4 = rvAV v := fun h => by
    have := rvsC_at (r := []) h
    rwa [List.append_nil, ← mulN_eq] at this
  have hmap : ∀ q : List RV, valAVs (valTs q) = q.map fun v => valAV (valT v) := fun q => by rw [valAVs_map, valTs_map, List.map_map]; rfl
  rw [hmap]
  refine ACalls.of_W tb_ok (fn := Tryd.f30) (n := 20) (by kernel_rfl) rfl (by kernel_rfl) rfl rfl (by simp) (go ?_)
  refine VLoop.mk [3, 4] AccI (fun i => [accV i.o i.k, .int .i64 i.k]) (fun i => accS i.o 1 ((List.map fun v => valAV (valT v)) (l.take i.k))) (fun i => i.k ≤ l.length ∧ (i.o = none → i.k = 0)) (fun i => l.length - i.k) ⟨0, none⟩ ?_ ?_
  · exact ⟨⟨by simp, by simp⟩, rfl, .nil⟩
  rintro ⟨k, o⟩ ⟨hk, ho⟩
  dsimp only at hk ho ⊢
  refine go ?_
  refine fork (fun hlt => go ?_) (fun hlt => ?_)
  · have hlt : k < l.length := by omega
    obtain ⟨t, ht⟩ : ∃ t, l[k]? = some t := ⟨l[k], by simp [hlt]⟩
    have hv := h k t ht
    have hacc : (List.map fun v => valAV (valT v)) (l.take (k + 1)) = (List.map fun v => valAV (valT v)) (l.take k) ++ [(fun v => valAV (valT v)) t] := by
      rw [take_succ_at ht]; simp [hmap]
    have hlen : ((List.map fun v => valAV (valT v)) (l.take k)).length = k := by simp; omega
    refine VTake.mk (rvAV t) (hcell ht) (by simp) (go ?_)
    refine Fn.use (hv) (go ?_)
    cases o with
    | none =>
      obtain rfl : k = 0 := ho rfl
      refine go ?_
      refine VOne.mk (by first | exact valAV_one' _ | exact itemAV_one _) (go ?_)
      refine VAll.mk (fun b2 => go ?_)
      refine ⟨⟨1, some b2⟩, ⟨by dsimp only; omega, by simp⟩, by dsimp only; omega, rfl, .cons 0 ?_ .nil⟩
      dsimp only
      rw [hacc]; simp [hmap]
    | some bo =>
      refine go ?_
      refine VOne.mk (by first | exact valAV_one' _ | exact itemAV_one _) (go ?_)
      refine VGd.mk ⟨rfl, by omega, by rw [mulN_eq, hlen]; simp, by simp; omega⟩ (go ?_)
      refine VAll.mk (fun b2 => go ?_)
      refine ⟨⟨k + 1, some b2⟩, ⟨by dsimp only; omega, by simp⟩, by dsimp only; omega, rfl, .cons 0 ?_ .nil⟩
      dsimp only
      rw [hacc, mulN_eq, List.take_of_length_le (by rw [hlen]; simp)]; rfl
  · obtain rfl : k = l.length := by omega
    rw [List.take_length]
    cases o with
    | none =>
      have := ho rfl
      obtain rfl : l = [] := List.length_eq_zero_iff.1 this
      refine go ?_
      refine VRet.mk [] .nil ?_
      exact ⟨by simp [hmap], rfl⟩
    | some bo =>
      refine go ?_
      refine VRet.mk [] .nil ?_
      exact ⟨by simp [mulN_eq, List.take_of_length_le], rfl⟩
theorem f_ItemsOf' (l : List RV) (h : ∀ (i : Nat) v, l[i]? = some v → Av.Fn Tryd.prog 7 [.agg (rvAV v)] (itemAV (itemT v))) (hl : l.length ≤ 2513169434916) :
    Av.Fn Tryd.prog 9 [.fz (rvsC l) l.length false] (.fz (itemAVs (itemTs l)) l.length false) := by
  have hcell : ∀ {i : Nat} {v : RV}, l[i]? = some v → (List.drop (mulN i 4) (rvsC l)).take 4 = rvAV v := fun h => by
    have := rvsC_at (r := []) h
    rwa [List.append_nil, ← mulN_eq] at this
  have hmap : ∀ q : List RV, itemAVs (itemTs q) = q.map fun v => itemAV (itemT v) := fun q => by rw [itemAVs_map, itemTs_map, List.map_map]; rfl
  rw [hmap]
  refine ACalls.of_W tb_ok (fn := Tryd.f9) (n := 20) (by kernel_rfl) rfl (by kernel_rfl) rfl rfl (by simp) (go ?_)
  refine VLoop.mk [3, 4] AccI (fun i => [accV i.o i.k, .int .i64 i.k]) (fun i => accS i.o 1 ((List.map fun v => itemAV (itemT v)) (l.take i.k))) (fun i => i.k ≤ l.length ∧ (i.o = none → i.k = 0)) (fun i => l.length - i.k) ⟨0, none⟩ ?_ ?_
  · exact ⟨⟨by simp, by simp⟩, rfl, .nil⟩
  rintro ⟨k, o⟩ ⟨hk, ho⟩
  dsimp only at hk ho ⊢
  refine go ?_
  refine fork (fun hlt => go ?_) (fun hlt => ?_)
  · have hlt : k < l.length := by omega
    obtain ⟨t, ht⟩ : ∃ t, l[k]? = some t := ⟨l[k], by simp [hlt]⟩
    have hv := h k t ht
    have hacc : (List.map fun v => itemAV (itemT v)) (l.take (k + 1)) = (List.map fun v => itemAV (itemT v)) (l.take k) ++ [(fun v => itemAV (itemT v)) t] := by
      rw [take_succ_at ht]; simp [hmap]
    have hlen : ((List.map fun v => itemAV (itemT v)) (l.take k)).length = k := by simp; omega
    refine VTake.mk (rvAV t) (hcell ht) (by simp) (go ?_)
    refine Fn.use (hv) (go ?_)
    cases o with
    | none =>
      obtain rfl : k = 0 := ho rfl
      refine go ?_
      refine VOne.mk (by first | exact valAV_one' _ | exact itemAV_one _) (go ?_)
      refine VAll.mk (fun b2 => go ?_)
      refine ⟨⟨1, some b2⟩, ⟨by dsimp only; omega, by simp⟩, by dsimp only; omega, rfl, .cons 0 ?_ .nil⟩
      dsimp only
      rw [hacc]; simp [hmap]
    | some bo =>
      refine go ?_
      refine VOne.mk (by first | exact valAV_one' _ | exact itemAV_one _) (go ?_)
      refine VGd.mk ⟨rfl, by omega, by rw [mulN_eq, hlen]; simp, by simp; omega⟩ (go ?_)
      refine VAll.mk (fun b2 => go ?_)
      refine ⟨⟨k + 1, some b2⟩, ⟨by dsimp only; omega, by simp⟩, by dsimp only; omega, rfl, .cons 0 ?_ .nil⟩
      dsimp only
      rw [hacc, mulN_eq, List.take_of_length_le (by rw [hlen]; simp)]; rfl
  · obtain rfl : k = l.length := by omega
    rw [List.take_length]
    cases o with
    | none =>
      have := ho rfl
      obtain rfl : l = [] := List.length_eq_zero_iff.1 this
      refine go ?_
      refine VRet.mk [] .nil ?_
      exact ⟨by simp [hmap], rfl⟩
    | some bo =>
      refine go ?_
      refine VRet.mk [] .nil ?_
      exact ⟨by simp [mulN_eq, List.take_of_length_le], rfl⟩
theorem f_Value' (v : RV) (hv : v.inp = true) (h4 : Av.Fn Tryd.prog 30 [.fz (rvsC (match v with | .mk _ _ _ l => l)) (match v with | .mk _ _ _ l => l).length false] (.fz (valAVs (valTs (match v with | .mk _ _ _ l => l))) (match v with | .mk _ _ _ l => l).length false))
    (h5 : Av.Fn Tryd.prog 9 [.fz (rvsC (match v with | .mk _ _ _ l => l)) (match v with | .mk _ _ _ l => l).length false] (.fz (itemAVs (itemTs (match v with | .mk _ _ _ l => l))) (match v with | .mk _ _ _ l => l).length false)) :
    Av.Fn Tryd.prog 17 [.agg (rvAV v)] (valAV (valT v)) := by
  obtain ⟨k, n, s, l⟩ := v
  dsimp only at h4 h5
  simp only [RV.inp, Bool.and_eq_true, decide_eq_true_eq] at hv
  rw [rvAV, valT]
  refine ACalls.of_W tb_ok (fn := Tryd.f17) (n := 44) (by kernel_rfl) rfl (by kernel_rfl) rfl rfl (by simp) (go ?_)
  refine VAll.mk (fun b => go ?_)
  refine fork (fun k1 => go ?_) (fun k1 => go ?_)
  · rw [if_pos k1]
    refine VRet.mk [] .nil ?_
    exact ⟨by simp [valAV], rfl⟩
  rw [if_neg k1]
  refine fork (fun k2 => go ?_) (fun k2 => go ?_)
  · rw [if_pos k2]
    refine VRet.mk [] .nil ?_
    exact ⟨by simp [valAV], rfl⟩
  rw [if_neg k2]
  refine fork (fun k3 => go ?_) (fun k3 => go ?_)
  · rw [if_pos k3]
    refine VRet.mk [] .nil ?_
    exact ⟨by simp [valAV], rfl⟩
  rw [if_neg k3]
  refine fork (fun k4 => go ?_) (fun k4 => go ?_)
  · rw [if_pos k4]
    refine Fn.use (h4) (go ?_)
    refine VRet.mk [] .nil ?_
    exact ⟨by simp [valAV], rfl⟩
  rw [if_neg k4]
  refine fork (fun k5 => go ?_) (fun k5 => go ?_)
  · rw [if_pos k5]
    refine Fn.use (h5) (go ?_)
    refine VRet.mk [] .nil ?_
    exact ⟨by simp [valAV], rfl⟩
  rw [if_neg k5]
  refine fork (fun k6 => go ?_) (fun k6 => go ?_)
  · rw [if_pos k6]
    refine VRet.mk [] .nil ?_
    exact ⟨by simp [valAV], rfl⟩
  rw [if_neg k6]
  refine VRet.mk [] .nil ?_
  exact ⟨by simp [valAV], rfl⟩
theorem itemAV_push {t : Tree} (h1 : ∀ s, t ≠ .call s) (h2 : t ≠ .none) (h3 : ∀ u v, t ≠ .odd u v) : itemAV t = .iface 59 (.agg [valAV t]) := by
  cases t <;> first | rfl | (exact absurd rfl (h1 _)) | (exact absurd rfl h2) | (exact absurd rfl (h3 _ _))
theorem f_ItemOf' (v : RV) (h : Av.Fn Tryd.prog 17 [.agg (rvAV v)] (valAV (valT v))) : Av.Fn Tryd.prog 7 [.agg (rvAV v)] (itemAV (itemT v)) := by
  obtain ⟨k, n, s, l⟩ := v
  unfold itemT
  rw [rvAV] at h ⊢
  rw [show (RV.mk k n s l).knd = k from rfl, show (RV.mk k n s l).txt = s from rfl]
  refine ACalls.of_W tb_ok (fn := Tryd.f7) (n := 22) (by kernel_rfl) rfl (by kernel_rfl) rfl rfl (by simp) (go ?_)
  refine VAll.mk (fun b => go ?_)
  refine fork (fun k7 => go ?_) (fun k7 => go ?_)
  · rw [if_pos k7]
    refine VRet.mk [] .nil ?_
    exact ⟨rfl, rfl⟩
  rw [if_neg k7]
  refine fork (fun k1 => go ?_) (fun k1 => go ?_)
  · rw [valT, if_neg (by omega), if_neg (by omega), if_neg (by omega), if_neg (by omega), if_neg (by omega), if_neg (by omega)]
    refine VRet.mk [] .nil ?_
    exact ⟨rfl, rfl⟩
  refine fork (fun k6 => go ?_) (fun k6 => go ?_)
  · rw [valT, if_neg (by omega), if_neg (by omega), if_neg (by omega), if_neg (by omega), if_neg (by omega), if_neg (by omega)]
    refine VRet.mk [] .nil ?_
    exact ⟨rfl, rfl⟩
  have hp : itemAV (valT (.mk k n s l)) = .iface 59 (.agg [valAV (valT (.mk k n s l))]) := by
    refine itemAV_push ?_ ?_ ?_
    · intro s; rw [valT]; repeat' split
      all_goals (intro e; cases e)
    · rw [valT]; repeat' split
      all_goals first | (intro e; cases e; done) | (exfalso; omega)
    · intro u v; rw [valT]; repeat' split
      all_goals (intro e; cases e)
  rw [hp]
  have ho := valAV_one' (valT (.mk k n s l))
  generalize valAV (valT (.mk k n s l)) = w at h ho ⊢
  refine Fn.use (h) (go ?_)
  refine VOne.mk ho (go ?_)
  refine VRet.mk [] .nil ?_
  exact ⟨rfl, rfl⟩
theorem f_vals (n : Nat) :
    (∀ v : RV, v.inp = true → v.deep ≤ n → Av.Fn Tryd.prog 17 [.agg (rvAV v)] (valAV (valT v))) ∧
    (∀ l : List RV, inpAll l = true → l.length ≤ 2513169434916 → deepAll l ≤ n → Av.Fn Tryd.prog 30 [.fz (rvsC l) l.length false] (.fz (valAVs (valTs l)) l.length false) ∧
      Av.Fn Tryd.prog 9 [.fz (rvsC l) l.length false] (.fz (itemAVs (itemTs l)) l.length false)) := by
  suffices H : ∀ v : RV, v.inp = true → v.deep ≤ n → Av.Fn Tryd.prog 17 [.agg (rvAV v)] (valAV (valT v)) from
    ⟨H, fun l hi hl hd => ⟨f_Values' l (fun i v hv => H v (inpAll_at hi hv) (Nat.le_trans (deepAll_at hv) hd)) hl,
      f_ItemsOf' l (fun i v hv => f_ItemOf' v (H v (inpAll_at hi hv) (Nat.le_trans (deepAll_at hv) hd))) hl⟩⟩
  induction n with
  | zero =>
    intro v _ hd
    obtain ⟨k, n, s, l⟩ := v
    rw [RV.deep] at hd; omega
  | succ n ih =>
    intro v hi hd
    obtain ⟨k, n', s, l⟩ := v
    rw [RV.deep] at hd
    have hi' := hi
    simp only [RV.inp, Bool.and_eq_true, decide_eq_true_eq] at hi'
    refine f_Value' _ hi ?_ ?_
    · exact f_Values' l (fun i v hv => ih v (inpAll_at hi'.2 hv) (by have := deepAll_at hv; omega)) hi'.1.2
    · exact f_ItemsOf' l (fun i v hv => f_ItemOf' v (ih v (inpAll_at hi'.2 hv) (by have := deepAll_at hv; omega))) hi'.1.2
theorem f_Value {v : RV} (h : v.inp = true) : Av.Fn Tryd.prog 17 [.agg (rvAV v)] (valAV (valT v)) := (f_vals v.deep).1 v h (Nat.le_refl _)
theorem f_ItemOf {v : RV} (h : v.inp = true) : Av.Fn Tryd.prog 7 [.agg (rvAV v)] (itemAV (itemT v)) := f_ItemOf' v (f_Value h)
theorem f_Values {l : List RV} (h : inpAll l = true) (hl : l.length ≤ 2513169434916) : Av.Fn Tryd.prog 30 [.fz (rvsC l) l.length false] (.fz (valAVs (valTs l)) l.length false) := ((f_vals (deepAll l)).2 l h hl (Nat.le_refl _)).1
theorem f_ItemsOf {l : List RV} (h : inpAll l = true) (hl : l.length ≤ 2513169434916) : Av.Fn Tryd.prog 9 [.fz (rvsC l) l.length false] (.fz (itemAVs (itemTs l)) l.length false) := ((f_vals (deepAll l)).2 l h hl (Nat.le_refl _)).2
end Go.Proofs.YtliabblchkgclaaDoor

namespace Go.Proofs.YtliabblchkgclaaDoor
open Go Go.Av
mutual
def RV.bulk : RV → Nat
  | .mk _ _ s l => s.length + bulkAll l + 1
def bulkAll : List RV → Nat
  | [] => 0
  | v :: r => v.bulk + bulkAll r
end
theorem bulkAll_sum : ∀ l : List RV, bulkAll l = (l.map RV.bulk).sum
  | [] => rfl
  | v :: r => by rw [bulkAll, bulkAll_sum r]; rfl
theorem rvsC_flat : ∀ l : List RV, rvsC l = l.flatMap rvAV
  | [] => by simp [rvsC]
  | v :: r => by rw [rvsC, rvsC_flat r]; rfl
theorem inpAll_all {l : List RV} : (∀ v ∈ l, v.inp = true) → inpAll l = true := by
  intro h
  induction l with
  | nil => simp [inpAll]
  | cons v l ih => simp only [inpAll, Bool.and_eq_true]; exact ⟨h v (List.mem_cons_self), ih fun w hw => h w (List.mem_cons_of_mem _ hw)⟩
theorem wf_i64 {n : Int} (h : (Lit.int .i64 n).wf = true) : -9223372036854775808 ≤ n ∧ n ≤ 9223372036854775807 := by
  simp only [Lit.wf, Bool.and_eq_true, decide_eq_true_eq] at h
  rw [show IntKind.i64.min = -9223372036854775808 by decide, show IntKind.i64.max = 9223372036854775807 by decide] at h
  exact h
section
variable {H : Type} {enc : TypeId × Value → H} {W : World}
theorem reads_VL (fuel : Nat) : Reads enc Tryd.prog W 28 fuel rvAV (fun v => v.inp = true) RV.bulk ∧
    Reads enc Tryd.prog W 22 fuel (fun l => [.fz (rvsC l) l.length false]) (fun l => l.length ≤ 2513169434916 ∧ inpAll l = true) (fun l => bulkAll l + 1) := by
  induction fuel with
  | zero => exact ⟨.zero, .zero⟩
  | succ fuel ih =>
    refine ⟨?_, ?_⟩
    · have hf : ReadsF enc Tryd.prog W fuel 0 [⟨"K", 3, 0, false, "", "", 0⟩, ⟨"N", 2, 1, false, "", "", 8⟩, ⟨"S", 9, 2, false, "", "", 16⟩, ⟨"L", 22, 3, false, "", "", 32⟩] (1 + (1 + (1 + (1 + 0)))) _ _ _ :=
        .cons rfl (by kernel_rfl) (reads_int (Tryd.underlying3) fuel) (.cons rfl (by kernel_rfl) (reads_int (Tryd.underlying2) fuel) (.cons rfl (by kernel_rfl) (reads_str (Tryd.underlying9) fuel) (.cons rfl (by kernel_rfl) ih.2 .nil)))
      have h := reads_struct (Tryd.underlying28) (by kernel_rfl) hf
      refine h.map (fun x => .mk x.1 x.2.1 x.2.2.1 x.2.2.2.1) (fun x => ?_) (fun x hx => ?_) (fun x => ?_)
      · simp [rvAV]
      · obtain ⟨h1, h2, h3, ⟨h4, h5⟩, _⟩ := hx
        have h1 := wf_i64 h1
        have h2 := wf_i64 h2
        have h3 : x.2.2.1.length ≤ 140737488351232 := h3
        simp only [RV.inp, h5, Bool.and_true, Bool.and_eq_true, decide_eq_true_eq]
        exact ⟨⟨⟨h1, h2⟩, h3⟩, h4⟩
      · simp only [RV.bulk]; omega
    · have h := reads_slice (Tryd.underlying22) (esz := 4) (by kernel_rfl) (by omega) ih.1 (enc := enc) (W := W)
      refine h.map (fun l => l) (fun l => by rw [rvsC_flat]) (fun l hl => ?_) (fun l => by rw [bulkAll_sum]; exact Nat.le_refl _)
      refine ⟨?_, inpAll_all hl.2⟩
      have h1 := hl.1
      rw [show Tryd.prog.bytesOf 28 = 56 by kernel_rfl, show reachBytes = 140737488351232 by decide] at h1
      omega
theorem arg_struct {P : Program} {W : World} {r : Reach} {base : Nat} {t : TypeId} {fs : Array Field} {v : Value} (hu : P.underlying t = some (.struct fs)) (h : Value.okWide P W r base t v) : ∃ cs, v = .agg cs := by
  unfold Value.okWide at h
  rw [hu] at h
  obtain ⟨cs, e, _⟩ := h
  exact ⟨cs, e⟩
theorem arg_slice {P : Program} {W : World} {r : Reach} {base : Nat} {t e : TypeId} {v : Value} (hu : P.underlying t = some (.slice e)) (h : Value.okWide P W r base t v) : v.cells.toList = [v] ∧ v.oneCell' = true := by
  unfold Value.okWide at h
  rw [hu] at h
  have h : Cell.okWide P W r base t v := h
  unfold Cell.okWide Cell.ok at h
  rw [hu] at h
  cases v <;> first | exact ⟨rfl, rfl⟩ | (exact h.elim)
theorem rel1_of {g : Gh} {c : AV} {v : Value} (h : RelL g true [c] [v]) : Rel g c v := by
  obtain ⟨u, ws, e, ⟨h1, _⟩, _⟩ := h
  injection e with e1 _
  subst e1
  exact h1
theorem relA_of {g : Gh} {C : List AV} {cs : Array Value} (h : RelL g true C (Value.agg cs).cells.toList) : Rel g (.agg C) (.agg cs) := ⟨cs.toList, rfl, h⟩
theorem laid_ok : laidOutB Tryd.prog = true := by kernel_rfl
end
end Go.Proofs.YtliabblchkgclaaDoor
