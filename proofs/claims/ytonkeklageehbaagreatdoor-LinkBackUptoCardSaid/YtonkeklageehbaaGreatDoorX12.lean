/- The reference's primitives. Conditions: none. Links, the document's answer: which codes are sound, which are the same. Conditions: as each says. Links, the document's answer: Sound, Same. Conditions: as each says. link.places, op, Ops. Conditions: as each says. Effects: the law EffectKeeps. Conditions: the slices are no longer than memory can hold. The reference's known words as a row's argument. Conditions: as each says. dict: callable, body, fits: the walks. Conditions: as each says. dict.Check: the walk. Conditions: as it says. The reference's Copy. Conditions: no list of more than 2^41. Links, the document's answer: place, ops, Ops, Back; link.Back. Conditions: as each says. The reference's codes as a row's argument. Conditions: as each says. Trees of a bounded bulk are not too large for the document's answer. Conditions: as each says. LinkSame: the walk. Conditions: what is handed in is no larger than the second form lets in. LinkOps: the walk. Conditions: what is handed in is no larger than the second form lets in. What a dictionary that is sound says, and its codes: plain. Conditions: none. -/
import Derived.Test.YtonkeklageehbaaGreatDoorX9
import Derived.Test.YtonkeklageehbaaGreatDoorX11
import Derived.Test.YtonkeklageehbaaGreatDoorX10
import Derived.Test.YtonkeklageehbaaGreatDoorX8
set_option linter.all false
set_option maxRecDepth 20000
namespace Go.Proofs.YtonkeklageehbaaGreatDoor
open Go Go.Av
def movesV (x : Option (Nat × List Nat)) : AV := match x with
  | some x => .tup [.int .i64 (x.1 : Nat), .fz (x.2.map fun k : Nat => .int .i64 (k : Int)) x.2.length false, .bool true]
  | none => .tup [.int .i64 0, .fz [] 0 false, .bool false]
theorem f_moves (s : List UInt8) : Av.Fn Tryz.prog 132 [.str s] (movesV (moveR s)) := by
  unfold moveR
  refine ACalls.of_W tb_ok (fn := Tryz.f132) (n := 26) (by kernel_rfl) rfl (by kernel_rfl) rfl rfl (by simp) (go ?_)
  refine fork (fun h0 => go ?_) (fun h0 => go ?_)
  · have h0 : s = [100, 117, 112] := by simpa using h0
    rw [if_pos h0]
    refine VRet.mk [] .nil ?_
    exact ⟨rfl, rfl⟩
  have h0 : ¬ s = [100, 117, 112] := by simpa using h0
  rw [if_neg h0]
  refine fork (fun h1 => go ?_) (fun h1 => go ?_)
  · have h1 : s = [100, 114, 111, 112] := by simpa using h1
    rw [if_pos h1]
    refine VRet.mk [] .nil ?_
    exact ⟨rfl, rfl⟩
  have h1 : ¬ s = [100, 114, 111, 112] := by simpa using h1
  rw [if_neg h1]
  refine fork (fun h2 => go ?_) (fun h2 => go ?_)
  · have h2 : s = [115, 119, 97, 112] := by simpa using h2
    rw [if_pos h2]
    refine VRet.mk [] .nil ?_
    exact ⟨rfl, rfl⟩
  have h2 : ¬ s = [115, 119, 97, 112] := by simpa using h2
  rw [if_neg h2]
  refine fork (fun h3 => go ?_) (fun h3 => go ?_)
  · have h3 : s = [111, 118, 101, 114] := by simpa using h3
    rw [if_pos h3]
    refine VRet.mk [] .nil ?_
    exact ⟨rfl, rfl⟩
  have h3 : ¬ s = [111, 118, 101, 114] := by simpa using h3
  rw [if_neg h3]
  refine fork (fun h4 => go ?_) (fun h4 => go ?_)
  · have h4 : s = [114, 111, 116] := by simpa using h4
    rw [if_pos h4]
    refine VRet.mk [] .nil ?_
    exact ⟨rfl, rfl⟩
  have h4 : ¬ s = [114, 111, 116] := by simpa using h4
  rw [if_neg h4]
  refine fork (fun h5 => go ?_) (fun h5 => go ?_)
  · have h5 : s = [110, 105, 112] := by simpa using h5
    rw [if_pos h5]
    refine VRet.mk [] .nil ?_
    exact ⟨rfl, rfl⟩
  have h5 : ¬ s = [110, 105, 112] := by simpa using h5
  rw [if_neg h5]
  refine fork (fun h6 => go ?_) (fun h6 => go ?_)
  · have h6 : s = [116, 117, 99, 107] := by simpa using h6
    rw [if_pos h6]
    refine VRet.mk [] .nil ?_
    exact ⟨rfl, rfl⟩
  have h6 : ¬ s = [116, 117, 99, 107] := by simpa using h6
  rw [if_neg h6]
  refine VRet.mk [] .nil ?_
  exact ⟨rfl, rfl⟩
def primW (x : Option (Nat × Nat)) : AV := match x with
  | some x => .tup [.int .i64 (x.1 : Nat), .int .i64 (x.2 : Nat), .bool true]
  | none => .tup [.int .i64 0, .int .i64 0, .bool false]
theorem move_prim {s : List UInt8} {k : Nat} {ks : List Nat} (h : moveR s = some (k, ks)) : primR s = some (k, ks.length) := by
  unfold moveR at h
  repeat' (split at h)
  all_goals first
    | (rename_i e; cases h; subst e; decide)
    | cases h
def prims2 : List (List UInt8) := [[110, 101, 103], [97, 98, 115], [110, 111, 116], [105, 110, 116, 63], [115, 116, 114, 63], [98, 111, 111, 108, 63], [108, 105, 115, 116, 63], [113, 117, 111, 116, 63], [98, 111, 120, 63], [108, 101, 110, 103, 116, 104], [119, 114, 97, 112], [114, 101, 118, 101, 114, 115, 101], [62, 115, 116, 114], [62, 105, 110, 116], [98, 111, 120], [103, 101, 116], [43], [45], [42], [47], [109, 111, 100], [109, 105, 110], [109, 97, 120], [60], [62], [61], [97, 110, 100], [111, 114], [97, 112, 112, 101, 110, 100], [110, 116, 104], [112, 97, 105, 114], [99, 117, 114, 114, 121], [99, 111, 109, 112, 111, 115, 101], [115, 108, 105, 99, 101], [117, 110, 112, 97, 105, 114], [112, 117, 116], [46]]
theorem prim_mem {s : List UInt8} {x : Nat × Nat} (h : primR s = some x) (hm : moveR s = none) : s ∈ prims2 := by
  unfold primR at h
  cases hf : primsL.find? fun p => p.eff.isSome && decide (p.name = s) with
  | none => rw [hf] at h; cases h
  | some p =>
    have h1 := List.mem_of_find?_eq_some hf
    have h2 := List.find?_some hf
    simp only [Bool.and_eq_true, decide_eq_true_eq] at h2
    have key : (primsL.all fun p => !p.eff.isSome || (moveR p.name).isSome || decide (p.name ∈ prims2)) = true := by decide +kernel
    have := List.all_eq_true.1 key p h1
    rw [h2.1, h2.2, hm] at this
    simpa using this
set_option maxHeartbeats 4000000 in
theorem f_refPrim (s : List UInt8) : Av.Fn Tryz.prog 110 [.str s] (primW (primR s)) := by
  have hm := f_moves s
  cases hmv : moveR s with
  | some x =>
    obtain ⟨k, ks⟩ := x
    rw [hmv] at hm
    rw [move_prim hmv]
    refine ACalls.of_W tb_ok (fn := Tryz.f110) (n := 62) (by kernel_rfl) rfl (by kernel_rfl) rfl rfl (by simp) (go ?_)
    refine Fn.use (hm) (go ?_)
    refine VRet.mk [] .nil ?_
    exact ⟨rfl, rfl⟩
  | none =>
  rw [hmv] at hm
  refine ACalls.of_W tb_ok (fn := Tryz.f110) (n := 62) (by kernel_rfl) rfl (by kernel_rfl) rfl rfl (by simp) (go ?_)
  refine Fn.use (hm) (go ?_)
  refine fork (fun h0 => go ?_) (fun h0 => go ?_)
  · have h0 : s = [110, 101, 103] := by simpa using h0
    subst h0
    refine go ?_
    refine VRet.mk [] .nil ?_
    exact ⟨rfl, rfl⟩
  have h0 : ¬ s = [110, 101, 103] := by simpa using h0
  refine fork (fun h1 => go ?_) (fun h1 => go ?_)
  · have h1 : s = [97, 98, 115] := by simpa using h1
    subst h1
    refine go ?_
    refine VRet.mk [] .nil ?_
    exact ⟨rfl, rfl⟩
  have h1 : ¬ s = [97, 98, 115] := by simpa using h1
  refine fork (fun h2 => go ?_) (fun h2 => go ?_)
  · have h2 : s = [110, 111, 116] := by simpa using h2
    subst h2
    refine go ?_
    refine VRet.mk [] .nil ?_
    exact ⟨rfl, rfl⟩
  have h2 : ¬ s = [110, 111, 116] := by simpa using h2
  refine fork (fun h3 => go ?_) (fun h3 => go ?_)
  · have h3 : s = [105, 110, 116, 63] := by simpa using h3
    subst h3
    refine go ?_
    refine VRet.mk [] .nil ?_
    exact ⟨rfl, rfl⟩
  have h3 : ¬ s = [105, 110, 116, 63] := by simpa using h3
  refine fork (fun h4 => go ?_) (fun h4 => go ?_)
  · have h4 : s = [115, 116, 114, 63] := by simpa using h4
    subst h4
    refine go ?_
    refine VRet.mk [] .nil ?_
    exact ⟨rfl, rfl⟩
  have h4 : ¬ s = [115, 116, 114, 63] := by simpa using h4
  refine fork (fun h5 => go ?_) (fun h5 => go ?_)
  · have h5 : s = [98, 111, 111, 108, 63] := by simpa using h5
    subst h5
    refine go ?_
    refine VRet.mk [] .nil ?_
    exact ⟨rfl, rfl⟩
  have h5 : ¬ s = [98, 111, 111, 108, 63] := by simpa using h5
  refine fork (fun h6 => go ?_) (fun h6 => go ?_)
  · have h6 : s = [108, 105, 115, 116, 63] := by simpa using h6
    subst h6
    refine go ?_
    refine VRet.mk [] .nil ?_
    exact ⟨rfl, rfl⟩
  have h6 : ¬ s = [108, 105, 115, 116, 63] := by simpa using h6
  refine fork (fun h7 => go ?_) (fun h7 => go ?_)
  · have h7 : s = [113, 117, 111, 116, 63] := by simpa using h7
    subst h7
    refine go ?_
    refine VRet.mk [] .nil ?_
    exact ⟨rfl, rfl⟩
  have h7 : ¬ s = [113, 117, 111, 116, 63] := by simpa using h7
  refine fork (fun h8 => go ?_) (fun h8 => go ?_)
  · have h8 : s = [98, 111, 120, 63] := by simpa using h8
    subst h8
    refine go ?_
    refine VRet.mk [] .nil ?_
    exact ⟨rfl, rfl⟩
  have h8 : ¬ s = [98, 111, 120, 63] := by simpa using h8
  refine fork (fun h9 => go ?_) (fun h9 => go ?_)
  · have h9 : s = [108, 101, 110, 103, 116, 104] := by simpa using h9
    subst h9
    refine go ?_
    refine VRet.mk [] .nil ?_
    exact ⟨rfl, rfl⟩
  have h9 : ¬ s = [108, 101, 110, 103, 116, 104] := by simpa using h9
  refine fork (fun h10 => go ?_) (fun h10 => go ?_)
  · have h10 : s = [119, 114, 97, 112] := by simpa using h10
    subst h10
    refine go ?_
    refine VRet.mk [] .nil ?_
    exact ⟨rfl, rfl⟩
  have h10 : ¬ s = [119, 114, 97, 112] := by simpa using h10
  refine fork (fun h11 => go ?_) (fun h11 => go ?_)
  · have h11 : s = [114, 101, 118, 101, 114, 115, 101] := by simpa using h11
    subst h11
    refine go ?_
    refine VRet.mk [] .nil ?_
    exact ⟨rfl, rfl⟩
  have h11 : ¬ s = [114, 101, 118, 101, 114, 115, 101] := by simpa using h11
  refine fork (fun h12 => go ?_) (fun h12 => go ?_)
  · have h12 : s = [62, 115, 116, 114] := by simpa using h12
    subst h12
    refine go ?_
    refine VRet.mk [] .nil ?_
    exact ⟨rfl, rfl⟩
  have h12 : ¬ s = [62, 115, 116, 114] := by simpa using h12
  refine fork (fun h13 => go ?_) (fun h13 => go ?_)
  · have h13 : s = [62, 105, 110, 116] := by simpa using h13
    subst h13
    refine go ?_
    refine VRet.mk [] .nil ?_
    exact ⟨rfl, rfl⟩
  have h13 : ¬ s = [62, 105, 110, 116] := by simpa using h13
  refine fork (fun h14 => go ?_) (fun h14 => go ?_)
  · have h14 : s = [98, 111, 120] := by simpa using h14
    subst h14
    refine go ?_
    refine VRet.mk [] .nil ?_
    exact ⟨rfl, rfl⟩
  have h14 : ¬ s = [98, 111, 120] := by simpa using h14
  refine fork (fun h15 => go ?_) (fun h15 => go ?_)
  · have h15 : s = [103, 101, 116] := by simpa using h15
    subst h15
    refine go ?_
    refine VRet.mk [] .nil ?_
    exact ⟨rfl, rfl⟩
  have h15 : ¬ s = [103, 101, 116] := by simpa using h15
  refine fork (fun h16 => go ?_) (fun h16 => go ?_)
  · have h16 : s = [43] := by simpa using h16
    subst h16
    refine go ?_
    refine VRet.mk [] .nil ?_
    exact ⟨rfl, rfl⟩
  have h16 : ¬ s = [43] := by simpa using h16
  refine fork (fun h17 => go ?_) (fun h17 => go ?_)
  · have h17 : s = [45] := by simpa using h17
    subst h17
    refine go ?_
    refine VRet.mk [] .nil ?_
    exact ⟨rfl, rfl⟩
  have h17 : ¬ s = [45] := by simpa using h17
  refine fork (fun h18 => go ?_) (fun h18 => go ?_)
  · have h18 : s = [42] := by simpa using h18
    subst h18
    refine go ?_
    refine VRet.mk [] .nil ?_
    exact ⟨rfl, rfl⟩
  have h18 : ¬ s = [42] := by simpa using h18
  refine fork (fun h19 => go ?_) (fun h19 => go ?_)
  · have h19 : s = [47] := by simpa using h19
    subst h19
    refine go ?_
    refine VRet.mk [] .nil ?_
    exact ⟨rfl, rfl⟩
  have h19 : ¬ s = [47] := by simpa using h19
  refine fork (fun h20 => go ?_) (fun h20 => go ?_)
  · have h20 : s = [109, 111, 100] := by simpa using h20
    subst h20
    refine go ?_
    refine VRet.mk [] .nil ?_
    exact ⟨rfl, rfl⟩
  have h20 : ¬ s = [109, 111, 100] := by simpa using h20
  refine fork (fun h21 => go ?_) (fun h21 => go ?_)
  · have h21 : s = [109, 105, 110] := by simpa using h21
    subst h21
    refine go ?_
    refine VRet.mk [] .nil ?_
    exact ⟨rfl, rfl⟩
  have h21 : ¬ s = [109, 105, 110] := by simpa using h21
  refine fork (fun h22 => go ?_) (fun h22 => go ?_)
  · have h22 : s = [109, 97, 120] := by simpa using h22
    subst h22
    refine go ?_
    refine VRet.mk [] .nil ?_
    exact ⟨rfl, rfl⟩
  have h22 : ¬ s = [109, 97, 120] := by simpa using h22
  refine fork (fun h23 => go ?_) (fun h23 => go ?_)
  · have h23 : s = [60] := by simpa using h23
    subst h23
    refine go ?_
    refine VRet.mk [] .nil ?_
    exact ⟨rfl, rfl⟩
  have h23 : ¬ s = [60] := by simpa using h23
  refine fork (fun h24 => go ?_) (fun h24 => go ?_)
  · have h24 : s = [62] := by simpa using h24
    subst h24
    refine go ?_
    refine VRet.mk [] .nil ?_
    exact ⟨rfl, rfl⟩
  have h24 : ¬ s = [62] := by simpa using h24
  refine fork (fun h25 => go ?_) (fun h25 => go ?_)
  · have h25 : s = [61] := by simpa using h25
    subst h25
    refine go ?_
    refine VRet.mk [] .nil ?_
    exact ⟨rfl, rfl⟩
  have h25 : ¬ s = [61] := by simpa using h25
  refine fork (fun h26 => go ?_) (fun h26 => go ?_)
  · have h26 : s = [97, 110, 100] := by simpa using h26
    subst h26
    refine go ?_
    refine VRet.mk [] .nil ?_
    exact ⟨rfl, rfl⟩
  have h26 : ¬ s = [97, 110, 100] := by simpa using h26
  refine fork (fun h27 => go ?_) (fun h27 => go ?_)
  · have h27 : s = [111, 114] := by simpa using h27
    subst h27
    refine go ?_
    refine VRet.mk [] .nil ?_
    exact ⟨rfl, rfl⟩
  have h27 : ¬ s = [111, 114] := by simpa using h27
  refine fork (fun h28 => go ?_) (fun h28 => go ?_)
  · have h28 : s = [97, 112, 112, 101, 110, 100] := by simpa using h28
    subst h28
    refine go ?_
    refine VRet.mk [] .nil ?_
    exact ⟨rfl, rfl⟩
  have h28 : ¬ s = [97, 112, 112, 101, 110, 100] := by simpa using h28
  refine fork (fun h29 => go ?_) (fun h29 => go ?_)
  · have h29 : s = [110, 116, 104] := by simpa using h29
    subst h29
    refine go ?_
    refine VRet.mk [] .nil ?_
    exact ⟨rfl, rfl⟩
  have h29 : ¬ s = [110, 116, 104] := by simpa using h29
  refine fork (fun h30 => go ?_) (fun h30 => go ?_)
  · have h30 : s = [112, 97, 105, 114] := by simpa using h30
    subst h30
    refine go ?_
    refine VRet.mk [] .nil ?_
    exact ⟨rfl, rfl⟩
  have h30 : ¬ s = [112, 97, 105, 114] := by simpa using h30
  refine fork (fun h31 => go ?_) (fun h31 => go ?_)
  · have h31 : s = [99, 117, 114, 114, 121] := by simpa using h31
    subst h31
    refine go ?_
    refine VRet.mk [] .nil ?_
    exact ⟨rfl, rfl⟩
  have h31 : ¬ s = [99, 117, 114, 114, 121] := by simpa using h31
  refine fork (fun h32 => go ?_) (fun h32 => go ?_)
  · have h32 : s = [99, 111, 109, 112, 111, 115, 101] := by simpa using h32
    subst h32
    refine go ?_
    refine VRet.mk [] .nil ?_
    exact ⟨rfl, rfl⟩
  have h32 : ¬ s = [99, 111, 109, 112, 111, 115, 101] := by simpa using h32
  refine fork (fun h33 => go ?_) (fun h33 => go ?_)
  · have h33 : s = [115, 108, 105, 99, 101] := by simpa using h33
    subst h33
    refine go ?_
    refine VRet.mk [] .nil ?_
    exact ⟨rfl, rfl⟩
  have h33 : ¬ s = [115, 108, 105, 99, 101] := by simpa using h33
  refine fork (fun h34 => go ?_) (fun h34 => go ?_)
  · have h34 : s = [117, 110, 112, 97, 105, 114] := by simpa using h34
    subst h34
    refine go ?_
    refine VRet.mk [] .nil ?_
    exact ⟨rfl, rfl⟩
  have h34 : ¬ s = [117, 110, 112, 97, 105, 114] := by simpa using h34
  refine fork (fun h35 => go ?_) (fun h35 => go ?_)
  · have h35 : s = [112, 117, 116] := by simpa using h35
    subst h35
    refine go ?_
    refine VRet.mk [] .nil ?_
    exact ⟨rfl, rfl⟩
  have h35 : ¬ s = [112, 117, 116] := by simpa using h35
  refine fork (fun h36 => go ?_) (fun h36 => go ?_)
  · have h36 : s = [46] := by simpa using h36
    subst h36
    refine go ?_
    refine VRet.mk [] .nil ?_
    exact ⟨rfl, rfl⟩
  have h36 : ¬ s = [46] := by simpa using h36
  have hn : primR s = none := by
    cases hp : primR s with
    | none => rfl
    | some x =>
      have := prim_mem hp hmv
      simp only [prims2, List.mem_cons, List.not_mem_nil, or_false] at this
      exfalso
      rcases this with h | h | h | h | h | h | h | h | h | h | h | h | h | h | h | h | h | h | h | h | h | h | h | h | h | h | h | h | h | h | h | h | h | h | h | h | h <;> contradiction
  rw [hn]
  refine VRet.mk [] .nil ?_
  exact ⟨rfl, rfl⟩
end Go.Proofs.YtonkeklageehbaaGreatDoor

namespace Go.Proofs.YtonkeklageehbaaGreatDoor
open Go Go.Av
theorem f_ctl (s : List UInt8) : Av.Fn Tryz.prog 111 [.str s] (.bool (ctlL.contains s)) := by
  have e : ctlL.contains s = (decide (s = [99, 97, 108, 108]) || (decide (s = [100, 105, 112]) || (decide (s = [107, 101, 101, 112]) || (decide (s = [105, 102]) || (decide (s = [119, 104, 101, 110]) || (decide (s = [116, 105, 109, 101, 115]) || (decide (s = [101, 97, 99, 104]) || (decide (s = [108, 111, 111, 112]) || false)))))))) := by
    rw [Bool.eq_iff_iff]
    simp [ctlL, List.contains_iff_mem]
  rw [e]
  refine ACalls.of_W tb_ok (fn := Tryz.f111) (n := 33) (by kernel_rfl) rfl (by kernel_rfl) rfl rfl (by simp) (go ?_)
  refine fork (fun h0 => go ?_) (fun h0 => go ?_)
  · have h0 : s = [99, 97, 108, 108] := by simpa using h0
    subst h0
    refine go ?_
    refine VRet.mk [] .nil ?_
    exact ⟨rfl, rfl⟩
  have h0 : ¬ s = [99, 97, 108, 108] := by simpa using h0
  rw [decide_eq_false h0, Bool.false_or]
  refine fork (fun h1 => go ?_) (fun h1 => go ?_)
  · have h1 : s = [100, 105, 112] := by simpa using h1
    subst h1
    refine go ?_
    refine VRet.mk [] .nil ?_
    exact ⟨rfl, rfl⟩
  have h1 : ¬ s = [100, 105, 112] := by simpa using h1
  rw [decide_eq_false h1, Bool.false_or]
  refine fork (fun h2 => go ?_) (fun h2 => go ?_)
  · have h2 : s = [107, 101, 101, 112] := by simpa using h2
    subst h2
    refine go ?_
    refine VRet.mk [] .nil ?_
    exact ⟨rfl, rfl⟩
  have h2 : ¬ s = [107, 101, 101, 112] := by simpa using h2
  rw [decide_eq_false h2, Bool.false_or]
  refine fork (fun h3 => go ?_) (fun h3 => go ?_)
  · have h3 : s = [105, 102] := by simpa using h3
    subst h3
    refine go ?_
    refine VRet.mk [] .nil ?_
    exact ⟨rfl, rfl⟩
  have h3 : ¬ s = [105, 102] := by simpa using h3
  rw [decide_eq_false h3, Bool.false_or]
  refine fork (fun h4 => go ?_) (fun h4 => go ?_)
  · have h4 : s = [119, 104, 101, 110] := by simpa using h4
    subst h4
    refine go ?_
    refine VRet.mk [] .nil ?_
    exact ⟨rfl, rfl⟩
  have h4 : ¬ s = [119, 104, 101, 110] := by simpa using h4
  rw [decide_eq_false h4, Bool.false_or]
  refine fork (fun h5 => go ?_) (fun h5 => go ?_)
  · have h5 : s = [116, 105, 109, 101, 115] := by simpa using h5
    subst h5
    refine go ?_
    refine VRet.mk [] .nil ?_
    exact ⟨rfl, rfl⟩
  have h5 : ¬ s = [116, 105, 109, 101, 115] := by simpa using h5
  rw [decide_eq_false h5, Bool.false_or]
  refine fork (fun h6 => go ?_) (fun h6 => go ?_)
  · have h6 : s = [101, 97, 99, 104] := by simpa using h6
    subst h6
    refine go ?_
    refine VRet.mk [] .nil ?_
    exact ⟨rfl, rfl⟩
  have h6 : ¬ s = [101, 97, 99, 104] := by simpa using h6
  rw [decide_eq_false h6, Bool.false_or]
  refine VRet.mk [] .nil ?_
  exact ⟨by simp, rfl⟩
theorem f_is12 (s : List UInt8) : Av.Fn Tryz.prog 82 [.str s] (.bool ((primR s).isSome || ctlL.contains s)) := by
  have h := f_refPrim s
  have h2 := f_ctl s
  cases hp : primR s with
  | some x =>
    rw [hp] at h
    obtain ⟨i, o⟩ := x
    have h : Av.Fn Tryz.prog 110 [.str s] (.tup [.int .i64 (i : Nat), .int .i64 (o : Nat), .bool true]) := h
    refine ACalls.of_W tb_ok (fn := Tryz.f82) (n := 17) (by kernel_rfl) rfl (by kernel_rfl) rfl rfl (by simp) (go ?_)
    refine Fn.use (h) (go ?_)
    refine VRet.mk [] .nil ?_
    exact ⟨rfl, rfl⟩
  | none =>
    rw [hp] at h
    have h : Av.Fn Tryz.prog 110 [.str s] (.tup [.int .i64 0, .int .i64 0, .bool false]) := h
    refine ACalls.of_W tb_ok (fn := Tryz.f82) (n := 17) (by kernel_rfl) rfl (by kernel_rfl) rfl rfl (by simp) (go ?_)
    refine Fn.use (h) (go ?_)
    refine Fn.use (h2) (go ?_)
    refine VRet.mk [] .nil ?_
    exact ⟨by simp, rfl⟩
theorem f_names12 : Av.Fn Tryz.prog 61 [] (.fz (namesL.map .str) 52 false) := by
  refine ACalls.of_W tb_ok (fn := Tryz.f61) (n := 2) (by kernel_rfl) rfl (by kernel_rfl) rfl rfl (by simp) (go ?_)
  refine VRet.mk [] .nil ?_
  exact ⟨rfl, rfl⟩
def callR (s : List UInt8) : Bool := nmR s && !((primR s).isSome || ctlL.contains s)
theorem f_callable (s : List UInt8) (hs : s.length ≤ 1000000000) : Av.Fn Tryz.prog 56 [.str s] (.bool (callR s)) := by
  have h := f_ref07Name s hs
  have h2 := f_is12 s
  unfold callR nmR
  generalize (nameR s && !reservedR s) = p at h ⊢
  refine ACalls.of_W tb_ok (fn := Tryz.f56) (n := 10) (by kernel_rfl) rfl (by kernel_rfl) rfl rfl (by simp) (go ?_)
  refine Fn.use (h) (go ?_)
  cases p with
  | false =>
    refine go ?_
    refine VRet.mk [] .nil ?_
    exact ⟨rfl, rfl⟩
  | true =>
    refine go ?_
    refine Fn.use (h2) (go ?_)
    refine VRet.mk [] .nil ?_
    exact ⟨by simp, rfl⟩
def ritemsV (r : Option (List RV)) : AV := match r with
  | none => .tup [.fz [] 0 false, .bool false]
  | some l => .tup [.fz (rvsC l) l.length false, .bool (refOk l)]
/-- What the document's answer is asked of. -/
structure RIn (c : RCode) : Prop where
  ops : c.ops.length ≤ 1048576
  name : c.name.length ≤ 1048576
  inp : ∀ o ∈ c.ops, o.v.small = true ∧ o.v.fit = true
theorem refBackL_next {names : List (List UInt8)} {l : List ROp} {k : Nat} {o : ROp} (h : l[k]? = some o) (A : List RV) : (refBackL names (l.drop k)).map (A ++ ·) = match refBackO names o with
    | none => none
    | some t => (refBackL names (l.drop (k + 1))).map ((A ++ [t]) ++ ·) := by
  have hlt := (List.getElem?_eq_some_iff.1 h).1
  have hd : l.drop k = o :: l.drop (k + 1) := by
    rw [List.drop_eq_getElem_cons hlt]
    congr 1
    rw [List.getElem?_eq_getElem hlt] at h
    exact Option.some.inj h
  rw [hd, refBackL]
  cases refBackO names o with
  | none => rfl
  | some t =>
    dsimp only
    cases refBackL names (l.drop (k + 1)) with
    | none => rfl
    | some r => dsimp only [Option.map_some]; rw [List.append_assoc]; rfl
theorem fitAll_append {a b : List RV} (ha : fitAll a = true) (hb : fitAll b = true) : fitAll (a ++ b) = true := by
  induction a with
  | nil => exact hb
  | cons x r ih =>
    simp only [fitAll, Bool.and_eq_true] at ha
    simp only [List.cons_append, fitAll, Bool.and_eq_true]
    exact ⟨ha.1, ih ha.2⟩
theorem smallAll_append {a b : List RV} (ha : smallAll a = true) (hb : smallAll b = true) : smallAll (a ++ b) = true := by
  induction a with
  | nil => exact hb
  | cons x r ih =>
    simp only [smallAll, Bool.and_eq_true] at ha
    simp only [List.cons_append, smallAll, Bool.and_eq_true]
    exact ⟨ha.1, ih ha.2⟩
theorem refBackO_in {names : List (List UInt8)} (hn : ∀ n ∈ names, n.length ≤ 1048576) {o : ROp} (h1 : o.v.small = true) (h2 : o.v.fit = true) {t : RV} (h : refBackO names o = some t) : t.small = true ∧ t.fit = true := by
  have key : ∀ s : List UInt8, s.length ≤ 1048576 → (RV.mk 7 0 s []).small = true ∧ (RV.mk 7 0 s []).fit = true := fun s hs => by
    constructor
    · simp [RV.small, smallAll]
    · simp [RV.fit]; omega
  unfold refBackO at h
  split at h
  · cases h; exact ⟨h1, h2⟩
  · split at h
    · cases h
      exact key _ (Nat.le_trans names_small (by omega))
    · split at h
      · cases h
        refine key _ ?_
        rw [List.getD_eq_getElem?_getD]
        cases hq : names[o.n.toNat]? with
        | none => exact Nat.zero_le _
        | some w => exact hn w (List.mem_of_getElem? hq)
      · cases h
theorem rb1 {names : List (List UInt8)} {kd n a b : Int} {s : List UInt8} {q : List RV} (h : kd = 1 ∧ n = 0 ∧ a ≠ 0 ∧ a ≠ 7) : refBackO names ⟨kd, n, .mk a b s q⟩ = some (.mk a b s q) := by
  exact if_pos h
theorem rb2 {names : List (List UInt8)} {kd n a b : Int} {s : List UInt8} {q : List RV} (h : kd = 2 ∧ a = 0 ∧ 0 ≤ n ∧ n < 52) : refBackO names ⟨kd, n, .mk a b s q⟩ = some (.mk 7 0 (namesL.getD n.toNat []) []) := by
  exact (if_neg (fun c => absurd (h.1.symm.trans c.1) (by decide))).trans (if_pos h)
theorem rb3 {names : List (List UInt8)} {kd n a b : Int} {s : List UInt8} {q : List RV} (h : kd = 3 ∧ a = 0 ∧ 0 ≤ n ∧ n < names.length) : refBackO names ⟨kd, n, .mk a b s q⟩ = some (.mk 7 0 (names.getD n.toNat []) []) := by
  exact (if_neg (fun c => absurd (h.1.symm.trans c.1) (by decide))).trans ((if_neg (fun c => absurd (h.1.symm.trans c.1) (by decide))).trans (if_pos h))
theorem rb0 {names : List (List UInt8)} {kd n a b : Int} {s : List UInt8} {q : List RV} (h1 : ¬ (kd = 1 ∧ n = 0 ∧ a ≠ 0 ∧ a ≠ 7)) (h2 : ¬ (kd = 2 ∧ a = 0 ∧ 0 ≤ n ∧ n < 52)) (h3 : ¬ (kd = 3 ∧ a = 0 ∧ 0 ≤ n ∧ n < names.length)) : refBackO names ⟨kd, n, .mk a b s q⟩ = none := by
  exact (if_neg h1).trans ((if_neg h2).trans (if_neg h3))
structure BackJ where
  k : Nat
  o : Option Nat
  A : List RV




/-- What is handed to a call need not be written any more. -/
theorem acalls_cool {P : Program} {f : FuncId} {args args' : List AV} {st st' : St} {Post : AOut → St → Prop} (hf : FzL args args' st st') (h : ACalls P f args' st' Post) : ACalls P f args st Post :=
  ⟨h.ent, fun W F g w us hl hr inv => by
    obtain ⟨g1, le1, inv1, k⟩ := hf.sound inv
    exact (h.run W F g1 w us hl (k false us hr) inv1).mono fun e w' ⟨g', out, st'', le, x⟩ => ⟨g', out, st'', Gh.le_trans le1 le, x⟩⟩
theorem f_bare0 : Av.Fn Tryz.prog 84 [.agg [.int .i64 5, .int .i64 0, .str [], .nils]] (.bool true) := by
  refine ACalls.of_W tb_ok (fn := Tryz.f84) (n := 21) (by kernel_rfl) rfl (by kernel_rfl) rfl rfl (by simp) (go ?_)
  refine VAll.mk (fun b => go ?_)
  refine VLoop.mk [3] Unit (fun _ => [.int .i64 0]) (fun _ => [(b, .box [.int .i64 5, .int .i64 0, .str [], .nils])]) (fun _ => True) (fun _ => 0) () ?_ ?_
  · exact ⟨trivial, rfl, .cons 0 rfl .nil⟩
  rintro _ _
  refine go ?_
  refine VRet.mk [] .nil ?_
  exact ⟨rfl, rfl⟩
end Go.Proofs.YtonkeklageehbaaGreatDoor

namespace Go.Proofs.YtonkeklageehbaaGreatDoor
open Go Go.Av
def rbodyOk (names : List (List UInt8)) (ops : List ROp) : Bool := match refBackL names ops with
  | some l => refOk l
  | none => false
theorem refCodeOk_eq (names : List (List UInt8)) (i : Nat) (c : RCode) : refCodeOk names i c = (rbodyOk names c.ops && (callR (names.getD i []) && (i == 0 || !(Op.bytesLess (names.getD i []) (names.getD (i - 1) []) || decide (names.getD i [] = names.getD (i - 1) []))))) := rfl
theorem rsound_false {l : List RCode} {i : Nat} {c : RCode} (h : l[i]? = some c) (hc : refCodeOk (l.map (·.name)) i c = false) : soundR l = false := by
  unfold soundR
  rw [List.all_eq_false]
  refine ⟨i, List.mem_range.2 (List.getElem?_eq_some_iff.1 h).1, ?_⟩
  rw [h]; simp [hc]
theorem rsound_true {l : List RCode} (h : ∀ i c, l[i]? = some c → refCodeOk (l.map (·.name)) i c = true) : soundR l = true := by
  unfold soundR
  rw [List.all_eq_true]
  intro i hi
  cases hc : l[i]? with
  | none => rfl
  | some c => exact h i c hc



set_option maxHeartbeats 1000000 in
theorem f_rSameOps (a b : List ROp) (ha : a.length ≤ 1048576) (hb : b.length ≤ 1048576) (h : ∀ x ∈ a, ∀ y ∈ b, Av.Fn Tryz.prog 37 [.agg (rvAV x.v), .agg (rvAV y.v)] (.bool (sameV x.v y.v))) :
    Av.Fn Tryz.prog 19 [.fz (ropsC a) a.length false, .fz (ropsC b) b.length false] (.bool (all2 sameOpR a b)) := by
  refine ACalls.of_W tb_ok (fn := Tryz.f19) (n := 55) (by kernel_rfl) rfl (by kernel_rfl) rfl rfl (by simp) (go ?_)
  refine fork (fun hne => go ?_) (fun hne => go ?_)
  · refine VRet.mk [] .nil ?_
    refine ⟨?_, rfl⟩
    cases e : all2 sameOpR a b with
    | true => exact absurd (by rw [all2_len e]) hne
    | false => rfl
  have hne : a.length = b.length := by omega
  refine VLoop.mk [5] Nat (fun i => [.int .i64 i]) (fun _ => []) (fun i => i ≤ a.length ∧ all2 sameOpR a b = all2 sameOpR (a.drop i) (b.drop i)) (fun i => a.length - i) 0 ?_ ?_
  · exact ⟨⟨by omega, by simp⟩, rfl, .nil⟩
  intro i ⟨hi, hI⟩
  refine go ?_
  refine fork (fun hlt => go ?_) (fun hlt => ?_)
  rotate_left
  · rw [List.drop_eq_nil_of_le (by omega), List.drop_eq_nil_of_le (by omega)] at hI
    refine go ?_
    refine VRet.mk [] .nil ?_
    rw [hI]; exact ⟨by simp [all2], rfl⟩
  have hlt : i < a.length := by omega
  obtain ⟨x, hx⟩ : ∃ x, a[i]? = some x := ⟨a[i], by simp [hlt]⟩
  obtain ⟨y, hy⟩ : ∃ y, b[i]? = some y := ⟨b[i]'(by omega), by simp [hne ▸ hlt]⟩
  have hda : a.drop i = x :: a.drop (i + 1) := by rw [List.drop_eq_getElem_cons hlt]; congr 1; rw [List.getElem?_eq_getElem hlt] at hx; exact Option.some.inj hx
  have hdb : b.drop i = y :: b.drop (i + 1) := by rw [List.drop_eq_getElem_cons (hne ▸ hlt)]; congr 1; rw [List.getElem?_eq_getElem (hne ▸ hlt)] at hy; exact Option.some.inj hy
  rw [hda, hdb, all2] at hI
  have hxy := h x (List.mem_of_getElem? hx) y (List.mem_of_getElem? hy)
  have da := flat_drop ropC 6 ropC_len hx
  have db := flat_drop ropC 6 ropC_len hy
  have hno : sameOpR x y = false → all2 sameOpR a b = false := fun h => by rw [hI, h]; rfl
  have hyes : sameOpR x y = true → i + 1 ≤ a.length ∧ all2 sameOpR a b = all2 sameOpR (a.drop (i + 1)) (b.drop (i + 1)) := fun h => ⟨by omega, by rw [hI, h, Bool.true_and]⟩
  obtain ⟨kd, n, v⟩ := x
  obtain ⟨kd', n', v'⟩ := y
  obtain ⟨k1, n1, s1, q1⟩ := v
  obtain ⟨k2, n2, s2, q2⟩ := v'
  have e : sameOpR ⟨kd, n, .mk k1 n1 s1 q1⟩ ⟨kd', n', .mk k2 n2 s2 q2⟩ = (decide (kd = kd') && (decide (n = n') && sameV (.mk k1 n1 s1 q1) (.mk k2 n2 s2 q2))) := rfl
  rw [e] at hno hyes
  dsimp only at hxy
  generalize sameV (.mk k1 n1 s1 q1) (.mk k2 n2 s2 q2) = z at hxy hno hyes
  rw [rvAV, rvAV] at hxy
  have da : List.drop (mulN i 6) (ropsC a) = [.int .i64 kd, .int .i64 n, .int .i64 k1, .int .i64 n1, .str s1, .fz (rvsC q1) q1.length false] ++ ropsC (a.drop (i + 1)) := by
    rw [show ropsC a = a.flatMap ropC from rfl, da]; simp [ropC, rvAV, ropsC]
  have db : List.drop (mulN i 6) (ropsC b) = [.int .i64 kd', .int .i64 n', .int .i64 k2, .int .i64 n2, .str s2, .fz (rvsC q2) q2.length false] ++ ropsC (b.drop (i + 1)) := by
    rw [show ropsC b = b.flatMap ropC from rfl, db]; simp [ropC, rvAV, ropsC]
  have a0 : (List.drop 0 (List.drop (mulN i 6) (ropsC a)))[0]? = some (.int .i64 kd) := by rw [da]; rfl
  have a1 : (List.drop 1 (List.drop (mulN i 6) (ropsC a)))[0]? = some (.int .i64 n) := by rw [da]; rfl
  have a2 : (List.drop 2 (List.drop (mulN i 6) (ropsC a))).take 4 = [.int .i64 k1, .int .i64 n1, .str s1, .fz (rvsC q1) q1.length false] := by rw [da]; rfl
  have b0 : (List.drop 0 (List.drop (mulN i 6) (ropsC b)))[0]? = some (.int .i64 kd') := by rw [db]; rfl
  have b1 : (List.drop 1 (List.drop (mulN i 6) (ropsC b)))[0]? = some (.int .i64 n') := by rw [db]; rfl
  have b2 : (List.drop 2 (List.drop (mulN i 6) (ropsC b))).take 4 = [.int .i64 k2, .int .i64 n2, .str s2, .fz (rvsC q2) q2.length false] := by rw [db]; rfl
  refine VQ.mk (.int .i64 kd) (by refine go ?_; refine VNth.mk _ a0 (go ?_); exact ⟨rfl, rfl⟩) (go ?_)
  refine VQ.mk (.int .i64 kd') (by refine go ?_; refine VNth.mk _ b0 (go ?_); exact ⟨rfl, rfl⟩) (go ?_)
  by_cases hk : kd = kd'
  · subst hk
    rw [decide_eq_true rfl, Bool.true_and] at hno hyes
    refine VIf.no (by simp) (go ?_)
    refine VQ.mk (.int .i64 n) (by refine go ?_; refine VNth.mk _ a1 (go ?_); exact ⟨rfl, rfl⟩) (go ?_)
    refine VQ.mk (.int .i64 n') (by refine go ?_; refine VNth.mk _ b1 (go ?_); exact ⟨rfl, rfl⟩) (go ?_)
    by_cases hn : n = n'
    · subst hn
      rw [decide_eq_true rfl, Bool.true_and] at hno hyes
      refine VIf.no (by simp) (go ?_)
      refine VQ.mk (.agg ([.int .i64 k1, .int .i64 n1, .str s1, .fz (rvsC q1) q1.length false])) (by refine go ?_; refine VTake.mk _ a2 rfl (go ?_); exact ⟨rfl, rfl⟩) (go ?_)
      refine VQ.mk (.agg ([.int .i64 k2, .int .i64 n2, .str s2, .fz (rvsC q2) q2.length false])) (by refine go ?_; refine VTake.mk _ b2 rfl (go ?_); exact ⟨rfl, rfl⟩) (go ?_)
      cases z with
      | true =>
        refine VQ.mk _ (by refine go ?_; refine Fn.use hxy (go ?_); exact ⟨rfl, rfl⟩) (go ?_)
        exact ⟨i + 1, hyes rfl, by omega, rfl, .nil⟩
      | false =>
        refine VQ.mk _ (by refine go ?_; refine Fn.use hxy (go ?_); exact ⟨rfl, rfl⟩) (go ?_)
        refine VRet.mk [] .nil ?_
        rw [hno rfl]
        exact ⟨rfl, rfl⟩
    · rw [decide_eq_false hn] at hno
      refine VIf.yes (by simpa using hn) (go ?_)
      refine VRet.mk [] .nil ?_
      rw [hno rfl]
      exact ⟨rfl, rfl⟩
  · rw [decide_eq_false hk] at hno
    refine VIf.yes (by simpa using hk) (go ?_)
    refine VRet.mk [] .nil ?_
    rw [hno rfl]
    exact ⟨rfl, rfl⟩
set_option maxHeartbeats 1000000 in
theorem f_rSame (a b : List RCode) (ha : a.length ≤ 1048576) (hb : b.length ≤ 1048576) (h : ∀ x ∈ a, ∀ y ∈ b, Av.Fn Tryz.prog 19 [.fz (ropsC x.ops) x.ops.length false, .fz (ropsC y.ops) y.ops.length false] (.bool (all2 sameOpR x.ops y.ops))) :
    Av.Fn Tryz.prog 11 [.fz (rcodesC a) a.length false, .fz (rcodesC b) b.length false] (.bool (all2 sameCodeR a b)) := by
  refine ACalls.of_W tb_ok (fn := Tryz.f11) (n := 42) (by kernel_rfl) rfl (by kernel_rfl) rfl rfl (by simp) (go ?_)
  refine fork (fun hne => go ?_) (fun hne => go ?_)
  · refine VRet.mk [] .nil ?_
    refine ⟨?_, rfl⟩
    cases e : all2 sameCodeR a b with
    | true => exact absurd (by rw [all2_len e]) hne
    | false => rfl
  have hne : a.length = b.length := by omega
  refine VLoop.mk [5] Nat (fun i => [.int .i64 i]) (fun _ => []) (fun i => i ≤ a.length ∧ all2 sameCodeR a b = all2 sameCodeR (a.drop i) (b.drop i)) (fun i => a.length - i) 0 ?_ ?_
  · exact ⟨⟨by omega, by simp⟩, rfl, .nil⟩
  intro i ⟨hi, hI⟩
  refine go ?_
  refine fork (fun hlt => go ?_) (fun hlt => ?_)
  rotate_left
  · rw [List.drop_eq_nil_of_le (by omega), List.drop_eq_nil_of_le (by omega)] at hI
    refine go ?_
    refine VRet.mk [] .nil ?_
    rw [hI]; exact ⟨by simp [all2], rfl⟩
  have hlt : i < a.length := by omega
  obtain ⟨x, hx⟩ : ∃ x, a[i]? = some x := ⟨a[i], by simp [hlt]⟩
  obtain ⟨y, hy⟩ : ∃ y, b[i]? = some y := ⟨b[i]'(by omega), by simp [hne ▸ hlt]⟩
  have hda : a.drop i = x :: a.drop (i + 1) := by rw [List.drop_eq_getElem_cons hlt]; congr 1; rw [List.getElem?_eq_getElem hlt] at hx; exact Option.some.inj hx
  have hdb : b.drop i = y :: b.drop (i + 1) := by rw [List.drop_eq_getElem_cons (hne ▸ hlt)]; congr 1; rw [List.getElem?_eq_getElem (hne ▸ hlt)] at hy; exact Option.some.inj hy
  rw [hda, hdb, all2] at hI
  have hxy := h x (List.mem_of_getElem? hx) y (List.mem_of_getElem? hy)
  have da := flat_drop rcodeC 2 rcodeC_len hx
  have db := flat_drop rcodeC 2 rcodeC_len hy
  have hno : sameCodeR x y = false → all2 sameCodeR a b = false := fun h => by rw [hI, h]; rfl
  have hyes : sameCodeR x y = true → i + 1 ≤ a.length ∧ all2 sameCodeR a b = all2 sameCodeR (a.drop (i + 1)) (b.drop (i + 1)) := fun h => ⟨by omega, by rw [hI, h, Bool.true_and]⟩
  obtain ⟨nm, ops⟩ := x
  obtain ⟨nm', ops'⟩ := y
  have e : sameCodeR ⟨nm, ops⟩ ⟨nm', ops'⟩ = (decide (nm = nm') && all2 sameOpR ops ops') := rfl
  rw [e] at hno hyes
  dsimp only at hxy
  generalize all2 sameOpR ops ops' = z at hxy hno hyes
  have da : List.drop (mulN i 2) (rcodesC a) = [.str nm, .fz (ropsC ops) ops.length false] ++ rcodesC (a.drop (i + 1)) := da
  have db : List.drop (mulN i 2) (rcodesC b) = [.str nm', .fz (ropsC ops') ops'.length false] ++ rcodesC (b.drop (i + 1)) := db
  have a0 : (List.drop 0 (List.drop (mulN i 2) (rcodesC a)))[0]? = some (.str nm) := by rw [da]; rfl
  have a1 : (List.drop 1 (List.drop (mulN i 2) (rcodesC a)))[0]? = some (.fz (ropsC ops) ops.length false) := by rw [da]; rfl
  have b0 : (List.drop 0 (List.drop (mulN i 2) (rcodesC b)))[0]? = some (.str nm') := by rw [db]; rfl
  have b1 : (List.drop 1 (List.drop (mulN i 2) (rcodesC b)))[0]? = some (.fz (ropsC ops') ops'.length false) := by rw [db]; rfl
  refine VQ.mk (.str nm) (by refine go ?_; refine VNth.mk _ a0 (go ?_); exact ⟨rfl, rfl⟩) (go ?_)
  refine VQ.mk (.str nm') (by refine go ?_; refine VNth.mk _ b0 (go ?_); exact ⟨rfl, rfl⟩) (go ?_)
  by_cases hk : nm = nm'
  · subst hk
    rw [decide_eq_true rfl, Bool.true_and] at hno hyes
    refine VIf.no (by simp) (go ?_)
    refine VQ.mk (.fz (ropsC ops) ops.length false) (by refine go ?_; refine VNth.mk _ a1 (go ?_); exact ⟨rfl, rfl⟩) (go ?_)
    refine VQ.mk (.fz (ropsC ops') ops'.length false) (by refine go ?_; refine VNth.mk _ b1 (go ?_); exact ⟨rfl, rfl⟩) (go ?_)
    cases z with
    | true =>
      refine VQ.mk _ (by refine go ?_; refine Fn.use hxy (go ?_); exact ⟨rfl, rfl⟩) (go ?_)
      exact ⟨i + 1, hyes rfl, by omega, rfl, .nil⟩
    | false =>
      refine VQ.mk _ (by refine go ?_; refine Fn.use hxy (go ?_); exact ⟨rfl, rfl⟩) (go ?_)
      refine VRet.mk [] .nil ?_
      rw [hno rfl]
      exact ⟨rfl, rfl⟩
  · rw [decide_eq_false hk] at hno
    refine VIf.yes (by simpa using hk) (go ?_)
    refine VRet.mk [] .nil ?_
    rw [hno rfl]
    exact ⟨rfl, rfl⟩
end Go.Proofs.YtonkeklageehbaaGreatDoor

namespace Go.Proofs.YtonkeklageehbaaGreatDoor
open Go Go.Av
/-! ### The order of texts -/
theorem bl_irrefl : ∀ x : List UInt8, Op.bytesLess x x = false
  | [] => rfl
  | a :: x => by
    rw [Op.bytesLess, bl_irrefl x]
    simp
theorem bl_trans : ∀ {x y z : List UInt8}, Op.bytesLess x y = true → Op.bytesLess y z = true → Op.bytesLess x z = true
  | [], y, [], _, h => by cases y <;> simp [Op.bytesLess] at h
  | [], _, c :: z, _, _ => rfl
  | a :: x, [], z, h, _ => by simp [Op.bytesLess] at h
  | a :: x, b :: y, [], _, h => by simp [Op.bytesLess] at h
  | a :: x, b :: y, c :: z, h1, h2 => by
    rw [Op.bytesLess] at h1 h2 ⊢
    simp only [Bool.or_eq_true, Bool.and_eq_true, decide_eq_true_eq, beq_iff_eq, UInt8.lt_iff_toNat_lt] at h1 h2 ⊢
    rcases h1 with h1 | ⟨rfl, h1⟩
    · rcases h2 with h2 | ⟨rfl, h2⟩
      · exact .inl (by omega)
      · exact .inl h1
    · rcases h2 with h2 | ⟨rfl, h2⟩
      · exact .inl h2
      · exact .inr ⟨rfl, bl_trans h1 h2⟩
theorem bl_tri : ∀ {x y : List UInt8}, Op.bytesLess x y = false → x ≠ y → Op.bytesLess y x = true
  | [], [], _, h => absurd rfl h
  | [], _ :: _, h, _ => by simp [Op.bytesLess] at h
  | _ :: _, [], _, _ => rfl
  | a :: x, b :: y, h, hn => by
    rw [Op.bytesLess] at h ⊢
    simp only [Bool.or_eq_false_iff, Bool.and_eq_false_iff, decide_eq_false_iff_not, UInt8.lt_iff_toNat_lt] at h
    simp only [Bool.or_eq_true, Bool.and_eq_true, decide_eq_true_eq, beq_iff_eq, UInt8.lt_iff_toNat_lt]
    by_cases e : a = b
    · subst e
      rcases h.2 with h2 | h2
      · simp at h2
      · exact .inr ⟨rfl, bl_tri h2 (fun e => hn (by rw [e]))⟩
    · refine .inl ?_
      have : a.toNat ≠ b.toNat := fun h' => e (UInt8.toNat_inj.1 h')
      omega
/-- Names that go up differ. -/
theorem up_lt {l : List (List UInt8)} (h : ∀ i n m, l[i]? = some n → l[i + 1]? = some m → Op.bytesLess n m = true) : ∀ (d i : Nat) (n m : List UInt8), l[i]? = some n → l[i + d + 1]? = some m → Op.bytesLess n m = true
  | 0, i, n, m, h1, h2 => h i n m h1 h2
  | d + 1, i, n, m, h1, h2 => by
    have hlt := (List.getElem?_eq_some_iff.1 h2).1
    obtain ⟨k, hk⟩ : ∃ k, l[i + d + 1]? = some k := ⟨_, List.getElem?_eq_getElem (by omega)⟩
    exact bl_trans (up_lt h d i n k h1 hk) (h (i + d + 1) k m hk h2)
theorem up_notin {l : List (List UInt8)} (h : ∀ i n m, l[i]? = some n → l[i + 1]? = some m → Op.bytesLess n m = true) {k : Nat} {m : List UInt8} (hm : l[k]? = some m) : m ∉ l.take k := by
  intro hc
  obtain ⟨i, hi⟩ := List.mem_iff_getElem?.1 hc
  have hik : i < k := by have := (List.getElem?_eq_some_iff.1 hi).1; rw [List.length_take] at this; omega
  rw [List.getElem?_take_of_lt hik] at hi
  have := up_lt h (k - i - 1) i m m hi (by rw [show i + (k - i - 1) + 1 = k by omega]; exact hm)
  rw [bl_irrefl] at this; cases this
theorem sound_up {codes : List CodeT} (h : soundC codes = true) : ∀ i n m, (codes.map (·.name))[i]? = some n → (codes.map (·.name))[i + 1]? = some m → Op.bytesLess n m = true := by
  intro i n m h1 h2
  rw [List.getElem?_map] at h2
  cases hc : codes[i + 1]? with
  | none => rw [hc] at h2; cases h2
  | some c =>
    rw [hc] at h2
    obtain rfl : c.name = m := Option.some.inj h2
    unfold soundC at h
    rw [List.all_eq_true] at h
    have := h (i + 1) (List.mem_range.2 (List.getElem?_eq_some_iff.1 hc).1)
    rw [hc] at this
    dsimp only at this
    rw [codeOk_eq, Bool.and_eq_true, Bool.and_eq_true] at this
    have h3 := this.1.2
    rw [show (codes.map (·.name)).getD (i + 1 - 1) [] = n by rw [List.getD_eq_getElem?_getD, Nat.add_sub_cancel, h1]; rfl] at h3
    simp only [Bool.or_eq_true, beq_iff_eq, Bool.not_eq_true', Bool.or_eq_false_iff, decide_eq_false_iff_not] at h3
    rcases h3 with h3 | h3
    · omega
    · exact bl_tri h3.1 h3.2
/-! ### Places -/
def placeL : List (List UInt8) → List UInt8 → Nat → Option Nat
  | [], _, _ => none
  | n :: r, s, i => if s = n then some i else placeL r s (i + 1)
def entsN : List (List UInt8) → Nat → List (AV × AV)
  | [], _ => []
  | n :: r, i => (.str n, .int .i64 i) :: entsN r (i + 1)
theorem mapFind_N (s : List UInt8) : ∀ (l : List (List UInt8)) (i : Nat), mapFind (entsN l i) (.str s) i = some ((placeL l s i).map fun j => (j, .int .i64 j))
  | [], i => rfl
  | n :: r, i => by
    show (match some (decide (s = n)) with
      | some true => some (some (i, AV.int .i64 i))
      | some false => mapFind (entsN r (i + 1)) (.str s) (i + 1)
      | none => none) = _
    rw [placeL]
    by_cases e : s = n
    · rw [decide_eq_true e, if_pos e]; rfl
    · rw [decide_eq_false e, if_neg e]; exact mapFind_N s r (i + 1)
theorem entsN_snoc (n : List UInt8) : ∀ (l : List (List UInt8)) (i : Nat), entsN (l ++ [n]) i = entsN l i ++ [(.str n, .int .i64 ((i + l.length : Nat) : Int))]
  | [], i => rfl
  | m :: r, i => by
    rw [List.cons_append, entsN, entsN, entsN_snoc n r (i + 1), List.length_cons, List.cons_append, show i + 1 + r.length = i + (r.length + 1) by omega]
theorem placeL_none (s : List UInt8) : ∀ (l : List (List UInt8)) (i : Nat), s ∉ l → placeL l s i = none
  | [], _, _ => rfl
  | n :: r, i, h => by
    rw [placeL, if_neg (fun e => h (by rw [e]; exact List.mem_cons_self ..)), placeL_none s r (i + 1) (fun hm => h (List.mem_cons_of_mem _ hm))]
theorem names_notin {k : Nat} {m : List UInt8} (hm : namesL[k]? = some m) : m ∉ namesL.take k := by
  have key : ((List.range 52).all fun k => !((namesL.take k).contains (namesL.getD k []))) = true := by decide +kernel
  have hk : k < 52 := (List.getElem?_eq_some_iff.1 hm).1
  have := List.all_eq_true.1 key k (List.mem_range.2 hk)
  rw [List.getD_eq_getElem?_getD, hm] at this
  simpa using this
set_option maxHeartbeats 1000000 in
theorem f_places (codes : List CodeT) (hl : codes.length ≤ 1048576) (hup : ∀ k m, (codes.map (·.name))[k]? = some m → m ∉ (codes.map (·.name)).take k) :
    ACalls Tryz.prog 25 [.fz (codesC codes) codes.length false] [] fun out st' => ∃ bw bp, out = .ret (.tup [.mapr bw, .mapr bp]) ∧ st' = [(bw, .map (entsN (codes.map (·.name)) 0)), (bp, .map (entsN namesL 0))] := by
  refine ACalls.of_W tb_ok (fn := Tryz.f25) (n := 35) (by kernel_rfl) rfl (by kernel_rfl) rfl rfl (by simp) (go ?_)
  refine VAll.mk (fun bw => go ?_)
  refine VAll.mk (fun bp => go ?_)
  refine VLoop.mk [12] Nat (fun k => [.int .i64 k]) (fun k => [(bw, .map (entsN ((codes.map (·.name)).take k) 0)), (bp, .map [])]) (fun k => k ≤ codes.length) (fun k => codes.length - k) 0 ?_ ?_
  · exact ⟨Nat.zero_le _, rfl, .cons 1 rfl (.cons 0 rfl .nil)⟩
  rintro k hk
  dsimp only at hk ⊢
  refine go ?_
  refine fork (fun hlt => go ?_) (fun hlt => ?_)
  · have hlt : k < codes.length := by omega
    obtain ⟨x, hx⟩ : ∃ x, codes[k]? = some x := ⟨codes[k], by simp [hlt]⟩
    have hd := flat_drop codeC 2 codeC_len hx
    have hnk : (codes.map (·.name))[k]? = some x.name := by rw [List.getElem?_map, hx]; rfl
    have hni := hup k _ hnk
    have hf := mapFind_N x.name ((codes.map (·.name)).take k) 0
    rw [placeL_none _ _ _ hni] at hf
    have hsn : entsN ((codes.map (·.name)).take (k + 1)) 0 = entsN ((codes.map (·.name)).take k) 0 ++ [(.str x.name, .int .i64 (k : Nat))] := by
      rw [take_succ_at hnk, entsN_snoc, List.length_take, List.length_map, Nat.zero_add, Nat.min_eq_left hk]
    obtain ⟨nm, ops⟩ := x
    have d0 : (List.drop (mulN k 2) (codesC codes)).take 2 = [.str nm, .fz (opsC ops) ops.length false] := by rw [show codesC codes = codes.flatMap codeC from rfl, hd]; rfl
    refine VTake.mk _ d0 rfl (go ?_)
    refine VAll.mk (fun b5 => go ?_)
    refine VMap.mk none hf (go ?_)
    exact ⟨k + 1, by omega, by omega, rfl, .cons 1 (congrArg (fun c => some (bw, AObj.map c)) hsn.symm) (.cons 1 rfl .nil)⟩
  obtain rfl : k = codes.length := by omega
  rw [List.take_of_length_le (by rw [List.length_map]; exact Nat.le_refl _)]
  generalize entsN (codes.map (·.name)) 0 = ew
  refine go ?_
  refine Fn.use (f_pNames) (go ?_)
  refine VLoop.mk [24] Nat (fun k => [.int .i64 k]) (fun k => [(bw, .map ew), (bp, .map (entsN (namesL.take k) 0))]) (fun k => k ≤ 52) (fun k => 52 - k) 0 ?_ ?_
  · exact ⟨Nat.zero_le _, rfl, .cons 0 rfl (.cons 0 rfl .nil)⟩
  rintro k hk
  dsimp only at hk ⊢
  refine go ?_
  refine fork (fun hlt => go ?_) (fun hlt => ?_)
  · have hlt : k < 52 := by omega
    obtain ⟨w, hw⟩ : ∃ w, namesL[k]? = some w := ⟨_, List.getElem?_eq_getElem (show k < namesL.length from hlt)⟩
    have hf := mapFind_N w (namesL.take k) 0
    rw [placeL_none _ _ _ (names_notin hw)] at hf
    have hsn : entsN (namesL.take (k + 1)) 0 = entsN (namesL.take k) 0 ++ [(.str w, .int .i64 (k : Nat))] := by
      rw [take_succ_at hw, entsN_snoc, List.length_take, Nat.zero_add, Nat.min_eq_left (show k ≤ namesL.length from hk)]
    refine VNth.mk (.str w) (by rw [mulN_eq]; simp [hw]) (go ?_)
    refine VMap.mk none hf (go ?_)
    exact ⟨k + 1, by omega, by omega, rfl, .cons 0 rfl (.cons 0 (congrArg (fun c => some (bp, AObj.map c)) hsn.symm) .nil)⟩
  obtain rfl : k = 52 := by omega
  rw [show namesL.take 52 = namesL from rfl]
  generalize entsN namesL 0 = ep
  refine go ?_
  exact VRet.mk _ (.cons 0 rfl (.cons 0 rfl .nil)) ⟨bw, bp, rfl, rfl⟩
/-- The operation of an item. -/
def opOf (names : List (List UInt8)) : Tree → Option OpT
  | .call s => match placeL namesL s 0 with
    | some j => some ⟨2, (j : Int), .none⟩
    | none => (placeL names s 0).map fun (j : Nat) => ⟨3, (j : Int), .none⟩
  | t => some ⟨1, 0, t⟩
def opV (r : Option OpT) : AV := match r with
  | some o => .tup [.agg (opC o), .bool true]
  | none => .tup [.agg [.int .i64 3, .int .i64 0, .nili], .bool false]
theorem f_op {names : List (List UInt8)} {bw bp : Nat} {t : Tree} (hc : t.clean = true) (hf : t.full true = true) :
    ACalls Tryz.prog 26 [.mapr bw, .mapr bp, itemAV t] [(bw, .map (entsN names 0)), (bp, .map (entsN namesL 0))] fun out st' => out = .ret (opV (opOf names t)) ∧ st' = [(bw, .map (entsN names 0)), (bp, .map (entsN namesL 0))] := by
  cases hct : t.isCall with
  | true =>
    obtain ⟨s, rfl⟩ : ∃ s, t = .call s := by cases t <;> first | exact ⟨_, rfl⟩ | (cases hct; done)
    have m1 := mapFind_N s namesL 0
    have m2 := mapFind_N s names 0
    have hop : opOf names (.call s) = match placeL namesL s 0 with
      | some j => some ⟨2, (j : Int), .none⟩
      | none => (placeL names s 0).map fun (j : Nat) => ⟨3, (j : Int), .none⟩ := rfl
    rw [itemAV, hop]
    generalize entsN namesL 0 = ep at m1 ⊢
    generalize entsN names 0 = ew at m2 ⊢
    cases h1 : placeL namesL s 0 with
    | some j =>
      rw [h1] at m1
      show ACalls _ _ _ _ fun out st' => out = .ret (.tup [.agg [.int .i64 2, .int .i64 (j : Int), valAV .none], .bool true]) ∧ _
      rw [valAV]
      refine ACalls.of_W tb_ok (fn := Tryz.f26) (n := 46) (by kernel_rfl) rfl (by kernel_rfl) rfl rfl (by simp) (go ?_)
      refine VAll.mk (fun b6 => go ?_)
      refine VAll.mk (fun b8 => go ?_)
      refine VMap.mk _ m1 (go ?_)
      exact VRet.mk _ (.cons 2 rfl (.cons 2 rfl .nil)) ⟨rfl, rfl⟩
    | none =>
      rw [h1] at m1
      cases h2 : placeL names s 0 with
      | some j =>
        rw [h2] at m2
        show ACalls _ _ _ _ fun out st' => out = .ret (.tup [.agg [.int .i64 3, .int .i64 (j : Int), valAV .none], .bool true]) ∧ _
        rw [valAV]
        refine ACalls.of_W tb_ok (fn := Tryz.f26) (n := 46) (by kernel_rfl) rfl (by kernel_rfl) rfl rfl (by simp) (go ?_)
        refine VAll.mk (fun b6 => go ?_)
        refine VAll.mk (fun b8 => go ?_)
        refine VMap.mk _ m1 (go ?_)
        refine VMap.mk _ m2 (go ?_)
        exact VRet.mk _ (.cons 2 rfl (.cons 2 rfl .nil)) ⟨rfl, rfl⟩
      | none =>
        rw [h2] at m2
        show ACalls _ _ _ _ fun out st' => out = .ret (.tup [.agg [.int .i64 3, .int .i64 0, .nili], .bool false]) ∧ _
        refine ACalls.of_W tb_ok (fn := Tryz.f26) (n := 46) (by kernel_rfl) rfl (by kernel_rfl) rfl rfl (by simp) (go ?_)
        refine VAll.mk (fun b6 => go ?_)
        refine VAll.mk (fun b8 => go ?_)
        refine VMap.mk _ m1 (go ?_)
        refine VMap.mk _ m2 (go ?_)
        exact VRet.mk _ (.cons 2 rfl (.cons 2 rfl .nil)) ⟨rfl, rfl⟩
  | false =>
    have hp := item_push hct hf
    have hcl := f_Clone hc
    have ho := valAV_one' t
    have hop : opOf names t = some ⟨1, 0, t⟩ := by cases t <;> first | rfl | (cases hct; done)
    rw [hp, hop]
    unfold opV opC
    dsimp only
    generalize valAV t = v at hcl ho ⊢
    generalize entsN namesL 0 = ep
    generalize entsN names 0 = ew
    refine ACalls.of_W tb_ok (fn := Tryz.f26) (n := 46) (by kernel_rfl) rfl (by kernel_rfl) rfl rfl (by simp) (go ?_)
    refine VAll.mk (fun b6 => go ?_)
    refine VAll.mk (fun b8 => go ?_)
    refine Fn.use hcl (go ?_)
    refine VOne.mk ho (go ?_)
    exact VRet.mk _ (.cons 2 rfl (.cons 2 rfl .nil)) ⟨rfl, rfl⟩
def opsOf (names : List (List UInt8)) : List Tree → Option (List OpT)
  | [] => some []
  | t :: r => match opOf names t with
    | none => none
    | some o => (opsOf names r).map (o :: ·)
theorem opsOf_next {names : List (List UInt8)} {l : List Tree} {k : Nat} {t : Tree} (h : l[k]? = some t) (A : List OpT) : (opsOf names (l.drop k)).map (A ++ ·) = match opOf names t with
    | none => none
    | some o => (opsOf names (l.drop (k + 1))).map ((A ++ [o]) ++ ·) := by
  have hlt := (List.getElem?_eq_some_iff.1 h).1
  have hd : l.drop k = t :: l.drop (k + 1) := by
    rw [List.drop_eq_getElem_cons hlt]
    congr 1
    rw [List.getElem?_eq_getElem hlt] at h
    exact Option.some.inj h
  rw [hd, opsOf]
  cases opOf names t with
  | none => rfl
  | some o =>
    dsimp only
    cases opsOf names (l.drop (k + 1)) with
    | none => rfl
    | some r => dsimp only [Option.map_some]; rw [List.append_assoc]; rfl
/-- The code of items. -/
def linkOps (codes : List CodeT) (l : List Tree) : List OpT × Int :=
  if (soundC codes && (checkR l && bareTs l)) = true then match opsOf (codes.map (·.name)) l with
    | some ops => (ops, 0)
    | none => ([], 10)
  else ([], 1)
def lopsV (r : List OpT × Int) : AV := .tup [.fz (opsC r.1) r.1.length false, .int .i64 r.2]
structure OpsI where
  k : Nat
  o : Option Nat
  A : List OpT
set_option maxHeartbeats 2000000 in
theorem f_lOps {codes : List CodeT} {l : List Tree} (hcl : codes.length ≤ 1048576) (hcs : ∀ c ∈ codes, CodeIn c) (hc : (Tree.quot l).clean = true) (hs : (Tree.quot l).nmS = true) :
    Av.Fn Tryz.prog 15 [.fz (codesC codes) codes.length false, .fz (itemAVs l) l.length false] (lopsV (linkOps codes l)) := by
  have hA := f_Check codes hcl hcs
  have hB := f_CheckItems hc hs
  have hD := f_tBare hc
  have hP := f_places codes hcl
  unfold linkOps
  cases hsd : soundC codes with
  | false =>
    rw [hsd, if_neg (by simp)] at hA
    refine ACalls.of_W tb_ok (fn := Tryz.f15) (n := 52) (by kernel_rfl) rfl (by kernel_rfl) rfl rfl (by simp) (go ?_)
    refine Fn.use (hA) (go ?_)
    refine VRet.mk [] .nil ?_
    exact ⟨rfl, rfl⟩
  | true =>
  rw [hsd, if_pos (by simp)] at hA
  have hup : ∀ k m, (codes.map (·.name))[k]? = some m → m ∉ (codes.map (·.name)).take k := fun k m h => up_notin (sound_up hsd) h
  have hP := hP hup
  cases hck : checkR l with
  | false =>
    rw [hck, if_neg (by simp)] at hB
    refine ACalls.of_W tb_ok (fn := Tryz.f15) (n := 52) (by kernel_rfl) rfl (by kernel_rfl) rfl rfl (by simp) (go ?_)
    refine Fn.use (hA) (go ?_)
    refine Fn.use (hB) (go ?_)
    refine VRet.mk [] .nil ?_
    exact ⟨rfl, rfl⟩
  | true =>
  rw [hck, if_pos (by simp)] at hB
  cases hbr : bareTs l with
  | false =>
    rw [hbr] at hD
    refine ACalls.of_W tb_ok (fn := Tryz.f15) (n := 52) (by kernel_rfl) rfl (by kernel_rfl) rfl rfl (by simp) (go ?_)
    refine Fn.use (hA) (go ?_)
    refine Fn.use (hB) (go ?_)
    refine Fn.use (hD) (go ?_)
    refine VRet.mk [] .nil ?_
    exact ⟨rfl, rfl⟩
  | true =>
  rw [hbr] at hD
  have hfull : fullAll true l = true := by
    have := meas_full false (.quot l) 1024 0 hck
    rwa [Tree.full] at this
  have hcln : cleanAll l = true := by
    simp only [Tree.clean, Bool.and_eq_true] at hc
    exact hc.2
  obtain ⟨hll, _⟩ := good_check hc hck
  rw [if_pos (by rfl)]
  refine ACalls.of_W tb_ok (fn := Tryz.f15) (n := 52) (by kernel_rfl) rfl (by kernel_rfl) rfl rfl (by simp) (go ?_)
  refine Fn.use (hA) (go ?_)
  refine Fn.use (hB) (go ?_)
  refine Fn.use (hD) (go ?_)
  refine ACalls.use hP (R := []) (List.Perm.refl _) fun out s' hq => ?_
  obtain ⟨bw, bp, rfl, rfl⟩ := hq
  generalize codes.map (·.name) = names at *
  refine go ?_
  refine VLoop.mk [8, 33] OpsI (fun i => [accV i.o i.A.length, .int .i64 i.k]) (fun i => accS i.o 3 (opsC i.A) ++ [(bw, .map (entsN names 0)), (bp, .map (entsN namesL 0))])
    (fun i => i.k ≤ l.length ∧ (i.o = none → i.A = []) ∧ i.A.length = i.k ∧ opsOf names l = (opsOf names (l.drop i.k)).map (i.A ++ ·)) (fun i => l.length - i.k) ⟨0, none, []⟩ ?_ ?_
  · exact ⟨⟨Nat.zero_le _, fun _ => rfl, rfl, by dsimp only; rw [List.drop_zero]; cases opsOf names l <;> rfl⟩, rfl, .cons 0 rfl (.cons 0 rfl .nil)⟩
  rintro ⟨k, o, A⟩ ⟨hk, ho, hA, hI⟩
  dsimp only at hk ho hA hI ⊢
  refine go ?_
  refine fork (fun hlt => go ?_) (fun hlt => ?_)
  · have hlt : k < l.length := by omega
    obtain ⟨t, ht⟩ : ∃ t, l[k]? = some t := ⟨l[k], by simp [hlt]⟩
    rw [opsOf_next ht] at hI
    have hO := f_op (names := names) (bw := bw) (bp := bp) (cleanAll_at hcln ht) (fullAll_at hfull ht)
    refine VNth.mk (itemAV t) (by rw [mulN_eq, itemAVs_map]; simp [ht]) (go ?_)
    refine ACalls.usep hO (R := accS o 3 (opsC A)) List.perm_append_comm fun out s' hq => ?_
    obtain ⟨rfl, rfl⟩ := hq
    cases hx : opOf names t with
    | none =>
      rw [hx] at hI
      unfold opV
      refine go ?_
      refine VAll.mk (fun b11 => go ?_)
      refine VRet.mk [] .nil ?_
      rw [hI]
      exact ⟨rfl, rfl⟩
    | some x =>
      rw [hx] at hI
      unfold opV opC
      obtain ⟨kd, n, v⟩ := x
      have ho1 := valAV_one' v
      dsimp only at hI ⊢
      have hacc : opsC (A ++ [⟨kd, n, v⟩]) = opsC A ++ [.int .i64 kd, .int .i64 n, valAV v] := by simp [opsC, opC]
      cases o with
      | none =>
        obtain rfl : A = [] := ho rfl
        have hk0 : k = 0 := by simpa using hA.symm
        refine go ?_
        refine VAll.mk (fun b11 => go ?_)
        refine VAll.mk (fun b2 => go ?_)
        refine ⟨⟨k + 1, some b2, [⟨kd, n, v⟩]⟩, ⟨by dsimp only; omega, (fun h => by cases h), by rw [hk0]; rfl, hI⟩, by dsimp only; omega, rfl, .cons 0 (congrArg (fun c => some (b2, AObj.arr 3 c 0)) ?_) (.cons 1 rfl (.cons 1 rfl .nil))⟩
        simp [opsC, opC]
      | some bo =>
        refine go ?_
        refine VAll.mk (fun b11 => go ?_)
        refine VGd.mk ⟨rfl, Nat.zero_le _, by rw [mulN_eq, opsC_len]; exact Nat.le_refl _, by show 32 * (A.length + 1) ≤ _; omega⟩ (go ?_)
        refine VAll.mk (fun b2 => go ?_)
        refine ⟨⟨k + 1, some b2, A ++ [⟨kd, n, v⟩]⟩, ⟨by dsimp only; omega, (fun h => by cases h), by rw [List.length_append]; show A.length + 1 = k + 1; omega, hI⟩, by dsimp only; omega, ?_, .cons 0 (congrArg (fun c => some (b2, AObj.arr 3 c 0)) ?_) (.cons 1 rfl (.cons 1 rfl .nil))⟩
        · simp [accV]
        · rw [mulN_eq, List.take_of_length_le (by rw [opsC_len]; exact Nat.le_refl _)]
          exact hacc.symm
  · obtain rfl : k = l.length := by omega
    rw [List.drop_length, opsOf, Option.map_some, List.append_nil] at hI
    rw [hI]
    dsimp only
    unfold lopsV
    cases o with
    | none =>
      obtain rfl : A = [] := ho rfl
      refine go ?_
      refine VRet.mk [] .nil ?_
      exact ⟨rfl, rfl⟩
    | some bo =>
      have htk : (opsC A).take (A.length * 3) = opsC A := List.take_of_length_le (by simp)
      refine go ?_
      refine VRet.mk [] .nil ?_
      rw [htk]
      exact ⟨rfl, rfl⟩
end Go.Proofs.YtonkeklageehbaaGreatDoor

namespace Go.Proofs.YtonkeklageehbaaGreatDoor
open Go Go.Av
@[simp] theorem knC_len (kl : KnL) : (knC kl).length = kl.length * 3 := by
  induction kl with
  | nil => rfl
  | cons x r ih => simp only [knC, List.length_cons, ih]; omega
theorem knC_get {kl : KnL} {j : Nat} {x : List UInt8 × Int × Int} (h : kl[j]? = some x) : (knC kl)[j * 3]? = some (.str x.1) ∧ (knC kl)[j * 3 + 1]? = some (.int .i64 x.2.1) ∧ (knC kl)[j * 3 + 2]? = some (.int .i64 x.2.2) := by
  induction kl generalizing j with
  | nil => simp at h
  | cons y r ih =>
    cases j with
    | zero => simp at h; subst h; exact ⟨rfl, rfl, rfl⟩
    | succ j =>
      have h : r[j]? = some x := by simpa using h
      obtain ⟨h1, h2, h3⟩ := ih h
      rw [show (j + 1) * 3 = j * 3 + 3 by omega]
      exact ⟨h1, h2, h3⟩
theorem knC_append (a b : KnL) : knC (a ++ b) = knC a ++ knC b := by
  induction a with
  | nil => rfl
  | cons x r ih => simp only [List.cons_append, knC, ih]
end Go.Proofs.YtonkeklageehbaaGreatDoor

namespace Go.Proofs.YtonkeklageehbaaGreatDoor
open Go Go.Av
theorem knC_flat : ∀ l : KnL, knC l = l.flatMap fun x => [.str x.1, .int .i64 x.2.1, .int .i64 x.2.2]
  | [] => rfl
  | x :: r => by rw [knC, knC_flat r]; rfl
def knBulk (l : KnL) : Nat := (l.map fun x => x.1.length + 1).sum + 1
section
variable {H : Type} {enc : TypeId × Value → H} {W : World}
theorem reads_Kn (fuel : Nat) : Reads enc Tryz.prog W 178 fuel (fun l : KnL => [.fz (knC l) l.length false]) (fun l => l.length ≤ 4398046510976) knBulk := by
  cases fuel with
  | zero => exact .zero
  | succ fuel =>
    cases fuel with
    | zero =>
      have h := reads_slice (Tryz.underlying178) (esz := 3) (by kernel_rfl) (by omega) (Reads.zero (C := fun x : List UInt8 × Int × Int => [.str x.1, .int .i64 x.2.1, .int .i64 x.2.2]) (B := fun _ => True) (m := fun x => x.1.length + 1)) (enc := enc) (W := W)
      refine h.map (fun l => l) (fun l => by rw [knC_flat]) (fun l hl => ?_) (fun l => Nat.le_refl _)
      have h1 := hl.1
      rw [show Tryz.prog.bytesOf 217 = 32 by kernel_rfl, show reachBytes = 140737488351232 by decide] at h1
      omega
    | succ fuel =>
      have hf : ReadsF enc Tryz.prog W fuel 0 [⟨"Name", 9, 0, false, "", "", 0⟩, ⟨"In", 3, 1, false, "", "", 16⟩, ⟨"Out", 3, 2, false, "", "", 24⟩] (1 + (1 + (1 + 0))) _ _ _ :=
        .cons rfl (by kernel_rfl) (reads_str (Tryz.underlying9) fuel) (.cons rfl (by kernel_rfl) (reads_int (Tryz.underlying3) fuel) (.cons rfl (by kernel_rfl) (reads_int (Tryz.underlying3) fuel) .nil))
      have h := reads_struct (Tryz.underlying217) (by kernel_rfl) hf
      have h2 := h.map (C' := fun x : List UInt8 × Int × Int => [.str x.1, .int .i64 x.2.1, .int .i64 x.2.2]) (B' := fun _ => True) (m' := fun x => x.1.length + 1) (fun x => (x.1, x.2.1, x.2.2.1)) (fun x => by simp) (fun x _ => trivial) (fun x => by dsimp only; omega)
      have h3 := reads_slice (Tryz.underlying178) (esz := 3) (by kernel_rfl) (by omega) h2 (enc := enc) (W := W)
      refine h3.map (fun l => l) (fun l => by rw [knC_flat]) (fun l hl => ?_) (fun l => Nat.le_refl _)
      have h1 := hl.1
      rw [show Tryz.prog.bytesOf 217 = 32 by kernel_rfl, show reachBytes = 140737488351232 by decide] at h1
      omega
end
end Go.Proofs.YtonkeklageehbaaGreatDoor

namespace Go.Proofs.YtonkeklageehbaaGreatDoor
open Go Go.Av
theorem f_dCallable (s : Txt) (hs : s.length ≤ 4611686018427387904) : Av.Fn Tryz.prog 49 [.str s] (.bool (nmR s && !isPrim s)) := by
  have h1 := f_tName s hs
  have h2 := f_pIs s
  refine ACalls.of_W tb_ok (fn := Tryz.f49) (n := 10) (by kernel_rfl) rfl (by kernel_rfl) rfl rfl (by simp) (go ?_)
  refine Fn.use (h1) (go ?_)
  cases nmR s with
  | false =>
    refine go ?_
    refine VRet.mk [] .nil ?_
    exact ⟨rfl, rfl⟩
  | true =>
    refine go ?_
    refine Fn.use (h2) (go ?_)
    refine VRet.mk [] .nil ?_
    exact ⟨rfl, rfl⟩
def bodyR (w : WordT) : Bool := checkR w.body && bareTs w.body && decide (0 ≤ min w.inn w.out) && decide (max w.inn w.out ≤ 16)
theorem f_dBody (w : WordT) (hc : (Tree.quot w.body).clean = true) (hs : (Tree.quot w.body).nmS = true) :
    Av.Fn Tryz.prog 50 [.agg [.str w.name, .int .i64 w.inn, .int .i64 w.out, .fz (itemAVs w.body) w.body.length false]] (.bool (bodyR w)) := by
  have h1 := f_CheckItems hc hs
  have h2 := f_tBare hc
  unfold bodyR
  generalize checkR w.body = p at h1 ⊢
  generalize bareTs w.body = q at h2 ⊢
  refine ACalls.of_W tb_ok (fn := Tryz.f50) (n := 32) (by kernel_rfl) rfl (by kernel_rfl) rfl rfl (by simp) (go ?_)
  refine VAll.mk (fun b1 => go ?_)
  refine Fn.use (h1) (go ?_)
  cases p with
  | false =>
    refine go ?_
    refine VRet.mk [] .nil ?_
    exact ⟨rfl, rfl⟩
  | true =>
    refine go ?_
    refine Fn.use (h2) (go ?_)
    cases q with
    | false =>
      refine go ?_
      refine VRet.mk [] .nil ?_
      exact ⟨rfl, rfl⟩
    | true =>
      refine go ?_
      refine fork (fun h3 => go ?_) (fun h3 => go ?_)
      · refine VRet.mk [] .nil ?_
        rw [decide_eq_true h3]; exact ⟨rfl, rfl⟩
      · refine VRet.mk [] .nil ?_
        rw [decide_eq_false h3]; exact ⟨rfl, rfl⟩
def knL (l : List WordT) : KnL := l.map fun w => (w.name, w.inn, w.out)
theorem knL_C (l : List WordT) : knC (knL l) = l.flatMap knOf := by
  rw [knC_flat]; unfold knL; rw [List.flatMap_map]; rfl
noncomputable def fitsD (m : List (Txt × List Txt)) (ws : List WordT) (w : WordT) : Int :=
  if seesR m (wordsN ws) w = false then 10 else if (ofR w.body (knL ws)).2.2 = 0 ∧ ¬ ((ofR w.body (knL ws)).1 = w.inn ∧ (ofR w.body (knL ws)).2.1 = w.out) then 12 else (ofR w.body (knL ws)).2.2


set_option maxHeartbeats 4000000 in
theorem f_dFits (bk bu bw : Nat) (k0 k1 : AV) (m : List (Txt × List Txt)) (hm : ∀ e ∈ m, e.2.length ≤ 1000000) (ws : List WordT) (hws : ws.length ≤ 1000000) (o : Option Nat) (ho : o = none → ws = []) (z : Nat) (w : WordT) (hc : (Tree.quot w.body).clean = true) (hs : (Tree.quot w.body).nmS = true) :
    ACalls Tryz.prog 51 [.ptr bk 0, .agg (wordC w)] (KS bk bu bw k0 k1 (lkV o ws.length) m (wordsN ws) ++ lkS o ws z) fun out st => out = .ret (.int .i64 (fitsD m ws w)) ∧ ∃ z', st = KS bk bu bw k0 k1 (lkV o ws.length) m (wordsN ws) ++ lkS o ws z' := by
  have hc2 := hc
  simp only [Tree.clean, Bool.and_eq_true, decide_eq_true_eq] at hc2
  have hsee := f_sees bk bu bw k0 k1 (lkV o ws.length) m hm (wordsN ws) w hc2.1 hc2.2
  have hO := f_Of w.body (knL ws) hc hs (by simp [knL]; omega)
  unfold fitsD
  generalize ofR w.body (knL ws) = r at hO ⊢
  rw [knL_C, show (knL ws).length = ws.length by simp [knL]] at hO
  obtain ⟨ri, ro, re⟩ := r
  unfold ofV at hO
  dsimp only at hO ⊢
  have hO2 : Av.Fn Tryz.prog 75 [.fz (itemAVs w.body) w.body.length false, .fz (List.take (ws.length * 3) (ws.flatMap knOf)) ws.length false] (.tup [.agg [.int .i64 ri, .int .i64 ro], .int .i64 re]) := by
    rw [List.take_of_length_le (by rw [flat_len knOf 3 knOf_len]; exact Nat.le_refl _)]; exact hO
  cases o with
  | none =>
    obtain rfl : ws = [] := ho rfl
    refine ACalls.of_W tb_ok (fn := Tryz.f51) (n := 32) (by kernel_rfl) rfl (by kernel_rfl) rfl rfl (by simp) (go ?_)
    refine VAll.mk (fun b3 => go ?_)
    refine ACalls.usep (R := (b3, .box (wordC w)) :: lkS none [] z) hsee (by exact List.perm_middle) ?_
    rintro out s' ⟨rfl, rfl⟩
    cases hsr : seesR m (wordsN []) w with
    | false =>
      refine go ?_
      rw [if_pos rfl]
      exact VRet.mk _ (.cons 1 rfl (.cons 1 rfl (.cons 1 rfl .nil))) ⟨rfl, z, rfl⟩
    | true =>
      refine go ?_
      rw [if_neg (by simp)]
      by_cases e0 : re = 0
      · by_cases e1 : ri = w.inn ∧ ro = w.out
        · rw [if_neg (fun h => h.2 e1)]
          have e2 := e1
          refine VDraw.chain [7, 8, 9, 10, 11, 12, 13] (go ?_)
          repeat' ((conv => whnf); first | refine VAnd.mk ?_ ?_ | refine VGd.mk rfl ?_ | refine VGd.mk (by decide) ?_ | refine VOne.mk rfl ?_ | refine VFz.nil ?_ | refine VFz.nils ?_ | (refine VFz.own 2 _ _ _ rfl ?_ ?_; focus (first | (simp; done) | (rw [flat_len knOf 3 knOf_len]; exact Nat.le_refl _))) | (refine VFz.own 1 _ _ _ rfl ?_ ?_; focus (first | (simp; done) | (rw [flat_len knOf 3 knOf_len]; exact Nat.le_refl _))) | refine VFz.keep ?_ | refine VObj.mk 0 _ rfl ?_ | refine VObj.mk 1 _ rfl ?_ | refine VObj.mk 2 _ rfl ?_ | refine VObj.mk 3 _ rfl ?_ | refine VObj.mk 4 _ rfl ?_ | refine VTake.mk _ rfl rfl ?_ | refine VNth.mk _ rfl ?_ | refine Fn.use hO ?_ | refine Fn.use hO2 ?_ | refine VIf.tt ?_ | refine VIf.ff ?_ | (refine VIf.yes ?_ ?_; focus (first | exact e2 | (simp [e0, e1]; done) | (simp [e0]; done) | (simpa using e1))) | (refine VIf.no ?_ ?_; focus (first | exact e2 | (simp [e0, e1]; done) | (simp [e0]; done) | (simpa using e1))) | (refine VAll.mk fun _ => ?_))
          all_goals (conv => whnf)
          all_goals (first | exact VRet.mk _ (.cons 2 rfl (.cons 2 rfl (.cons 2 rfl .nil))) ⟨rfl, z, rfl⟩ | exact VRet.mk _ (.cons 2 rfl (.cons 2 rfl (.cons 2 rfl .nil))) ⟨congrArg (fun n => AOut.ret (.int .i64 n)) e0.symm, z, rfl⟩ | trace_state)
        · rw [if_pos ⟨e0, e1⟩]
          have e2 : (!(decide (ri = w.inn) && (decide (ro = w.out) && true))) = true := by
            by_cases q1 : ri = w.inn
            · by_cases q2 : ro = w.out
              · exact absurd ⟨q1, q2⟩ e1
              · rw [decide_eq_false q2]; simp
            · rw [decide_eq_false q1]; rfl
          refine VDraw.chain [7, 8, 9, 10, 11, 12, 13] (go ?_)
          repeat' ((conv => whnf); first | refine VAnd.mk ?_ ?_ | refine VGd.mk rfl ?_ | refine VGd.mk (by decide) ?_ | refine VOne.mk rfl ?_ | refine VFz.nil ?_ | refine VFz.nils ?_ | (refine VFz.own 2 _ _ _ rfl ?_ ?_; focus (first | (simp; done) | (rw [flat_len knOf 3 knOf_len]; exact Nat.le_refl _))) | (refine VFz.own 1 _ _ _ rfl ?_ ?_; focus (first | (simp; done) | (rw [flat_len knOf 3 knOf_len]; exact Nat.le_refl _))) | refine VFz.keep ?_ | refine VObj.mk 0 _ rfl ?_ | refine VObj.mk 1 _ rfl ?_ | refine VObj.mk 2 _ rfl ?_ | refine VObj.mk 3 _ rfl ?_ | refine VObj.mk 4 _ rfl ?_ | refine VTake.mk _ rfl rfl ?_ | refine VNth.mk _ rfl ?_ | refine Fn.use hO ?_ | refine Fn.use hO2 ?_ | refine VIf.tt ?_ | refine VIf.ff ?_ | (refine VIf.yes ?_ ?_; focus (first | exact e2 | (simp [e0, e1]; done) | (simp [e0]; done) | (simpa using e1))) | (refine VIf.no ?_ ?_; focus (first | exact e2 | (simp [e0, e1]; done) | (simp [e0]; done) | (simpa using e1))) | (refine VAll.mk fun _ => ?_))
          all_goals (conv => whnf)
          all_goals (first | exact VRet.mk _ (.cons 2 rfl (.cons 2 rfl (.cons 2 rfl .nil))) ⟨rfl, z, rfl⟩ | exact VRet.mk _ (.cons 2 rfl (.cons 2 rfl (.cons 2 rfl .nil))) ⟨congrArg (fun n => AOut.ret (.int .i64 n)) e0.symm, z, rfl⟩ | trace_state)
      · rw [if_neg (fun h => e0 h.1)]
        have e1 := e0
        have e2 := e0
        refine VDraw.chain [7, 8, 9, 10, 11, 12, 13] (go ?_)
        repeat' ((conv => whnf); first | refine VAnd.mk ?_ ?_ | refine VGd.mk rfl ?_ | refine VGd.mk (by decide) ?_ | refine VOne.mk rfl ?_ | refine VFz.nil ?_ | refine VFz.nils ?_ | (refine VFz.own 2 _ _ _ rfl ?_ ?_; focus (first | (simp; done) | (rw [flat_len knOf 3 knOf_len]; exact Nat.le_refl _))) | (refine VFz.own 1 _ _ _ rfl ?_ ?_; focus (first | (simp; done) | (rw [flat_len knOf 3 knOf_len]; exact Nat.le_refl _))) | refine VFz.keep ?_ | refine VObj.mk 0 _ rfl ?_ | refine VObj.mk 1 _ rfl ?_ | refine VObj.mk 2 _ rfl ?_ | refine VObj.mk 3 _ rfl ?_ | refine VObj.mk 4 _ rfl ?_ | refine VTake.mk _ rfl rfl ?_ | refine VNth.mk _ rfl ?_ | refine Fn.use hO ?_ | refine Fn.use hO2 ?_ | refine VIf.tt ?_ | refine VIf.ff ?_ | (refine VIf.yes ?_ ?_; focus (first | exact e2 | (simp [e0, e1]; done) | (simp [e0]; done) | (simpa using e1))) | (refine VIf.no ?_ ?_; focus (first | exact e2 | (simp [e0, e1]; done) | (simp [e0]; done) | (simpa using e1))) | (refine VAll.mk fun _ => ?_))
        all_goals (conv => whnf)
        all_goals (first | exact VRet.mk _ (.cons 2 rfl (.cons 2 rfl (.cons 2 rfl .nil))) ⟨rfl, z, rfl⟩ | exact VRet.mk _ (.cons 2 rfl (.cons 2 rfl (.cons 2 rfl .nil))) ⟨congrArg (fun n => AOut.ret (.int .i64 n)) e0.symm, z, rfl⟩ | trace_state)
  | some bl =>
    refine ACalls.of_W tb_ok (fn := Tryz.f51) (n := 32) (by kernel_rfl) rfl (by kernel_rfl) rfl rfl (by simp) (go ?_)
    refine VAll.mk (fun b3 => go ?_)
    refine ACalls.usep (R := (b3, .box (wordC w)) :: lkS (some bl) ws z) hsee (by exact List.perm_middle) ?_
    rintro out s' ⟨rfl, rfl⟩
    cases hsr : seesR m (wordsN ws) w with
    | false =>
      refine go ?_
      rw [if_pos rfl]
      exact VRet.mk _ (.cons 2 rfl (.cons 2 rfl (.cons 2 rfl (.cons 1 rfl .nil)))) ⟨rfl, z, rfl⟩
    | true =>
      refine go ?_
      rw [if_neg (by simp)]
      by_cases e0 : re = 0
      · by_cases e1 : ri = w.inn ∧ ro = w.out
        · rw [if_neg (fun h => h.2 e1)]
          have e2 := e1
          refine VDraw.chain [7, 8, 9, 10, 11, 12, 13] (go ?_)
          repeat' ((conv => whnf); first | refine VAnd.mk ?_ ?_ | refine VGd.mk rfl ?_ | refine VGd.mk (by decide) ?_ | refine VOne.mk rfl ?_ | refine VFz.nil ?_ | refine VFz.nils ?_ | (refine VFz.own 2 _ _ _ rfl ?_ ?_; focus (first | (simp; done) | (rw [flat_len knOf 3 knOf_len]; exact Nat.le_refl _))) | (refine VFz.own 1 _ _ _ rfl ?_ ?_; focus (first | (simp; done) | (rw [flat_len knOf 3 knOf_len]; exact Nat.le_refl _))) | refine VFz.keep ?_ | refine VObj.mk 0 _ rfl ?_ | refine VObj.mk 1 _ rfl ?_ | refine VObj.mk 2 _ rfl ?_ | refine VObj.mk 3 _ rfl ?_ | refine VObj.mk 4 _ rfl ?_ | refine VTake.mk _ rfl rfl ?_ | refine VNth.mk _ rfl ?_ | refine Fn.use hO ?_ | refine Fn.use hO2 ?_ | refine VIf.tt ?_ | refine VIf.ff ?_ | (refine VIf.yes ?_ ?_; focus (first | exact e2 | (simp [e0, e1]; done) | (simp [e0]; done) | (simpa using e1))) | (refine VIf.no ?_ ?_; focus (first | exact e2 | (simp [e0, e1]; done) | (simp [e0]; done) | (simpa using e1))) | (refine VAll.mk fun _ => ?_))
          all_goals (conv => whnf)
          all_goals (first | exact VRet.mk _ (.cons 3 rfl (.cons 3 rfl (.cons 3 rfl (.cons 2 rfl .nil)))) ⟨rfl, _, rfl⟩ | exact VRet.mk _ (.cons 3 rfl (.cons 3 rfl (.cons 3 rfl (.cons 2 rfl .nil)))) ⟨congrArg (fun n => AOut.ret (.int .i64 n)) e0.symm, _, rfl⟩ | trace_state)
        · rw [if_pos ⟨e0, e1⟩]
          have e2 : (!(decide (ri = w.inn) && (decide (ro = w.out) && true))) = true := by
            by_cases q1 : ri = w.inn
            · by_cases q2 : ro = w.out
              · exact absurd ⟨q1, q2⟩ e1
              · rw [decide_eq_false q2]; simp
            · rw [decide_eq_false q1]; rfl
          refine VDraw.chain [7, 8, 9, 10, 11, 12, 13] (go ?_)
          repeat' ((conv => whnf); first | refine VAnd.mk ?_ ?_ | refine VGd.mk rfl ?_ | refine VGd.mk (by decide) ?_ | refine VOne.mk rfl ?_ | refine VFz.nil ?_ | refine VFz.nils ?_ | (refine VFz.own 2 _ _ _ rfl ?_ ?_; focus (first | (simp; done) | (rw [flat_len knOf 3 knOf_len]; exact Nat.le_refl _))) | (refine VFz.own 1 _ _ _ rfl ?_ ?_; focus (first | (simp; done) | (rw [flat_len knOf 3 knOf_len]; exact Nat.le_refl _))) | refine VFz.keep ?_ | refine VObj.mk 0 _ rfl ?_ | refine VObj.mk 1 _ rfl ?_ | refine VObj.mk 2 _ rfl ?_ | refine VObj.mk 3 _ rfl ?_ | refine VObj.mk 4 _ rfl ?_ | refine VTake.mk _ rfl rfl ?_ | refine VNth.mk _ rfl ?_ | refine Fn.use hO ?_ | refine Fn.use hO2 ?_ | refine VIf.tt ?_ | refine VIf.ff ?_ | (refine VIf.yes ?_ ?_; focus (first | exact e2 | (simp [e0, e1]; done) | (simp [e0]; done) | (simpa using e1))) | (refine VIf.no ?_ ?_; focus (first | exact e2 | (simp [e0, e1]; done) | (simp [e0]; done) | (simpa using e1))) | (refine VAll.mk fun _ => ?_))
          all_goals (conv => whnf)
          all_goals (first | exact VRet.mk _ (.cons 3 rfl (.cons 3 rfl (.cons 3 rfl (.cons 2 rfl .nil)))) ⟨rfl, _, rfl⟩ | exact VRet.mk _ (.cons 3 rfl (.cons 3 rfl (.cons 3 rfl (.cons 2 rfl .nil)))) ⟨congrArg (fun n => AOut.ret (.int .i64 n)) e0.symm, _, rfl⟩ | trace_state)
      · rw [if_neg (fun h => e0 h.1)]
        have e1 := e0
        have e2 := e0
        refine VDraw.chain [7, 8, 9, 10, 11, 12, 13] (go ?_)
        repeat' ((conv => whnf); first | refine VAnd.mk ?_ ?_ | refine VGd.mk rfl ?_ | refine VGd.mk (by decide) ?_ | refine VOne.mk rfl ?_ | refine VFz.nil ?_ | refine VFz.nils ?_ | (refine VFz.own 2 _ _ _ rfl ?_ ?_; focus (first | (simp; done) | (rw [flat_len knOf 3 knOf_len]; exact Nat.le_refl _))) | (refine VFz.own 1 _ _ _ rfl ?_ ?_; focus (first | (simp; done) | (rw [flat_len knOf 3 knOf_len]; exact Nat.le_refl _))) | refine VFz.keep ?_ | refine VObj.mk 0 _ rfl ?_ | refine VObj.mk 1 _ rfl ?_ | refine VObj.mk 2 _ rfl ?_ | refine VObj.mk 3 _ rfl ?_ | refine VObj.mk 4 _ rfl ?_ | refine VTake.mk _ rfl rfl ?_ | refine VNth.mk _ rfl ?_ | refine Fn.use hO ?_ | refine Fn.use hO2 ?_ | refine VIf.tt ?_ | refine VIf.ff ?_ | (refine VIf.yes ?_ ?_; focus (first | exact e2 | (simp [e0, e1]; done) | (simp [e0]; done) | (simpa using e1))) | (refine VIf.no ?_ ?_; focus (first | exact e2 | (simp [e0, e1]; done) | (simp [e0]; done) | (simpa using e1))) | (refine VAll.mk fun _ => ?_))
        all_goals (conv => whnf)
        all_goals (first | exact VRet.mk _ (.cons 3 rfl (.cons 3 rfl (.cons 3 rfl (.cons 2 rfl .nil)))) ⟨rfl, _, rfl⟩ | exact VRet.mk _ (.cons 3 rfl (.cons 3 rfl (.cons 3 rfl (.cons 2 rfl .nil)))) ⟨congrArg (fun n => AOut.ret (.int .i64 n)) e0.symm, _, rfl⟩ | trace_state)
end Go.Proofs.YtonkeklageehbaaGreatDoor

namespace Go.Proofs.YtonkeklageehbaaGreatDoor
open Go Go.Av
def wordOk (m : List (Txt × List Txt)) (ws : List WordT) (k : Nat) (w : WordT) : Bool :=
  (getA m w.vocab).isSome && (nmR w.name && !isPrim w.name) && bodyR w && (k == 0 || !(Op.bytesLess w.name ((ws.map (·.name)).getD (k - 1) []) || decide (w.name = (ws.map (·.name)).getD (k - 1) [])))
def wordsOk (m : List (Txt × List Txt)) (ws : List WordT) : Bool := (List.range ws.length).all fun i => match ws[i]? with
  | some v => wordOk m ws i v
  | none => true
noncomputable def fitsAll (m : List (Txt × List Txt)) (ws : List WordT) : Bool := ws.all fun w => decide (fitsD m ws w = 0)
noncomputable def dictOk (d : DictT) : Bool := vocabsR d && decide (d.words.length ≤ 512) && wordsOk (usesN d.vocs) d.words && fitsAll (usesN d.vocs) d.words
theorem words_false {ws : List WordT} {m : List (Txt × List Txt)} {i : Nat} {v : WordT} (h : ws[i]? = some v) (hc : wordOk m ws i v = false) : wordsOk m ws = false := by
  unfold wordsOk
  rw [List.all_eq_false]
  refine ⟨i, List.mem_range.2 (List.getElem?_eq_some_iff.1 h).1, ?_⟩
  rw [h]; simp [hc]
theorem words_true {ws : List WordT} {m : List (Txt × List Txt)} (h : ∀ i v, ws[i]? = some v → wordOk m ws i v = true) : wordsOk m ws = true := by
  unfold wordsOk
  rw [List.all_eq_true]
  intro i hi
  cases hc : ws[i]? with
  | none => rfl
  | some c => exact h i c hc
structure WordIn (w : WordT) : Prop where
  name : w.name.length ≤ 140737488351232
  clean : (Tree.quot w.body).clean = true
  nms : (Tree.quot w.body).nmS = true
set_option maxHeartbeats 4000000 in
theorem f_dCheck (d : DictT) (hv : d.vocs.length ≤ 2513169434916) (hu : ∀ v ∈ d.vocs, v.uses.length ≤ 1000000000000000) (hn : ∀ v ∈ d.vocs, v.name.length ≤ 140737488351232) (hwi : ∀ w ∈ d.words, WordIn w) :
    ACalls Tryz.prog 24 [.agg (dictC d)] [] fun out st' => out = .ret (.int .i64 (if dictOk d = true then 0 else 1)) ∧ st' = [] := by
  have fv := f_vocabs d hv hu hn
  have fl := f_look d hv
  have hsh := uses_short (d := d)
  unfold dictOk
  generalize vocabsR d = vr at fv hsh ⊢
  obtain ⟨vs, ws⟩ := d
  dsimp only at fv fl hv hu hn hsh hwi ⊢
  have hdc : dictC ⟨vs, ws⟩ = [.fz (vs.flatMap vocC) vs.length false, .fz (ws.flatMap wordC) ws.length false] := rfl
  rw [hdc] at fv fl ⊢
  generalize usesN vs = m at fl hsh ⊢
  cases vr with
  | false =>
    refine ACalls.of_W tb_ok (fn := Tryz.f24) (n := 85) (by kernel_rfl) rfl (by kernel_rfl) rfl rfl (by simp) (go ?_)
    refine VAll.mk (fun b1 => go ?_)
    refine ACalls.usep (R := [(b1, .box [.fz (vs.flatMap vocC) vs.length false, .fz (ws.flatMap wordC) ws.length false])]) fv (by exact List.Perm.refl _) ?_
    rintro out s' ⟨rfl, rfl⟩
    refine go ?_
    refine VRet.mk [] .nil ?_
    exact ⟨rfl, rfl⟩
  | true =>
    have hm := hsh rfl
    rw [Bool.true_and]
    refine ACalls.of_W tb_ok (fn := Tryz.f24) (n := 85) (by kernel_rfl) rfl (by kernel_rfl) rfl rfl (by simp) (go ?_)
    refine VAll.mk (fun b1 => go ?_)
    refine ACalls.usep (R := [(b1, .box [.fz (vs.flatMap vocC) vs.length false, .fz (ws.flatMap wordC) ws.length false])]) fv (by exact List.Perm.refl _) ?_
    rintro out s' ⟨rfl, rfl⟩
    refine go ?_
    refine fork (fun hbig => go ?_) (fun hbig => go ?_)
    · refine VRet.mk [] .nil ?_
      rw [decide_eq_false (by omega)]
      exact ⟨rfl, rfl⟩
    have h512 : ws.length ≤ 512 := by omega
    rw [decide_eq_true h512, Bool.true_and]
    refine ACalls.usep (R := [(b1, .box [.fz (vs.flatMap vocC) vs.length false, .fz (ws.flatMap wordC) ws.length false])]) (fl (by omega)) (by exact List.Perm.refl _) ?_
    rintro out s' ⟨bk, bu, bw, o, rfl, ho, rfl⟩
    generalize hk0 : (AV.fz (vs.flatMap vocC) vs.length false) = k0
    refine go ?_
    refine VLoop.mk [24] Nat (fun k => [.int .i64 k]) (fun _ => (b1, .box [k0, .fz (ws.flatMap wordC) ws.length false]) :: (KS bk bu bw k0 (.fz (ws.flatMap wordC) ws.length false) (lkV o ws.length) m (wordsN ws) ++ lkS o ws 0)) (fun k => k ≤ ws.length ∧ ∀ i v, i < k → ws[i]? = some v → wordOk m ws i v = true) (fun k => ws.length - k) 0 ?_ ?_
    · exact ⟨⟨Nat.zero_le _, fun i v h => absurd h (Nat.not_lt_zero _)⟩, rfl, VSel.refl _⟩
    rintro k ⟨hk, hI⟩
    dsimp only at hk hI ⊢
    refine go ?_
    refine fork (fun hlt => go ?_) (fun hlt => go ?_)
    · have hlt : k < ws.length := by omega
      obtain ⟨x, hx⟩ : ∃ x, ws[k]? = some x := ⟨ws[k], by simp [hlt]⟩
      have hin := hwi x (List.mem_of_getElem? hx)
      have hN := f_dCallable x.name (by have := hin.name; omega)
      have hB := f_dBody x hin.clean hin.nms
      have hd := flat_drop wordC 5 wordC_len hx
      have hbad : wordOk m ws k x = false → wordsOk m ws = false := words_false hx
      have hgood : wordOk m ws k x = true → k + 1 ≤ ws.length ∧ ∀ i v, i < k + 1 → ws[i]? = some v → wordOk m ws i v = true := by
        intro h
        refine ⟨by omega, fun i c hi hic => ?_⟩
        by_cases e : i = k
        · subst e; rw [hx] at hic; cases hic; exact h
        · exact hI i c (by omega) hic
      unfold wordOk at hbad hgood
      have d0 : (List.drop (mulN k 5) (ws.flatMap wordC)).take 5 = wordC x := by rw [hd]; rfl
      refine VTake.mk _ d0 rfl (go ?_)
      refine VAll.mk (fun b5 => go ?_)
      rcases find_get (m := m) x.vocab with ⟨us, q, g1, g2⟩ | ⟨g1, g2⟩
      · rw [g1] at hbad hgood
        refine VQ.mk (.tup [usV us, .bool true]) (by refine go ?_; refine VMap.mk _ g2 (go ?_); exact ⟨rfl, rfl⟩) (go ?_)
        cases hcl : (nmR x.name && !isPrim x.name) with
        | false =>
          rw [hcl] at hN hbad
          refine VQ.mk (.bool false) (by refine go ?_; refine Fn.use hN (go ?_); exact ⟨rfl, rfl⟩) (go ?_)
          refine VRet.mk [] .nil ?_
          rw [hbad (by simp), Bool.false_and]
          exact ⟨rfl, rfl⟩
        | true =>
          rw [hcl] at hN hbad hgood
          refine VQ.mk (.bool true) (by refine go ?_; refine Fn.use hN (go ?_); exact ⟨rfl, rfl⟩) (go ?_)
          cases hbd : bodyR x with
          | false =>
            rw [hbd] at hB hbad
            refine VQ.mk (.bool false) (by refine go ?_; refine Fn.use hB (go ?_); exact ⟨rfl, rfl⟩) (go ?_)
            refine VRet.mk [] .nil ?_
            rw [hbad (by simp), Bool.false_and]
            exact ⟨rfl, rfl⟩
          | true =>
            rw [hbd] at hB hbad hgood
            refine VQ.mk (.bool true) (by refine go ?_; refine Fn.use hB (go ?_); exact ⟨rfl, rfl⟩) (go ?_)
            cases hkz : decide (0 < k) with
            | false =>
              have hkz : k = 0 := by simpa using hkz
              subst hkz
              refine VIf.no (by simp) (go ?_)
              exact ⟨0 + 1, hgood (by simp), by omega, rfl, VSel.skip1 _ _⟩
            | true =>
              have hkz : 0 < k := by simpa using hkz
              obtain ⟨y, hy⟩ : ∃ y, ws[k - 1]? = some y := ⟨_, List.getElem?_eq_getElem (show k - 1 < ws.length by omega)⟩
              have hg : (ws.map (·.name)).getD (k - 1) [] = y.name := by rw [List.getD_eq_getElem?_getD, List.getElem?_map, hy]; rfl
              rw [hg] at hbad hgood
              have hyd := flat_drop wordC 5 wordC_len hy
              have e1 : (List.drop 0 (List.drop 1 (List.drop (mulN (k - 1) 5) (ws.flatMap wordC))))[0]? = some (.str y.name) := by rw [List.drop_zero, hyd]; rfl
              have hkb : (k == 0) = false := by simp; omega
              rw [hkb] at hbad hgood
              refine VIf.yes (by simp; omega) (go ?_)
              refine VQ.mk (.fzp (List.drop (mulN (k - 1) 5) (ws.flatMap wordC))) (by refine go ?_; exact VIdx.at (k - 1) (by omega) (by omega) ⟨rfl, rfl⟩) (go ?_)
              refine VQ.mk (.str y.name) (by refine go ?_; refine VNth.mk _ e1 (go ?_); exact ⟨rfl, rfl⟩) (go ?_)
              cases hlt2 : (Op.bytesLess x.name y.name || decide (x.name = y.name)) with
              | true =>
                refine VIf.yes rfl (go ?_)
                refine VRet.mk [] .nil ?_
                rw [hbad (by rw [hlt2]; simp), Bool.false_and]
                exact ⟨rfl, rfl⟩
              | false =>
                refine VIf.no rfl (go ?_)
                exact ⟨k + 1, hgood (by rw [hlt2]; rfl), by omega, rfl, VSel.skip1 _ _⟩
      · rw [g1] at hbad
        refine VQ.mk (.tup [.nils, .bool false]) (by refine go ?_; refine VMap.mk _ g2 (go ?_); exact ⟨rfl, rfl⟩) (go ?_)
        refine VRet.mk [] .nil ?_
        rw [hbad rfl, Bool.false_and]
        exact ⟨rfl, rfl⟩
    · have : k = ws.length := by omega
      subst this
      have hs : wordsOk m ws = true := words_true fun i c h => hI i c (List.getElem?_eq_some_iff.1 h).1 h
      rw [hs, Bool.true_and]
      refine VLoop.mk [76] (Nat × Nat) (fun i => [.int .i64 i.1]) (fun i => (b1, .box [k0, .fz (ws.flatMap wordC) ws.length false]) :: (KS bk bu bw k0 (.fz (ws.flatMap wordC) ws.length false) (lkV o ws.length) m (wordsN ws) ++ lkS o ws i.2)) (fun i => i.1 ≤ ws.length ∧ ∀ j v, j < i.1 → ws[j]? = some v → fitsD m ws v = 0) (fun i => ws.length - i.1) (0, 0) ?_ ?_
      · exact ⟨⟨Nat.zero_le _, fun i v h => absurd h (Nat.not_lt_zero _)⟩, rfl, VSel.refl _⟩
      rintro ⟨k, z⟩ ⟨hk, hJ⟩
      dsimp only at hk hJ ⊢
      refine go ?_
      refine fork (fun hlt => go ?_) (fun hlt => go ?_)
      · have hlt : k < ws.length := by omega
        obtain ⟨x, hx⟩ : ∃ x, ws[k]? = some x := ⟨ws[k], by simp [hlt]⟩
        have hin := hwi x (List.mem_of_getElem? hx)
        have hd := flat_drop wordC 5 wordC_len hx
        have d0 : (List.drop (mulN k 5) (ws.flatMap wordC)).take 5 = wordC x := by rw [hd]; rfl
        have hF := f_dFits bk bu bw k0 (.fz (ws.flatMap wordC) ws.length false) m hm ws (by omega) o ho z x hin.clean hin.nms
        refine VTake.mk _ d0 rfl (go ?_)
        refine VAll.mk (fun b9 => go ?_)
        refine ACalls.usep (R := [(b9, .box (wordC x)), (b1, .box [k0, .fz (ws.flatMap wordC) ws.length false])]) hF (by exact List.perm_append_comm) ?_
        rintro out s' ⟨rfl, z', rfl⟩
        refine go ?_
        refine fork (fun hne => go ?_) (fun hne => go ?_)
        · refine VRet.mk [] .nil ?_
          have : fitsAll m ws = false := by
            unfold fitsAll
            rw [List.all_eq_false]
            exact ⟨x, List.mem_of_getElem? hx, by simpa using hne⟩
          rw [this]
          exact ⟨rfl, rfl⟩
        · refine ⟨(k + 1, z'), ⟨by dsimp only; omega, ?_⟩, by dsimp only; omega, rfl, VSel.skip1 _ _⟩
          intro j v hj hv2
          by_cases e : j = k
          · subst e; rw [hx] at hv2; cases hv2; simpa using hne
          · exact hJ j v (by dsimp only at hj; omega) hv2
      · have : k = ws.length := by omega
        subst this
        refine VRet.mk [] .nil ?_
        have : fitsAll m ws = true := by
          unfold fitsAll
          rw [List.all_eq_true]
          intro w hw
          obtain ⟨i, hi, hiw⟩ := List.mem_iff_getElem.1 hw
          rw [hJ i w hi (by rw [List.getElem?_eq_getElem hi, hiw])]
          rfl
        rw [this]
        exact ⟨rfl, rfl⟩
end Go.Proofs.YtonkeklageehbaaGreatDoor

namespace Go.Proofs.YtonkeklageehbaaGreatDoor
open Go Go.Av
theorem f_CopyAll' (l : List RV) (h : ∀ (i : Nat) v, l[i]? = some v → Av.Fn Tryz.prog 59 [.agg (rvAV v)] (.agg (rvAV v))) (hl : l.length ≤ 2513169434916) :
    Av.Fn Tryz.prog 89 [.fz (rvsC l) l.length false] (.fz (rvsC l) l.length false) := by
  refine ACalls.of_W tb_ok (fn := Tryz.f89) (n := 20) (by kernel_rfl) rfl (by kernel_rfl) rfl rfl (by simp) (go ?_)
  refine VLoop.mk [3, 4] AccI (fun i => [accV i.o i.k, .int .i64 i.k]) (fun i => accS i.o 4 (rvsC (l.take i.k))) (fun i => i.k ≤ l.length ∧ (i.o = none → i.k = 0)) (fun i => l.length - i.k) ⟨0, none⟩ ?_ ?_
  · exact ⟨⟨by simp, by simp⟩, rfl, .nil⟩
  rintro ⟨k, o⟩ ⟨hk, ho⟩
  dsimp only at hk ho ⊢
  refine go ?_
  refine fork (fun hlt => go ?_) (fun hlt => ?_)
  · have hlt : k < l.length := by omega
    obtain ⟨v, ht⟩ : ∃ t, l[k]? = some t := ⟨l[k], by simp [hlt]⟩
    have hv := h k v ht
    have hacc : rvsC (l.take (k + 1)) = rvsC (l.take k) ++ rvAV v := by
      rw [take_succ_at ht, rvsC_app]; simp [rvsC]
    have hcell : (List.drop (mulN k 4) (rvsC l)).take 4 = rvAV v := by
      have := rvsC_at (r := []) ht
      rwa [List.append_nil, ← mulN_eq] at this
    obtain ⟨v1, v2, v3, v4⟩ := v
    rw [rvAV] at hv hacc hcell
    have hlen : (rvsC (l.take k)).length = k * 4 := by rw [rvsC_length, List.length_take, Nat.min_eq_left hk]
    refine VTake.mk _ hcell rfl (go ?_)
    refine Fn.use (hv) (go ?_)
    cases o with
    | none =>
      obtain rfl : k = 0 := ho rfl
      refine go ?_
      refine VAll.mk (fun b2 => go ?_)
      refine ⟨⟨1, some b2⟩, ⟨by dsimp only; omega, by simp⟩, by dsimp only; omega, rfl, .cons 0 ?_ .nil⟩
      dsimp only
      rw [hacc]; simp [rvsC]
    | some bo =>
      refine go ?_
      refine VGd.mk ⟨rfl, by omega, by rw [mulN_eq, hlen]; exact Nat.le_refl _, by dsimp only; omega⟩ (go ?_)
      refine VAll.mk (fun b2 => go ?_)
      refine ⟨⟨k + 1, some b2⟩, ⟨by dsimp only; omega, by simp⟩, by dsimp only; omega, rfl, .cons 0 ?_ .nil⟩
      dsimp only
      rw [hacc, mulN_eq, List.take_of_length_le (by rw [hlen]; exact Nat.le_refl _)]; rfl
  · obtain rfl : k = l.length := by omega
    rw [List.take_length]
    cases o with
    | none =>
      have := ho rfl
      obtain rfl : l = [] := List.length_eq_zero_iff.1 this
      refine go ?_
      refine VRet.mk [] .nil ?_
      exact ⟨by simp [rvsC], rfl⟩
    | some bo =>
      refine go ?_
      refine VRet.mk [] .nil ?_
      exact ⟨by simp [List.take_of_length_le], rfl⟩
theorem f_Copy' (n : Nat) : ∀ v : RV, v.deep ≤ n → v.small = true → Av.Fn Tryz.prog 59 [.agg (rvAV v)] (.agg (rvAV v)) := by
  induction n with
  | zero =>
    intro v hd
    obtain ⟨k, n, s, l⟩ := v
    rw [RV.deep] at hd; omega
  | succ n ih =>
    intro v hd hs
    obtain ⟨k, m, s, l⟩ := v
    rw [RV.deep] at hd
    simp only [RV.small, Bool.and_eq_true, decide_eq_true_eq] at hs
    have hC := f_CopyAll' l (fun i v hv => ih v (by have := deepAll_at hv; omega) (smallAll_at hs.2 hv)) hs.1
    rw [rvAV]
    refine ACalls.of_W tb_ok (fn := Tryz.f59) (n := 8) (by kernel_rfl) rfl (by kernel_rfl) rfl rfl (by simp) (go ?_)
    refine VAll.mk (fun b1 => go ?_)
    refine VAll.mk (fun b2 => go ?_)
    refine Fn.use (hC) (go ?_)
    refine VRet.mk [] .nil ?_
    exact ⟨rfl, rfl⟩
theorem f_Copy {v : RV} (h : v.small = true) : Av.Fn Tryz.prog 59 [.agg (rvAV v)] (.agg (rvAV v)) := f_Copy' v.deep v (Nat.le_refl _) h
end Go.Proofs.YtonkeklageehbaaGreatDoor

namespace Go.Proofs.YtonkeklageehbaaGreatDoor
open Go Go.Av
def placeI (r : Option Nat) : Int := match r with
  | some j => (j : Int)
  | none => -1
theorem placeL_step {l : List (List UInt8)} {k : Nat} {n s : List UInt8} (h : l[k]? = some n) : placeL (l.drop k) s k = if s = n then some k else placeL (l.drop (k + 1)) s (k + 1) := by
  have hlt := (List.getElem?_eq_some_iff.1 h).1
  have hd : l.drop k = n :: l.drop (k + 1) := by
    rw [List.drop_eq_getElem_cons hlt]
    congr 1
    rw [List.getElem?_eq_getElem hlt] at h
    exact Option.some.inj h
  rw [hd, placeL]
theorem f_place (l : List (List UInt8)) (s : List UInt8) (hl : l.length ≤ 1048576) : Av.Fn Tryz.prog 60 [.fz (l.map .str) l.length false, .str s] (.int .i64 (placeI (placeL l s 0))) := by
  refine ACalls.of_W tb_ok (fn := Tryz.f60) (n := 19) (by kernel_rfl) rfl (by kernel_rfl) rfl rfl (by simp) (go ?_)
  refine VLoop.mk [5] Nat (fun k => [.int .i64 k]) (fun _ => []) (fun k => k ≤ l.length ∧ placeL l s 0 = placeL (l.drop k) s k) (fun k => l.length - k) 0 ?_ ?_
  · exact ⟨⟨Nat.zero_le _, rfl⟩, rfl, .nil⟩
  rintro k ⟨hk, hI⟩
  dsimp only at hk hI ⊢
  refine go ?_
  refine fork (fun hlt => go ?_) (fun hlt => ?_)
  · have hlt : k < l.length := by omega
    obtain ⟨n, hn⟩ : ∃ t, l[k]? = some t := ⟨l[k], by simp [hlt]⟩
    rw [placeL_step hn] at hI
    have q0 : (List.drop (mulN k 1) (l.map AV.str))[0]? = some (.str n) := by rw [mulN_eq, Nat.mul_one, List.getElem?_drop]; simp [hn]
    refine VNth.mk _ q0 (go ?_)
    by_cases e : s = n
    · rw [if_pos e] at hI
      subst e
      refine VIf.yes (decide_eq_true rfl) (go ?_)
      refine VRet.mk [] .nil ?_
      rw [hI]
      exact ⟨rfl, rfl⟩
    · rw [if_neg e] at hI
      refine VIf.no (decide_eq_false (fun h => e h.symm)) (go ?_)
      exact ⟨k + 1, ⟨by omega, hI⟩, by omega, rfl, .nil⟩
  · obtain rfl : k = l.length := by omega
    rw [List.drop_length, placeL] at hI
    refine go ?_
    refine VRet.mk [] .nil ?_
    rw [hI]
    exact ⟨rfl, rfl⟩
/-- The document's operation of an item. -/
def ropOf (names : List (List UInt8)) (v : RV) : Option ROp :=
  if v.kind ≠ 7 then some ⟨1, 0, v⟩
  else match placeL namesL v.txt 0 with
    | some j => some ⟨2, (j : Int), .mk 0 0 [] []⟩
    | none => (placeL names v.txt 0).map fun (j : Nat) => ⟨3, (j : Int), .mk 0 0 [] []⟩
def ropsOf (names : List (List UInt8)) : List RV → Option (List ROp)
  | [] => some []
  | t :: r => match ropOf names t with
    | none => none
    | some o => (ropsOf names r).map (o :: ·)
theorem ropsOf_next {names : List (List UInt8)} {l : List RV} {k : Nat} {t : RV} (h : l[k]? = some t) (A : List ROp) : (ropsOf names (l.drop k)).map (A ++ ·) = match ropOf names t with
    | none => none
    | some o => (ropsOf names (l.drop (k + 1))).map ((A ++ [o]) ++ ·) := by
  have hlt := (List.getElem?_eq_some_iff.1 h).1
  have hd : l.drop k = t :: l.drop (k + 1) := by
    rw [List.drop_eq_getElem_cons hlt]
    congr 1
    rw [List.getElem?_eq_getElem hlt] at h
    exact Option.some.inj h
  rw [hd, ropsOf]
  cases ropOf names t with
  | none => rfl
  | some o =>
    dsimp only
    cases ropsOf names (l.drop (k + 1)) with
    | none => rfl
    | some r => dsimp only [Option.map_some]; rw [List.append_assoc]; rfl
def ropsV (r : Option (List ROp)) : AV := match r with
  | none => .tup [.fz [] 0 false, .bool false]
  | some l => .tup [.fz (ropsC l) l.length false, .bool true]
structure OpsJ where
  k : Nat
  o : Option Nat
  A : List ROp

set_option maxHeartbeats 2000000 in
theorem f_rops (names : List (List UInt8)) (l : List RV) (hnl : names.length ≤ 1048576) (hll : l.length ≤ 1048576) (hl : smallAll l = true) :
    Av.Fn Tryz.prog 28 [.fz (names.map .str) names.length false, .fz (rvsC l) l.length false] (ropsV (ropsOf names l)) := by
  refine ACalls.of_W tb_ok (fn := Tryz.f28) (n := 64) (by kernel_rfl) rfl (by kernel_rfl) rfl rfl (by simp) (go ?_)
  refine VLoop.mk [6, 7] OpsJ (fun i => [accV i.o i.A.length, .int .i64 i.k]) (fun i => accS i.o 6 (ropsC i.A))
    (fun i => i.k ≤ l.length ∧ (i.o = none → i.A = []) ∧ i.A.length = i.k ∧ ropsOf names l = (ropsOf names (l.drop i.k)).map (i.A ++ ·)) (fun i => l.length - i.k) ⟨0, none, []⟩ ?_ ?_
  · exact ⟨⟨Nat.zero_le _, fun _ => rfl, rfl, by dsimp only; rw [List.drop_zero]; cases ropsOf names l <;> rfl⟩, rfl, .nil⟩
  rintro ⟨k, o, A⟩ ⟨hk, ho, hA, hI⟩
  dsimp only at hk ho hA hI ⊢
  refine go ?_
  refine fork (fun hlt => go ?_) (fun hlt => ?_)
  · have hlt : k < l.length := by omega
    obtain ⟨v, hx⟩ : ∃ x, l[k]? = some x := ⟨l[k], by simp [hlt]⟩
    have hC := f_Copy (smallAll_at hl hx)
    have hN := fun s => f_place namesL s (by decide)
    have hW := fun s => f_place names s hnl
    rw [ropsOf_next hx] at hI
    have hcell : (List.drop (mulN k 4) (rvsC l)).take 4 = rvAV v := by
      have := rvsC_at (r := []) hx
      rwa [List.append_nil, ← mulN_eq] at this
    obtain ⟨a, b, s, q⟩ := v
    rw [rvAV] at hcell hC
    have d0 : (List.drop 0 (List.drop (mulN k 4) (rvsC l)))[0]? = some (.int .i64 a) := by
      rw [List.drop_zero, ← List.getElem?_take_of_lt (show 0 < 4 by omega), hcell]; rfl
    have d2 : (List.drop 2 (List.drop (mulN k 4) (rvsC l)))[0]? = some (.str s) := by
      rw [List.getElem?_drop, ← List.getElem?_take_of_lt (show 2 + 0 < 4 by omega), hcell]; rfl
    refine VNth.mk _ d0 (go ?_)
    by_cases h7 : a = 7
    · subst h7
      refine VIf.no (by simp) (go ?_)
      have hop : ropOf names (.mk 7 b s q) = match placeL namesL s 0 with
          | some j => some ⟨2, (j : Int), .mk 0 0 [] []⟩
          | none => (placeL names s 0).map fun (j : Nat) => ⟨3, (j : Int), .mk 0 0 [] []⟩ := if_neg (fun h => h rfl)
      have hN := hN s
      have hW := hW s
      rw [show namesL.length = 52 from rfl] at hN
      refine VQ.mk _ (by refine go ?_; refine Fn.use f_names12 (go ?_); exact ⟨rfl, rfl⟩) (go ?_)
      refine VQ.mk (.str s) (by refine go ?_; refine VNth.mk _ d2 (go ?_); exact ⟨rfl, rfl⟩) (go ?_)
      refine VQ.mk _ (by refine go ?_; refine Fn.use hN (go ?_); exact ⟨rfl, rfl⟩) (go ?_)
      refine VNth.mk _ d2 (go ?_)
      refine Fn.use hW (go ?_)
      cases h1 : placeL namesL s 0 with
      | some j =>
        rw [hop, h1] at hI
        have p1 : decide (placeI (some j) < 0) = false := decide_eq_false (by show ¬ ((j : Int) < 0); omega)
        have p2 : decide (0 ≤ placeI (some j)) = true := decide_eq_true (by show 0 ≤ (j : Int); omega)
        first | refine VIf.no p1 (go ?_) | skip
        first | refine VIf.yes p2 (go ?_) | skip
        cases o with
        | none =>
          obtain rfl : A = [] := ho rfl
          have hk0 : k = 0 := by simpa using hA.symm
          refine go ?_
          refine VAll.mk (fun b2 => go ?_)
          refine ⟨⟨k + 1, some b2, [(⟨2, (j : Int), .mk 0 0 [] []⟩ : ROp)]⟩, ⟨by dsimp only; omega, (fun h => by cases h), by rw [hk0]; rfl, hI⟩, by dsimp only; omega, rfl, .cons 0 (congrArg (fun c => some (b2, AObj.arr 6 c 0)) ?_) .nil⟩
          simp [ropsC, ropC, rvAV, rvsC, placeI]
        | some bo =>
          refine go ?_
          refine VGd.mk ⟨rfl, Nat.zero_le _, by rw [mulN_eq, ropsC_len]; exact Nat.le_refl _, by show 72 * (A.length + 1) ≤ _; omega⟩ (go ?_)
          refine VAll.mk (fun b2 => go ?_)
          refine ⟨⟨k + 1, some b2, A ++ [(⟨2, (j : Int), .mk 0 0 [] []⟩ : ROp)]⟩, ⟨by dsimp only; omega, (fun h => by cases h), by rw [List.length_append]; show A.length + 1 = k + 1; omega, hI⟩, by dsimp only; omega, ?_, .cons 0 (congrArg (fun c => some (b2, AObj.arr 6 c 0)) ?_) .nil⟩
          · simp [accV]
          · rw [mulN_eq, List.take_of_length_le (by rw [ropsC_len]; exact Nat.le_refl _)]
            simp [ropsC, ropC, rvAV, rvsC, placeI]
      | none =>
        rw [h1] at hop
        cases h2 : placeL names s 0 with
        | some j =>
          rw [hop, h2] at hI
          have p0 : decide (placeI none < 0) = true := by decide
          have p1 : decide (placeI (some j) < 0) = false := decide_eq_false (by show ¬ ((j : Int) < 0); omega)
          have p2 : decide (0 ≤ placeI none) = false := by decide
          first | refine VIf.yes p0 (go ?_) | skip
          first | refine VIf.no p1 (go ?_) | skip
          first | refine VIf.no p2 (go ?_) | skip
          cases o with
          | none =>
            obtain rfl : A = [] := ho rfl
            have hk0 : k = 0 := by simpa using hA.symm
            refine go ?_
            refine VAll.mk (fun b2 => go ?_)
            refine ⟨⟨k + 1, some b2, [(⟨3, (j : Int), .mk 0 0 [] []⟩ : ROp)]⟩, ⟨by dsimp only; omega, (fun h => by cases h), by rw [hk0]; rfl, hI⟩, by dsimp only; omega, rfl, .cons 0 (congrArg (fun c => some (b2, AObj.arr 6 c 0)) ?_) .nil⟩
            simp [ropsC, ropC, rvAV, rvsC, placeI]
          | some bo =>
            refine go ?_
            refine VGd.mk ⟨rfl, Nat.zero_le _, by rw [mulN_eq, ropsC_len]; exact Nat.le_refl _, by show 72 * (A.length + 1) ≤ _; omega⟩ (go ?_)
            refine VAll.mk (fun b2 => go ?_)
            refine ⟨⟨k + 1, some b2, A ++ [(⟨3, (j : Int), .mk 0 0 [] []⟩ : ROp)]⟩, ⟨by dsimp only; omega, (fun h => by cases h), by rw [List.length_append]; show A.length + 1 = k + 1; omega, hI⟩, by dsimp only; omega, ?_, .cons 0 (congrArg (fun c => some (b2, AObj.arr 6 c 0)) ?_) .nil⟩
            · simp [accV]
            · rw [mulN_eq, List.take_of_length_le (by rw [ropsC_len]; exact Nat.le_refl _)]
              simp [ropsC, ropC, rvAV, rvsC, placeI]
        | none =>
          rw [hop, h2] at hI
          have p0 : decide (placeI none < 0) = true := by decide
          first | refine VIf.yes p0 (go ?_) | skip
          first | refine VIf.yes p0 (go ?_) | skip
          refine VRet.mk [] .nil ?_
          rw [hI]
          exact ⟨rfl, rfl⟩
    · have hop : ropOf names (.mk a b s q) = some ⟨1, 0, .mk a b s q⟩ := if_pos h7
      rw [hop] at hI
      refine VIf.yes (by simpa using h7) (go ?_)
      refine VTake.mk _ hcell rfl (go ?_)
      refine Fn.use hC (go ?_)
      cases o with
      | none =>
        obtain rfl : A = [] := ho rfl
        have hk0 : k = 0 := by simpa using hA.symm
        refine go ?_
        refine VAll.mk (fun b2 => go ?_)
        refine ⟨⟨k + 1, some b2, [(⟨1, 0, .mk a b s q⟩ : ROp)]⟩, ⟨by dsimp only; omega, (fun h => by cases h), by rw [hk0]; rfl, hI⟩, by dsimp only; omega, rfl, .cons 0 (congrArg (fun c => some (b2, AObj.arr 6 c 0)) ?_) .nil⟩
        simp [ropsC, ropC, rvAV, rvsC, placeI]
      | some bo =>
        refine go ?_
        refine VGd.mk ⟨rfl, Nat.zero_le _, by rw [mulN_eq, ropsC_len]; exact Nat.le_refl _, by show 72 * (A.length + 1) ≤ _; omega⟩ (go ?_)
        refine VAll.mk (fun b2 => go ?_)
        refine ⟨⟨k + 1, some b2, A ++ [(⟨1, 0, .mk a b s q⟩ : ROp)]⟩, ⟨by dsimp only; omega, (fun h => by cases h), by rw [List.length_append]; show A.length + 1 = k + 1; omega, hI⟩, by dsimp only; omega, ?_, .cons 0 (congrArg (fun c => some (b2, AObj.arr 6 c 0)) ?_) .nil⟩
        · simp [accV]
        · rw [mulN_eq, List.take_of_length_le (by rw [ropsC_len]; exact Nat.le_refl _)]
          simp [ropsC, ropC, rvAV, rvsC, placeI]
  · obtain rfl : k = l.length := by omega
    rw [List.drop_length, ropsOf, Option.map_some, List.append_nil] at hI
    rw [hI]
    unfold ropsV
    dsimp only
    cases o with
    | none =>
      obtain rfl : A = [] := ho rfl
      refine go ?_
      refine VRet.mk [] .nil ?_
      exact ⟨rfl, rfl⟩
    | some bo =>
      have htk : (ropsC A).take (A.length * 6) = ropsC A := List.take_of_length_le (by simp)
      refine go ?_
      refine VRet.mk [] .nil ?_
      rw [htk]
      exact ⟨rfl, rfl⟩
def refOps (codes : List RCode) (l : List RV) : List ROp × Int :=
  if (soundR codes && refOk l) = true then match ropsOf (codes.map (·.name)) l with
    | some o => (o, 0)
    | none => ([], 10)
  else ([], 1)
def refBack (codes : List RCode) (ops : List ROp) : List RV × Int :=
  if soundR codes = true then match refBackL (codes.map (·.name)) ops with
    | some l => if refOk l = true then (l, 0) else ([], 1)
    | none => ([], 1)
  else ([], 1)
def linkBack (codes : List CodeT) (ops : List OpT) : List Tree × Int :=
  if soundC codes = true then match backL codes ops with
    | some l => if backOk l = true then (l, 0) else ([], 1)
    | none => ([], 1)
  else ([], 1)
theorem backL_in {codes : List CodeT} (hc : ∀ c ∈ codes, CodeIn c) : ∀ {l : List OpT} {r : List Tree}, (∀ o ∈ l, OpIn o) → backL codes l = some r → r.length = l.length ∧ cleanAll r = true ∧ nmSAll r = true
  | [], r, _, h => by cases h; exact ⟨rfl, rfl, rfl⟩
  | x :: l, r, hl, h => by
    rw [backL] at h
    cases hx : backO codes x with
    | none => rw [hx] at h; cases h
    | some t =>
      rw [hx] at h
      dsimp only at h
      cases hb : backL codes l with
      | none => rw [hb] at h; cases h
      | some q =>
        rw [hb] at h
        obtain rfl : t :: q = r := Option.some.inj h
        obtain ⟨h1, h2, h3⟩ := backL_in hc (fun o ho => hl o (List.mem_cons_of_mem _ ho)) hb
        obtain ⟨g1, g2⟩ := backO_in hc (hl x (List.mem_cons_self ..)) hx
        exact ⟨by simp [h1], by simp [cleanAll, g1, h2], by simp [nmSAll, g2, h3]⟩
theorem f_lBack {codes : List CodeT} {ops : List OpT} (hcl : codes.length ≤ 1048576) (hcs : ∀ c ∈ codes, CodeIn c) (hol : ops.length ≤ 1048576) (hos : ∀ o ∈ ops, OpIn o) :
    Av.Fn Tryz.prog 22 [.fz (codesC codes) codes.length false, .fz (opsC ops) ops.length false] (.tup [.fz (itemAVs (linkBack codes ops).1) (linkBack codes ops).1.length false, .int .i64 (linkBack codes ops).2]) := by
  have hA := f_Check codes hcl hcs
  have hR := f_back codes ops hcl hol hcs hos
  have hI := fun r => backL_in (codes := codes) (l := ops) (r := r) hcs hos
  unfold linkBack
  cases hq : soundC codes with
  | false =>
    rw [hq, if_neg (by simp)] at hA
    refine ACalls.of_W tb_ok (fn := Tryz.f22) (n := 24) (by kernel_rfl) rfl (by kernel_rfl) rfl rfl (by simp) (go ?_)
    refine Fn.use (hA) (go ?_)
    refine VRet.mk [] .nil ?_
    exact ⟨rfl, rfl⟩
  | true =>
  rw [hq, if_pos (by simp)] at hA
  rw [if_pos rfl]
  cases ho : backL codes ops with
  | none =>
    rw [ho] at hR
    unfold backV at hR
    dsimp only at hR
    refine ACalls.of_W tb_ok (fn := Tryz.f22) (n := 24) (by kernel_rfl) rfl (by kernel_rfl) rfl rfl (by simp) (go ?_)
    refine Fn.use (hA) (go ?_)
    refine Fn.use (hR) (go ?_)
    refine VRet.mk [] .nil ?_
    exact ⟨rfl, rfl⟩
  | some l =>
    rw [ho] at hR
    unfold backV at hR
    obtain ⟨i1, i2, _⟩ := hI l ho
    have hC := f_CloneItems i2 (by omega)
    dsimp only at hR ⊢
    generalize backOk l = z at hR ⊢
    cases z with
    | false =>
      refine ACalls.of_W tb_ok (fn := Tryz.f22) (n := 24) (by kernel_rfl) rfl (by kernel_rfl) rfl rfl (by simp) (go ?_)
      refine Fn.use (hA) (go ?_)
      refine Fn.use (hR) (go ?_)
      refine VRet.mk [] .nil ?_
      exact ⟨rfl, rfl⟩
    | true =>
      refine ACalls.of_W tb_ok (fn := Tryz.f22) (n := 24) (by kernel_rfl) rfl (by kernel_rfl) rfl rfl (by simp) (go ?_)
      refine Fn.use (hA) (go ?_)
      refine Fn.use (hR) (go ?_)
      refine Fn.use (hC) (go ?_)
      refine VRet.mk [] .nil ?_
      exact ⟨rfl, rfl⟩
end Go.Proofs.YtonkeklageehbaaGreatDoor

namespace Go.Proofs.YtonkeklageehbaaGreatDoor
open Go Go.Av
def opBulk (o : ROp) : Nat := o.v.bulk + 1
def opsBulk (l : List ROp) : Nat := (l.map opBulk).sum + 1
def codeBulk (c : RCode) : Nat := c.name.length + opsBulk c.ops
def codesBulk (l : List RCode) : Nat := (l.map codeBulk).sum + 1
theorem sum_mem {α : Type} (f : α → Nat) : ∀ {l : List α} {x : α}, x ∈ l → f x ≤ (l.map f).sum
  | y :: l, x, h => by
    rw [List.map_cons, List.sum_cons]
    rcases List.mem_cons.1 h with rfl | h
    · omega
    · have := sum_mem f h; omega
theorem sum_len {α : Type} (f : α → Nat) (h : ∀ x, 1 ≤ f x) : ∀ l : List α, l.length ≤ (l.map f).sum
  | [] => Nat.zero_le _
  | x :: l => by
    rw [List.map_cons, List.sum_cons, List.length_cons]
    have := sum_len f h l; have := h x; omega
theorem sum_le {α : Type} (f g : α → Nat) (h : ∀ x, f x ≤ g x) : ∀ l : List α, (l.map f).sum ≤ (l.map g).sum
  | [] => Nat.le_refl _
  | x :: l => by
    rw [List.map_cons, List.sum_cons, List.map_cons, List.sum_cons]
    have := sum_le f g h l; have := h x; omega
section
variable {H : Type} {enc : TypeId × Value → H} {W : World}
theorem reads_Op (fuel : Nat) : Reads enc Tryz.prog W 109 fuel ropC (fun o => o.v.inp = true) opBulk := by
  cases fuel with
  | zero => exact .zero
  | succ fuel =>
    have hf : ReadsF enc Tryz.prog W fuel 0 [⟨"Kind", 3, 0, false, "", "", 0⟩, ⟨"N", 3, 1, false, "", "", 8⟩, ⟨"V", 104, 2, false, "", "", 16⟩] (1 + (1 + (4 + 0))) _ _ _ :=
      .cons rfl (by kernel_rfl) (reads_int (Tryz.underlying3) fuel) (.cons rfl (by kernel_rfl) (reads_int (Tryz.underlying3) fuel) (.cons rfl (by kernel_rfl) (reads_VL fuel).1 .nil))
    have h := reads_struct (Tryz.underlying109) (by kernel_rfl) hf
    exact h.map (fun x => ⟨x.1, x.2.1, x.2.2.1⟩) (fun x => by simp [ropC]) (fun x hx => hx.2.2.1) (fun x => by unfold opBulk; dsimp only; omega)
theorem reads_Ops (fuel : Nat) : Reads enc Tryz.prog W 50 fuel (fun l => [.fz (ropsC l) l.length false]) (fun l => ∀ o ∈ l, o.v.inp = true) opsBulk := by
  cases fuel with
  | zero => exact .zero
  | succ fuel =>
    have h := reads_slice (Tryz.underlying50) (esz := 6) (by kernel_rfl) (by omega) (reads_Op fuel) (enc := enc) (W := W)
    exact h.map (fun l => l) (fun l => rfl) (fun l hl => hl.2) (fun l => Nat.le_refl _)
theorem reads_Code (fuel : Nat) : Reads enc Tryz.prog W 100 fuel rcodeC (fun c => ∀ o ∈ c.ops, o.v.inp = true) codeBulk := by
  cases fuel with
  | zero => exact .zero
  | succ fuel =>
    have hf : ReadsF enc Tryz.prog W fuel 0 [⟨"Name", 9, 0, false, "", "", 0⟩, ⟨"Ops", 50, 1, false, "", "", 16⟩] (1 + (1 + 0)) _ _ _ :=
      .cons rfl (by kernel_rfl) (reads_str (Tryz.underlying9) fuel) (.cons rfl (by kernel_rfl) (reads_Ops fuel) .nil)
    have h := reads_struct (Tryz.underlying100) (by kernel_rfl) hf
    exact h.map (fun x => ⟨x.1, x.2.1⟩) (fun x => by simp [rcodeC]) (fun x hx => hx.2.1) (fun x => by unfold codeBulk; dsimp only; omega)
theorem reads_Codes (fuel : Nat) : Reads enc Tryz.prog W 36 fuel (fun l => [.fz (rcodesC l) l.length false]) (fun l => ∀ c ∈ l, ∀ o ∈ c.ops, o.v.inp = true) codesBulk := by
  cases fuel with
  | zero => exact .zero
  | succ fuel =>
    have h := reads_slice (Tryz.underlying36) (esz := 2) (by kernel_rfl) (by omega) (reads_Code fuel) (enc := enc) (W := W)
    exact h.map (fun l => l) (fun l => rfl) (fun l hl => hl.2) (fun l => Nat.le_refl _)
end
end Go.Proofs.YtonkeklageehbaaGreatDoor

namespace Go.Proofs.YtonkeklageehbaaGreatDoor
open Go Go.Av
mutual
theorem bulk_fitV : ∀ v : RV, v.inp = true → v.bulk ≤ 1000000000 → (valRV (valT v)).fit = true
  | .mk k n s l, h, hb => by
    simp only [RV.inp, Bool.and_eq_true, decide_eq_true_eq] at h
    rw [RV.bulk] at hb
    rw [valT]
    repeat' split
    all_goals first
    | rfl
    | (simp [valRV, RV.fit, fitAll]; done)
    | (simp only [valRV, RV.fit, Bool.and_eq_true, decide_eq_true_eq, valRVs_length, itemRVs_length, valTs_length, itemTs_length]
       exact ⟨⟨h.1.2, fun _ => by simp⟩, by first | exact bulk_fitVs l h.2 (by omega) | exact bulk_fitIs l h.2 (by omega)⟩)
theorem bulk_fitVs : ∀ l : List RV, inpAll l = true → bulkAll l ≤ 1000000000 → fitAll (valRVs (valTs l)) = true
  | [], _, _ => by simp [valTs, valRVs, fitAll]
  | v :: r, h, hb => by
    simp only [inpAll, Bool.and_eq_true] at h
    rw [bulkAll] at hb
    simp only [valTs, valRVs, fitAll, Bool.and_eq_true]
    exact ⟨bulk_fitV v h.1 (by omega), bulk_fitVs r h.2 (by omega)⟩
theorem bulk_fitIs : ∀ l : List RV, inpAll l = true → bulkAll l ≤ 1000000000 → fitAll (itemRVs (itemTs l)) = true
  | [], _, _ => by simp [itemTs, itemRVs, fitAll]
  | v :: r, h, hb => by
    simp only [inpAll, Bool.and_eq_true] at h
    rw [bulkAll] at hb
    rw [itemTs_cons, itemRVs_cons]
    simp only [fitAll, Bool.and_eq_true]
    refine ⟨?_, bulk_fitIs r h.2 (by omega)⟩
    unfold itemT
    split
    · rename_i h7
      obtain ⟨k, n, s, l⟩ := v
      rw [RV.bulk] at hb
      show RV.fit (.mk 7 0 s []) = true
      simp only [RV.fit, fitAll, Bool.and_eq_true, decide_eq_true_eq]
      exact ⟨⟨by simp, fun _ => by omega⟩, by simp⟩
    · rename_i h7
      have := bulk_fitV v h.1 (by omega)
      have hk : (valT v).isCall = false := by
        obtain ⟨k, n, s, l⟩ := v
        rw [valT]; repeat' split
        all_goals rfl
      rw [item_val hk]; exact this
end
end Go.Proofs.YtonkeklageehbaaGreatDoor

namespace Go.Proofs.YtonkeklageehbaaGreatDoor
open Go Go.Av
theorem dup_ops : linkOps [] [.call [100, 117, 112]] = ([⟨2, 0, .none⟩], 0) := by
  have h1 : (soundC [] && (checkR [.call [100, 117, 112]] && bareTs [.call [100, 117, 112]])) = true := by decide +kernel
  unfold linkOps
  rw [if_pos h1]
  have h2 : placeL namesL [100, 117, 112] 0 = some 0 := by decide +kernel
  have h3 : opOf (([] : List CodeT).map (·.name)) (.call [100, 117, 112]) = some ⟨2, 0, .none⟩ := by
    unfold opOf
    dsimp only
    rw [h2]; rfl
  rw [opsOf, h3, opsOf]
  rfl
theorem f_awake18 : Av.Fn Tryz.prog 6 [] (.bool true) := by
  have hP := f_lOps (codes := []) (l := [.call [100, 117, 112]]) (by simp) (fun c h => by cases h) (by decide) (by decide)
  rw [dup_ops] at hP
  have hP : Av.Fn Tryz.prog 15 [.fz [] 0 false, .fz [.iface 79 (.agg [.str [100, 117, 112]])] 1 false] (.tup [.fz [.int .i64 2, .int .i64 0, .nili] 1 false, .int .i64 0]) := hP
  refine ACalls.of_W tb_ok (fn := Tryz.f6) (n := 24) (by kernel_rfl) rfl (by kernel_rfl) rfl rfl (by simp) (go ?_)
  refine Fn.use (hP) (go ?_)
  refine VRet.mk [] .nil ?_
  exact ⟨rfl, rfl⟩
theorem codesBulk_in {l : List RCode} (h : codesBulk l ≤ 1048576) (hi : ∀ c ∈ l, ∀ o ∈ c.ops, o.v.inp = true) : l.length ≤ 1048576 ∧ ∀ c ∈ l, RCodeIn c ∧ ∀ o ∈ c.ops, o.v.bulk ≤ 1048576 := by
  have h : (l.map codeBulk).sum + 1 ≤ 1048576 := h
  have h1 := sum_len codeBulk (fun c => by unfold codeBulk opsBulk; omega) l
  refine ⟨by omega, fun c hc => ?_⟩
  have h2 : c.name.length + ((c.ops.map opBulk).sum + 1) ≤ (l.map codeBulk).sum := sum_mem codeBulk hc
  have h3 := sum_len opBulk (fun o => by unfold opBulk; omega) c.ops
  refine ⟨⟨by omega, by omega, hi c hc⟩, fun o ho => ?_⟩
  have h4 : o.v.bulk + 1 ≤ (c.ops.map opBulk).sum := sum_mem opBulk ho
  omega
theorem codeT_in {c : RCode} (h : RCodeIn c) : CodeIn (codeT c) := by
  refine ⟨by simpa [codeT] using h.ops, h.name, fun o ho => ?_⟩
  obtain ⟨r, hr, rfl⟩ := List.mem_map.1 (show o ∈ c.ops.map opT from ho)
  exact ⟨inp_clean r.v (h.inp r hr), valT_valish r.v, inp_nmS r.v (h.inp r hr)⟩
theorem vRV_ok {v : RV} (hi : v.inp = true) (hb : v.bulk ≤ 1048576) : (vRV (valT v)).small = true ∧ (vRV (valT v)).fit = true := by
  cases hs : isSome (valT v) with
  | true =>
    rw [vRV_some hs]
    exact ⟨clean_small _ (inp_clean v hi), bulk_fitV v hi (by omega)⟩
  | false =>
    have : valT v = .none := by cases hq : valT v <;> rw [hq] at hs <;> first | rfl | (cases hs; done)
    rw [this]
    exact ⟨by simp [vRV, RV.small, smallAll], by simp [vRV, RV.fit]⟩
theorem codeR_in {c : RCode} (h : RCodeIn c) (hb : ∀ o ∈ c.ops, o.v.bulk ≤ 1048576) : RIn (codeR (codeT c)) := by
  refine ⟨by simpa [codeT, codeR] using h.ops, h.name, fun o ho => ?_⟩
  obtain ⟨t, ht, rfl⟩ := List.mem_map.1 (show o ∈ (c.ops.map opT).map opR from ho)
  obtain ⟨r, hr, rfl⟩ := List.mem_map.1 ht
  exact vRV_ok (h.inp r hr) (hb r hr)
end Go.Proofs.YtonkeklageehbaaGreatDoor

namespace Go.Proofs.YtonkeklageehbaaGreatDoor
open Go Go.Av
theorem ropOf_eq (names : List (List UInt8)) {t : Tree} (hf : t.full true = true) : ropOf names (itemRV t) = (opOf names t).map opR := by
  cases hc : t.isCall with
  | true =>
    obtain ⟨s, rfl⟩ : ∃ s, t = .call s := by cases t <;> first | exact ⟨_, rfl⟩ | (cases hc; done)
    have e1 : ropOf names (itemRV (.call s)) = match placeL namesL s 0 with
        | some j => some ⟨2, (j : Int), .mk 0 0 [] []⟩
        | none => (placeL names s 0).map fun (j : Nat) => ⟨3, (j : Int), .mk 0 0 [] []⟩ := if_neg (fun h => h rfl)
    have e2 : opOf names (.call s) = match placeL namesL s 0 with
        | some j => some ⟨2, (j : Int), .none⟩
        | none => (placeL names s 0).map fun (j : Nat) => ⟨3, (j : Int), .none⟩ := rfl
    rw [e1, e2]
    cases placeL namesL s 0 with
    | some j => rfl
    | none => cases placeL names s 0 <;> rfl
  | false =>
    rw [item_val hc]
    have e1 : ropOf names (valRV t) = some ⟨1, 0, valRV t⟩ := if_pos (valRV_kind t)
    have e2 : opOf names t = some ⟨1, 0, t⟩ := by cases t <;> first | rfl | (cases hc; done)
    have e3 : isSome t = true := by cases t <;> first | rfl | (cases hf; done)
    rw [e1, e2, Option.map_some, opR, vRV_some e3]
theorem ropsOf_eq (names : List (List UInt8)) : ∀ {l : List Tree}, fullAll true l = true → ropsOf names (itemRVs l) = (opsOf names l).map (·.map opR)
  | [], _ => by simp [itemRVs, ropsOf, opsOf]
  | t :: r, h => by
    simp only [fullAll, Bool.and_eq_true] at h
    rw [itemRVs_cons, ropsOf, opsOf, ropOf_eq names h.1, ropsOf_eq names h.2]
    cases opOf names t with
    | none => rfl
    | some o =>
      dsimp only [Option.map_some]
      cases opsOf names r with
      | none => rfl
      | some q => rfl
theorem names_codeR (codes : List CodeT) : (codes.map codeR).map (·.name) = codes.map (·.name) := by rw [List.map_map]; rfl
theorem check_full {l : List Tree} (h : checkR l = true) : fullAll true l = true := by
  have := meas_full false (.quot l) 1024 0 h
  rwa [Tree.full] at this
theorem refOps_eq {codes : List CodeT} {l : List Tree} (hv : ∀ c ∈ codes, ∀ o ∈ c.ops, valish o.v = true) : refOps (codes.map codeR) (itemRVs l) = ((linkOps codes l).1.map opR, (linkOps codes l).2) := by
  unfold refOps linkOps
  rw [sound_eq _ hv, refOk_eq, names_codeR]
  unfold backOk
  by_cases h : (soundC codes && (checkR l && bareTs l)) = true
  · rw [if_pos h, if_pos h]
    have hc : checkR l = true := by
      simp only [Bool.and_eq_true] at h
      exact h.2.1
    rw [ropsOf_eq _ (check_full hc)]
    cases opsOf (codes.map (·.name)) l <;> rfl
  · rw [if_neg h, if_neg h]; rfl
theorem refBack_eq {codes : List CodeT} {ops : List OpT} (hv : ∀ c ∈ codes, ∀ o ∈ c.ops, valish o.v = true) (ho : ∀ o ∈ ops, valish o.v = true) : refBack (codes.map codeR) (ops.map opR) = (itemRVs (linkBack codes ops).1, (linkBack codes ops).2) := by
  unfold refBack linkBack
  rw [sound_eq _ hv, names_codeR, refBackL_eq _ _ ho]
  by_cases h : soundC codes = true
  · rw [if_pos h, if_pos h]
    cases backL codes ops with
    | none => simp [itemRVs]
    | some l =>
      dsimp only [Option.map_some]
      rw [refOk_eq]
      by_cases h2 : backOk l = true
      · rw [if_pos h2, if_pos h2]
      · rw [if_neg h2, if_neg h2]; simp [itemRVs]
  · rw [if_neg h, if_neg h]; simp [itemRVs]
theorem opsOf_in {names : List (List UInt8)} : ∀ {l : List Tree} {r : List OpT}, cleanAll l = true → fullAll true l = true → opsOf names l = some r → r.length = l.length ∧ ∀ o ∈ r, o.v.clean = true ∧ valish o.v = true
  | [], r, _, _, h => by cases h; exact ⟨rfl, fun o ho => by cases ho⟩
  | t :: l, r, hc, hf, h => by
    simp only [cleanAll, Bool.and_eq_true] at hc
    simp only [fullAll, Bool.and_eq_true] at hf
    rw [opsOf] at h
    cases hx : opOf names t with
    | none => rw [hx] at h; cases h
    | some o =>
      rw [hx] at h
      dsimp only at h
      cases hb : opsOf names l with
      | none => rw [hb] at h; cases h
      | some q =>
        rw [hb] at h
        obtain rfl : o :: q = r := Option.some.inj h
        obtain ⟨h1, h2⟩ := opsOf_in hc.2 hf.2 hb
        refine ⟨by simp [h1], fun p hp => ?_⟩
        rcases List.mem_cons.1 hp with rfl | hp
        · cases hct : t.isCall with
          | true =>
            obtain ⟨s, rfl⟩ : ∃ s, t = .call s := by cases t <;> first | exact ⟨_, rfl⟩ | (cases hct; done)
            have e2 : opOf names (.call s) = match placeL namesL s 0 with
              | some j => some ⟨2, (j : Int), .none⟩
              | none => (placeL names s 0).map fun (j : Nat) => ⟨3, (j : Int), .none⟩ := rfl
            rw [e2] at hx
            cases h3 : placeL namesL s 0 with
            | some j => rw [h3] at hx; cases hx; exact ⟨rfl, rfl⟩
            | none =>
              rw [h3] at hx
              cases h4 : placeL names s 0 with
              | some j => rw [h4] at hx; cases hx; exact ⟨rfl, rfl⟩
              | none => rw [h4] at hx; cases hx
          | false =>
            have e2 : opOf names t = some ⟨1, 0, t⟩ := by cases t <;> first | rfl | (cases hct; done)
            rw [e2] at hx
            cases hx
            exact ⟨hc.1, by cases t <;> first | rfl | (cases hct; done) | (cases hf.1; done)⟩
        · exact h2 p hp
theorem linkOps_in {codes : List CodeT} {l : List Tree} (hc : cleanAll l = true) : (linkOps codes l).1.length ≤ l.length ∧ ∀ o ∈ (linkOps codes l).1, o.v.clean = true ∧ valish o.v = true := by
  unfold linkOps
  split
  · rename_i h
    have hk : checkR l = true := by
      simp only [Bool.and_eq_true] at h
      exact h.2.1
    cases hb : opsOf (codes.map (·.name)) l with
    | none => exact ⟨Nat.zero_le _, fun o ho => by cases ho⟩
    | some q =>
      obtain ⟨h1, h2⟩ := opsOf_in hc (check_full hk) hb
      exact ⟨Nat.le_of_eq h1, h2⟩
  · exact ⟨Nat.zero_le _, fun o ho => by cases ho⟩
theorem linkBack_in {codes : List CodeT} {ops : List OpT} (hcs : ∀ c ∈ codes, CodeIn c) (hos : ∀ o ∈ ops, OpIn o) : (linkBack codes ops).1.length ≤ ops.length ∧ cleanAll (linkBack codes ops).1 = true := by
  unfold linkBack
  split
  · cases hb : backL codes ops with
    | none => exact ⟨Nat.zero_le _, rfl⟩
    | some l =>
      obtain ⟨h1, h2, _⟩ := backL_in hcs hos hb
      dsimp only
      split
      · exact ⟨Nat.le_of_eq h1, h2⟩
      · exact ⟨Nat.zero_le _, rfl⟩
  · exact ⟨Nat.zero_le _, rfl⟩
theorem all2_refl {α : Type} {f : α → α → Bool} (h : ∀ x, f x x = true) : ∀ l : List α, all2 f l l = true
  | [] => rfl
  | x :: l => by rw [all2, h x, all2_refl h l]; rfl
theorem sameOpR_refl (x : ROp) : sameOpR x x = true := by
  unfold sameOpR
  rw [decide_eq_true rfl, decide_eq_true rfl, sameV_refl]; rfl
theorem bulk_pos : ∀ v : RV, 1 ≤ v.bulk
  | .mk _ _ _ _ => by rw [RV.bulk]; omega
theorem bulk_len (l : List RV) : l.length ≤ bulkAll l := by
  rw [bulkAll_sum]; exact sum_len RV.bulk bulk_pos l
theorem opT_in {o : ROp} (h : o.v.inp = true) : OpIn (opT o) := ⟨inp_clean o.v h, valT_valish o.v, inp_nmS o.v h⟩
end Go.Proofs.YtonkeklageehbaaGreatDoor

namespace Go.Proofs.YtonkeklageehbaaGreatDoor
open Go Go.Av
structure DictOk (ws : List WordT) : Prop where
  len : ws.length ≤ 512
  name : ∀ w ∈ ws, nmR w.name = true ∧ isPrim w.name = false
  check : ∀ w ∈ ws, checkR w.body = true ∧ bareTs w.body = true
  up : ∀ i n m, (ws.map (·.name))[i]? = some n → (ws.map (·.name))[i + 1]? = some m → Op.bytesLess n m = true
  calls : ∀ w ∈ ws, ∀ s, s ∈ callsIs w.body → isPrim s = true ∨ s ∈ ws.map (·.name)
theorem words_get {s : Txt} {x : WordT} : ∀ (l : List WordT) (m : List (Txt × WordT)), getA (l.foldl (fun m w => putA m w.name w) m) s = some x → (x ∈ l ∧ x.name = s) ∨ getA m s = some x
  | [], m, h => .inr h
  | w :: l, m, h => by
    rcases words_get l _ h with ⟨h1, h2⟩ | h
    · exact .inl ⟨List.mem_cons_of_mem _ h1, h2⟩
    · rw [getA_put] at h
      split at h
      · rename_i e
        cases h
        exact .inl ⟨List.mem_cons_self .., e.symm⟩
      · exact .inr h
theorem sees_calls {m : List (Txt × List Txt)} {ws : List (Txt × WordT)} {w : WordT} : ∀ (l : List Txt) (ok : Bool), l.foldl (seesStep m ws w) ok = true → ok = true ∧ ∀ s ∈ l, isPrim s = true ∨ ∃ x, getA ws s = some x
  | [], ok, h => ⟨h, fun s hs => by cases hs⟩
  | t :: l, ok, h => by
    obtain ⟨h1, h2⟩ := sees_calls l _ h
    unfold seesStep at h1
    cases hp : isPrim t with
    | true =>
      rw [hp, if_pos rfl] at h1
      refine ⟨h1, fun s hs => ?_⟩
      rcases List.mem_cons.1 hs with rfl | hs
      · exact .inl hp
      · exact h2 s hs
    | false =>
      rw [hp, if_neg (by simp), Bool.and_eq_true] at h1
      refine ⟨h1.1, fun s hs => ?_⟩
      rcases List.mem_cons.1 hs with rfl | hs
      · have h3 := h1.2
        unfold seesN at h3
        split at h3
        · rename_i x hx; exact .inr ⟨x, hx⟩
        · cases h3
      · exact h2 s hs
theorem dict_ok {d : DictT} (h : dictOk d = true) : DictOk d.words := by
  unfold dictOk at h
  simp only [Bool.and_eq_true, decide_eq_true_eq] at h
  obtain ⟨⟨⟨_, h1⟩, h2⟩, h3⟩ := h
  have hw : ∀ i w, d.words[i]? = some w → wordOk (usesN d.vocs) d.words i w = true := fun i w hi => by
    unfold wordsOk at h2
    rw [List.all_eq_true] at h2
    have := h2 i (List.mem_range.2 (List.getElem?_eq_some_iff.1 hi).1)
    rw [hi] at this
    exact this
  have hw' : ∀ w ∈ d.words, ∃ i, wordOk (usesN d.vocs) d.words i w = true := fun w h => by
    obtain ⟨i, hi⟩ := List.mem_iff_getElem?.1 h
    exact ⟨i, hw i w hi⟩
  refine ⟨h1, fun w h => ?_, fun w h => ?_, fun i n m hn hm => ?_, fun w hwm s hs => ?_⟩
  · obtain ⟨i, hi⟩ := hw' w h
    unfold wordOk at hi
    simp only [Bool.and_eq_true, Bool.not_eq_true'] at hi
    exact hi.1.1.2
  · obtain ⟨i, hi⟩ := hw' w h
    unfold wordOk bodyR at hi
    simp only [Bool.and_eq_true, Bool.not_eq_true'] at hi
    exact hi.1.2.1.1
  · rw [List.getElem?_map] at hm
    cases hc : d.words[i + 1]? with
    | none => rw [hc] at hm; cases hm
    | some c =>
      rw [hc] at hm
      obtain rfl : c.name = m := Option.some.inj hm
      have := hw (i + 1) c hc
      unfold wordOk at this
      rw [Bool.and_eq_true] at this
      have h4 := this.2
      rw [show (d.words.map (·.name)).getD (i + 1 - 1) [] = n by rw [List.getD_eq_getElem?_getD, Nat.add_sub_cancel, hn]; rfl] at h4
      simp only [Bool.or_eq_true, beq_iff_eq, Bool.not_eq_true', Bool.or_eq_false_iff, decide_eq_false_iff_not] at h4
      rcases h4 with h4 | h4
      · omega
      · exact bl_tri h4.1 h4.2
  · unfold fitsAll at h3
    rw [List.all_eq_true] at h3
    have h4 := of_decide_eq_true (h3 w hwm)
    unfold fitsD at h4
    split at h4
    · cases h4
    · rename_i hsr
      have hsr : seesR (usesN d.vocs) (wordsN d.words) w = true := by simpa using hsr
      rcases (sees_calls _ _ hsr).2 s hs with hp | ⟨x, hx⟩
      · exact .inl hp
      · rcases words_get _ _ hx with ⟨h5, h6⟩ | h5
        · exact .inr (List.mem_map.2 ⟨x, h5, h6⟩)
        · cases h5
/-! ### Codes -/
def opD (names : List (List UInt8)) (t : Tree) : OpT := match opOf names t with
  | some o => o
  | none => ⟨3, 0, .none⟩
def codeD (names : List (List UInt8)) (w : WordT) : CodeT := ⟨w.name, w.body.map (opD names)⟩
def linkD (ws : List WordT) : List CodeT := ws.map (codeD (ws.map (·.name)))
theorem linkD_names (ws : List WordT) : (linkD ws).map (·.name) = ws.map (·.name) := by unfold linkD; rw [List.map_map]; rfl
theorem linkD_len (ws : List WordT) : (linkD ws).length = ws.length := by unfold linkD; rw [List.length_map]
theorem place_at {s : List UInt8} : ∀ {l : List (List UInt8)} {i j : Nat}, placeL l s i = some j → ∃ d, j = i + d ∧ l[d]? = some s
  | [], _, _, h => by cases h
  | n :: r, i, j, h => by
    rw [placeL] at h
    split at h
    · rename_i e; cases h; exact ⟨0, rfl, by rw [e]; rfl⟩
    · obtain ⟨d, h1, h2⟩ := place_at h
      exact ⟨d + 1, by omega, by simpa using h2⟩
theorem place_in {s : List UInt8} : ∀ {l : List (List UInt8)} {i : Nat}, s ∈ l → ∃ j, placeL l s i = some j
  | n :: r, i, h => by
    rw [placeL]
    split
    · exact ⟨i, rfl⟩
    · rename_i e
      rcases List.mem_cons.1 h with h | h
      · exact absurd h e
      · exact place_in h
theorem getD_at {s : List UInt8} {l : List (List UInt8)} {d : Nat} (h : l[d]? = some s) : l.getD d [] = s := by rw [List.getD_eq_getElem?_getD, h]; rfl
theorem back_of {codes : List CodeT} {t : Tree} {o : OpT} (hf : t.full true = true) (h : opOf (codes.map (·.name)) t = some o) : backO codes o = some t := by
  cases hc : t.isCall with
  | true =>
    obtain ⟨s, rfl⟩ : ∃ s, t = .call s := by cases t <;> first | exact ⟨_, rfl⟩ | (cases hc; done)
    have e2 : opOf (codes.map (·.name)) (.call s) = match placeL namesL s 0 with
      | some j => some ⟨2, (j : Int), .none⟩
      | none => (placeL (codes.map (·.name)) s 0).map fun (j : Nat) => ⟨3, (j : Int), .none⟩ := rfl
    rw [e2] at h
    cases h1 : placeL namesL s 0 with
    | some j =>
      rw [h1] at h
      cases h
      obtain ⟨d, rfl, h2⟩ := place_at h1
      have hlt : d < 52 := (List.getElem?_eq_some_iff.1 h2).1
      unfold backO
      rw [if_neg (by simp), if_pos ⟨rfl, rfl, by dsimp only; omega, by dsimp only; omega⟩]
      simp only [Nat.zero_add, Int.toNat_natCast]
      rw [getD_at h2]
    | none =>
      rw [h1] at h
      cases h2 : placeL (codes.map (·.name)) s 0 with
      | none => rw [h2] at h; cases h
      | some j =>
        rw [h2] at h
        cases h
        obtain ⟨d, rfl, h3⟩ := place_at h2
        have hlt := (List.getElem?_eq_some_iff.1 h3).1
        rw [List.length_map] at hlt
        unfold backO
        rw [if_neg (by simp), if_neg (by simp), if_pos ⟨rfl, rfl, by dsimp only; omega, by dsimp only; omega⟩]
        simp only [Nat.zero_add, Int.toNat_natCast]
        rw [getD_at h3]
  | false =>
    have e2 : opOf (codes.map (·.name)) t = some ⟨1, 0, t⟩ := by cases t <;> first | rfl | (cases hc; done)
    rw [e2] at h
    cases h
    have e3 : isSome t = true := by cases t <;> first | rfl | (cases hf; done)
    unfold backO
    rw [if_pos ⟨rfl, rfl, e3⟩]
theorem back_ofs {codes : List CodeT} : ∀ {l : List Tree} {ops : List OpT}, fullAll true l = true → opsOf (codes.map (·.name)) l = some ops → backL codes ops = some l
  | [], ops, _, h => by cases h; rfl
  | t :: r, ops, hf, h => by
    simp only [fullAll, Bool.and_eq_true] at hf
    rw [opsOf] at h
    cases h1 : opOf (codes.map (·.name)) t with
    | none => rw [h1] at h; cases h
    | some o =>
      rw [h1] at h
      dsimp only at h
      cases h2 : opsOf (codes.map (·.name)) r with
      | none => rw [h2] at h; cases h
      | some q =>
        rw [h2] at h
        obtain rfl : o :: q = ops := Option.some.inj h
        rw [backL, back_of hf.1 h1, back_ofs hf.2 h2]; rfl
theorem opsOf_D {names : List (List UInt8)} : ∀ {l : List Tree}, (∀ s, s ∈ callsIs l → isPrim s = true ∨ s ∈ names) → opsOf names l = some (l.map (opD names))
  | [], _ => rfl
  | t :: r, h => by
    have h1 : ∃ o, opOf names t = some o := by
      cases hc : t.isCall with
      | true =>
        obtain ⟨s, rfl⟩ : ∃ s, t = .call s := by cases t <;> first | exact ⟨_, rfl⟩ | (cases hc; done)
        have e2 : opOf names (.call s) = match placeL namesL s 0 with
          | some j => some ⟨2, (j : Int), .none⟩
          | none => (placeL names s 0).map fun (j : Nat) => ⟨3, (j : Int), .none⟩ := rfl
        rw [e2]
        rcases h s (by rw [callsIs_cons]; exact List.mem_append_left _ (List.mem_cons_self ..)) with hp | hp
        · obtain ⟨j, hj⟩ := place_in (i := 0) (List.contains_iff_mem.1 hp)
          rw [hj]; exact ⟨_, rfl⟩
        · obtain ⟨j, hj⟩ := place_in (i := 0) hp
          rw [hj]
          cases placeL namesL s 0 with
          | some i => exact ⟨_, rfl⟩
          | none => exact ⟨_, rfl⟩
      | false => exact ⟨⟨1, 0, t⟩, by cases t <;> first | rfl | (cases hc; done)⟩
    obtain ⟨o, ho⟩ := h1
    rw [opsOf, ho, opsOf_D (l := r) (fun s hs => h s (by rw [callsIs_cons]; exact List.mem_append_right _ hs)), List.map_cons]
    have : opD names t = o := by unfold opD; rw [ho]
    rw [this]; rfl
theorem back_word {ws : List WordT} (h : DictOk ws) {w : WordT} (hw : w ∈ ws) : backL (linkD ws) (codeD (ws.map (·.name)) w).ops = some w.body := by
  have h1 := opsOf_D (h.calls w hw)
  refine back_ofs (check_full (h.check w hw).1) ?_
  rw [linkD_names]; exact h1
theorem names_uniq {ws : List WordT} (h : DictOk ws) : ∀ k m, (ws.map (·.name))[k]? = some m → m ∉ (ws.map (·.name)).take k := fun _ _ hm => up_notin h.up hm
theorem link_at {ws : List WordT} {i : Nat} {c : CodeT} (h : (linkD ws)[i]? = some c) : ∃ w, ws[i]? = some w ∧ c = codeD (ws.map (·.name)) w := by
  unfold linkD at h
  rw [List.getElem?_map] at h
  cases hw : ws[i]? with
  | none => rw [hw] at h; cases h
  | some w => rw [hw] at h; exact ⟨w, rfl, (Option.some.inj h).symm⟩
theorem link_sound {ws : List WordT} (h : DictOk ws) : soundC (linkD ws) = true := by
  refine sound_true fun i c hc => ?_
  obtain ⟨w, hw, rfl⟩ := link_at hc
  have hm := List.mem_of_getElem? hw
  rw [codeOk_eq, linkD_names]
  unfold bodyOk
  rw [back_word h hm]
  have h1 := h.name w hm
  have h2 := h.check w hm
  have e1 : (codeD (ws.map (·.name)) w).name = w.name := rfl
  dsimp only
  rw [e1, h1.1, h1.2]
  unfold backOk
  rw [h2.1, h2.2]
  simp only [Bool.not_false, Bool.true_and, Bool.and_true, Bool.or_eq_true, beq_iff_eq, Bool.not_eq_true', Bool.or_eq_false_iff, decide_eq_false_iff_not]
  by_cases hi : i = 0
  · exact .inl hi
  · right
    have hlt : i < ws.length := (List.getElem?_eq_some_iff.1 hw).1
    have e2 : (ws.map (·.name))[i]? = some w.name := by rw [List.getElem?_map, hw]; rfl
    obtain ⟨n, hn⟩ : ∃ n, (ws.map (·.name))[i - 1]? = some n := ⟨_, List.getElem?_eq_getElem (by rw [List.length_map]; omega)⟩
    have h3 := h.up (i - 1) n w.name hn (by rw [show i - 1 + 1 = i by omega]; exact e2)
    rw [getD_at hn]
    constructor
    · cases h4 : Op.bytesLess w.name n with
      | false => rfl
      | true => have := bl_trans h3 h4; rw [bl_irrefl] at this; cases this
    · intro e
      rw [e, bl_irrefl] at h3; cases h3
/-- What stands in the codes. -/
theorem link_in {ws : List WordT} (h : DictOk ws) (hcl : ∀ w ∈ ws, cleanAll w.body = true) : ∀ c ∈ linkD ws, ∃ w ∈ ws, c.name = w.name ∧ c.ops.length = w.body.length ∧ ∀ o ∈ c.ops, o.v.clean = true ∧ valish o.v = true := by
  intro c hc
  obtain ⟨i, hi⟩ := List.mem_iff_getElem?.1 hc
  obtain ⟨w, hw, rfl⟩ := link_at hi
  have hm := List.mem_of_getElem? hw
  obtain ⟨h1, h2⟩ := opsOf_in (hcl w hm) (check_full (h.check w hm).1) (opsOf_D (h.calls w hm))
  exact ⟨w, hm, rfl, h1, h2⟩
end Go.Proofs.YtonkeklageehbaaGreatDoor
