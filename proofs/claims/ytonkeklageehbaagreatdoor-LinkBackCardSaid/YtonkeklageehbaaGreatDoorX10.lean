/- Trees of the reference as values and items: plain Lean and the walks. Conditions: as each says. Codes and operations: in memory, and in plain Lean. Conditions: none. The reference's trees and the items they stand for measure alike; what is sound is small. Conditions: as each says. Codes and operations: the document's answer and the program's, in plain Lean. Conditions: none. The reference's trees as a row's arguments. Conditions: as each says. Codes and operations of package api out of the reference's, and back. Conditions: as each says. Names in the reference's trees are no longer than memory. Conditions: as each says. Copies of values and items: the walks. Conditions: as each says. link.back, link.Check, term.Bare, prim.Names, prim.Is. Conditions: as each says. dict.known: sees, and the closure in it: the walks. Conditions: as each says. dict.look: the walk. Conditions: as it says. link.Check, link.Same. Conditions: as each says. link.Same. Conditions: as each says. The reference's primitives. Conditions: none. Links, the document's answer: which codes are sound, which are the same. Conditions: as each says. Links, the document's answer: Sound, Same. Conditions: as each says. link.places, op, Ops. Conditions: as each says. Effects: the law EffectKeeps. Conditions: the slices are no longer than memory can hold. The reference's known words as a row's argument. Conditions: as each says. -/
import Derived.Test.YtonkeklageehbaaGreatDoorX8
import Derived.Test.YtonkeklageehbaaGreatDoorX9
import Derived.Test.YtonkeklageehbaaGreatDoorX4
import Derived.Test.YtonkeklageehbaaGreatDoorX7
set_option linter.all false
set_option maxRecDepth 20000
namespace Go.Proofs.YtonkeklageehbaaGreatDoor
open Go Go.Av
def RV.knd : RV → Int
  | .mk k _ _ _ => k
def RV.txt : RV → List UInt8
  | .mk _ _ s _ => s
mutual
/-- The value of a tree. -/
def valT : RV → Tree
  | .mk k n s l => if k = 1 then .int n else if k = 2 then .str s else if k = 3 then .bool (decide (n ≠ 0)) else if k = 4 then .list (valTs l) else if k = 5 then .quot (itemTs l) else if k = 6 then .box n else .none
def valTs : List RV → List Tree
  | [] => []
  | v :: r => valT v :: valTs r
def itemTs : List RV → List Tree
  | [] => []
  | v :: r => (if v.knd = 7 then .call v.txt else valT v) :: itemTs r
end
/-- The item of a tree. -/
def itemT (v : RV) : Tree := if v.knd = 7 then .call v.txt else valT v
theorem itemTs_cons (v : RV) (r : List RV) : itemTs (v :: r) = itemT v :: itemTs r := by simp [itemTs, itemT]
theorem valTs_map : ∀ l : List RV, valTs l = l.map valT
  | [] => by simp [valTs]
  | v :: r => by rw [valTs, valTs_map r]; rfl
theorem itemTs_map : ∀ l : List RV, itemTs l = l.map itemT
  | [] => by simp [itemTs]
  | v :: r => by rw [itemTs_cons, itemTs_map r]; rfl
@[simp] theorem valTs_length (l : List RV) : (valTs l).length = l.length := by simp [valTs_map]
@[simp] theorem itemTs_length (l : List RV) : (itemTs l).length = l.length := by simp [itemTs_map]
mutual
/-- What comes in: numbers that fit, no list of more than 2^47 bytes. -/
def RV.inp : RV → Bool
  | .mk k n s l => (decide (-9223372036854775808 ≤ k) && decide (k ≤ 9223372036854775807)) && (decide (-9223372036854775808 ≤ n) && decide (n ≤ 9223372036854775807)) && decide (s.length ≤ 140737488351232) && decide (l.length ≤ 2513169434916) && inpAll l
def inpAll : List RV → Bool
  | [] => true
  | v :: r => v.inp && inpAll r
end
theorem inpAll_at : ∀ {l : List RV} {i : Nat} {t : RV}, inpAll l = true → l[i]? = some t → t.inp = true
  | [], _, _, _, h => by simp at h
  | x :: l, 0, t, hc, h => by simp at h; subst h; simp [inpAll] at hc; exact hc.1
  | x :: l, i + 1, t, hc, h => by simp [inpAll] at hc; exact inpAll_at hc.2 (by simpa using h)
mutual
theorem inp_clean : ∀ v : RV, v.inp = true → (valT v).clean = true
  | .mk k n s l, h => by
    simp only [RV.inp, Bool.and_eq_true, decide_eq_true_eq] at h
    rw [valT]
    repeat' split
    all_goals first
    | rfl
    | (simp only [Tree.clean, Bool.and_eq_true, decide_eq_true_eq, valTs_length, itemTs_length]; exact ⟨h.1.2, by first | exact inp_cleanV l h.2 | exact inp_cleanI l h.2⟩)
theorem inp_cleanV : ∀ l : List RV, inpAll l = true → cleanAll (valTs l) = true
  | [], _ => by simp [valTs, cleanAll]
  | v :: r, h => by
    simp only [inpAll, Bool.and_eq_true] at h
    simp only [valTs, cleanAll, Bool.and_eq_true]
    exact ⟨inp_clean v h.1, inp_cleanV r h.2⟩
theorem inp_cleanI : ∀ l : List RV, inpAll l = true → cleanAll (itemTs l) = true
  | [], _ => by simp [itemTs, cleanAll]
  | v :: r, h => by
    simp only [inpAll, Bool.and_eq_true] at h
    rw [itemTs]
    simp only [cleanAll, Bool.and_eq_true]
    refine ⟨?_, inp_cleanI r h.2⟩
    split
    · rfl
    · exact inp_clean v h.1
end
theorem f_Values' (l : List RV) (h : ∀ (i : Nat) v, l[i]? = some v → Av.Fn Tryz.prog 62 [.agg (rvAV v)] (valAV (valT v))) (hl : l.length ≤ 2513169434916) :
    Av.Fn Tryz.prog 90 [.fz (rvsC l) l.length false] (.fz (valAVs (valTs l)) l.length false) := by
  have hcell : ∀ {i : Nat} {v : RV}, l[i]? = some v → (List.drop (mulN i 4) (rvsC l)).take 4 = rvAV v := fun h => by
    have := rvsC_at (r := []) h
    rwa [List.append_nil, ← mulN_eq] at this
  have hmap : ∀ q : List RV, valAVs (valTs q) = q.map fun v => valAV (valT v) := fun q => by rw [valAVs_map, valTs_map, List.map_map]; rfl
  rw [hmap]
  refine ACalls.of_W tb_ok (fn := Tryz.f90) (n := 20) (by kernel_rfl) rfl (by kernel_rfl) rfl rfl (by simp) (go ?_)
  refine VLoop.mk [3, 4] AccI (fun i => [accV i.o i.k, .int .i64 i.k]) (fun i => accS i.o 1 ((List.map fun v => valAV (valT v)) (l.take i.k))) (fun i => i.k ≤ l.length ∧ (i.o = none → i.k = 0)) (fun i => l.length - i.k) ⟨0, none⟩ ?_ ?_
  · exact ⟨⟨by simp, by simp⟩, rfl, .nil⟩
  rintro ⟨k, o⟩ ⟨hk, ho⟩
  dsimp only at hk ho ⊢
  refine go ?_
  refine fork (fun hlt => go ?_) (fun hlt => ?_)
  · have hlt : k < l.length := by omega
    obtain ⟨t, ht⟩ : ∃ t, l[k]? = some t := ⟨l[k], by simp [hlt]⟩
    have hv := h k t ht
    have hacc : (List.map fun v => valAV (valT v)) (l.take (k + 1)) = (List.map fun v => valAV (valT v)) (l.take k) ++ [(fun v => valAV (valT v)) t] := by
      rw [take_succ_at ht]; simp [hmap]
    have hlen : ((List.map fun v => valAV (valT v)) (l.take k)).length = k := by simp; omega
    refine VTake.mk (rvAV t) (hcell ht) (by simp) (go ?_)
    refine Fn.use (hv) (go ?_)
    cases o with
    | none =>
      obtain rfl : k = 0 := ho rfl
      refine go ?_
      refine VOne.mk (by first | exact valAV_one' _ | exact itemAV_one _) (go ?_)
      refine VAll.mk (fun b2 => go ?_)
      refine ⟨⟨1, some b2⟩, ⟨by dsimp only; omega, by simp⟩, by dsimp only; omega, rfl, .cons 0 ?_ .nil⟩
      dsimp only
      rw [hacc]; simp [hmap]
    | some bo =>
      refine go ?_
      refine VOne.mk (by first | exact valAV_one' _ | exact itemAV_one _) (go ?_)
      refine VGd.mk ⟨rfl, by omega, by rw [mulN_eq, hlen]; simp, by simp; omega⟩ (go ?_)
      refine VAll.mk (fun b2 => go ?_)
      refine ⟨⟨k + 1, some b2⟩, ⟨by dsimp only; omega, by simp⟩, by dsimp only; omega, rfl, .cons 0 ?_ .nil⟩
      dsimp only
      rw [hacc, mulN_eq, List.take_of_length_le (by rw [hlen]; simp)]; rfl
  · obtain rfl : k = l.length := by omega
    rw [List.take_length]
    cases o with
    | none =>
      have := ho rfl
      obtain rfl : l = [] := List.length_eq_zero_iff.1 this
      refine go ?_
      refine VRet.mk [] .nil ?_
      exact ⟨by simp [hmap], rfl⟩
    | some bo =>
      refine go ?_
      refine VRet.mk [] .nil ?_
      exact ⟨by simp [mulN_eq, List.take_of_length_le], rfl⟩
theorem f_ItemsOf' (l : List RV) (h : ∀ (i : Nat) v, l[i]? = some v → Av.Fn Tryz.prog 30 [.agg (rvAV v)] (itemAV (itemT v))) (hl : l.length ≤ 2513169434916) :
    Av.Fn Tryz.prog 13 [.fz (rvsC l) l.length false] (.fz (itemAVs (itemTs l)) l.length false) := by
  have hcell : ∀ {i : Nat} {v : RV}, l[i]? = some v → (List.drop (mulN i 4) (rvsC l)).take 4 = rvAV v := fun h => by
    have := rvsC_at (r := []) h
    rwa [List.append_nil, ← mulN_eq] at this
  have hmap : ∀ q : List RV, itemAVs (itemTs q) = q.map fun v => itemAV (itemT v) := fun q => by rw [itemAVs_map, itemTs_map, List.map_map]; rfl
  rw [hmap]
  refine ACalls.of_W tb_ok (fn := Tryz.f13) (n := 20) (by kernel_rfl) rfl (by kernel_rfl) rfl rfl (by simp) (go ?_)
  refine VLoop.mk [3, 4] AccI (fun i => [accV i.o i.k, .int .i64 i.k]) (fun i => accS i.o 1 ((List.map fun v => itemAV (itemT v)) (l.take i.k))) (fun i => i.k ≤ l.length ∧ (i.o = none → i.k = 0)) (fun i => l.length - i.k) ⟨0, none⟩ ?_ ?_
  · exact ⟨⟨by simp, by simp⟩, rfl, .nil⟩
  rintro ⟨k, o⟩ ⟨hk, ho⟩
  dsimp only at hk ho ⊢
  refine go ?_
  refine fork (fun hlt => go ?_) (fun hlt => ?_)
  · have hlt : k < l.length := by omega
    obtain ⟨t, ht⟩ : ∃ t, l[k]? = some t := ⟨l[k], by simp [hlt]⟩
    have hv := h k t ht
    have hacc : (List.map fun v => itemAV (itemT v)) (l.take (k + 1)) = (List.map fun v => itemAV (itemT v)) (l.take k) ++ [(fun v => itemAV (itemT v)) t] := by
      rw [take_succ_at ht]; simp [hmap]
    have hlen : ((List.map fun v => itemAV (itemT v)) (l.take k)).length = k := by simp; omega
    refine VTake.mk (rvAV t) (hcell ht) (by simp) (go ?_)
    refine Fn.use (hv) (go ?_)
    cases o with
    | none =>
      obtain rfl : k = 0 := ho rfl
      refine go ?_
      refine VOne.mk (by first | exact valAV_one' _ | exact itemAV_one _) (go ?_)
      refine VAll.mk (fun b2 => go ?_)
      refine ⟨⟨1, some b2⟩, ⟨by dsimp only; omega, by simp⟩, by dsimp only; omega, rfl, .cons 0 ?_ .nil⟩
      dsimp only
      rw [hacc]; simp [hmap]
    | some bo =>
      refine go ?_
      refine VOne.mk (by first | exact valAV_one' _ | exact itemAV_one _) (go ?_)
      refine VGd.mk ⟨rfl, by omega, by rw [mulN_eq, hlen]; simp, by simp; omega⟩ (go ?_)
      refine VAll.mk (fun b2 => go ?_)
      refine ⟨⟨k + 1, some b2⟩, ⟨by dsimp only; omega, by simp⟩, by dsimp only; omega, rfl, .cons 0 ?_ .nil⟩
      dsimp only
      rw [hacc, mulN_eq, List.take_of_length_le (by rw [hlen]; simp)]; rfl
  · obtain rfl : k = l.length := by omega
    rw [List.take_length]
    cases o with
    | none =>
      have := ho rfl
      obtain rfl : l = [] := List.length_eq_zero_iff.1 this
      refine go ?_
      refine VRet.mk [] .nil ?_
      exact ⟨by simp [hmap], rfl⟩
    | some bo =>
      refine go ?_
      refine VRet.mk [] .nil ?_
      exact ⟨by simp [mulN_eq, List.take_of_length_le], rfl⟩
theorem f_Value' (v : RV) (hv : v.inp = true) (h4 : Av.Fn Tryz.prog 90 [.fz (rvsC (match v with | .mk _ _ _ l => l)) (match v with | .mk _ _ _ l => l).length false] (.fz (valAVs (valTs (match v with | .mk _ _ _ l => l))) (match v with | .mk _ _ _ l => l).length false))
    (h5 : Av.Fn Tryz.prog 13 [.fz (rvsC (match v with | .mk _ _ _ l => l)) (match v with | .mk _ _ _ l => l).length false] (.fz (itemAVs (itemTs (match v with | .mk _ _ _ l => l))) (match v with | .mk _ _ _ l => l).length false)) :
    Av.Fn Tryz.prog 62 [.agg (rvAV v)] (valAV (valT v)) := by
  obtain ⟨k, n, s, l⟩ := v
  dsimp only at h4 h5
  simp only [RV.inp, Bool.and_eq_true, decide_eq_true_eq] at hv
  rw [rvAV, valT]
  refine ACalls.of_W tb_ok (fn := Tryz.f62) (n := 44) (by kernel_rfl) rfl (by kernel_rfl) rfl rfl (by simp) (go ?_)
  refine VAll.mk (fun b => go ?_)
  refine fork (fun k1 => go ?_) (fun k1 => go ?_)
  · rw [if_pos k1]
    refine VRet.mk [] .nil ?_
    exact ⟨by simp [valAV], rfl⟩
  rw [if_neg k1]
  refine fork (fun k2 => go ?_) (fun k2 => go ?_)
  · rw [if_pos k2]
    refine VRet.mk [] .nil ?_
    exact ⟨by simp [valAV], rfl⟩
  rw [if_neg k2]
  refine fork (fun k3 => go ?_) (fun k3 => go ?_)
  · rw [if_pos k3]
    refine VRet.mk [] .nil ?_
    exact ⟨by simp [valAV], rfl⟩
  rw [if_neg k3]
  refine fork (fun k4 => go ?_) (fun k4 => go ?_)
  · rw [if_pos k4]
    refine Fn.use (h4) (go ?_)
    refine VRet.mk [] .nil ?_
    exact ⟨by simp [valAV], rfl⟩
  rw [if_neg k4]
  refine fork (fun k5 => go ?_) (fun k5 => go ?_)
  · rw [if_pos k5]
    refine Fn.use (h5) (go ?_)
    refine VRet.mk [] .nil ?_
    exact ⟨by simp [valAV], rfl⟩
  rw [if_neg k5]
  refine fork (fun k6 => go ?_) (fun k6 => go ?_)
  · rw [if_pos k6]
    refine VRet.mk [] .nil ?_
    exact ⟨by simp [valAV], rfl⟩
  rw [if_neg k6]
  refine VRet.mk [] .nil ?_
  exact ⟨by simp [valAV], rfl⟩
theorem itemAV_push {t : Tree} (h1 : ∀ s, t ≠ .call s) (h2 : t ≠ .none) (h3 : ∀ u v, t ≠ .odd u v) : itemAV t = .iface 136 (.agg [valAV t]) := by
  cases t <;> first | rfl | (exact absurd rfl (h1 _)) | (exact absurd rfl h2) | (exact absurd rfl (h3 _ _))
theorem f_ItemOf' (v : RV) (h : Av.Fn Tryz.prog 62 [.agg (rvAV v)] (valAV (valT v))) : Av.Fn Tryz.prog 30 [.agg (rvAV v)] (itemAV (itemT v)) := by
  obtain ⟨k, n, s, l⟩ := v
  unfold itemT
  rw [rvAV] at h ⊢
  rw [show (RV.mk k n s l).knd = k from rfl, show (RV.mk k n s l).txt = s from rfl]
  refine ACalls.of_W tb_ok (fn := Tryz.f30) (n := 22) (by kernel_rfl) rfl (by kernel_rfl) rfl rfl (by simp) (go ?_)
  refine VAll.mk (fun b => go ?_)
  refine fork (fun k7 => go ?_) (fun k7 => go ?_)
  · rw [if_pos k7]
    refine VRet.mk [] .nil ?_
    exact ⟨rfl, rfl⟩
  rw [if_neg k7]
  refine fork (fun k1 => go ?_) (fun k1 => go ?_)
  · rw [valT, if_neg (by omega), if_neg (by omega), if_neg (by omega), if_neg (by omega), if_neg (by omega), if_neg (by omega)]
    refine VRet.mk [] .nil ?_
    exact ⟨rfl, rfl⟩
  refine fork (fun k6 => go ?_) (fun k6 => go ?_)
  · rw [valT, if_neg (by omega), if_neg (by omega), if_neg (by omega), if_neg (by omega), if_neg (by omega), if_neg (by omega)]
    refine VRet.mk [] .nil ?_
    exact ⟨rfl, rfl⟩
  have hp : itemAV (valT (.mk k n s l)) = .iface 136 (.agg [valAV (valT (.mk k n s l))]) := by
    refine itemAV_push ?_ ?_ ?_
    · intro s; rw [valT]; repeat' split
      all_goals (intro e; cases e)
    · rw [valT]; repeat' split
      all_goals first | (intro e; cases e; done) | (exfalso; omega)
    · intro u v; rw [valT]; repeat' split
      all_goals (intro e; cases e)
  rw [hp]
  have ho := valAV_one' (valT (.mk k n s l))
  generalize valAV (valT (.mk k n s l)) = w at h ho ⊢
  refine Fn.use (h) (go ?_)
  refine VOne.mk ho (go ?_)
  refine VRet.mk [] .nil ?_
  exact ⟨rfl, rfl⟩
theorem f_vals (n : Nat) :
    (∀ v : RV, v.inp = true → v.deep ≤ n → Av.Fn Tryz.prog 62 [.agg (rvAV v)] (valAV (valT v))) ∧
    (∀ l : List RV, inpAll l = true → l.length ≤ 2513169434916 → deepAll l ≤ n → Av.Fn Tryz.prog 90 [.fz (rvsC l) l.length false] (.fz (valAVs (valTs l)) l.length false) ∧
      Av.Fn Tryz.prog 13 [.fz (rvsC l) l.length false] (.fz (itemAVs (itemTs l)) l.length false)) := by
  suffices H : ∀ v : RV, v.inp = true → v.deep ≤ n → Av.Fn Tryz.prog 62 [.agg (rvAV v)] (valAV (valT v)) from
    ⟨H, fun l hi hl hd => ⟨f_Values' l (fun i v hv => H v (inpAll_at hi hv) (Nat.le_trans (deepAll_at hv) hd)) hl,
      f_ItemsOf' l (fun i v hv => f_ItemOf' v (H v (inpAll_at hi hv) (Nat.le_trans (deepAll_at hv) hd))) hl⟩⟩
  induction n with
  | zero =>
    intro v _ hd
    obtain ⟨k, n, s, l⟩ := v
    rw [RV.deep] at hd; omega
  | succ n ih =>
    intro v hi hd
    obtain ⟨k, n', s, l⟩ := v
    rw [RV.deep] at hd
    have hi' := hi
    simp only [RV.inp, Bool.and_eq_true, decide_eq_true_eq] at hi'
    refine f_Value' _ hi ?_ ?_
    · exact f_Values' l (fun i v hv => ih v (inpAll_at hi'.2 hv) (by have := deepAll_at hv; omega)) hi'.1.2
    · exact f_ItemsOf' l (fun i v hv => f_ItemOf' v (ih v (inpAll_at hi'.2 hv) (by have := deepAll_at hv; omega))) hi'.1.2
theorem f_ItemsOf {l : List RV} (h : inpAll l = true) (hl : l.length ≤ 2513169434916) : Av.Fn Tryz.prog 13 [.fz (rvsC l) l.length false] (.fz (itemAVs (itemTs l)) l.length false) := ((f_vals (deepAll l)).2 l h hl (Nat.le_refl _)).2
end Go.Proofs.YtonkeklageehbaaGreatDoor

namespace Go.Proofs.YtonkeklageehbaaGreatDoor
open Go Go.Av
/-- An operation. -/
structure OpT where
  kind : Int
  n : Int
  v : Tree
/-- The code of a word. -/
structure CodeT where
  name : List UInt8
  ops : List OpT
/-- The reference's. -/
structure ROp where
  kind : Int
  n : Int
  v : RV
structure RCode where
  name : List UInt8
  ops : List ROp
def opC (o : OpT) : List AV := [.int .i64 o.kind, .int .i64 o.n, valAV o.v]
def opsC (l : List OpT) : List AV := l.flatMap opC
def codeC (c : CodeT) : List AV := [.str c.name, .fz (opsC c.ops) c.ops.length false]
def codesC (l : List CodeT) : List AV := l.flatMap codeC
def ropC (o : ROp) : List AV := [.int .i64 o.kind, .int .i64 o.n] ++ rvAV o.v
def ropsC (l : List ROp) : List AV := l.flatMap ropC
def rcodeC (c : RCode) : List AV := [.str c.name, .fz (ropsC c.ops) c.ops.length false]
def rcodesC (l : List RCode) : List AV := l.flatMap rcodeC
/-- Is there a value? -/
def isSome (t : Tree) : Bool := match t with
  | .none => false
  | _ => true
/-- The item of an operation, if it has one. -/
def backO (codes : List CodeT) (o : OpT) : Option Tree :=
  if o.kind = 1 ∧ o.n = 0 ∧ isSome o.v = true then some o.v
  else if o.kind = 2 ∧ isSome o.v = false ∧ 0 ≤ o.n ∧ o.n < 52 then some (.call (namesL.getD o.n.toNat []))
  else if o.kind = 3 ∧ isSome o.v = false ∧ 0 ≤ o.n ∧ o.n < codes.length then some (.call ((codes.map (·.name)).getD o.n.toNat []))
  else none
def backL (codes : List CodeT) : List OpT → Option (List Tree)
  | [] => some []
  | o :: r => match backO codes o with
    | none => none
    | some t => (backL codes r).map (t :: ·)
mutual
/-- Does no box stand in it? -/
def bareT : Tree → Bool
  | .box _ => false
  | .list l => bareTs l
  | .quot l => bareTs l
  | _ => true
def bareTs : List Tree → Bool
  | [] => true
  | t :: r => bareT t && bareTs r
end
def backOk (l : List Tree) : Bool := checkR l && bareTs l
def isPrim (s : List UInt8) : Bool := namesL.contains s
/-- Is the code in its place sound? -/
def codeOk (codes : List CodeT) (i : Nat) (c : CodeT) : Bool :=
  (nmR c.name && !isPrim c.name && (i == 0 || !(Op.bytesLess c.name ((codes.map (·.name)).getD (i - 1) []) || decide (c.name = (codes.map (·.name)).getD (i - 1) [])))) && match backL codes c.ops with
    | some l => backOk l
    | none => false
def soundC (codes : List CodeT) : Bool := (List.range codes.length).all fun i => match codes[i]? with
  | some c => codeOk codes i c
  | none => true
end Go.Proofs.YtonkeklageehbaaGreatDoor

namespace Go.Proofs.YtonkeklageehbaaGreatDoor
open Go Go.Av
end Go.Proofs.YtonkeklageehbaaGreatDoor

namespace Go.Proofs.YtonkeklageehbaaGreatDoor
open Go Go.Av
/-- A value or none: no call, nothing of another type. -/
def valish : Tree → Bool
  | .call _ => false
  | .odd _ _ => false
  | _ => true
def sameOp (x y : OpT) : Bool := decide (x.kind = y.kind) && (decide (x.n = y.n) && (decide (isSome x.v = isSome y.v) && (!isSome x.v || sameV (valRV x.v) (valRV y.v))))
def all2 {α : Type} (f : α → α → Bool) : List α → List α → Bool
  | [], [] => true
  | a :: r, b :: q => f a b && all2 f r q
  | _, _ => false
def sameCode (a b : CodeT) : Bool := decide (a.name = b.name) && all2 sameOp a.ops b.ops
end Go.Proofs.YtonkeklageehbaaGreatDoor

namespace Go.Proofs.YtonkeklageehbaaGreatDoor
open Go Go.Av
mutual
def RV.bulk : RV → Nat
  | .mk _ _ s l => s.length + bulkAll l + 1
def bulkAll : List RV → Nat
  | [] => 0
  | v :: r => v.bulk + bulkAll r
end
theorem bulkAll_sum : ∀ l : List RV, bulkAll l = (l.map RV.bulk).sum
  | [] => rfl
  | v :: r => by rw [bulkAll, bulkAll_sum r]; rfl
theorem rvsC_flat : ∀ l : List RV, rvsC l = l.flatMap rvAV
  | [] => by simp [rvsC]
  | v :: r => by rw [rvsC, rvsC_flat r]; rfl
theorem inpAll_all {l : List RV} : (∀ v ∈ l, v.inp = true) → inpAll l = true := by
  intro h
  induction l with
  | nil => simp [inpAll]
  | cons v l ih => simp only [inpAll, Bool.and_eq_true]; exact ⟨h v (List.mem_cons_self), ih fun w hw => h w (List.mem_cons_of_mem _ hw)⟩
theorem wf_i64 {n : Int} (h : (Lit.int .i64 n).wf = true) : -9223372036854775808 ≤ n ∧ n ≤ 9223372036854775807 := by
  simp only [Lit.wf, Bool.and_eq_true, decide_eq_true_eq] at h
  rw [show IntKind.i64.min = -9223372036854775808 by decide, show IntKind.i64.max = 9223372036854775807 by decide] at h
  exact h
section
variable {H : Type} {enc : TypeId × Value → H} {W : World}
theorem reads_VL (fuel : Nat) : Reads enc Tryz.prog W 104 fuel rvAV (fun v => v.inp = true) RV.bulk ∧
    Reads enc Tryz.prog W 43 fuel (fun l => [.fz (rvsC l) l.length false]) (fun l => l.length ≤ 2513169434916 ∧ inpAll l = true) (fun l => bulkAll l + 1) := by
  induction fuel with
  | zero => exact ⟨.zero, .zero⟩
  | succ fuel ih =>
    refine ⟨?_, ?_⟩
    · have hf : ReadsF enc Tryz.prog W fuel 0 [⟨"K", 3, 0, false, "", "", 0⟩, ⟨"N", 2, 1, false, "", "", 8⟩, ⟨"S", 9, 2, false, "", "", 16⟩, ⟨"L", 43, 3, false, "", "", 32⟩] (1 + (1 + (1 + (1 + 0)))) _ _ _ :=
        .cons rfl (by kernel_rfl) (reads_int (Tryz.underlying3) fuel) (.cons rfl (by kernel_rfl) (reads_int (Tryz.underlying2) fuel) (.cons rfl (by kernel_rfl) (reads_str (Tryz.underlying9) fuel) (.cons rfl (by kernel_rfl) ih.2 .nil)))
      have h := reads_struct (Tryz.underlying104) (by kernel_rfl) hf
      refine h.map (fun x => .mk x.1 x.2.1 x.2.2.1 x.2.2.2.1) (fun x => ?_) (fun x hx => ?_) (fun x => ?_)
      · simp [rvAV]
      · obtain ⟨h1, h2, h3, ⟨h4, h5⟩, _⟩ := hx
        have h1 := wf_i64 h1
        have h2 := wf_i64 h2
        have h3 : x.2.2.1.length ≤ 140737488351232 := h3
        simp only [RV.inp, h5, Bool.and_true, Bool.and_eq_true, decide_eq_true_eq]
        exact ⟨⟨⟨h1, h2⟩, h3⟩, h4⟩
      · simp only [RV.bulk]; omega
    · have h := reads_slice (Tryz.underlying43) (esz := 4) (by kernel_rfl) (by omega) ih.1 (enc := enc) (W := W)
      refine h.map (fun l => l) (fun l => by rw [rvsC_flat]) (fun l hl => ?_) (fun l => by rw [bulkAll_sum]; exact Nat.le_refl _)
      refine ⟨?_, inpAll_all hl.2⟩
      have h1 := hl.1
      rw [show Tryz.prog.bytesOf 104 = 56 by kernel_rfl, show reachBytes = 140737488351232 by decide] at h1
      omega
theorem arg_struct {P : Program} {W : World} {r : Reach} {base : Nat} {t : TypeId} {fs : Array Field} {v : Value} (hu : P.underlying t = some (.struct fs)) (h : Value.okWide P W r base t v) : ∃ cs, v = .agg cs := by
  unfold Value.okWide at h
  rw [hu] at h
  obtain ⟨cs, e, _⟩ := h
  exact ⟨cs, e⟩
theorem arg_slice {P : Program} {W : World} {r : Reach} {base : Nat} {t e : TypeId} {v : Value} (hu : P.underlying t = some (.slice e)) (h : Value.okWide P W r base t v) : v.cells.toList = [v] ∧ v.oneCell' = true := by
  unfold Value.okWide at h
  rw [hu] at h
  have h : Cell.okWide P W r base t v := h
  unfold Cell.okWide Cell.ok at h
  rw [hu] at h
  cases v <;> first | exact ⟨rfl, rfl⟩ | (exact h.elim)
theorem rel1_of {g : Gh} {c : AV} {v : Value} (h : RelL g true [c] [v]) : Rel g c v := by
  obtain ⟨u, ws, e, ⟨h1, _⟩, _⟩ := h
  injection e with e1 _
  subst e1
  exact h1
theorem relA_of {g : Gh} {C : List AV} {cs : Array Value} (h : RelL g true C (Value.agg cs).cells.toList) : Rel g (.agg C) (.agg cs) := ⟨cs.toList, rfl, h⟩
theorem laid_ok : laidOutB Tryz.prog = true := by kernel_rfl
end
end Go.Proofs.YtonkeklageehbaaGreatDoor

namespace Go.Proofs.YtonkeklageehbaaGreatDoor
open Go Go.Av
theorem opC_len (o : OpT) : (opC o).length = 3 := rfl
theorem ropC_len (o : ROp) : (ropC o).length = 6 := by obtain ⟨k, n, v⟩ := o; obtain ⟨a, b, s, l⟩ := v; simp [ropC, rvAV]
theorem codeC_len (c : CodeT) : (codeC c).length = 2 := rfl
theorem rcodeC_len (c : RCode) : (rcodeC c).length = 2 := rfl
@[simp] theorem opsC_len (l : List OpT) : (opsC l).length = l.length * 3 := flat_len opC 3 opC_len l
@[simp] theorem ropsC_len (l : List ROp) : (ropsC l).length = l.length * 6 := flat_len ropC 6 ropC_len l
@[simp] theorem codesC_len (l : List CodeT) : (codesC l).length = l.length * 2 := flat_len codeC 2 codeC_len l
@[simp] theorem rcodesC_len (l : List RCode) : (rcodesC l).length = l.length * 2 := flat_len rcodeC 2 rcodeC_len l
theorem valAV_iface {t : Tree} (h : isSome t = true) (hv : valish t = true) : ∃ u x, valAV t = .iface u x := by
  cases t <;> first
    | (cases h; done)
    | (cases hv; done)
    | exact ⟨_, _, rfl⟩
end Go.Proofs.YtonkeklageehbaaGreatDoor

namespace Go.Proofs.YtonkeklageehbaaGreatDoor
open Go Go.Av
mutual
theorem inp_nmS : ∀ v : RV, v.inp = true → (valT v).nmS = true
  | .mk k n s l, h => by
    simp only [RV.inp, Bool.and_eq_true, decide_eq_true_eq] at h
    rw [valT]
    repeat' split
    all_goals first
    | rfl
    | (rw [Tree.nmS]; first | exact inp_nmSV l h.2 | exact inp_nmSI l h.2)
theorem inp_nmSV : ∀ l : List RV, inpAll l = true → nmSAll (valTs l) = true
  | [], _ => by simp [valTs, nmSAll]
  | v :: r, h => by
    simp only [inpAll, Bool.and_eq_true] at h
    simp only [valTs, nmSAll, Bool.and_eq_true]
    exact ⟨inp_nmS v h.1, inp_nmSV r h.2⟩
theorem inp_nmSI : ∀ l : List RV, inpAll l = true → nmSAll (itemTs l) = true
  | [], _ => by simp [itemTs, nmSAll]
  | v :: r, h => by
    simp only [inpAll, Bool.and_eq_true] at h
    rw [itemTs]
    simp only [nmSAll, Bool.and_eq_true]
    refine ⟨?_, inp_nmSI r h.2⟩
    split
    · obtain ⟨k, n, s, l⟩ := v
      simp only [RV.inp, Bool.and_eq_true, decide_eq_true_eq] at h
      rw [Tree.nmS]
      exact decide_eq_true (by show s.length ≤ _; omega)
    · exact inp_nmS v h.1
end
end Go.Proofs.YtonkeklageehbaaGreatDoor

namespace Go.Proofs.YtonkeklageehbaaGreatDoor
open Go Go.Av



theorem f_CloneL (l : List Tree) (h : ∀ (i : Nat) t, l[i]? = some t → Av.Fn Tryz.prog 53 [valAV t] (valAV t)) (hl : l.length ≤ 2513169434916) :
    Av.Fn Tryz.prog 53 [.iface 60 (.agg [.fz (valAVs l) l.length false])] (.iface 60 (.agg [.fz (valAVs l) l.length false])) := by
  refine ACalls.thaw (ACalls.of_W tb_ok (fn := Tryz.f53) (n := 37) (by kernel_rfl) rfl (by kernel_rfl) rfl rfl (by simp) (go ?_))
  refine VAll.mk (fun b => go ?_)
  refine VLoop.mk [4, 15] AccI (fun i => [accV i.o i.k, .int .i64 i.k]) (fun i => accS i.o 1 (valAVs (l.take i.k))) (fun i => i.k ≤ l.length ∧ (i.o = none → i.k = 0)) (fun i => l.length - i.k) ⟨0, none⟩ ?_ ?_
  · exact ⟨⟨by simp, by simp⟩, rfl, .nil⟩
  rintro ⟨k, o⟩ ⟨hk, ho⟩
  dsimp only at hk ho ⊢
  refine go ?_
  refine fork (fun hlt => go ?_) (fun hlt => ?_)
  · have hlt : k < l.length := by omega
    obtain ⟨t, ht⟩ : ∃ t, l[k]? = some t := ⟨l[k], by simp [hlt]⟩
    have hacc : valAVs (l.take (k + 1)) = valAVs (l.take k) ++ [valAV t] := by
      rw [take_succ_at ht]; simp [valAVs_map]
    have hlen : (valAVs (l.take k)).length = k := by simp; omega
    refine VNth.mk (valAV t) (by simp [mulN_eq, valAVs_map, ht]) (go ?_)
    refine Fn.use (h k t ht) (go ?_)
    cases o with
    | none =>
      obtain rfl : k = 0 := ho rfl
      refine go ?_
      refine VOne.mk (valAV_one' _) (go ?_)
      refine VAll.mk (fun b2 => go ?_)
      refine ⟨⟨1, some b2⟩, ⟨by dsimp only; omega, by simp⟩, by dsimp only; omega, rfl, .cons 0 ?_ .nil⟩
      dsimp only
      rw [hacc]; simp [valAVs_map]
    | some bo =>
      refine go ?_
      refine VOne.mk (valAV_one' _) (go ?_)
      refine VGd.mk ⟨rfl, by omega, by rw [mulN_eq, hlen]; simp, by simp; omega⟩ (go ?_)
      refine VAll.mk (fun b2 => go ?_)
      refine ⟨⟨k + 1, some b2⟩, ⟨by dsimp only; omega, by simp⟩, by dsimp only; omega, rfl, .cons 0 ?_ .nil⟩
      dsimp only
      rw [hacc, mulN_eq, List.take_of_length_le (by rw [hlen]; simp)]; rfl
  · obtain rfl : k = l.length := by omega
    rw [List.take_length]
    cases o with
    | none =>
      have := ho rfl
      obtain rfl : l = [] := List.length_eq_zero_iff.1 this
      refine go ?_
      refine VRet.mk [] .nil ?_
      exact ⟨_, _, .same _ _, by simp [valAVs], rfl⟩
    | some bo =>
      refine go ?_
      refine VRet.mk [] .nil ?_
      exact ⟨_, _, .same _ _, by simp [List.take_of_length_le], rfl⟩


theorem f_CloneItems' (l : List Tree) (hodd : ∀ t ∈ l, ∀ u v, t ≠ .odd u v) (h : ∀ (i : Nat) t, l[i]? = some t → Av.Fn Tryz.prog 53 [valAV t] (valAV t)) (hl : l.length ≤ 2513169434916) :
    Av.Fn Tryz.prog 46 [.fz (itemAVs l) l.length false] (.fz (itemAVs l) l.length false) := by
  refine ACalls.of_W tb_ok (fn := Tryz.f46) (n := 31) (by kernel_rfl) rfl (by kernel_rfl) rfl rfl (by simp) (go ?_)
  refine VLoop.mk [3, 10] AccI (fun i => [accV i.o i.k, .int .i64 i.k]) (fun i => accS i.o 1 (itemAVs (l.take i.k))) (fun i => i.k ≤ l.length ∧ (i.o = none → i.k = 0)) (fun i => l.length - i.k) ⟨0, none⟩ ?_ ?_
  · exact ⟨⟨by simp, by simp⟩, rfl, .nil⟩
  rintro ⟨k, o⟩ ⟨hk, ho⟩
  dsimp only at hk ho ⊢
  refine go ?_
  refine fork (fun hlt => go ?_) (fun hlt => ?_)
  · have hlt : k < l.length := by omega
    obtain ⟨t, ht⟩ : ∃ t, l[k]? = some t := ⟨l[k], by simp [hlt]⟩
    have hacc : itemAVs (l.take (k + 1)) = itemAVs (l.take k) ++ [itemAV t] := by
      rw [take_succ_at ht]; simp [itemAVs_map]
    have hlen : (itemAVs (l.take k)).length = k := by simp; omega
    refine VNth.mk (itemAV t) (by simp [mulN_eq, itemAVs_map, ht]) (go ?_)
    have hc := h k t ht
    cases t with
    | none =>
      refine go ?_
      refine VAll.mk (fun b1 => go ?_)
      cases o with
      | none =>
        obtain rfl : k = 0 := ho rfl
        refine go ?_
        skip
        refine VAll.mk (fun b2 => go ?_)
        refine ⟨⟨1, some b2⟩, ⟨by dsimp only; omega, by simp⟩, by dsimp only; omega, rfl, .cons 0 ?_ .nil⟩
        dsimp only
        rw [hacc]; simp [itemAVs_map]
      | some bo =>
        refine go ?_
        skip
        refine VGd.mk ⟨rfl, by omega, by rw [mulN_eq, hlen]; simp, by simp; omega⟩ (go ?_)
        refine VAll.mk (fun b2 => go ?_)
        refine ⟨⟨k + 1, some b2⟩, ⟨by dsimp only; omega, by simp⟩, by dsimp only; omega, rfl, .cons 0 ?_ .nil⟩
        dsimp only
        rw [hacc, mulN_eq, List.take_of_length_le (by rw [hlen]; simp)]; rfl
    | call s =>
      refine go ?_
      refine VAll.mk (fun b1 => go ?_)
      cases o with
      | none =>
        obtain rfl : k = 0 := ho rfl
        refine go ?_
        skip
        refine VAll.mk (fun b2 => go ?_)
        refine ⟨⟨1, some b2⟩, ⟨by dsimp only; omega, by simp⟩, by dsimp only; omega, rfl, .cons 0 ?_ .nil⟩
        dsimp only
        rw [hacc]; simp [itemAVs_map]
      | some bo =>
        refine go ?_
        skip
        refine VGd.mk ⟨rfl, by omega, by rw [mulN_eq, hlen]; simp, by simp; omega⟩ (go ?_)
        refine VAll.mk (fun b2 => go ?_)
        refine ⟨⟨k + 1, some b2⟩, ⟨by dsimp only; omega, by simp⟩, by dsimp only; omega, rfl, .cons 0 ?_ .nil⟩
        dsimp only
        rw [hacc, mulN_eq, List.take_of_length_le (by rw [hlen]; simp)]; rfl
    | odd u v => exact (hodd _ (List.mem_of_getElem? ht) u v rfl).elim
    | int n =>
      rw [show itemAV (.int n) = .iface 136 (.agg [valAV (.int n)]) from rfl] at hacc ⊢
      have hone := valAV_one' (.int n)
      generalize valAV (.int n) = w at hc hacc hone ⊢
      refine go ?_
      refine VAll.mk (fun b1 => go ?_)
      refine Fn.use (hc) (go ?_)
      refine VOne.mk hone (go ?_)
      cases o with
      | none =>
        obtain rfl : k = 0 := ho rfl
        refine go ?_
        skip
        refine VAll.mk (fun b2 => go ?_)
        refine ⟨⟨1, some b2⟩, ⟨by dsimp only; omega, by simp⟩, by dsimp only; omega, rfl, .cons 0 ?_ .nil⟩
        dsimp only
        rw [hacc]; simp [itemAVs_map]
      | some bo =>
        refine go ?_
        skip
        refine VGd.mk ⟨rfl, by omega, by rw [mulN_eq, hlen]; simp, by simp; omega⟩ (go ?_)
        refine VAll.mk (fun b2 => go ?_)
        refine ⟨⟨k + 1, some b2⟩, ⟨by dsimp only; omega, by simp⟩, by dsimp only; omega, rfl, .cons 0 ?_ .nil⟩
        dsimp only
        rw [hacc, mulN_eq, List.take_of_length_le (by rw [hlen]; simp)]; rfl
    | str n =>
      rw [show itemAV (.str n) = .iface 136 (.agg [valAV (.str n)]) from rfl] at hacc ⊢
      have hone := valAV_one' (.str n)
      generalize valAV (.str n) = w at hc hacc hone ⊢
      refine go ?_
      refine VAll.mk (fun b1 => go ?_)
      refine Fn.use (hc) (go ?_)
      refine VOne.mk hone (go ?_)
      cases o with
      | none =>
        obtain rfl : k = 0 := ho rfl
        refine go ?_
        skip
        refine VAll.mk (fun b2 => go ?_)
        refine ⟨⟨1, some b2⟩, ⟨by dsimp only; omega, by simp⟩, by dsimp only; omega, rfl, .cons 0 ?_ .nil⟩
        dsimp only
        rw [hacc]; simp [itemAVs_map]
      | some bo =>
        refine go ?_
        skip
        refine VGd.mk ⟨rfl, by omega, by rw [mulN_eq, hlen]; simp, by simp; omega⟩ (go ?_)
        refine VAll.mk (fun b2 => go ?_)
        refine ⟨⟨k + 1, some b2⟩, ⟨by dsimp only; omega, by simp⟩, by dsimp only; omega, rfl, .cons 0 ?_ .nil⟩
        dsimp only
        rw [hacc, mulN_eq, List.take_of_length_le (by rw [hlen]; simp)]; rfl
    | bool n =>
      rw [show itemAV (.bool n) = .iface 136 (.agg [valAV (.bool n)]) from rfl] at hacc ⊢
      have hone := valAV_one' (.bool n)
      generalize valAV (.bool n) = w at hc hacc hone ⊢
      refine go ?_
      refine VAll.mk (fun b1 => go ?_)
      refine Fn.use (hc) (go ?_)
      refine VOne.mk hone (go ?_)
      cases o with
      | none =>
        obtain rfl : k = 0 := ho rfl
        refine go ?_
        skip
        refine VAll.mk (fun b2 => go ?_)
        refine ⟨⟨1, some b2⟩, ⟨by dsimp only; omega, by simp⟩, by dsimp only; omega, rfl, .cons 0 ?_ .nil⟩
        dsimp only
        rw [hacc]; simp [itemAVs_map]
      | some bo =>
        refine go ?_
        skip
        refine VGd.mk ⟨rfl, by omega, by rw [mulN_eq, hlen]; simp, by simp; omega⟩ (go ?_)
        refine VAll.mk (fun b2 => go ?_)
        refine ⟨⟨k + 1, some b2⟩, ⟨by dsimp only; omega, by simp⟩, by dsimp only; omega, rfl, .cons 0 ?_ .nil⟩
        dsimp only
        rw [hacc, mulN_eq, List.take_of_length_le (by rw [hlen]; simp)]; rfl
    | list n =>
      rw [show itemAV (.list n) = .iface 136 (.agg [valAV (.list n)]) from rfl] at hacc ⊢
      have hone := valAV_one' (.list n)
      generalize valAV (.list n) = w at hc hacc hone ⊢
      refine go ?_
      refine VAll.mk (fun b1 => go ?_)
      refine Fn.use (hc) (go ?_)
      refine VOne.mk hone (go ?_)
      cases o with
      | none =>
        obtain rfl : k = 0 := ho rfl
        refine go ?_
        skip
        refine VAll.mk (fun b2 => go ?_)
        refine ⟨⟨1, some b2⟩, ⟨by dsimp only; omega, by simp⟩, by dsimp only; omega, rfl, .cons 0 ?_ .nil⟩
        dsimp only
        rw [hacc]; simp [itemAVs_map]
      | some bo =>
        refine go ?_
        skip
        refine VGd.mk ⟨rfl, by omega, by rw [mulN_eq, hlen]; simp, by simp; omega⟩ (go ?_)
        refine VAll.mk (fun b2 => go ?_)
        refine ⟨⟨k + 1, some b2⟩, ⟨by dsimp only; omega, by simp⟩, by dsimp only; omega, rfl, .cons 0 ?_ .nil⟩
        dsimp only
        rw [hacc, mulN_eq, List.take_of_length_le (by rw [hlen]; simp)]; rfl
    | quot n =>
      rw [show itemAV (.quot n) = .iface 136 (.agg [valAV (.quot n)]) from rfl] at hacc ⊢
      have hone := valAV_one' (.quot n)
      generalize valAV (.quot n) = w at hc hacc hone ⊢
      refine go ?_
      refine VAll.mk (fun b1 => go ?_)
      refine Fn.use (hc) (go ?_)
      refine VOne.mk hone (go ?_)
      cases o with
      | none =>
        obtain rfl : k = 0 := ho rfl
        refine go ?_
        skip
        refine VAll.mk (fun b2 => go ?_)
        refine ⟨⟨1, some b2⟩, ⟨by dsimp only; omega, by simp⟩, by dsimp only; omega, rfl, .cons 0 ?_ .nil⟩
        dsimp only
        rw [hacc]; simp [itemAVs_map]
      | some bo =>
        refine go ?_
        skip
        refine VGd.mk ⟨rfl, by omega, by rw [mulN_eq, hlen]; simp, by simp; omega⟩ (go ?_)
        refine VAll.mk (fun b2 => go ?_)
        refine ⟨⟨k + 1, some b2⟩, ⟨by dsimp only; omega, by simp⟩, by dsimp only; omega, rfl, .cons 0 ?_ .nil⟩
        dsimp only
        rw [hacc, mulN_eq, List.take_of_length_le (by rw [hlen]; simp)]; rfl
    | box n =>
      rw [show itemAV (.box n) = .iface 136 (.agg [valAV (.box n)]) from rfl] at hacc ⊢
      have hone := valAV_one' (.box n)
      generalize valAV (.box n) = w at hc hacc hone ⊢
      refine go ?_
      refine VAll.mk (fun b1 => go ?_)
      refine Fn.use (hc) (go ?_)
      refine VOne.mk hone (go ?_)
      cases o with
      | none =>
        obtain rfl : k = 0 := ho rfl
        refine go ?_
        skip
        refine VAll.mk (fun b2 => go ?_)
        refine ⟨⟨1, some b2⟩, ⟨by dsimp only; omega, by simp⟩, by dsimp only; omega, rfl, .cons 0 ?_ .nil⟩
        dsimp only
        rw [hacc]; simp [itemAVs_map]
      | some bo =>
        refine go ?_
        skip
        refine VGd.mk ⟨rfl, by omega, by rw [mulN_eq, hlen]; simp, by simp; omega⟩ (go ?_)
        refine VAll.mk (fun b2 => go ?_)
        refine ⟨⟨k + 1, some b2⟩, ⟨by dsimp only; omega, by simp⟩, by dsimp only; omega, rfl, .cons 0 ?_ .nil⟩
        dsimp only
        rw [hacc, mulN_eq, List.take_of_length_le (by rw [hlen]; simp)]; rfl
  · obtain rfl : k = l.length := by omega
    rw [List.take_length]
    cases o with
    | none =>
      have := ho rfl
      obtain rfl : l = [] := List.length_eq_zero_iff.1 this
      refine go ?_
      refine VRet.mk [] .nil ?_
      exact ⟨by simp [itemAVs], rfl⟩
    | some bo =>
      refine go ?_
      refine VRet.mk [] .nil ?_
      exact ⟨by simp [List.take_of_length_le], rfl⟩
theorem clean_odd {l : List Tree} (h : cleanAll l = true) : ∀ t ∈ l, ∀ u v, t ≠ .odd u v := by
  intro t ht u v e
  obtain ⟨i, hi⟩ := List.getElem?_of_mem ht
  have := cleanAll_at h hi
  subst e
  simp [Tree.clean] at this
theorem f_Clone' (n : Nat) : ∀ t : Tree, t.clean = true → t.depth ≤ n → Av.Fn Tryz.prog 53 [valAV t] (valAV t) := by
  induction n with
  | zero =>
    intro t hc hd
    cases t with
    | odd => simp [Tree.clean] at hc
    | list l => simp [Tree.depth] at hd
    | quot l => simp [Tree.depth] at hd
    | _ =>
      simp only [valAV]
      refine ACalls.of_W tb_ok (fn := Tryz.f53) (n := 37) (by kernel_rfl) rfl (by kernel_rfl) rfl rfl (by simp) (go ?_)
      refine VRet.mk [] .nil ?_
      exact ⟨rfl, rfl⟩
  | succ n ih =>
    intro t hc hd
    cases t with
    | odd => simp [Tree.clean] at hc
    | list l =>
      simp only [Tree.clean, Bool.and_eq_true, decide_eq_true_eq] at hc
      rw [Tree.depth] at hd
      simp only [valAV]
      exact f_CloneL l (fun i t ht => ih t (cleanAll_at hc.2 ht) (by have := depthAll_at ht; omega)) hc.1
    | quot l =>
      simp only [Tree.clean, Bool.and_eq_true, decide_eq_true_eq] at hc
      rw [Tree.depth] at hd
      simp only [valAV]
      have hi := f_CloneItems' l (clean_odd hc.2) (fun i t ht => ih t (cleanAll_at hc.2 ht) (by have := depthAll_at ht; omega)) hc.1
      refine ACalls.of_W tb_ok (fn := Tryz.f53) (n := 37) (by kernel_rfl) rfl (by kernel_rfl) rfl rfl (by simp) (go ?_)
      refine VAll.mk (fun b => go ?_)
      refine Fn.use (hi) (go ?_)
      refine VRet.mk [] .nil ?_
      exact ⟨rfl, rfl⟩
    | _ =>
      simp only [valAV]
      refine ACalls.of_W tb_ok (fn := Tryz.f53) (n := 37) (by kernel_rfl) rfl (by kernel_rfl) rfl rfl (by simp) (go ?_)
      refine VRet.mk [] .nil ?_
      exact ⟨rfl, rfl⟩
theorem f_Clone {t : Tree} (h : t.clean = true) : Av.Fn Tryz.prog 53 [valAV t] (valAV t) := f_Clone' t.depth t h (Nat.le_refl _)
theorem f_CloneItems {l : List Tree} (h : cleanAll l = true) (hl : l.length ≤ 2513169434916) : Av.Fn Tryz.prog 46 [.fz (itemAVs l) l.length false] (.fz (itemAVs l) l.length false) :=
  f_CloneItems' l (clean_odd h) (fun i t ht => f_Clone (cleanAll_at h ht)) hl
end Go.Proofs.YtonkeklageehbaaGreatDoor

namespace Go.Proofs.YtonkeklageehbaaGreatDoor
open Go Go.Av
theorem f_pNames : Av.Fn Tryz.prog 52 [] (.fz (namesL.map .str) 52 false) := by
  refine ACalls.of_W tb_ok (fn := Tryz.f52) (n := 2) (by kernel_rfl) rfl (by kernel_rfl) rfl rfl (by simp) (go ?_)
  refine Fn.use (f_Names) (go ?_)
  refine VRet.mk [] .nil ?_
  exact ⟨rfl, rfl⟩
theorem f_pIs (s : List UInt8) : Av.Fn Tryz.prog 39 [.str s] (.bool (isPrim s)) := by
  have h := fn_Contains namesL s (by decide)
  refine ACalls.of_W tb_ok (fn := Tryz.f39) (n := 6) (by kernel_rfl) rfl (by kernel_rfl) rfl rfl (by simp) (go ?_)
  refine Fn.use (f_pNames) (go ?_)
  refine Fn.use (h) (go ?_)
  refine VRet.mk [] .nil ?_
  exact ⟨rfl, rfl⟩
theorem f_bare1 (n : Int) : Av.Fn Tryz.prog 65 [.int .i64 n] (.bool false) := by
  refine ACalls.of_W tb_ok (fn := Tryz.f65) (n := 3) (by kernel_rfl) rfl (by kernel_rfl) rfl rfl (by simp) (go ?_)
  refine VRet.mk [] .nil ?_
  exact ⟨rfl, rfl⟩
def EachC (t : Tree) : Prop := Av.Fn Tryz.prog 64 [valAV t, .fn (.func 65) [] []] (.bool (bareT t))
theorem each_leaf {t : Tree} (hc : t.clean = true) (h1 : ∀ l, t ≠ .list l) (h2 : ∀ l, t ≠ .quot l) : EachC t := by
  unfold EachC
  cases t with
  | odd u v => cases hc
  | list l => exact absurd rfl (h1 l)
  | quot l => exact absurd rfl (h2 l)
  | box n =>
    have h := f_bare1 n
    refine ACalls.of_W tb_ok (fn := Tryz.f64) (n := 61) (by kernel_rfl) rfl (by kernel_rfl) rfl rfl (by simp) (go ?_)
    refine VAll.mk (fun b => go ?_)
    refine Fn.use (h) (go ?_)
    refine VRet.mk [] .nil ?_
    exact ⟨rfl, rfl⟩
  | none =>
    refine ACalls.of_W tb_ok (fn := Tryz.f64) (n := 61) (by kernel_rfl) rfl (by kernel_rfl) rfl rfl (by simp) (go ?_)
    refine VRet.mk [] .nil ?_
    exact ⟨rfl, rfl⟩
  | int n =>
    refine ACalls.of_W tb_ok (fn := Tryz.f64) (n := 61) (by kernel_rfl) rfl (by kernel_rfl) rfl rfl (by simp) (go ?_)
    refine VRet.mk [] .nil ?_
    exact ⟨rfl, rfl⟩
  | str n =>
    refine ACalls.of_W tb_ok (fn := Tryz.f64) (n := 61) (by kernel_rfl) rfl (by kernel_rfl) rfl rfl (by simp) (go ?_)
    refine VRet.mk [] .nil ?_
    exact ⟨rfl, rfl⟩
  | bool n =>
    refine ACalls.of_W tb_ok (fn := Tryz.f64) (n := 61) (by kernel_rfl) rfl (by kernel_rfl) rfl rfl (by simp) (go ?_)
    refine VRet.mk [] .nil ?_
    exact ⟨rfl, rfl⟩
  | call n =>
    refine ACalls.of_W tb_ok (fn := Tryz.f64) (n := 61) (by kernel_rfl) rfl (by kernel_rfl) rfl rfl (by simp) (go ?_)
    refine VRet.mk [] .nil ?_
    exact ⟨rfl, rfl⟩
theorem each_list {l : List Tree} (hl : l.length ≤ 2513169434916) (h : ∀ t ∈ l, EachC t) : EachC (.list l) := by
  unfold EachC
  rw [valAV, bareT]
  refine ACalls.of_W tb_ok (fn := Tryz.f64) (n := 61) (by kernel_rfl) rfl (by kernel_rfl) rfl rfl (by simp) (go ?_)
  refine VAll.mk (fun b => go ?_)
  refine VLoop.mk [28] Nat (fun k => [.int .i64 k]) (fun _ => []) (fun k => k ≤ l.length ∧ bareTs (l.drop k) = bareTs l) (fun k => l.length - k) 0 ?_ ?_
  · exact ⟨⟨Nat.zero_le _, rfl⟩, rfl, .nil⟩
  rintro k ⟨hk, hI⟩
  dsimp only at hk hI ⊢
  refine go ?_
  refine fork (fun hlt => go ?_) (fun hlt => go ?_)
  · have hlt : k < l.length := by omega
    obtain ⟨t, ht⟩ : ∃ t, l[k]? = some t := ⟨l[k], by simp [hlt]⟩
    have hE := h t (List.mem_of_getElem? ht)
    have hd : l.drop k = t :: l.drop (k + 1) := by
      rw [List.drop_eq_getElem_cons hlt]
      congr 1
      rw [List.getElem?_eq_getElem hlt] at ht
      exact Option.some.inj ht
    rw [hd, bareTs] at hI
    refine VNth.mk (valAV t) (by rw [mulN_eq, valAVs_map]; simp [ht]) (go ?_)
    unfold EachC at hE
    cases hb : bareT t with
    | true =>
      rw [hb] at hE hI
      refine Fn.use (hE) (go ?_)
      exact ⟨k + 1, ⟨by omega, by rw [← hI]; simp⟩, by omega, rfl, .nil⟩
    | false =>
      rw [hb] at hE hI
      refine Fn.use (hE) (go ?_)
      refine VRet.mk [] .nil ?_
      rw [← hI]
      exact ⟨rfl, rfl⟩
  · have : k = l.length := by omega
    subst this
    rw [List.drop_length, bareTs] at hI
    refine VRet.mk [] .nil ?_
    rw [← hI]
    exact ⟨rfl, rfl⟩
theorem each_quot {l : List Tree} (hl : l.length ≤ 2513169434916) (hc : cleanAll l = true) (h : ∀ t ∈ l, EachC t) : EachC (.quot l) := by
  unfold EachC
  rw [valAV, bareT]
  refine ACalls.of_W tb_ok (fn := Tryz.f64) (n := 61) (by kernel_rfl) rfl (by kernel_rfl) rfl rfl (by simp) (go ?_)
  refine VAll.mk (fun b => go ?_)
  refine VLoop.mk [43] Nat (fun k => [.int .i64 k]) (fun _ => []) (fun k => k ≤ l.length ∧ bareTs (l.drop k) = bareTs l) (fun k => l.length - k) 0 ?_ ?_
  · exact ⟨⟨Nat.zero_le _, rfl⟩, rfl, .nil⟩
  rintro k ⟨hk, hI⟩
  dsimp only at hk hI ⊢
  refine go ?_
  refine fork (fun hlt => go ?_) (fun hlt => go ?_)
  · have hlt : k < l.length := by omega
    obtain ⟨t, ht⟩ : ∃ t, l[k]? = some t := ⟨l[k], by simp [hlt]⟩
    have hE := h t (List.mem_of_getElem? ht)
    have hodd := clean_odd hc t (List.mem_of_getElem? ht)
    have hd : l.drop k = t :: l.drop (k + 1) := by
      rw [List.drop_eq_getElem_cons hlt]
      congr 1
      rw [List.getElem?_eq_getElem hlt] at ht
      exact Option.some.inj ht
    rw [hd, bareTs] at hI
    refine VNth.mk (itemAV t) (by rw [mulN_eq, itemAVs_map]; simp [ht]) (go ?_)
    unfold EachC at hE
    have hgo : bareT t = true → k + 1 ≤ l.length ∧ bareTs (l.drop (k + 1)) = bareTs l := fun hb => ⟨by omega, by rw [← hI, hb]; simp⟩
    by_cases hcall : (∃ s, t = .call s) ∨ t = .none
    · have hit : (∃ u x, itemAV t = .iface u x ∧ u ≠ 136) ∨ itemAV t = .nili := by
        rcases hcall with ⟨s, rfl⟩ | rfl
        · exact .inl ⟨_, _, rfl, by decide⟩
        · exact .inr rfl
      have hb : bareT t = true := by rcases hcall with ⟨s, rfl⟩ | rfl <;> rfl
      rcases hcall with ⟨s, rfl⟩ | rfl
      · refine go ?_
        refine VAll.mk (fun b2 => go ?_)
        exact ⟨k + 1, hgo hb, by omega, rfl, .nil⟩
      · refine go ?_
        refine VAll.mk (fun b2 => go ?_)
        exact ⟨k + 1, hgo hb, by omega, rfl, .nil⟩
    · have hp : itemAV t = .iface 136 (.agg [valAV t]) := itemAV_push (fun s e => hcall (.inl ⟨s, e⟩)) (fun e => hcall (.inr e)) hodd
      rw [hp]
      generalize valAV t = w at hE ⊢
      refine go ?_
      refine VAll.mk (fun b2 => go ?_)
      cases hb : bareT t with
      | true =>
        rw [hb] at hE
        refine Fn.use (hE) (go ?_)
        exact ⟨k + 1, hgo hb, by omega, rfl, .nil⟩
      | false =>
        rw [hb] at hE hI
        refine Fn.use (hE) (go ?_)
        refine VRet.mk [] .nil ?_
        rw [← hI]
        exact ⟨rfl, rfl⟩
  · have : k = l.length := by omega
    subst this
    rw [List.drop_length, bareTs] at hI
    refine VRet.mk [] .nil ?_
    rw [← hI]
    exact ⟨rfl, rfl⟩
theorem f_Each (n : Nat) : ∀ t : Tree, t.clean = true → t.depth ≤ n → EachC t := by
  induction n with
  | zero =>
    intro t hc hd
    refine each_leaf hc (fun l e => ?_) (fun l e => ?_) <;> (subst e; rw [Tree.depth] at hd; omega)
  | succ n ih =>
    intro t hc hd
    cases t with
    | list l =>
      simp only [Tree.clean, Bool.and_eq_true, decide_eq_true_eq] at hc
      rw [Tree.depth] at hd
      exact each_list hc.1 fun t ht => let ⟨i, hi⟩ := List.mem_iff_getElem?.1 ht; ih t (cleanAll_at hc.2 hi) (Nat.le_trans (depthAll_at hi) (by omega))
    | quot l =>
      simp only [Tree.clean, Bool.and_eq_true, decide_eq_true_eq] at hc
      rw [Tree.depth] at hd
      exact each_quot hc.1 hc.2 fun t ht => let ⟨i, hi⟩ := List.mem_iff_getElem?.1 ht; ih t (cleanAll_at hc.2 hi) (Nat.le_trans (depthAll_at hi) (by omega))
    | _ => exact each_leaf hc (fun l e => by cases e) (fun l e => by cases e)
theorem f_tBare {l : List Tree} (hc : (Tree.quot l).clean = true) : Av.Fn Tryz.prog 33 [.fz (itemAVs l) l.length false] (.bool (bareTs l)) := by
  have h := f_Each _ (.quot l) hc (Nat.le_refl _)
  unfold EachC at h
  rw [valAV, bareT] at h
  refine ACalls.of_W tb_ok (fn := Tryz.f33) (n := 7) (by kernel_rfl) rfl (by kernel_rfl) rfl rfl (by simp) (go ?_)
  refine Fn.use (h) (go ?_)
  refine VRet.mk [] .nil ?_
  exact ⟨rfl, rfl⟩
def backV (r : Option (List Tree)) : AV := match r with
  | none => .tup [.fz [] 0 false, .bool false]
  | some l => .tup [.fz (itemAVs l) l.length false, .bool (backOk l)]
/-- A code that is no larger than the second form lets in. -/
structure OpIn (o : OpT) : Prop where
  clean : o.v.clean = true
  val : valish o.v = true
  nm : o.v.nmS = true
structure CodeIn (c : CodeT) : Prop where
  ops : c.ops.length ≤ 1048576
  name : c.name.length ≤ 1048576
  inp : ∀ o ∈ c.ops, OpIn o
theorem names_small {j : Nat} : (namesL.getD j []).length ≤ 100 := by
  have : (namesL.all fun n => decide (n.length ≤ 100)) = true := by decide
  rw [List.getD_eq_getElem?_getD]
  cases h : namesL[j]? with
  | none => exact Nat.zero_le _
  | some w => have := List.all_eq_true.1 this w (List.mem_of_getElem? h); simpa using this
theorem cnames_small {codes : List CodeT} (h : ∀ c ∈ codes, CodeIn c) {j : Nat} : ((codes.map (·.name)).getD j []).length ≤ 1048576 := by
  rw [List.getD_eq_getElem?_getD, List.getElem?_map]
  cases hq : codes[j]? with
  | none => exact Nat.zero_le _
  | some c => exact (h c (List.mem_of_getElem? hq)).name
theorem backO_in {codes : List CodeT} (hc : ∀ c ∈ codes, CodeIn c) {o : OpT} (ho : OpIn o) {t : Tree} (h : backO codes o = some t) : t.clean = true ∧ t.nmS = true := by
  unfold backO at h
  split at h
  · cases h; exact ⟨ho.clean, ho.nm⟩
  · split at h
    · cases h
      refine ⟨rfl, ?_⟩
      have := names_small (j := o.n.toNat)
      exact decide_eq_true (by omega)
    · split at h
      · cases h
        refine ⟨rfl, ?_⟩
        have := cnames_small hc (j := o.n.toNat)
        exact decide_eq_true (by omega)
      · cases h
theorem backL_next {codes : List CodeT} {l : List OpT} {k : Nat} {o : OpT} (h : l[k]? = some o) (A : List Tree) : (backL codes (l.drop k)).map (A ++ ·) = match backO codes o with
    | none => none
    | some t => (backL codes (l.drop (k + 1))).map ((A ++ [t]) ++ ·) := by
  have hlt := (List.getElem?_eq_some_iff.1 h).1
  have hd : l.drop k = o :: l.drop (k + 1) := by
    rw [List.drop_eq_getElem_cons hlt]
    congr 1
    rw [List.getElem?_eq_getElem hlt] at h
    exact Option.some.inj h
  rw [hd, backL]
  cases backO codes o with
  | none => rfl
  | some t =>
    dsimp only
    cases backL codes (l.drop (k + 1)) with
    | none => rfl
    | some r => dsimp only [Option.map_some]; rw [List.append_assoc]; rfl
theorem clean_append {a b : List Tree} (ha : cleanAll a = true) (hb : cleanAll b = true) : cleanAll (a ++ b) = true := by
  induction a with
  | nil => exact hb
  | cons x r ih =>
    simp only [cleanAll, Bool.and_eq_true] at ha
    simp only [List.cons_append, cleanAll, Bool.and_eq_true]
    exact ⟨ha.1, ih ha.2⟩
theorem nmS_append {a b : List Tree} (ha : nmSAll a = true) (hb : nmSAll b = true) : nmSAll (a ++ b) = true := by
  induction a with
  | nil => exact hb
  | cons x r ih =>
    simp only [nmSAll, Bool.and_eq_true] at ha
    simp only [List.cons_append, nmSAll, Bool.and_eq_true]
    exact ⟨ha.1, ih ha.2⟩
structure BackI where
  k : Nat
  o : Option Nat
  A : List Tree




set_option maxHeartbeats 2000000 in
theorem f_back (codes : List CodeT) (l : List OpT) (hcl : codes.length ≤ 1048576) (hll : l.length ≤ 1048576) (hc : ∀ c ∈ codes, CodeIn c) (hl : ∀ o ∈ l, OpIn o) :
    Av.Fn Tryz.prog 40 [.fz (codesC codes) codes.length false, .fz (opsC l) l.length false] (backV (backL codes l)) := by
  refine ACalls.of_W tb_ok (fn := Tryz.f40) (n := 110) (by kernel_rfl) rfl (by kernel_rfl) rfl rfl (by simp) (go ?_)
  refine Fn.use (f_pNames) (go ?_)
  refine VLoop.mk [7, 13] BackI (fun i => [accV i.o i.A.length, .int .i64 i.k]) (fun i => accS i.o 1 (itemAVs i.A))
    (fun i => i.k ≤ l.length ∧ (i.o = none → i.A = []) ∧ i.A.length = i.k ∧ cleanAll i.A = true ∧ nmSAll i.A = true ∧ backL codes l = (backL codes (l.drop i.k)).map (i.A ++ ·)) (fun i => l.length - i.k) ⟨0, none, []⟩ ?_ ?_
  · exact ⟨⟨Nat.zero_le _, fun _ => rfl, rfl, rfl, rfl, by dsimp only; rw [List.drop_zero]; cases backL codes l <;> rfl⟩, rfl, .nil⟩
  rintro ⟨k, o, A⟩ ⟨hk, ho, hA, hcA, hnA, hI⟩
  dsimp only at hk ho hA hcA hnA hI ⊢
  refine go ?_
  refine fork (fun hlt => go ?_) (fun hlt => ?_)
  · have hlt : k < l.length := by omega
    obtain ⟨x, hx⟩ : ∃ x, l[k]? = some x := ⟨l[k], by simp [hlt]⟩
    have hin := hl x (List.mem_of_getElem? hx)
    rw [backL_next hx] at hI
    have hO : ∀ t, backO codes x = some t → t.clean = true ∧ t.nmS = true := fun t h => backO_in hc hin h
    have hd := flat_drop opC 3 opC_len hx
    unfold backO at hI hO
    obtain ⟨kd, n, v⟩ := x
    have hd : List.drop (mulN k 3) (opsC l) = [.int .i64 kd, .int .i64 n, valAV v] ++ opsC (l.drop (k + 1)) := hd
    have d0 : (List.drop (mulN k 3) (opsC l)).take 3 = [.int .i64 kd, .int .i64 n, valAV v] := by rw [hd]; rfl
    have hval := hin.val
    dsimp only at hI hO hval
    refine VTake.mk _ d0 rfl (go ?_)
    refine VAll.mk (fun b9 => go ?_)
    by_cases c1 : kd = 1 ∧ n = 0 ∧ isSome v = true
    · rw [if_pos c1] at hI hO
      obtain ⟨rfl, rfl, hs⟩ := c1
      obtain ⟨i1, i2⟩ := hO _ rfl
      obtain ⟨u, y, hy⟩ := valAV_iface hs hval
      have hit : itemAV v = .iface 136 (.agg [.iface u y]) := by
        rw [← hy]
        refine itemAV_push (fun s e => ?_) (fun e => ?_) (fun u' v' e => ?_)
        · subst e; cases hval
        · subst e; cases hs
        · subst e; cases hval
      rw [hy]
      refine go ?_
      first | refine VIf.yes rfl (go ?_) | skip
      first | refine VIf.yes rfl (go ?_) | skip
      cases o with
      | none =>
        obtain rfl : A = [] := ho rfl
        have hk0 : k = 0 := by simpa using hA.symm
        refine go ?_
        refine VAll.mk (fun b2 => go ?_)
        refine ⟨⟨k + 1, some b2, [v]⟩, ⟨by dsimp only; omega, (fun h => by cases h), by rw [hk0]; rfl, ?_, ?_, hI⟩, by dsimp only; omega, rfl, .cons 0 (congrArg (fun c => some (b2, AObj.arr 1 c 0)) ?_) .nil⟩
        · simp [cleanAll, i1]
        · simp [nmSAll, i2]
        · rw [itemAVs_map]; exact (congrArg (fun z => [z]) hit).symm
      | some bo =>
        refine go ?_
        refine VGd.mk ⟨rfl, Nat.zero_le _, by rw [mulN_eq, itemAVs_length]; exact Nat.le_of_eq (by show A.length * 1 = A.length; omega), by show 16 * (A.length + 1) ≤ _; omega⟩ (go ?_)
        refine VAll.mk (fun b2 => go ?_)
        refine ⟨⟨k + 1, some b2, A ++ [v]⟩, ⟨by dsimp only; omega, (fun h => by cases h), by rw [List.length_append]; show A.length + 1 = k + 1; omega, clean_append hcA (by simp [cleanAll, i1]), nmS_append hnA (by simp [nmSAll, i2]), hI⟩, by dsimp only; omega, ?_, .cons 0 (congrArg (fun c => some (b2, AObj.arr 1 c 0)) ?_) .nil⟩
        · simp [accV]
        · rw [mulN_eq, Nat.mul_one, List.take_of_length_le (by rw [itemAVs_length]; exact Nat.le_refl _), itemAVs_snoc, hit]
    rw [if_neg c1] at hI hO
    cases hs : isSome v with
    | true =>
      rw [if_neg (by rw [hs]; simp), if_neg (by rw [hs]; simp)] at hI
      obtain ⟨u, y, hy⟩ := valAV_iface hs hval
      have c1 : ¬ (kd = 1 ∧ n = 0) := fun h => c1 ⟨h.1, h.2, hs⟩
      rw [hy]
      by_cases k1 : kd = 1
      · subst k1
        have hn0 : n ≠ 0 := fun h => c1 ⟨rfl, h⟩
        refine go ?_
        first | refine VIf.yes rfl (go ?_) | skip
        refine VIf.no (by simpa using hn0) (go ?_)
        first | refine VIf.no rfl (go ?_) | skip
        first | refine VIf.no rfl (go ?_) | skip
        refine VRet.mk [] .nil ?_
        rw [hI]
        exact ⟨rfl, rfl⟩
      by_cases k2 : kd = 2
      · subst k2
        refine go ?_
        first | refine VIf.no rfl (go ?_) | skip
        first | refine VIf.yes rfl (go ?_) | skip
        first | refine VIf.no rfl (go ?_) | skip
        refine VRet.mk [] .nil ?_
        rw [hI]
        exact ⟨rfl, rfl⟩
      by_cases k3 : kd = 3
      · subst k3
        refine go ?_
        first | refine VIf.no rfl (go ?_) | skip
        first | refine VIf.no rfl (go ?_) | skip
        first | refine VIf.yes rfl (go ?_) | skip
        refine VRet.mk [] .nil ?_
        rw [hI]
        exact ⟨rfl, rfl⟩
      · refine go ?_
        refine VIf.no (by simpa using k1) (go ?_)
        refine VIf.no (by simpa using k2) (go ?_)
        refine VIf.no (by simpa using k3) (go ?_)
        refine VRet.mk [] .nil ?_
        rw [hI]
        exact ⟨rfl, rfl⟩
    | false =>
      have hn : v = .none := by cases v <;> first | rfl | (cases hs; done)
      subst hn
      by_cases c2 : kd = 2 ∧ 0 ≤ n ∧ n < 52
      · rw [if_pos ⟨c2.1, hs, c2.2⟩] at hI hO
        obtain ⟨rfl, h0, h1⟩ := c2
        obtain ⟨i1, i2⟩ := hO _ rfl
        obtain ⟨j, rfl⟩ := Int.eq_ofNat_of_zero_le h0
        have hj : j < 52 := by omega
        obtain ⟨w, hw⟩ : ∃ w, namesL[j]? = some w := ⟨_, List.getElem?_eq_getElem (show j < namesL.length from hj)⟩
        have hgw : namesL.getD (j : Int).toNat [] = w := by rw [List.getD_eq_getElem?_getD]; show (namesL[j]?).getD [] = w; rw [hw]; rfl
        rw [hgw] at hI i1 i2
        have hit : itemAV (.call w) = .iface 79 (.agg [.str w]) := rfl
        refine go ?_
        first | refine VIf.no rfl (go ?_) | skip
        first | refine VIf.yes rfl (go ?_) | skip
        have y0 : decide ((0 : Int) ≤ (j : Int)) = true := by simp
        have y1 : decide ((j : Int) < ((52 : Nat) : Int)) = true := by simp; omega
        first | refine VIf.yes y0 (go ?_) | skip
        first | refine VIf.yes y1 (go ?_) | skip
        refine VNth.mk (.str w) (by rw [mulN_eq]; simp [hw]) (go ?_)
        cases o with
        | none =>
          obtain rfl : A = [] := ho rfl
          have hk0 : k = 0 := by simpa using hA.symm
          refine go ?_
          refine VAll.mk (fun b2 => go ?_)
          refine ⟨⟨k + 1, some b2, [(.call w)]⟩, ⟨by dsimp only; omega, (fun h => by cases h), by rw [hk0]; rfl, ?_, ?_, hI⟩, by dsimp only; omega, rfl, .cons 0 (congrArg (fun c => some (b2, AObj.arr 1 c 0)) ?_) .nil⟩
          · simp [cleanAll, i1]
          · simp [nmSAll, i2]
          · rw [itemAVs_map]; exact (congrArg (fun z => [z]) hit).symm
        | some bo =>
          refine go ?_
          refine VGd.mk ⟨rfl, Nat.zero_le _, by rw [mulN_eq, itemAVs_length]; exact Nat.le_of_eq (by show A.length * 1 = A.length; omega), by show 16 * (A.length + 1) ≤ _; omega⟩ (go ?_)
          refine VAll.mk (fun b2 => go ?_)
          refine ⟨⟨k + 1, some b2, A ++ [(.call w)]⟩, ⟨by dsimp only; omega, (fun h => by cases h), by rw [List.length_append]; show A.length + 1 = k + 1; omega, clean_append hcA (by simp [cleanAll, i1]), nmS_append hnA (by simp [nmSAll, i2]), hI⟩, by dsimp only; omega, ?_, .cons 0 (congrArg (fun c => some (b2, AObj.arr 1 c 0)) ?_) .nil⟩
          · simp [accV]
          · rw [mulN_eq, Nat.mul_one, List.take_of_length_le (by rw [itemAVs_length]; exact Nat.le_refl _), itemAVs_snoc, hit]
      · rw [if_neg (fun h => c2 ⟨h.1, h.2.2⟩)] at hI hO
        by_cases c3 : kd = 3 ∧ 0 ≤ n ∧ n < codes.length
        · rw [if_pos ⟨c3.1, hs, c3.2⟩] at hI hO
          obtain ⟨rfl, h0, h1⟩ := c3
          obtain ⟨i1, i2⟩ := hO _ rfl
          obtain ⟨j, rfl⟩ := Int.eq_ofNat_of_zero_le h0
          have hj : j < codes.length := by omega
          obtain ⟨c, hcj⟩ : ∃ c, codes[j]? = some c := ⟨_, List.getElem?_eq_getElem hj⟩
          have hgw : (codes.map (·.name)).getD (j : Int).toNat [] = c.name := by rw [List.getD_eq_getElem?_getD]; show ((codes.map (·.name))[j]?).getD [] = c.name; rw [List.getElem?_map, hcj]; rfl
          rw [hgw] at hI i1 i2
          have hcd := flat_drop codeC 2 codeC_len hcj
          have e0 : (List.drop 0 (List.drop (mulN j 2) (codesC codes)))[0]? = some (.str c.name) := by rw [show codesC codes = codes.flatMap codeC from rfl, hcd]; rfl
          generalize c.name = w at hI i1 i2 e0
          have hit : itemAV (.call w) = .iface 79 (.agg [.str w]) := rfl
          refine go ?_
          first | refine VIf.no rfl (go ?_) | skip
          first | refine VIf.no rfl (go ?_) | skip
          first | refine VIf.yes rfl (go ?_) | skip
          have y0 : decide ((0 : Int) ≤ (j : Int)) = true := by simp
          have y1 : decide ((j : Int) < (codes.length : Int)) = true := by simp; omega
          first | refine VIf.yes y0 (go ?_) | skip
          first | refine VIf.yes y1 (go ?_) | skip
          refine VNth.mk _ e0 (go ?_)
          cases o with
          | none =>
            obtain rfl : A = [] := ho rfl
            have hk0 : k = 0 := by simpa using hA.symm
            refine go ?_
            refine VAll.mk (fun b2 => go ?_)
            refine ⟨⟨k + 1, some b2, [(.call w)]⟩, ⟨by dsimp only; omega, (fun h => by cases h), by rw [hk0]; rfl, ?_, ?_, hI⟩, by dsimp only; omega, rfl, .cons 0 (congrArg (fun c => some (b2, AObj.arr 1 c 0)) ?_) .nil⟩
            · simp [cleanAll, i1]
            · simp [nmSAll, i2]
            · rw [itemAVs_map]; exact (congrArg (fun z => [z]) hit).symm
          | some bo =>
            refine go ?_
            refine VGd.mk ⟨rfl, Nat.zero_le _, by rw [mulN_eq, itemAVs_length]; exact Nat.le_of_eq (by show A.length * 1 = A.length; omega), by show 16 * (A.length + 1) ≤ _; omega⟩ (go ?_)
            refine VAll.mk (fun b2 => go ?_)
            refine ⟨⟨k + 1, some b2, A ++ [(.call w)]⟩, ⟨by dsimp only; omega, (fun h => by cases h), by rw [List.length_append]; show A.length + 1 = k + 1; omega, clean_append hcA (by simp [cleanAll, i1]), nmS_append hnA (by simp [nmSAll, i2]), hI⟩, by dsimp only; omega, ?_, .cons 0 (congrArg (fun c => some (b2, AObj.arr 1 c 0)) ?_) .nil⟩
            · simp [accV]
            · rw [mulN_eq, Nat.mul_one, List.take_of_length_le (by rw [itemAVs_length]; exact Nat.le_refl _), itemAVs_snoc, hit]
        · rw [if_neg (fun h => c3 ⟨h.1, h.2.2⟩)] at hI
          by_cases k1 : kd = 1
          · subst k1
            refine go ?_
            first | refine VIf.yes rfl (go ?_) | skip
            refine fork (fun hn0 => go ?_) (fun hn0 => go ?_)
            · first | refine VIf.no rfl (go ?_) | skip
              first | refine VIf.no rfl (go ?_) | skip
              refine VRet.mk [] .nil ?_
              rw [hI]
              exact ⟨rfl, rfl⟩
            · first | refine VIf.no rfl (go ?_) | skip
              first | refine VIf.no rfl (go ?_) | skip
              refine VRet.mk [] .nil ?_
              rw [hI]
              exact ⟨rfl, rfl⟩
          by_cases k2 : kd = 2
          · subst k2
            refine go ?_
            first | refine VIf.no rfl (go ?_) | skip
            first | refine VIf.yes rfl (go ?_) | skip
            refine fork (fun h0 => go ?_) (fun h0 => go ?_)
            · refine VIf.no (by simp; omega) (go ?_)
              first | refine VIf.no rfl (go ?_) | skip
              refine VRet.mk [] .nil ?_
              rw [hI]
              exact ⟨rfl, rfl⟩
            · first | refine VIf.no rfl (go ?_) | skip
              refine VRet.mk [] .nil ?_
              rw [hI]
              exact ⟨rfl, rfl⟩
          by_cases k3 : kd = 3
          · subst k3
            refine go ?_
            first | refine VIf.no rfl (go ?_) | skip
            first | refine VIf.no rfl (go ?_) | skip
            first | refine VIf.yes rfl (go ?_) | skip
            refine fork (fun h0 => go ?_) (fun h0 => go ?_)
            · refine VIf.no (by simp; omega) (go ?_)
              refine VRet.mk [] .nil ?_
              rw [hI]
              exact ⟨rfl, rfl⟩
            · refine VRet.mk [] .nil ?_
              rw [hI]
              exact ⟨rfl, rfl⟩
          · refine go ?_
            refine VIf.no (by simpa using k1) (go ?_)
            refine VIf.no (by simpa using k2) (go ?_)
            refine VIf.no (by simpa using k3) (go ?_)
            refine VRet.mk [] .nil ?_
            rw [hI]
            exact ⟨rfl, rfl⟩
  · obtain rfl : k = l.length := by omega
    rw [List.drop_length, backL, Option.map_some, List.append_nil] at hI
    rw [hI]
    have hcq : (Tree.quot A).clean = true := by simp only [Tree.clean, Bool.and_eq_true, decide_eq_true_eq]; exact ⟨by omega, hcA⟩
    have hCk := f_CheckItems hcq (by simp only [Tree.nmS]; exact hnA)
    have hB := f_tBare hcq
    have htk : (itemAVs A).take (A.length * 1) = itemAVs A := List.take_of_length_le (by rw [itemAVs_length]; omega)
    have hres : ∀ c, checkR A = c → backV (some A) = .tup [.fz (itemAVs A) A.length false, .bool (c && bareTs A)] := fun c hc => by rw [← hc]; rfl
    cases hb : checkR A with
    | true =>
      rw [hb, if_pos rfl] at hCk
      rw [hres true hb]
      cases o with
      | none =>
        obtain rfl : A = [] := ho rfl
        refine go ?_
        refine Fn.use (hCk) (go ?_)
        refine Fn.use (hB) (go ?_)
        refine VRet.mk [] .nil ?_
        exact ⟨rfl, rfl⟩
      | some bo =>
        refine go ?_
        rw [htk]
        refine Fn.use (hCk) (go ?_)
        rw [htk]
        refine Fn.use (hB) (go ?_)
        refine VRet.mk [] .nil ?_
        refine ⟨?_, rfl⟩
        rw [htk]; rfl
    | false =>
      rw [hb, if_neg (by simp)] at hCk
      rw [hres false hb]
      cases o with
      | none =>
        obtain rfl : A = [] := ho rfl
        refine go ?_
        refine Fn.use (hCk) (go ?_)
        first | refine VIf.no rfl (go ?_) | skip
        refine VRet.mk [] .nil ?_
        exact ⟨rfl, rfl⟩
      | some bo =>
        refine go ?_
        rw [htk]
        refine Fn.use (hCk) (go ?_)
        first | refine VIf.no rfl (go ?_) | skip
        refine VRet.mk [] .nil ?_
        refine ⟨?_, rfl⟩
        rw [htk]; rfl
end Go.Proofs.YtonkeklageehbaaGreatDoor

namespace Go.Proofs.YtonkeklageehbaaGreatDoor
open Go Go.Av
def wordV (w : WordT) : AV := .agg (wordC w)
def wordsN (l : List WordT) : List (Txt × WordT) := l.foldl (fun m w => putA m w.name w) []
theorem wordsN_snoc (l : List WordT) (w : WordT) : wordsN (l ++ [w]) = putA (wordsN l) w.name w := by simp [wordsN]
/-- Is a name seen from a word? -/
def seesN (m : List (Txt × List Txt)) (ws : List (Txt × WordT)) (w : WordT) (s : Txt) : Bool := match getA ws s with
  | some x => decide (x.vocab = w.vocab) || ((getA m w.vocab).getD []).contains x.vocab
  | none => false
def seesStep (m : List (Txt × List Txt)) (ws : List (Txt × WordT)) (w : WordT) (ok : Bool) (s : Txt) : Bool := if isPrim s then ok else ok && seesN m ws w s
def seesR (m : List (Txt × List Txt)) (ws : List (Txt × WordT)) (w : WordT) : Bool := (callsIs w.body).foldl (seesStep m ws w) true
def KS (bk bu bw : Nat) (k0 k1 k4 : AV) (m : List (Txt × List Txt)) (ws : List (Txt × WordT)) : St :=
  [(bk, .box [k0, k1, .mapr bu, .mapr bw, k4]), (bu, .map (entA usV m)), (bw, .map (entA wordV ws))]
def seesS (b5 b2 b3 bk bu bw : Nat) (k0 k1 k4 : AV) (m : List (Txt × List Txt)) (ws : List (Txt × WordT)) (w : WordT) (ok : Bool) : St :=
  (b5, .box [.bool ok]) :: (b2, .box [.ptr bk 0]) :: (b3, .box (wordC w)) :: KS bk bu bw k0 k1 k4 m ws
theorem usesOk_len (m : List (Txt × List Txt)) : ∀ (us s : List Txt), usesOk m s us = true → us.length ≤ keysLeft m s
  | [], s, _ => Nat.zero_le _
  | u :: r, s, h => by
    rw [usesOk] at h
    simp only [Bool.and_eq_true, Bool.not_eq_true', List.contains_eq_mem, decide_eq_false_iff_not] at h
    obtain ⟨v, hv⟩ := Option.isSome_iff_exists.1 h.1.1
    have h1 := usesOk_len m r (s ++ [u]) h.2
    have h2 := keysLeft_add hv h.1.2
    rw [List.length_cons]; omega
theorem usesN_len (vs : List VocT) : (usesN vs).length ≤ vs.length := by
  have key : ∀ (l : List VocT) (a : List (Txt × List Txt)), (l.foldl (fun m v => putA m v.name v.uses) a).length ≤ a.length + l.length := by
    intro l
    induction l with
    | nil => intro a; simp
    | cons v r ih =>
      intro a
      rw [List.foldl_cons]
      have h1 := ih (putA a v.name v.uses)
      have h2 := putA_keys v.name v.uses a
      rw [List.length_cons]; omega
  have := key vs []
  simpa [usesN] using this
theorem usesN_mem {vs : List VocT} : ∀ e ∈ usesN vs, ∃ v ∈ vs, e.2 = v.uses := by
  have key : ∀ (l : List VocT) (a : List (Txt × List Txt)), ∀ e ∈ l.foldl (fun m v => putA m v.name v.uses) a, e ∈ a ∨ ∃ v ∈ l, e.2 = v.uses := by
    intro l
    induction l with
    | nil => intro a e he; exact .inl he
    | cons v r ih =>
      intro a e he
      rw [List.foldl_cons] at he
      rcases ih _ e he with h | ⟨x, hx, h⟩
      · unfold putA at h
        split at h
        · rcases List.mem_or_eq_of_mem_set h with h | rfl
          · exact .inl h
          · exact .inr ⟨v, List.mem_cons_self .., rfl⟩
        · rcases List.mem_append.1 h with h | h
          · exact .inl h
          · rw [List.mem_singleton.1 h]; exact .inr ⟨v, List.mem_cons_self .., rfl⟩
      · exact .inr ⟨x, List.mem_cons_of_mem _ hx, h⟩
  intro e he
  rcases key vs [] e he with h | h
  · cases h
  · exact h
theorem uses_short {d : DictT} (h : vocabsR d = true) : ∀ e ∈ usesN d.vocs, e.2.length ≤ 1000000 := by
  unfold vocabsR at h
  simp only [Bool.and_eq_true, decide_eq_true_eq] at h
  obtain ⟨⟨h1, h2⟩, _⟩ := h
  intro e he
  obtain ⟨v, hv, e1⟩ := usesN_mem e he
  obtain ⟨i, hi, hiv⟩ := List.mem_iff_getElem.1 hv
  unfold vocsOk at h2
  rw [List.all_eq_true] at h2
  have h3 := h2 i (List.mem_range.2 hi)
  rw [List.getElem?_eq_getElem hi, hiv] at h3
  have h3 : vocOkR d.vocs (usesN d.vocs) i v = true := h3
  unfold vocOkR at h3
  simp only [Bool.and_eq_true] at h3
  have h4 := usesOk_len _ _ _ h3.2
  have h5 := keysLeft_le (usesN d.vocs) []
  have h6 := usesN_len d.vocs
  rw [e1]; omega
theorem find_word {ws : List (Txt × WordT)} (k : Txt) : (∃ x i, getA ws k = some x ∧ mapFind (entA wordV ws) (.str k) 0 = some (some (i, wordV x))) ∨ (getA ws k = none ∧ mapFind (entA wordV ws) (.str k) 0 = some none) := by
  rw [mapFind_A]
  unfold getA
  cases idxA ws k 0 with
  | some p => left; exact ⟨p.2, p.1, rfl, rfl⟩
  | none => right; exact ⟨rfl, rfl⟩
theorem f_sees1 (b5 b2 b3 bk bu bw : Nat) (k0 k1 k4 : AV) (m : List (Txt × List Txt)) (hm : ∀ e ∈ m, e.2.length ≤ 1000000) (ws : List (Txt × WordT)) (w : WordT) (s : Txt) (ok : Bool) :
    ACalls Tryz.prog 100 [.str s, .ptr b2 0, .ptr b5 0, .ptr b3 0] (seesS b5 b2 b3 bk bu bw k0 k1 k4 m ws w ok) fun out st =>
      out = .ret (.tup []) ∧ st = seesS b5 b2 b3 bk bu bw k0 k1 k4 m ws w (seesStep m ws w ok s) := by
  have hP := f_pIs s
  unfold seesStep
  cases hp : isPrim s with
  | true =>
    rw [hp] at hP
    unfold seesS
    refine ACalls.of_W tb_ok (fn := Tryz.f100) (n := 41) (by kernel_rfl) rfl (by kernel_rfl) rfl rfl (by simp) (go ?_)
    refine Fn.use (hP) (go ?_)
    exact VRet.mk _ (VSel.refl _) ⟨rfl, rfl⟩
  | false =>
    rw [hp] at hP
    unfold seesS KS
    refine ACalls.of_W tb_ok (fn := Tryz.f100) (n := 41) (by kernel_rfl) rfl (by kernel_rfl) rfl rfl (by simp) (go ?_)
    refine Fn.use (hP) (go ?_)
    rw [if_neg (by simp)]
    unfold seesN
    refine VObj.mk 5 _ rfl (go ?_)
    rcases find_word (ws := ws) s with ⟨x, i, g1, g2⟩ | ⟨g1, g2⟩
    · refine VMap.mk _ g2 (go ?_)
      refine VAll.mk (fun b9 => go ?_)
      rw [g1]
      dsimp only
      refine VDraw.chain [23] (go ?_)
      cases ok with
      | false =>
        refine go ?_
        exact VRet.mk _ (VSel.skip1 _ _) ⟨rfl, rfl⟩
      | true =>
        rw [Bool.true_and]
        refine go ?_
        refine fork (fun hv => go ?_) (fun hv => go ?_)
        · rw [decide_eq_true hv, Bool.true_or]
          exact VRet.mk _ (VSel.skip1 _ _) ⟨rfl, rfl⟩
        · rw [decide_eq_false hv, Bool.false_or]
          refine VQ.mk (.mapr bu) (by refine go ?_; exact ⟨rfl, rfl⟩) (go ?_)
          rcases find_get (m := m) w.vocab with ⟨us, q, h1, h2⟩ | ⟨h1, h2⟩
          · rw [h1]
            have hc := fn_Contains us x.vocab (hm _ (getA_mem h1))
            refine VQ.mk (usV us) (by refine go ?_; refine VObj.mk 5 _ rfl (go ?_); refine VMap.mk _ h2 (go ?_); exact ⟨rfl, rfl⟩) (go ?_)
            refine VQ.mk (.bool (us.contains x.vocab)) (by refine go ?_; refine Fn.use hc (go ?_); exact ⟨rfl, rfl⟩) (go ?_)
            exact VRet.mk _ (VSel.skip1 _ _) ⟨rfl, rfl⟩
          · rw [h1]
            have hc := fn_Contains [] x.vocab (by simp)
            refine VQ.mk .nils (by refine go ?_; refine VObj.mk 5 _ rfl (go ?_); refine VMap.mk _ h2 (go ?_); exact ⟨rfl, rfl⟩) (go ?_)
            refine VQ.mk (.bool (([] : List Txt).contains x.vocab)) (by refine go ?_; refine Fn.use hc (go ?_); exact ⟨rfl, rfl⟩) (go ?_)
            exact VRet.mk _ (VSel.skip1 _ _) ⟨rfl, rfl⟩
    · refine VMap.mk _ g2 (go ?_)
      refine VAll.mk (fun b9 => go ?_)
      rw [g1]
      dsimp only
      refine VDraw.chain [23] (go ?_)
      cases ok with
      | false =>
        refine go ?_
        exact VRet.mk _ (VSel.skip1 _ _) ⟨rfl, rfl⟩
      | true =>
        refine go ?_
        exact VRet.mk _ (VSel.skip1 _ _) ⟨rfl, rfl⟩
theorem f_sees (bk bu bw : Nat) (k0 k1 k4 : AV) (m : List (Txt × List Txt)) (hm : ∀ e ∈ m, e.2.length ≤ 1000000) (ws : List (Txt × WordT)) (w : WordT) (hb : w.body.length ≤ 2513169434916) (hc : cleanAll w.body = true) :
    ACalls Tryz.prog 74 [.ptr bk 0, .agg (wordC w)] (KS bk bu bw k0 k1 k4 m ws) fun out st => out = .ret (.bool (seesR m ws w)) ∧ st = KS bk bu bw k0 k1 k4 m ws := by
  refine ACalls.of_W tb_ok (fn := Tryz.f74) (n := 12) (by kernel_rfl) rfl (by kernel_rfl) rfl rfl (by simp) (go ?_)
  refine VAll.mk (fun b2 => go ?_)
  refine VAll.mk (fun b3 => go ?_)
  refine VAll.mk (fun b5 => go ?_)
  refine ACalls.use (R := []) (f_callsAll 100 b2 b5 b3 (seesS b5 b2 b3 bk bu bw k0 k1 k4 m ws w) (seesStep m ws w) (fun s x => f_sees1 b5 b2 b3 bk bu bw k0 k1 k4 m hm ws w s x) hb hc true) ?_ ?_
  · rw [List.append_nil]; exact List.Perm.cons _ (List.Perm.swap _ _ _)
  · rintro out s' ⟨rfl, rfl⟩
    unfold seesS
    refine go ?_
    exact VRet.mk _ (.cons 3 rfl (.cons 3 rfl (.cons 3 rfl .nil))) ⟨rfl, rfl⟩
end Go.Proofs.YtonkeklageehbaaGreatDoor

namespace Go.Proofs.YtonkeklageehbaaGreatDoor
open Go Go.Av
def knOf (w : WordT) : List AV := [.str w.name, .int .i64 w.inn, .int .i64 w.out]
theorem knOf_len (w : WordT) : (knOf w).length = 3 := rfl
def lkV (o : Option Nat) (k : Nat) : AV := match o with
  | none => .nils
  | some b => .own b k
def lkS (o : Option Nat) (l : List WordT) (z : Nat) : St := match o with
  | none => []
  | some b => [(b, .arr 3 (l.flatMap knOf) z)]
structure LkI where
  k : Nat
  o : Option Nat


set_option maxHeartbeats 2000000 in
theorem f_look (d : DictT) (hv : d.vocs.length ≤ 4000000000000) (hw : d.words.length ≤ 1000000) : ACalls Tryz.prog 48 [.agg (dictC d)] [] fun out st => ∃ bk bu bw o, out = .ret (.ptr bk 0) ∧ (o = none → d.words = []) ∧
      st = KS bk bu bw (.fz (d.vocs.flatMap vocC) d.vocs.length false) (.fz (d.words.flatMap wordC) d.words.length false) (lkV o d.words.length) (usesN d.vocs) (wordsN d.words) ++ lkS o d.words 0 := by
  have fu := f_uses d hv
  obtain ⟨vs, ws⟩ := d
  dsimp only at fu hv hw ⊢
  have hdc : dictC ⟨vs, ws⟩ = [.fz (vs.flatMap vocC) vs.length false, .fz (ws.flatMap wordC) ws.length false] := rfl
  rw [hdc] at fu ⊢
  generalize usesN vs = m at fu ⊢
  refine ACalls.of_W tb_ok (fn := Tryz.f48) (n := 45) (by kernel_rfl) rfl (by kernel_rfl) rfl rfl (by simp) (go ?_)
  refine VAll.mk (fun b1 => go ?_)
  refine VDraw.all (go ?_)
  refine VAny.mk (Nat × Nat × Nat) [3] (fun i => [.ptr i.1 0]) (fun i => KS i.1 i.2.1 i.2.2 (.fz (vs.flatMap vocC) vs.length false) (.fz (ws.flatMap wordC) ws.length false) .nils m [] ++ [(b1, .box [.fz (vs.flatMap vocC) vs.length false, .fz (ws.flatMap wordC) ws.length false])]) ?_ ?_
  · repeat' ((conv => whnf); first | refine VAnd.mk ?_ ?_ | refine VGd.mk rfl ?_ | refine VOne.mk rfl ?_ | refine VFz.nil ?_ | refine VFz.keep ?_ | refine VObj.mk 0 _ rfl ?_ | refine VObj.mk 1 _ rfl ?_ | refine VObj.mk 2 _ rfl ?_ | refine VObj.mk 3 _ rfl ?_ | refine VTake.mk _ rfl rfl ?_ | refine VNth.mk _ rfl ?_ | (refine VAll.mk fun _ => ?_) | (refine ACalls.usep (R := _) fu (by exact List.Perm.refl _) ?_; rintro _ _ ⟨bm, rfl, rfl⟩))
    all_goals (first | exact Exists.intro (_, _, _) (And.intro rfl (.cons 0 rfl (.cons 0 rfl (.cons 0 rfl (.cons 0 rfl .nil))))) | exact Exists.intro (_, _, _) (And.intro rfl (.cons 0 rfl (.cons 0 rfl (.cons 1 rfl (.cons 0 rfl .nil))))) | exact Exists.intro (_, _, _) (And.intro rfl (.cons 0 rfl (.cons 1 rfl (.cons 0 rfl (.cons 0 rfl .nil))))) | exact Exists.intro (_, _, _) (And.intro rfl (.cons 0 rfl (.cons 1 rfl (.cons 1 rfl (.cons 0 rfl .nil))))) | exact Exists.intro (_, _, _) (And.intro rfl (.cons 0 rfl (.cons 2 rfl (.cons 0 rfl (.cons 0 rfl .nil))))) | exact Exists.intro (_, _, _) (And.intro rfl (.cons 0 rfl (.cons 2 rfl (.cons 1 rfl (.cons 0 rfl .nil))))))
  · rintro ⟨bk, bu, bw⟩
    refine go ?_
    refine VLoop.mk [15] LkI (fun i => [.int .i64 i.k]) (fun i => KS bk bu bw (.fz (vs.flatMap vocC) vs.length false) (.fz (ws.flatMap wordC) ws.length false) (lkV i.o i.k) m (wordsN (ws.take i.k)) ++ lkS i.o (ws.take i.k) 0) (fun i => i.k ≤ ws.length ∧ (i.o = none → i.k = 0)) (fun i => ws.length - i.k) ⟨0, none⟩ ?_ ?_
    · exact ⟨⟨Nat.zero_le _, fun _ => rfl⟩, rfl, .cons 0 rfl (.cons 0 rfl (.cons 0 rfl .nil))⟩
    rintro ⟨k, o⟩ ⟨hk, ho⟩
    dsimp only at hk ho ⊢
    have hkl : ((ws.take k).flatMap knOf).length = k * 3 := by rw [flat_len knOf 3 knOf_len, List.length_take]; congr 1; omega
    cases o with
    | none =>
      obtain rfl : k = 0 := ho rfl
      refine go ?_
      refine fork (fun hlt => go ?_) (fun hlt => go ?_)
      · have hlt : 0 < ws.length := by omega
        obtain ⟨x, hx⟩ : ∃ x, ws[0]? = some x := ⟨ws[0], by simp [hlt]⟩
        have hd := flat_drop wordC 5 wordC_len hx
        have hts := take_snoc hx
        have d0 : (List.drop (mulN 0 5) (ws.flatMap wordC)).take 5 = wordC x := by rw [hd]; rfl
        refine VTake.mk _ d0 rfl (go ?_)
        refine VAll.mk (fun b5 => go ?_)
        refine VDraw.chain [8] (go ?_)
        rcases ent_put wordV (wordsN (ws.take 0)) x.name x with ⟨i, w, h1, h2⟩ | ⟨h1, h2⟩
        · refine VMap.mk _ (by rw [mapFind_A, h1]) (go ?_)
          refine VDraw.chain [13, 16] (go ?_)
          refine VAll.mk (fun bl => go ?_)
          refine ⟨⟨1, some bl⟩, ⟨by dsimp only; omega, by simp⟩, by dsimp only; omega, rfl, ?_⟩
          have e2 : entA wordV (wordsN (ws.take 1)) = entA wordV (putA (wordsN (ws.take 0)) x.name x) := by rw [show (1 : Nat) = 0 + 1 from rfl, hts, wordsN_snoc]
          have e3 : (ws.take 1).flatMap knOf = knOf x := by rw [show (1 : Nat) = 0 + 1 from rfl, hts]; simp
          dsimp only [KS, lkS, lkV]
          rw [e2, ← h2, e3]
          exact .cons 2 rfl (.cons 2 rfl (.cons 2 rfl (.cons 0 rfl .nil)))
        · refine VMap.mk _ (by rw [mapFind_A, h1]) (go ?_)
          refine VDraw.chain [13, 16] (go ?_)
          refine VAll.mk (fun bl => go ?_)
          refine ⟨⟨1, some bl⟩, ⟨by dsimp only; omega, by simp⟩, by dsimp only; omega, rfl, ?_⟩
          have e2 : entA wordV (wordsN (ws.take 1)) = entA wordV (putA (wordsN (ws.take 0)) x.name x) := by rw [show (1 : Nat) = 0 + 1 from rfl, hts, wordsN_snoc]
          have e3 : (ws.take 1).flatMap knOf = knOf x := by rw [show (1 : Nat) = 0 + 1 from rfl, hts]; simp
          dsimp only [KS, lkS, lkV]
          rw [e2, ← h2, e3]
          exact .cons 2 rfl (.cons 2 rfl (.cons 2 rfl (.cons 0 rfl .nil)))
      · have hw0 : ws = [] := List.length_eq_zero_iff.1 (by omega)
        refine VRet.mk _ (VSel.refl _) ⟨bk, bu, bw, none, rfl, fun _ => hw0, ?_⟩
        rw [hw0]; rfl
    | some bl =>
      refine go ?_
      refine fork (fun hlt => go ?_) (fun hlt => go ?_)
      · have hlt : k < ws.length := by omega
        obtain ⟨x, hx⟩ : ∃ x, ws[k]? = some x := ⟨ws[k], by simp [hlt]⟩
        have hd := flat_drop wordC 5 wordC_len hx
        have hts := take_snoc hx
        have d0 : (List.drop (mulN k 5) (ws.flatMap wordC)).take 5 = wordC x := by rw [hd]; rfl
        refine VTake.mk _ d0 rfl (go ?_)
        refine VAll.mk (fun b5 => go ?_)
        refine VDraw.chain [8] (go ?_)
        rcases ent_put wordV (wordsN (ws.take k)) x.name x with ⟨i, w, h1, h2⟩ | ⟨h1, h2⟩
        · refine VMap.mk _ (by rw [mapFind_A, h1]) (go ?_)
          refine VDraw.chain [13, 16] (go ?_)
          refine VGd.mk ⟨rfl, Nat.zero_le _, by rw [hkl, mulN_eq]; exact Nat.le_refl _, by dsimp only; omega⟩ (go ?_)
          refine VAll.mk (fun bl2 => go ?_)
          refine ⟨⟨k + 1, some bl2⟩, ⟨by dsimp only; omega, by simp⟩, by dsimp only; omega, rfl, ?_⟩
          have e2 : entA wordV (wordsN (ws.take (k + 1))) = entA wordV (putA (wordsN (ws.take k)) x.name x) := by rw [hts, wordsN_snoc]
          have e3 : (ws.take (k + 1)).flatMap knOf = ((ws.take k).flatMap knOf).take (mulN k 3) ++ knOf x := by
            rw [hts, List.take_of_length_le (l := (ws.take k).flatMap knOf) (by rw [hkl, mulN_eq]; exact Nat.le_refl _)]; simp
          dsimp only [KS, lkS, lkV]
          rw [e2, ← h2, e3]
          exact .cons 2 rfl (.cons 2 rfl (.cons 2 rfl (.cons 0 rfl .nil)))
        · refine VMap.mk _ (by rw [mapFind_A, h1]) (go ?_)
          refine VDraw.chain [13, 16] (go ?_)
          refine VGd.mk ⟨rfl, Nat.zero_le _, by rw [hkl, mulN_eq]; exact Nat.le_refl _, by dsimp only; omega⟩ (go ?_)
          refine VAll.mk (fun bl2 => go ?_)
          refine ⟨⟨k + 1, some bl2⟩, ⟨by dsimp only; omega, by simp⟩, by dsimp only; omega, rfl, ?_⟩
          have e2 : entA wordV (wordsN (ws.take (k + 1))) = entA wordV (putA (wordsN (ws.take k)) x.name x) := by rw [hts, wordsN_snoc]
          have e3 : (ws.take (k + 1)).flatMap knOf = ((ws.take k).flatMap knOf).take (mulN k 3) ++ knOf x := by
            rw [hts, List.take_of_length_le (l := (ws.take k).flatMap knOf) (by rw [hkl, mulN_eq]; exact Nat.le_refl _)]; simp
          dsimp only [KS, lkS, lkV]
          rw [e2, ← h2, e3]
          exact .cons 2 rfl (.cons 2 rfl (.cons 2 rfl (.cons 0 rfl .nil)))
      · obtain rfl : k = ws.length := by omega
        rw [List.take_length]
        exact VRet.mk _ (VSel.refl _) ⟨bk, bu, bw, some bl, rfl, (fun h => by cases h), rfl⟩
end Go.Proofs.YtonkeklageehbaaGreatDoor

namespace Go.Proofs.YtonkeklageehbaaGreatDoor
open Go Go.Av
theorem sound_false {codes : List CodeT} {i : Nat} {c : CodeT} (h : codes[i]? = some c) (hc : codeOk codes i c = false) : soundC codes = false := by
  unfold soundC
  rw [List.all_eq_false]
  refine ⟨i, List.mem_range.2 (List.getElem?_eq_some_iff.1 h).1, ?_⟩
  rw [h]; simp [hc]
theorem sound_true {codes : List CodeT} (h : ∀ i c, codes[i]? = some c → codeOk codes i c = true) : soundC codes = true := by
  unfold soundC
  rw [List.all_eq_true]
  intro i hi
  cases hc : codes[i]? with
  | none => rfl
  | some c => exact h i c hc
/-- Is the body of a code sound? -/
def bodyOk (codes : List CodeT) (ops : List OpT) : Bool := match backL codes ops with
  | some l => backOk l
  | none => false
theorem codeOk_eq (codes : List CodeT) (i : Nat) (c : CodeT) : codeOk codes i c =
  ((nmR c.name && !isPrim c.name && (i == 0 || !(Op.bytesLess c.name ((codes.map (·.name)).getD (i - 1) []) || decide (c.name = (codes.map (·.name)).getD (i - 1) [])))) && bodyOk codes c.ops) := rfl

set_option maxHeartbeats 2000000 in
theorem f_Check (codes : List CodeT) (hcl : codes.length ≤ 1048576) (hc : ∀ c ∈ codes, CodeIn c) :
    Av.Fn Tryz.prog 20 [.fz (codesC codes) codes.length false] (.int .i64 (if soundC codes = true then 0 else 1)) := by
  refine ACalls.of_W tb_ok (fn := Tryz.f20) (n := 48) (by kernel_rfl) rfl (by kernel_rfl) rfl rfl (by simp) (go ?_)
  refine VLoop.mk [9] Nat (fun k => [.int .i64 k]) (fun _ => []) (fun k => k ≤ codes.length ∧ ∀ i c, i < k → codes[i]? = some c → codeOk codes i c = true) (fun k => codes.length - k) 0 ?_ ?_
  · exact ⟨⟨Nat.zero_le _, fun i c h => absurd h (Nat.not_lt_zero _)⟩, rfl, .nil⟩
  rintro k ⟨hk, hI⟩
  dsimp only at hk hI ⊢
  refine go ?_
  refine fork (fun hlt => go ?_) (fun hlt => go ?_)
  · have hlt : k < codes.length := by omega
    obtain ⟨x, hx⟩ : ∃ x, codes[k]? = some x := ⟨codes[k], by simp [hlt]⟩
    have hin := hc x (List.mem_of_getElem? hx)
    have hN := f_tName x.name (by have := hin.name; omega)
    have hP := f_pIs x.name
    have hB := f_back codes x.ops hcl hin.ops hc hin.inp
    have hd := flat_drop codeC 2 codeC_len hx
    have hbad : codeOk codes k x = false → soundC codes = false := sound_false hx
    have hgood : codeOk codes k x = true → k + 1 ≤ codes.length ∧ ∀ i c, i < k + 1 → codes[i]? = some c → codeOk codes i c = true := by
      intro h
      refine ⟨by omega, fun i c hi hic => ?_⟩
      by_cases e : i = k
      · subst e; rw [hx] at hic; cases hic; exact h
      · exact hI i c (by omega) hic
    rw [codeOk_eq] at hbad hgood
    obtain ⟨nm, ops⟩ := x
    have hd : List.drop (mulN k 2) (codesC codes) = [.str nm, .fz (opsC ops) ops.length false] ++ codesC (codes.drop (k + 1)) := hd
    have d0 : (List.drop (mulN k 2) (codesC codes)).take 2 = [.str nm, .fz (opsC ops) ops.length false] := by rw [hd]; rfl
    dsimp only at hN hP hB hbad hgood
    refine VTake.mk _ d0 rfl (go ?_)
    refine VAll.mk (fun b4 => go ?_)
    cases hn : nmR nm with
    | false =>
      rw [hn] at hN hbad
      refine VQ.mk (.bool false) (by refine go ?_; refine Fn.use hN (go ?_); exact ⟨rfl, rfl⟩) (go ?_)
      refine VRet.mk [] .nil ?_
      rw [hbad (by simp), if_neg (by simp)]
      exact ⟨rfl, rfl⟩
    | true =>
      rw [hn] at hN hbad hgood
      refine VQ.mk (.bool true) (by refine go ?_; refine Fn.use hN (go ?_); exact ⟨rfl, rfl⟩) (go ?_)
      cases hp : isPrim nm with
      | true =>
        rw [hp] at hP hbad
        refine VQ.mk (.bool true) (by refine go ?_; refine Fn.use hP (go ?_); exact ⟨rfl, rfl⟩) (go ?_)
        refine VRet.mk [] .nil ?_
        rw [hbad (by simp), if_neg (by simp)]
        exact ⟨rfl, rfl⟩
      | false =>
        rw [hp] at hP hbad hgood
        refine VQ.mk (.bool false) (by refine go ?_; refine Fn.use hP (go ?_); exact ⟨rfl, rfl⟩) (go ?_)
        cases hk0 : decide (0 < k) with
        | false =>
          have hk0 : k = 0 := by simpa using hk0
          subst hk0
          refine VIf.no (by simp) (go ?_)
          have hbad : bodyOk codes ops = false → soundC codes = false := fun h => hbad (by rw [h]; simp)
          have hgood : bodyOk codes ops = true → 0 + 1 ≤ codes.length ∧ ∀ i c, i < 0 + 1 → codes[i]? = some c → codeOk codes i c = true := fun h => hgood (by rw [h]; simp)
          cases hbl : backL codes ops with
          | none =>
            have hbo : bodyOk codes ops = false := by unfold bodyOk; rw [hbl]
            have hB : Av.Fn Tryz.prog 40 [.fz (codesC codes) codes.length false, .fz (opsC ops) ops.length false] (.tup [.fz [] 0 false, .bool false]) := by rw [hbl] at hB; exact hB
            refine go ?_
            refine Fn.use hB (go ?_)
            refine VRet.mk [] .nil ?_
            rw [hbad hbo, if_neg (by simp)]
            exact ⟨rfl, rfl⟩
          | some bl =>
            have hbo : bodyOk codes ops = backOk bl := by unfold bodyOk; rw [hbl]
            have hB : Av.Fn Tryz.prog 40 [.fz (codesC codes) codes.length false, .fz (opsC ops) ops.length false] (.tup [.fz (itemAVs bl) bl.length false, .bool (backOk bl)]) := by rw [hbl] at hB; exact hB
            cases hbo' : backOk bl with
            | false =>
              rw [hbo'] at hB hbo
              refine go ?_
              refine Fn.use hB (go ?_)
              refine VRet.mk [] .nil ?_
              rw [hbad hbo, if_neg (by simp)]
              exact ⟨rfl, rfl⟩
            | true =>
              rw [hbo'] at hB hbo
              refine go ?_
              refine Fn.use hB (go ?_)
              exact ⟨0 + 1, hgood hbo, by omega, rfl, .nil⟩
        | true =>
          have hk0 : 0 < k := by simpa using hk0
          obtain ⟨y, hy⟩ : ∃ y, codes[k - 1]? = some y := ⟨_, List.getElem?_eq_getElem (show k - 1 < codes.length by omega)⟩
          have hg : (codes.map (·.name)).getD (k - 1) [] = y.name := by rw [List.getD_eq_getElem?_getD, List.getElem?_map, hy]; rfl
          rw [hg] at hbad hgood
          have hyd := flat_drop codeC 2 codeC_len hy
          have e1 : (List.drop 0 (List.drop (mulN (k - 1) 2) (codesC codes)))[0]? = some (.str y.name) := by rw [show codesC codes = codes.flatMap codeC from rfl, List.drop_zero, hyd]; rfl
          have hkb : (k == 0) = false := by simp; omega
          rw [hkb] at hbad hgood
          refine VIf.yes (by simp; omega) (go ?_)
          refine VQ.mk (.fzp (List.drop (mulN (k - 1) 2) (codesC codes))) (by refine go ?_; exact VIdx.at (k - 1) (by omega) (by omega) ⟨rfl, rfl⟩) (go ?_)
          refine VQ.mk (.str y.name) (by refine go ?_; refine VNth.mk _ e1 (go ?_); exact ⟨rfl, rfl⟩) (go ?_)
          cases hlt2 : (Op.bytesLess nm y.name || decide (nm = y.name)) with
          | true =>
            refine VIf.yes rfl (go ?_)
            refine VRet.mk [] .nil ?_
            rw [hbad (by rw [hlt2]; simp), if_neg (by simp)]
            exact ⟨rfl, rfl⟩
          | false =>
            refine VIf.no rfl (go ?_)
            have hbad : bodyOk codes ops = false → soundC codes = false := fun h => hbad (by rw [h]; simp)
            have hgood : bodyOk codes ops = true → k + 1 ≤ codes.length ∧ ∀ i c, i < k + 1 → codes[i]? = some c → codeOk codes i c = true := fun h => hgood (by rw [h, hlt2]; rfl)
            cases hbl : backL codes ops with
            | none =>
              have hbo : bodyOk codes ops = false := by unfold bodyOk; rw [hbl]
              have hB : Av.Fn Tryz.prog 40 [.fz (codesC codes) codes.length false, .fz (opsC ops) ops.length false] (.tup [.fz [] 0 false, .bool false]) := by rw [hbl] at hB; exact hB
              refine go ?_
              refine Fn.use hB (go ?_)
              refine VRet.mk [] .nil ?_
              rw [hbad hbo, if_neg (by simp)]
              exact ⟨rfl, rfl⟩
            | some bl =>
              have hbo : bodyOk codes ops = backOk bl := by unfold bodyOk; rw [hbl]
              have hB : Av.Fn Tryz.prog 40 [.fz (codesC codes) codes.length false, .fz (opsC ops) ops.length false] (.tup [.fz (itemAVs bl) bl.length false, .bool (backOk bl)]) := by rw [hbl] at hB; exact hB
              cases hbo' : backOk bl with
              | false =>
                rw [hbo'] at hB hbo
                refine go ?_
                refine Fn.use hB (go ?_)
                refine VRet.mk [] .nil ?_
                rw [hbad hbo, if_neg (by simp)]
                exact ⟨rfl, rfl⟩
              | true =>
                rw [hbo'] at hB hbo
                refine go ?_
                refine Fn.use hB (go ?_)
                exact ⟨k + 1, hgood hbo, by omega, rfl, .nil⟩
  · have : k = codes.length := by omega
    subst this
    have hs : soundC codes = true := sound_true fun i c h => hI i c (List.getElem?_eq_some_iff.1 h).1 h
    refine VRet.mk [] .nil ?_
    rw [if_pos hs]
    exact ⟨rfl, rfl⟩
end Go.Proofs.YtonkeklageehbaaGreatDoor

namespace Go.Proofs.YtonkeklageehbaaGreatDoor
open Go Go.Av
theorem nil_iface (t : Tree) (h : valish t = true) : (isSome t = true ∧ ∃ u x, valAV t = .iface u x) ∨ (t = .none) := by
  cases hs : isSome t with
  | true => exact .inl ⟨rfl, valAV_iface hs h⟩
  | false => exact .inr (by cases t <;> first | rfl | (cases hs; done))
/-- A value that may be compared. -/
structure OpCmp (o : OpT) : Prop where
  clean : o.v.clean = true
  val : valish o.v = true
  full : isSome o.v = true → o.v.full false = true



theorem all2_len {α : Type} {f : α → α → Bool} : ∀ {l r : List α}, all2 f l r = true → l.length = r.length
  | [], [], _ => rfl
  | [], _ :: _, h => by cases h
  | _ :: _, [], h => by cases h
  | a :: l, b :: r, h => by
    rw [all2, Bool.and_eq_true] at h
    rw [List.length_cons, List.length_cons, all2_len h.2]
theorem f_LOp (x y : OpT) (hx : OpCmp x) (hy : OpCmp y) : Av.Fn Tryz.prog 44 [.agg (opC x), .agg (opC y)] (.bool (sameOp x y)) := by
  obtain ⟨k, n, v⟩ := x
  obtain ⟨k', n', w⟩ := y
  have hS : isSome v = true → isSome w = true → Av.Fn Tryz.prog 45 [valAV v, valAV w] (.bool (sameV (valRV v) (valRV w))) := fun h1 h2 => f_tSame hx.clean hy.clean (hx.full h1) (hy.full h2)
  have hv := nil_iface v hx.val
  have hw := nil_iface w hy.val
  unfold sameOp opC
  dsimp only at hv hw hS ⊢
  refine ACalls.of_W tb_ok (fn := Tryz.f44) (n := 38) (by kernel_rfl) rfl (by kernel_rfl) rfl rfl (by simp) (go ?_)
  refine VAll.mk (fun b1 => go ?_)
  refine VAll.mk (fun b2 => go ?_)
  by_cases hk : k = k'
  · subst hk
    by_cases hn : n = n'
    · subst hn
      rw [decide_eq_true rfl, decide_eq_true rfl]
      rcases hv with ⟨sv, u, z, ev⟩ | rfl
      · rcases hw with ⟨sw, u', z', ew⟩ | rfl
        · have hS := hS sv sw
          rw [sv, sw]
          rw [ev, ew] at hS ⊢
          refine go ?_
          refine VIf.yes (decide_eq_true rfl) (go ?_)
          refine VQ.mk _ (by refine go ?_; refine Fn.use hS (go ?_); exact ⟨rfl, rfl⟩) (go ?_)
          refine VRet.mk [] .nil ?_
          exact ⟨by simp, rfl⟩
        · rw [ev, sv]
          refine go ?_
          refine VIf.yes (decide_eq_true rfl) (go ?_)
          refine VRet.mk [] .nil ?_
          exact ⟨by simp [isSome], rfl⟩
      · rcases hw with ⟨sw, u', z', ew⟩ | rfl
        · rw [ew, sw]
          refine go ?_
          refine VIf.yes (decide_eq_true rfl) (go ?_)
          refine VRet.mk [] .nil ?_
          exact ⟨by simp [isSome], rfl⟩
        · refine go ?_
          refine VIf.yes (decide_eq_true rfl) (go ?_)
          refine VRet.mk [] .nil ?_
          exact ⟨by simp [isSome], rfl⟩
    · rw [decide_eq_false hn]
      refine go ?_
      refine VIf.yes (decide_eq_true rfl) (go ?_)
      first | refine VIf.no (decide_eq_false hn) (go ?_) | skip
      refine VRet.mk [] .nil ?_
      exact ⟨by simp, rfl⟩
  · rw [decide_eq_false hk]
    refine go ?_
    refine VRet.mk [] .nil ?_
    exact ⟨by simp, rfl⟩
theorem f_LOps (a b : List OpT) (ha : a.length ≤ 1048576) (hb : b.length ≤ 1048576) (h : ∀ x ∈ a, ∀ y ∈ b, Av.Fn Tryz.prog 44 [.agg (opC x), .agg (opC y)] (.bool (sameOp x y))) :
    Av.Fn Tryz.prog 43 [.fz (opsC a) a.length false, .fz (opsC b) b.length false, .fn (.func 44) [] []] (.bool (all2 sameOp a b)) := by
  refine ACalls.of_W tb_ok (fn := Tryz.f43) (n := 32) (by kernel_rfl) rfl (by kernel_rfl) rfl rfl (by simp) (go ?_)
  refine fork (fun hne => go ?_) (fun hne => go ?_)
  · refine VRet.mk [] .nil ?_
    refine ⟨?_, rfl⟩
    cases e : all2 sameOp a b with
    | true => exact absurd (by rw [all2_len e]) hne
    | false => rfl
  · have hne : a.length = b.length := by omega
    refine VLoop.mk [17] Nat (fun i => [.int .i64 i]) (fun _ => []) (fun i => i ≤ a.length ∧ all2 sameOp a b = all2 sameOp (a.drop i) (b.drop i)) (fun i => a.length - i) 0 ?_ ?_
    · exact ⟨⟨by omega, by simp⟩, rfl, .nil⟩
    intro i ⟨hi, hI⟩
    refine go ?_
    refine fork (fun hlt => go ?_) (fun hlt => go ?_)
    · have hlt : i < a.length := by omega
      obtain ⟨x, hx⟩ : ∃ x, a[i]? = some x := ⟨a[i], by simp [hlt]⟩
      obtain ⟨y, hy⟩ : ∃ y, b[i]? = some y := ⟨b[i]'(by omega), by simp [hne ▸ hlt]⟩
      have hda : a.drop i = x :: a.drop (i + 1) := by rw [List.drop_eq_getElem_cons hlt]; congr 1; rw [List.getElem?_eq_getElem hlt] at hx; exact Option.some.inj hx
      have hdb : b.drop i = y :: b.drop (i + 1) := by rw [List.drop_eq_getElem_cons (hne ▸ hlt)]; congr 1; rw [List.getElem?_eq_getElem (hne ▸ hlt)] at hy; exact Option.some.inj hy
      rw [hda, hdb, all2] at hI
      have hxy := h x (List.mem_of_getElem? hx) y (List.mem_of_getElem? hy)
      have da := flat_drop opC 3 opC_len hx
      have db := flat_drop opC 3 opC_len hy
      have d1 : (List.drop (mulN i 3) (opsC a)).take 3 = opC x := by rw [show opsC a = a.flatMap opC from rfl, da]; rfl
      have d2 : (List.drop (mulN i 3) (opsC b)).take 3 = opC y := by rw [show opsC b = b.flatMap opC from rfl, db]; rfl
      refine VTake.mk _ d1 rfl (go ?_)
      refine VAll.mk (fun b8 => go ?_)
      refine VTake.mk _ d2 rfl (go ?_)
      refine VAll.mk (fun b9 => go ?_)
      refine go ?_
      refine Fn.use hxy (go ?_)
      cases hq : sameOp x y with
      | true =>
        rw [hq] at hI
        refine go ?_
        exact ⟨i + 1, ⟨by omega, by rw [hI, Bool.true_and]⟩, by omega, rfl, .nil⟩
      | false =>
        rw [hq] at hI
        refine go ?_
        refine VRet.mk [] .nil ?_
        rw [hI]; exact ⟨rfl, rfl⟩
    · rw [List.drop_eq_nil_of_le (by omega), List.drop_eq_nil_of_le (by omega)] at hI
      refine VRet.mk [] .nil ?_
      rw [hI]; exact ⟨by simp [all2], rfl⟩
theorem f_LCode (x y : CodeT) (h : Av.Fn Tryz.prog 43 [.fz (opsC x.ops) x.ops.length false, .fz (opsC y.ops) y.ops.length false, .fn (.func 44) [] []] (.bool (all2 sameOp x.ops y.ops))) :
    Av.Fn Tryz.prog 42 [.agg (codeC x), .agg (codeC y)] (.bool (sameCode x y)) := by
  obtain ⟨nm, ops⟩ := x
  obtain ⟨nm', ops'⟩ := y
  unfold sameCode codeC
  dsimp only at h ⊢
  refine ACalls.of_W tb_ok (fn := Tryz.f42) (n := 17) (by kernel_rfl) rfl (by kernel_rfl) rfl rfl (by simp) (go ?_)
  refine VAll.mk (fun b1 => go ?_)
  refine VAll.mk (fun b2 => go ?_)
  cases hn : decide (nm = nm') with
  | true =>
    refine VIf.yes rfl (go ?_)
    refine Fn.use (h) (go ?_)
    refine VRet.mk [] .nil ?_
    exact ⟨by simp, rfl⟩
  | false =>
    refine VIf.no rfl (go ?_)
    refine VRet.mk [] .nil ?_
    exact ⟨by simp, rfl⟩
theorem f_LCodes (a b : List CodeT) (ha : a.length ≤ 1048576) (hb : b.length ≤ 1048576) (h : ∀ x ∈ a, ∀ y ∈ b, Av.Fn Tryz.prog 42 [.agg (codeC x), .agg (codeC y)] (.bool (sameCode x y))) :
    Av.Fn Tryz.prog 41 [.fz (codesC a) a.length false, .fz (codesC b) b.length false, .fn (.func 42) [] []] (.bool (all2 sameCode a b)) := by
  refine ACalls.of_W tb_ok (fn := Tryz.f41) (n := 32) (by kernel_rfl) rfl (by kernel_rfl) rfl rfl (by simp) (go ?_)
  refine fork (fun hne => go ?_) (fun hne => go ?_)
  · refine VRet.mk [] .nil ?_
    refine ⟨?_, rfl⟩
    cases e : all2 sameCode a b with
    | true => exact absurd (by rw [all2_len e]) hne
    | false => rfl
  · have hne : a.length = b.length := by omega
    refine VLoop.mk [17] Nat (fun i => [.int .i64 i]) (fun _ => []) (fun i => i ≤ a.length ∧ all2 sameCode a b = all2 sameCode (a.drop i) (b.drop i)) (fun i => a.length - i) 0 ?_ ?_
    · exact ⟨⟨by omega, by simp⟩, rfl, .nil⟩
    intro i ⟨hi, hI⟩
    refine go ?_
    refine fork (fun hlt => go ?_) (fun hlt => go ?_)
    · have hlt : i < a.length := by omega
      obtain ⟨x, hx⟩ : ∃ x, a[i]? = some x := ⟨a[i], by simp [hlt]⟩
      obtain ⟨y, hy⟩ : ∃ y, b[i]? = some y := ⟨b[i]'(by omega), by simp [hne ▸ hlt]⟩
      have hda : a.drop i = x :: a.drop (i + 1) := by rw [List.drop_eq_getElem_cons hlt]; congr 1; rw [List.getElem?_eq_getElem hlt] at hx; exact Option.some.inj hx
      have hdb : b.drop i = y :: b.drop (i + 1) := by rw [List.drop_eq_getElem_cons (hne ▸ hlt)]; congr 1; rw [List.getElem?_eq_getElem (hne ▸ hlt)] at hy; exact Option.some.inj hy
      rw [hda, hdb, all2] at hI
      have hxy := h x (List.mem_of_getElem? hx) y (List.mem_of_getElem? hy)
      have da := flat_drop codeC 2 codeC_len hx
      have db := flat_drop codeC 2 codeC_len hy
      have d1 : (List.drop (mulN i 2) (codesC a)).take 2 = codeC x := by rw [show codesC a = a.flatMap codeC from rfl, da]; rfl
      have d2 : (List.drop (mulN i 2) (codesC b)).take 2 = codeC y := by rw [show codesC b = b.flatMap codeC from rfl, db]; rfl
      refine VTake.mk _ d1 rfl (go ?_)
      refine VAll.mk (fun b8 => go ?_)
      refine VTake.mk _ d2 rfl (go ?_)
      refine VAll.mk (fun b9 => go ?_)
      refine go ?_
      refine Fn.use hxy (go ?_)
      cases hq : sameCode x y with
      | true =>
        rw [hq] at hI
        refine go ?_
        exact ⟨i + 1, ⟨by omega, by rw [hI, Bool.true_and]⟩, by omega, rfl, .nil⟩
      | false =>
        rw [hq] at hI
        refine go ?_
        refine VRet.mk [] .nil ?_
        rw [hI]; exact ⟨rfl, rfl⟩
    · rw [List.drop_eq_nil_of_le (by omega), List.drop_eq_nil_of_le (by omega)] at hI
      refine VRet.mk [] .nil ?_
      rw [hI]; exact ⟨by simp [all2], rfl⟩
theorem backL_mem : ∀ {codes : List CodeT} {l : List OpT} {r : List Tree}, backL codes l = some r → ∀ o ∈ l, ∃ t ∈ r, backO codes o = some t
  | _, [], _, _, o, ho => by cases ho
  | codes, x :: l, r, h, o, ho => by
    rw [backL] at h
    cases hx : backO codes x with
    | none => rw [hx] at h; cases h
    | some t =>
      rw [hx] at h
      dsimp only at h
      cases hl : backL codes l with
      | none => rw [hl] at h; cases h
      | some q =>
        rw [hl] at h
        obtain rfl : t :: q = r := Option.some.inj h
        rcases List.mem_cons.1 ho with rfl | ho
        · exact ⟨t, List.mem_cons_self .., hx⟩
        · obtain ⟨u, hu, hb⟩ := backL_mem hl o ho
          exact ⟨u, List.mem_cons_of_mem _ hu, hb⟩
theorem body_full {codes : List CodeT} {l : List OpT} (h : bodyOk codes l = true) {o : OpT} (ho : o ∈ l) (hv : valish o.v = true) (hs : isSome o.v = true) : o.v.full false = true := by
  unfold bodyOk at h
  cases hb : backL codes l with
  | none => rw [hb] at h; cases h
  | some r =>
    rw [hb] at h
    obtain ⟨t, ht, hbo⟩ := backL_mem hb o ho
    have hc : checkR r = true := by
      have : backOk r = true := h
      unfold backOk at this
      rw [Bool.and_eq_true] at this
      exact this.1
    have hf := meas_full false (.quot r) 1024 0 hc
    rw [Tree.full] at hf
    have he : o.v = t := by
      unfold backO at hbo
      split at hbo
      · exact Option.some.inj hbo
      · split at hbo
        · rename_i h2; rw [hs] at h2; exact absurd h2.2.1 (by simp)
        · split at hbo
          · rename_i h2; rw [hs] at h2; exact absurd h2.2.1 (by simp)
          · cases hbo
    subst he
    obtain ⟨i, hi⟩ := List.mem_iff_getElem?.1 ht
    refine full_val ?_ (fullAll_at hf hi)
    cases hq : o.v <;> first | rfl | (rw [hq] at hv; cases hv)
theorem sound_body {codes : List CodeT} (h : soundC codes = true) {c : CodeT} (hc : c ∈ codes) : bodyOk codes c.ops = true := by
  unfold soundC at h
  rw [List.all_eq_true] at h
  obtain ⟨i, hi⟩ := List.mem_iff_getElem?.1 hc
  have := h i (List.mem_range.2 (List.getElem?_eq_some_iff.1 hi).1)
  rw [hi] at this
  dsimp only at this
  rw [codeOk_eq, Bool.and_eq_true] at this
  exact this.2
theorem f_LEq {a b : List CodeT} (hal : a.length ≤ 1048576) (hbl : b.length ≤ 1048576) (ha : ∀ c ∈ a, CodeIn c) (hb : ∀ c ∈ b, CodeIn c) (sa : soundC a = true) (sb : soundC b = true) :
    Av.Fn Tryz.prog 41 [.fz (codesC a) a.length false, .fz (codesC b) b.length false, .fn (.func 42) [] []] (.bool (all2 sameCode a b)) :=
  f_LCodes a b hal hbl fun x hx y hy => f_LCode x y (f_LOps x.ops y.ops (ha x hx).ops (hb y hy).ops fun o ho p hp =>
    f_LOp o p ⟨((ha x hx).inp o ho).clean, ((ha x hx).inp o ho).val, body_full (sound_body sa hx) ho ((ha x hx).inp o ho).val⟩
      ⟨((hb y hy).inp p hp).clean, ((hb y hy).inp p hp).val, body_full (sound_body sb hy) hp ((hb y hy).inp p hp).val⟩)
def sameL (a b : List CodeT) : Bool := if soundC a && soundC b then all2 sameCode a b else !soundC a && !soundC b
theorem f_LSame {a b : List CodeT} (hal : a.length ≤ 1048576) (hbl : b.length ≤ 1048576) (ha : ∀ c ∈ a, CodeIn c) (hb : ∀ c ∈ b, CodeIn c) :
    Av.Fn Tryz.prog 21 [.fz (codesC a) a.length false, .fz (codesC b) b.length false] (.bool (sameL a b)) := by
  have hA := f_Check a hal ha
  have hB := f_Check b hbl hb
  have hE := f_LEq hal hbl ha hb
  unfold sameL
  cases sa : soundC a with
  | false =>
    rw [sa, if_neg (by simp)] at hA
    refine ACalls.of_W tb_ok (fn := Tryz.f21) (n := 25) (by kernel_rfl) rfl (by kernel_rfl) rfl rfl (by simp) (go ?_)
    refine Fn.use (hA) (go ?_)
    cases sb : soundC b with
    | false =>
      rw [sb, if_neg (by simp)] at hB
      refine Fn.use (hB) (go ?_)
      refine VRet.mk [] .nil ?_
      exact ⟨rfl, rfl⟩
    | true =>
      rw [sb, if_pos (by simp)] at hB
      refine Fn.use (hB) (go ?_)
      refine VRet.mk [] .nil ?_
      exact ⟨rfl, rfl⟩
  | true =>
    rw [sa, if_pos (by simp)] at hA
    refine ACalls.of_W tb_ok (fn := Tryz.f21) (n := 25) (by kernel_rfl) rfl (by kernel_rfl) rfl rfl (by simp) (go ?_)
    refine Fn.use (hA) (go ?_)
    cases sb : soundC b with
    | false =>
      rw [sb, if_neg (by simp)] at hB
      refine Fn.use (hB) (go ?_)
      refine VRet.mk [] .nil ?_
      exact ⟨rfl, rfl⟩
    | true =>
      rw [sb, if_pos (by simp)] at hB
      refine Fn.use (hB) (go ?_)
      refine Fn.use (hE sa sb) (go ?_)
      refine VRet.mk [] .nil ?_
      exact ⟨rfl, rfl⟩
end Go.Proofs.YtonkeklageehbaaGreatDoor

namespace Go.Proofs.YtonkeklageehbaaGreatDoor
open Go Go.Av
end Go.Proofs.YtonkeklageehbaaGreatDoor

namespace Go.Proofs.YtonkeklageehbaaGreatDoor
open Go Go.Av
end Go.Proofs.YtonkeklageehbaaGreatDoor

namespace Go.Proofs.YtonkeklageehbaaGreatDoor
open Go Go.Av
end Go.Proofs.YtonkeklageehbaaGreatDoor

namespace Go.Proofs.YtonkeklageehbaaGreatDoor
open Go Go.Av
/-! ### The order of texts -/
theorem bl_irrefl : ∀ x : List UInt8, Op.bytesLess x x = false
  | [] => rfl
  | a :: x => by
    rw [Op.bytesLess, bl_irrefl x]
    simp
theorem bl_trans : ∀ {x y z : List UInt8}, Op.bytesLess x y = true → Op.bytesLess y z = true → Op.bytesLess x z = true
  | [], y, [], _, h => by cases y <;> simp [Op.bytesLess] at h
  | [], _, c :: z, _, _ => rfl
  | a :: x, [], z, h, _ => by simp [Op.bytesLess] at h
  | a :: x, b :: y, [], _, h => by simp [Op.bytesLess] at h
  | a :: x, b :: y, c :: z, h1, h2 => by
    rw [Op.bytesLess] at h1 h2 ⊢
    simp only [Bool.or_eq_true, Bool.and_eq_true, decide_eq_true_eq, beq_iff_eq, UInt8.lt_iff_toNat_lt] at h1 h2 ⊢
    rcases h1 with h1 | ⟨rfl, h1⟩
    · rcases h2 with h2 | ⟨rfl, h2⟩
      · exact .inl (by omega)
      · exact .inl h1
    · rcases h2 with h2 | ⟨rfl, h2⟩
      · exact .inl h2
      · exact .inr ⟨rfl, bl_trans h1 h2⟩
theorem bl_tri : ∀ {x y : List UInt8}, Op.bytesLess x y = false → x ≠ y → Op.bytesLess y x = true
  | [], [], _, h => absurd rfl h
  | [], _ :: _, h, _ => by simp [Op.bytesLess] at h
  | _ :: _, [], _, _ => rfl
  | a :: x, b :: y, h, hn => by
    rw [Op.bytesLess] at h ⊢
    simp only [Bool.or_eq_false_iff, Bool.and_eq_false_iff, decide_eq_false_iff_not, UInt8.lt_iff_toNat_lt] at h
    simp only [Bool.or_eq_true, Bool.and_eq_true, decide_eq_true_eq, beq_iff_eq, UInt8.lt_iff_toNat_lt]
    by_cases e : a = b
    · subst e
      rcases h.2 with h2 | h2
      · simp at h2
      · exact .inr ⟨rfl, bl_tri h2 (fun e => hn (by rw [e]))⟩
    · refine .inl ?_
      have : a.toNat ≠ b.toNat := fun h' => e (UInt8.toNat_inj.1 h')
      omega
/-- Names that go up differ. -/
theorem up_lt {l : List (List UInt8)} (h : ∀ i n m, l[i]? = some n → l[i + 1]? = some m → Op.bytesLess n m = true) : ∀ (d i : Nat) (n m : List UInt8), l[i]? = some n → l[i + d + 1]? = some m → Op.bytesLess n m = true
  | 0, i, n, m, h1, h2 => h i n m h1 h2
  | d + 1, i, n, m, h1, h2 => by
    have hlt := (List.getElem?_eq_some_iff.1 h2).1
    obtain ⟨k, hk⟩ : ∃ k, l[i + d + 1]? = some k := ⟨_, List.getElem?_eq_getElem (by omega)⟩
    exact bl_trans (up_lt h d i n k h1 hk) (h (i + d + 1) k m hk h2)
theorem up_notin {l : List (List UInt8)} (h : ∀ i n m, l[i]? = some n → l[i + 1]? = some m → Op.bytesLess n m = true) {k : Nat} {m : List UInt8} (hm : l[k]? = some m) : m ∉ l.take k := by
  intro hc
  obtain ⟨i, hi⟩ := List.mem_iff_getElem?.1 hc
  have hik : i < k := by have := (List.getElem?_eq_some_iff.1 hi).1; rw [List.length_take] at this; omega
  rw [List.getElem?_take_of_lt hik] at hi
  have := up_lt h (k - i - 1) i m m hi (by rw [show i + (k - i - 1) + 1 = k by omega]; exact hm)
  rw [bl_irrefl] at this; cases this
theorem sound_up {codes : List CodeT} (h : soundC codes = true) : ∀ i n m, (codes.map (·.name))[i]? = some n → (codes.map (·.name))[i + 1]? = some m → Op.bytesLess n m = true := by
  intro i n m h1 h2
  rw [List.getElem?_map] at h2
  cases hc : codes[i + 1]? with
  | none => rw [hc] at h2; cases h2
  | some c =>
    rw [hc] at h2
    obtain rfl : c.name = m := Option.some.inj h2
    unfold soundC at h
    rw [List.all_eq_true] at h
    have := h (i + 1) (List.mem_range.2 (List.getElem?_eq_some_iff.1 hc).1)
    rw [hc] at this
    dsimp only at this
    rw [codeOk_eq, Bool.and_eq_true, Bool.and_eq_true] at this
    have h3 := this.1.2
    rw [show (codes.map (·.name)).getD (i + 1 - 1) [] = n by rw [List.getD_eq_getElem?_getD, Nat.add_sub_cancel, h1]; rfl] at h3
    simp only [Bool.or_eq_true, beq_iff_eq, Bool.not_eq_true', Bool.or_eq_false_iff, decide_eq_false_iff_not] at h3
    rcases h3 with h3 | h3
    · omega
    · exact bl_tri h3.1 h3.2
/-! ### Places -/
def placeL : List (List UInt8) → List UInt8 → Nat → Option Nat
  | [], _, _ => none
  | n :: r, s, i => if s = n then some i else placeL r s (i + 1)
def entsN : List (List UInt8) → Nat → List (AV × AV)
  | [], _ => []
  | n :: r, i => (.str n, .int .i64 i) :: entsN r (i + 1)
theorem mapFind_N (s : List UInt8) : ∀ (l : List (List UInt8)) (i : Nat), mapFind (entsN l i) (.str s) i = some ((placeL l s i).map fun j => (j, .int .i64 j))
  | [], i => rfl
  | n :: r, i => by
    show (match some (decide (s = n)) with
      | some true => some (some (i, AV.int .i64 i))
      | some false => mapFind (entsN r (i + 1)) (.str s) (i + 1)
      | none => none) = _
    rw [placeL]
    by_cases e : s = n
    · rw [decide_eq_true e, if_pos e]; rfl
    · rw [decide_eq_false e, if_neg e]; exact mapFind_N s r (i + 1)
theorem entsN_snoc (n : List UInt8) : ∀ (l : List (List UInt8)) (i : Nat), entsN (l ++ [n]) i = entsN l i ++ [(.str n, .int .i64 ((i + l.length : Nat) : Int))]
  | [], i => rfl
  | m :: r, i => by
    rw [List.cons_append, entsN, entsN, entsN_snoc n r (i + 1), List.length_cons, List.cons_append, show i + 1 + r.length = i + (r.length + 1) by omega]
theorem placeL_none (s : List UInt8) : ∀ (l : List (List UInt8)) (i : Nat), s ∉ l → placeL l s i = none
  | [], _, _ => rfl
  | n :: r, i, h => by
    rw [placeL, if_neg (fun e => h (by rw [e]; exact List.mem_cons_self ..)), placeL_none s r (i + 1) (fun hm => h (List.mem_cons_of_mem _ hm))]
theorem names_notin {k : Nat} {m : List UInt8} (hm : namesL[k]? = some m) : m ∉ namesL.take k := by
  have key : ((List.range 52).all fun k => !((namesL.take k).contains (namesL.getD k []))) = true := by decide +kernel
  have hk : k < 52 := (List.getElem?_eq_some_iff.1 hm).1
  have := List.all_eq_true.1 key k (List.mem_range.2 hk)
  rw [List.getD_eq_getElem?_getD, hm] at this
  simpa using this
set_option maxHeartbeats 1000000 in
theorem f_places (codes : List CodeT) (hl : codes.length ≤ 1048576) (hup : ∀ k m, (codes.map (·.name))[k]? = some m → m ∉ (codes.map (·.name)).take k) :
    ACalls Tryz.prog 25 [.fz (codesC codes) codes.length false] [] fun out st' => ∃ bw bp, out = .ret (.tup [.mapr bw, .mapr bp]) ∧ st' = [(bw, .map (entsN (codes.map (·.name)) 0)), (bp, .map (entsN namesL 0))] := by
  refine ACalls.of_W tb_ok (fn := Tryz.f25) (n := 35) (by kernel_rfl) rfl (by kernel_rfl) rfl rfl (by simp) (go ?_)
  refine VAll.mk (fun bw => go ?_)
  refine VAll.mk (fun bp => go ?_)
  refine VLoop.mk [12] Nat (fun k => [.int .i64 k]) (fun k => [(bw, .map (entsN ((codes.map (·.name)).take k) 0)), (bp, .map [])]) (fun k => k ≤ codes.length) (fun k => codes.length - k) 0 ?_ ?_
  · exact ⟨Nat.zero_le _, rfl, .cons 1 rfl (.cons 0 rfl .nil)⟩
  rintro k hk
  dsimp only at hk ⊢
  refine go ?_
  refine fork (fun hlt => go ?_) (fun hlt => ?_)
  · have hlt : k < codes.length := by omega
    obtain ⟨x, hx⟩ : ∃ x, codes[k]? = some x := ⟨codes[k], by simp [hlt]⟩
    have hd := flat_drop codeC 2 codeC_len hx
    have hnk : (codes.map (·.name))[k]? = some x.name := by rw [List.getElem?_map, hx]; rfl
    have hni := hup k _ hnk
    have hf := mapFind_N x.name ((codes.map (·.name)).take k) 0
    rw [placeL_none _ _ _ hni] at hf
    have hsn : entsN ((codes.map (·.name)).take (k + 1)) 0 = entsN ((codes.map (·.name)).take k) 0 ++ [(.str x.name, .int .i64 (k : Nat))] := by
      rw [take_succ_at hnk, entsN_snoc, List.length_take, List.length_map, Nat.zero_add, Nat.min_eq_left hk]
    obtain ⟨nm, ops⟩ := x
    have d0 : (List.drop (mulN k 2) (codesC codes)).take 2 = [.str nm, .fz (opsC ops) ops.length false] := by rw [show codesC codes = codes.flatMap codeC from rfl, hd]; rfl
    refine VTake.mk _ d0 rfl (go ?_)
    refine VAll.mk (fun b5 => go ?_)
    refine VMap.mk none hf (go ?_)
    exact ⟨k + 1, by omega, by omega, rfl, .cons 1 (congrArg (fun c => some (bw, AObj.map c)) hsn.symm) (.cons 1 rfl .nil)⟩
  obtain rfl : k = codes.length := by omega
  rw [List.take_of_length_le (by rw [List.length_map]; exact Nat.le_refl _)]
  generalize entsN (codes.map (·.name)) 0 = ew
  refine go ?_
  refine Fn.use (f_pNames) (go ?_)
  refine VLoop.mk [24] Nat (fun k => [.int .i64 k]) (fun k => [(bw, .map ew), (bp, .map (entsN (namesL.take k) 0))]) (fun k => k ≤ 52) (fun k => 52 - k) 0 ?_ ?_
  · exact ⟨Nat.zero_le _, rfl, .cons 0 rfl (.cons 0 rfl .nil)⟩
  rintro k hk
  dsimp only at hk ⊢
  refine go ?_
  refine fork (fun hlt => go ?_) (fun hlt => ?_)
  · have hlt : k < 52 := by omega
    obtain ⟨w, hw⟩ : ∃ w, namesL[k]? = some w := ⟨_, List.getElem?_eq_getElem (show k < namesL.length from hlt)⟩
    have hf := mapFind_N w (namesL.take k) 0
    rw [placeL_none _ _ _ (names_notin hw)] at hf
    have hsn : entsN (namesL.take (k + 1)) 0 = entsN (namesL.take k) 0 ++ [(.str w, .int .i64 (k : Nat))] := by
      rw [take_succ_at hw, entsN_snoc, List.length_take, Nat.zero_add, Nat.min_eq_left (show k ≤ namesL.length from hk)]
    refine VNth.mk (.str w) (by rw [mulN_eq]; simp [hw]) (go ?_)
    refine VMap.mk none hf (go ?_)
    exact ⟨k + 1, by omega, by omega, rfl, .cons 0 rfl (.cons 0 (congrArg (fun c => some (bp, AObj.map c)) hsn.symm) .nil)⟩
  obtain rfl : k = 52 := by omega
  rw [show namesL.take 52 = namesL from rfl]
  generalize entsN namesL 0 = ep
  refine go ?_
  exact VRet.mk _ (.cons 0 rfl (.cons 0 rfl .nil)) ⟨bw, bp, rfl, rfl⟩
/-- The operation of an item. -/
def opOf (names : List (List UInt8)) : Tree → Option OpT
  | .call s => match placeL namesL s 0 with
    | some j => some ⟨2, (j : Int), .none⟩
    | none => (placeL names s 0).map fun (j : Nat) => ⟨3, (j : Int), .none⟩
  | t => some ⟨1, 0, t⟩
def opV (r : Option OpT) : AV := match r with
  | some o => .tup [.agg (opC o), .bool true]
  | none => .tup [.agg [.int .i64 3, .int .i64 0, .nili], .bool false]
theorem f_op {names : List (List UInt8)} {bw bp : Nat} {t : Tree} (hc : t.clean = true) (hf : t.full true = true) :
    ACalls Tryz.prog 26 [.mapr bw, .mapr bp, itemAV t] [(bw, .map (entsN names 0)), (bp, .map (entsN namesL 0))] fun out st' => out = .ret (opV (opOf names t)) ∧ st' = [(bw, .map (entsN names 0)), (bp, .map (entsN namesL 0))] := by
  cases hct : t.isCall with
  | true =>
    obtain ⟨s, rfl⟩ : ∃ s, t = .call s := by cases t <;> first | exact ⟨_, rfl⟩ | (cases hct; done)
    have m1 := mapFind_N s namesL 0
    have m2 := mapFind_N s names 0
    have hop : opOf names (.call s) = match placeL namesL s 0 with
      | some j => some ⟨2, (j : Int), .none⟩
      | none => (placeL names s 0).map fun (j : Nat) => ⟨3, (j : Int), .none⟩ := rfl
    rw [itemAV, hop]
    generalize entsN namesL 0 = ep at m1 ⊢
    generalize entsN names 0 = ew at m2 ⊢
    cases h1 : placeL namesL s 0 with
    | some j =>
      rw [h1] at m1
      show ACalls _ _ _ _ fun out st' => out = .ret (.tup [.agg [.int .i64 2, .int .i64 (j : Int), valAV .none], .bool true]) ∧ _
      rw [valAV]
      refine ACalls.of_W tb_ok (fn := Tryz.f26) (n := 46) (by kernel_rfl) rfl (by kernel_rfl) rfl rfl (by simp) (go ?_)
      refine VAll.mk (fun b6 => go ?_)
      refine VAll.mk (fun b8 => go ?_)
      refine VMap.mk _ m1 (go ?_)
      exact VRet.mk _ (.cons 2 rfl (.cons 2 rfl .nil)) ⟨rfl, rfl⟩
    | none =>
      rw [h1] at m1
      cases h2 : placeL names s 0 with
      | some j =>
        rw [h2] at m2
        show ACalls _ _ _ _ fun out st' => out = .ret (.tup [.agg [.int .i64 3, .int .i64 (j : Int), valAV .none], .bool true]) ∧ _
        rw [valAV]
        refine ACalls.of_W tb_ok (fn := Tryz.f26) (n := 46) (by kernel_rfl) rfl (by kernel_rfl) rfl rfl (by simp) (go ?_)
        refine VAll.mk (fun b6 => go ?_)
        refine VAll.mk (fun b8 => go ?_)
        refine VMap.mk _ m1 (go ?_)
        refine VMap.mk _ m2 (go ?_)
        exact VRet.mk _ (.cons 2 rfl (.cons 2 rfl .nil)) ⟨rfl, rfl⟩
      | none =>
        rw [h2] at m2
        show ACalls _ _ _ _ fun out st' => out = .ret (.tup [.agg [.int .i64 3, .int .i64 0, .nili], .bool false]) ∧ _
        refine ACalls.of_W tb_ok (fn := Tryz.f26) (n := 46) (by kernel_rfl) rfl (by kernel_rfl) rfl rfl (by simp) (go ?_)
        refine VAll.mk (fun b6 => go ?_)
        refine VAll.mk (fun b8 => go ?_)
        refine VMap.mk _ m1 (go ?_)
        refine VMap.mk _ m2 (go ?_)
        exact VRet.mk _ (.cons 2 rfl (.cons 2 rfl .nil)) ⟨rfl, rfl⟩
  | false =>
    have hp := item_push hct hf
    have hcl := f_Clone hc
    have ho := valAV_one' t
    have hop : opOf names t = some ⟨1, 0, t⟩ := by cases t <;> first | rfl | (cases hct; done)
    rw [hp, hop]
    unfold opV opC
    dsimp only
    generalize valAV t = v at hcl ho ⊢
    generalize entsN namesL 0 = ep
    generalize entsN names 0 = ew
    refine ACalls.of_W tb_ok (fn := Tryz.f26) (n := 46) (by kernel_rfl) rfl (by kernel_rfl) rfl rfl (by simp) (go ?_)
    refine VAll.mk (fun b6 => go ?_)
    refine VAll.mk (fun b8 => go ?_)
    refine Fn.use hcl (go ?_)
    refine VOne.mk ho (go ?_)
    exact VRet.mk _ (.cons 2 rfl (.cons 2 rfl .nil)) ⟨rfl, rfl⟩
def opsOf (names : List (List UInt8)) : List Tree → Option (List OpT)
  | [] => some []
  | t :: r => match opOf names t with
    | none => none
    | some o => (opsOf names r).map (o :: ·)
theorem opsOf_next {names : List (List UInt8)} {l : List Tree} {k : Nat} {t : Tree} (h : l[k]? = some t) (A : List OpT) : (opsOf names (l.drop k)).map (A ++ ·) = match opOf names t with
    | none => none
    | some o => (opsOf names (l.drop (k + 1))).map ((A ++ [o]) ++ ·) := by
  have hlt := (List.getElem?_eq_some_iff.1 h).1
  have hd : l.drop k = t :: l.drop (k + 1) := by
    rw [List.drop_eq_getElem_cons hlt]
    congr 1
    rw [List.getElem?_eq_getElem hlt] at h
    exact Option.some.inj h
  rw [hd, opsOf]
  cases opOf names t with
  | none => rfl
  | some o =>
    dsimp only
    cases opsOf names (l.drop (k + 1)) with
    | none => rfl
    | some r => dsimp only [Option.map_some]; rw [List.append_assoc]; rfl
/-- The code of items. -/
def linkOps (codes : List CodeT) (l : List Tree) : List OpT × Int :=
  if (soundC codes && (checkR l && bareTs l)) = true then match opsOf (codes.map (·.name)) l with
    | some ops => (ops, 0)
    | none => ([], 10)
  else ([], 1)
def lopsV (r : List OpT × Int) : AV := .tup [.fz (opsC r.1) r.1.length false, .int .i64 r.2]
structure OpsI where
  k : Nat
  o : Option Nat
  A : List OpT
set_option maxHeartbeats 2000000 in
theorem f_lOps {codes : List CodeT} {l : List Tree} (hcl : codes.length ≤ 1048576) (hcs : ∀ c ∈ codes, CodeIn c) (hc : (Tree.quot l).clean = true) (hs : (Tree.quot l).nmS = true) :
    Av.Fn Tryz.prog 15 [.fz (codesC codes) codes.length false, .fz (itemAVs l) l.length false] (lopsV (linkOps codes l)) := by
  have hA := f_Check codes hcl hcs
  have hB := f_CheckItems hc hs
  have hD := f_tBare hc
  have hP := f_places codes hcl
  unfold linkOps
  cases hsd : soundC codes with
  | false =>
    rw [hsd, if_neg (by simp)] at hA
    refine ACalls.of_W tb_ok (fn := Tryz.f15) (n := 52) (by kernel_rfl) rfl (by kernel_rfl) rfl rfl (by simp) (go ?_)
    refine Fn.use (hA) (go ?_)
    refine VRet.mk [] .nil ?_
    exact ⟨rfl, rfl⟩
  | true =>
  rw [hsd, if_pos (by simp)] at hA
  have hup : ∀ k m, (codes.map (·.name))[k]? = some m → m ∉ (codes.map (·.name)).take k := fun k m h => up_notin (sound_up hsd) h
  have hP := hP hup
  cases hck : checkR l with
  | false =>
    rw [hck, if_neg (by simp)] at hB
    refine ACalls.of_W tb_ok (fn := Tryz.f15) (n := 52) (by kernel_rfl) rfl (by kernel_rfl) rfl rfl (by simp) (go ?_)
    refine Fn.use (hA) (go ?_)
    refine Fn.use (hB) (go ?_)
    refine VRet.mk [] .nil ?_
    exact ⟨rfl, rfl⟩
  | true =>
  rw [hck, if_pos (by simp)] at hB
  cases hbr : bareTs l with
  | false =>
    rw [hbr] at hD
    refine ACalls.of_W tb_ok (fn := Tryz.f15) (n := 52) (by kernel_rfl) rfl (by kernel_rfl) rfl rfl (by simp) (go ?_)
    refine Fn.use (hA) (go ?_)
    refine Fn.use (hB) (go ?_)
    refine Fn.use (hD) (go ?_)
    refine VRet.mk [] .nil ?_
    exact ⟨rfl, rfl⟩
  | true =>
  rw [hbr] at hD
  have hfull : fullAll true l = true := by
    have := meas_full false (.quot l) 1024 0 hck
    rwa [Tree.full] at this
  have hcln : cleanAll l = true := by
    simp only [Tree.clean, Bool.and_eq_true] at hc
    exact hc.2
  obtain ⟨hll, _⟩ := good_check hc hck
  rw [if_pos (by rfl)]
  refine ACalls.of_W tb_ok (fn := Tryz.f15) (n := 52) (by kernel_rfl) rfl (by kernel_rfl) rfl rfl (by simp) (go ?_)
  refine Fn.use (hA) (go ?_)
  refine Fn.use (hB) (go ?_)
  refine Fn.use (hD) (go ?_)
  refine ACalls.use hP (R := []) (List.Perm.refl _) fun out s' hq => ?_
  obtain ⟨bw, bp, rfl, rfl⟩ := hq
  generalize codes.map (·.name) = names at *
  refine go ?_
  refine VLoop.mk [8, 33] OpsI (fun i => [accV i.o i.A.length, .int .i64 i.k]) (fun i => accS i.o 3 (opsC i.A) ++ [(bw, .map (entsN names 0)), (bp, .map (entsN namesL 0))])
    (fun i => i.k ≤ l.length ∧ (i.o = none → i.A = []) ∧ i.A.length = i.k ∧ opsOf names l = (opsOf names (l.drop i.k)).map (i.A ++ ·)) (fun i => l.length - i.k) ⟨0, none, []⟩ ?_ ?_
  · exact ⟨⟨Nat.zero_le _, fun _ => rfl, rfl, by dsimp only; rw [List.drop_zero]; cases opsOf names l <;> rfl⟩, rfl, .cons 0 rfl (.cons 0 rfl .nil)⟩
  rintro ⟨k, o, A⟩ ⟨hk, ho, hA, hI⟩
  dsimp only at hk ho hA hI ⊢
  refine go ?_
  refine fork (fun hlt => go ?_) (fun hlt => ?_)
  · have hlt : k < l.length := by omega
    obtain ⟨t, ht⟩ : ∃ t, l[k]? = some t := ⟨l[k], by simp [hlt]⟩
    rw [opsOf_next ht] at hI
    have hO := f_op (names := names) (bw := bw) (bp := bp) (cleanAll_at hcln ht) (fullAll_at hfull ht)
    refine VNth.mk (itemAV t) (by rw [mulN_eq, itemAVs_map]; simp [ht]) (go ?_)
    refine ACalls.usep hO (R := accS o 3 (opsC A)) List.perm_append_comm fun out s' hq => ?_
    obtain ⟨rfl, rfl⟩ := hq
    cases hx : opOf names t with
    | none =>
      rw [hx] at hI
      unfold opV
      refine go ?_
      refine VAll.mk (fun b11 => go ?_)
      refine VRet.mk [] .nil ?_
      rw [hI]
      exact ⟨rfl, rfl⟩
    | some x =>
      rw [hx] at hI
      unfold opV opC
      obtain ⟨kd, n, v⟩ := x
      have ho1 := valAV_one' v
      dsimp only at hI ⊢
      have hacc : opsC (A ++ [⟨kd, n, v⟩]) = opsC A ++ [.int .i64 kd, .int .i64 n, valAV v] := by simp [opsC, opC]
      cases o with
      | none =>
        obtain rfl : A = [] := ho rfl
        have hk0 : k = 0 := by simpa using hA.symm
        refine go ?_
        refine VAll.mk (fun b11 => go ?_)
        refine VAll.mk (fun b2 => go ?_)
        refine ⟨⟨k + 1, some b2, [⟨kd, n, v⟩]⟩, ⟨by dsimp only; omega, (fun h => by cases h), by rw [hk0]; rfl, hI⟩, by dsimp only; omega, rfl, .cons 0 (congrArg (fun c => some (b2, AObj.arr 3 c 0)) ?_) (.cons 1 rfl (.cons 1 rfl .nil))⟩
        simp [opsC, opC]
      | some bo =>
        refine go ?_
        refine VAll.mk (fun b11 => go ?_)
        refine VGd.mk ⟨rfl, Nat.zero_le _, by rw [mulN_eq, opsC_len]; exact Nat.le_refl _, by show 32 * (A.length + 1) ≤ _; omega⟩ (go ?_)
        refine VAll.mk (fun b2 => go ?_)
        refine ⟨⟨k + 1, some b2, A ++ [⟨kd, n, v⟩]⟩, ⟨by dsimp only; omega, (fun h => by cases h), by rw [List.length_append]; show A.length + 1 = k + 1; omega, hI⟩, by dsimp only; omega, ?_, .cons 0 (congrArg (fun c => some (b2, AObj.arr 3 c 0)) ?_) (.cons 1 rfl (.cons 1 rfl .nil))⟩
        · simp [accV]
        · rw [mulN_eq, List.take_of_length_le (by rw [opsC_len]; exact Nat.le_refl _)]
          exact hacc.symm
  · obtain rfl : k = l.length := by omega
    rw [List.drop_length, opsOf, Option.map_some, List.append_nil] at hI
    rw [hI]
    dsimp only
    unfold lopsV
    cases o with
    | none =>
      obtain rfl : A = [] := ho rfl
      refine go ?_
      refine VRet.mk [] .nil ?_
      exact ⟨rfl, rfl⟩
    | some bo =>
      have htk : (opsC A).take (A.length * 3) = opsC A := List.take_of_length_le (by simp)
      refine go ?_
      refine VRet.mk [] .nil ?_
      rw [htk]
      exact ⟨rfl, rfl⟩
end Go.Proofs.YtonkeklageehbaaGreatDoor

namespace Go.Proofs.YtonkeklageehbaaGreatDoor
open Go Go.Av
@[simp] theorem knC_len (kl : KnL) : (knC kl).length = kl.length * 3 := by
  induction kl with
  | nil => rfl
  | cons x r ih => simp only [knC, List.length_cons, ih]; omega
end Go.Proofs.YtonkeklageehbaaGreatDoor

namespace Go.Proofs.YtonkeklageehbaaGreatDoor
open Go Go.Av
theorem knC_flat : ∀ l : KnL, knC l = l.flatMap fun x => [.str x.1, .int .i64 x.2.1, .int .i64 x.2.2]
  | [] => rfl
  | x :: r => by rw [knC, knC_flat r]; rfl
section
variable {H : Type} {enc : TypeId × Value → H} {W : World}
end
end Go.Proofs.YtonkeklageehbaaGreatDoor
