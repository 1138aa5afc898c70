/- The reference's trees as a row's arguments. Conditions: as each says. Codes and operations of package api out of the reference's, and back. Conditions: as each says. Names in the reference's trees are no longer than memory. Conditions: as each says. Copies of values and items: the walks. Conditions: as each says. link.back, link.Check, term.Bare, prim.Names, prim.Is. Conditions: as each says. link.Check, link.Same. Conditions: as each says. link.Same. Conditions: as each says. The reference's primitives. Conditions: none. Links, the document's answer: which codes are sound, which are the same. Conditions: as each says. -/
import Derived.Test.YtliabblchkgclaaGreatDoorX4
import Derived.Test.YtliabblchkgclaaGreatDoorX10
import Derived.Test.YtliabblchkgclaaGreatDoorX9
set_option linter.all false
set_option maxRecDepth 20000
namespace Go.Proofs.YtliabblchkgclaaGreatDoor
open Go Go.Av
mutual
def RV.bulk : RV → Nat
  | .mk _ _ s l => s.length + bulkAll l + 1
def bulkAll : List RV → Nat
  | [] => 0
  | v :: r => v.bulk + bulkAll r
end
theorem bulkAll_sum : ∀ l : List RV, bulkAll l = (l.map RV.bulk).sum
  | [] => rfl
  | v :: r => by rw [bulkAll, bulkAll_sum r]; rfl
theorem rvsC_flat : ∀ l : List RV, rvsC l = l.flatMap rvAV
  | [] => by simp [rvsC]
  | v :: r => by rw [rvsC, rvsC_flat r]; rfl
theorem inpAll_all {l : List RV} : (∀ v ∈ l, v.inp = true) → inpAll l = true := by
  intro h
  induction l with
  | nil => simp [inpAll]
  | cons v l ih => simp only [inpAll, Bool.and_eq_true]; exact ⟨h v (List.mem_cons_self), ih fun w hw => h w (List.mem_cons_of_mem _ hw)⟩
theorem wf_i64 {n : Int} (h : (Lit.int .i64 n).wf = true) : -9223372036854775808 ≤ n ∧ n ≤ 9223372036854775807 := by
  simp only [Lit.wf, Bool.and_eq_true, decide_eq_true_eq] at h
  rw [show IntKind.i64.min = -9223372036854775808 by decide, show IntKind.i64.max = 9223372036854775807 by decide] at h
  exact h
section
variable {H : Type} {enc : TypeId × Value → H} {W : World}
theorem reads_VL (fuel : Nat) : Reads enc Tryz.prog W 94 fuel rvAV (fun v => v.inp = true) RV.bulk ∧
    Reads enc Tryz.prog W 23 fuel (fun l => [.fz (rvsC l) l.length false]) (fun l => l.length ≤ 2513169434916 ∧ inpAll l = true) (fun l => bulkAll l + 1) := by
  induction fuel with
  | zero => exact ⟨.zero, .zero⟩
  | succ fuel ih =>
    refine ⟨?_, ?_⟩
    · have hf : ReadsF enc Tryz.prog W fuel 0 [⟨"K", 3, 0, false, "", "", 0⟩, ⟨"N", 2, 1, false, "", "", 8⟩, ⟨"S", 9, 2, false, "", "", 16⟩, ⟨"L", 23, 3, false, "", "", 32⟩] (1 + (1 + (1 + (1 + 0)))) _ _ _ :=
        .cons rfl (by kernel_rfl) (reads_int (Tryz.underlying3) fuel) (.cons rfl (by kernel_rfl) (reads_int (Tryz.underlying2) fuel) (.cons rfl (by kernel_rfl) (reads_str (Tryz.underlying9) fuel) (.cons rfl (by kernel_rfl) ih.2 .nil)))
      have h := reads_struct (Tryz.underlying94) (by kernel_rfl) hf
      refine h.map (fun x => .mk x.1 x.2.1 x.2.2.1 x.2.2.2.1) (fun x => ?_) (fun x hx => ?_) (fun x => ?_)
      · simp [rvAV]
      · obtain ⟨h1, h2, h3, ⟨h4, h5⟩, _⟩ := hx
        have h1 := wf_i64 h1
        have h2 := wf_i64 h2
        have h3 : x.2.2.1.length ≤ 140737488351232 := h3
        simp only [RV.inp, h5, Bool.and_true, Bool.and_eq_true, decide_eq_true_eq]
        exact ⟨⟨⟨h1, h2⟩, h3⟩, h4⟩
      · simp only [RV.bulk]; omega
    · have h := reads_slice (Tryz.underlying23) (esz := 4) (by kernel_rfl) (by omega) ih.1 (enc := enc) (W := W)
      refine h.map (fun l => l) (fun l => by rw [rvsC_flat]) (fun l hl => ?_) (fun l => by rw [bulkAll_sum]; exact Nat.le_refl _)
      refine ⟨?_, inpAll_all hl.2⟩
      have h1 := hl.1
      rw [show Tryz.prog.bytesOf 94 = 56 by kernel_rfl, show reachBytes = 140737488351232 by decide] at h1
      omega
theorem arg_struct {P : Program} {W : World} {r : Reach} {base : Nat} {t : TypeId} {fs : Array Field} {v : Value} (hu : P.underlying t = some (.struct fs)) (h : Value.okWide P W r base t v) : ∃ cs, v = .agg cs := by
  unfold Value.okWide at h
  rw [hu] at h
  obtain ⟨cs, e, _⟩ := h
  exact ⟨cs, e⟩
theorem arg_slice {P : Program} {W : World} {r : Reach} {base : Nat} {t e : TypeId} {v : Value} (hu : P.underlying t = some (.slice e)) (h : Value.okWide P W r base t v) : v.cells.toList = [v] ∧ v.oneCell' = true := by
  unfold Value.okWide at h
  rw [hu] at h
  have h : Cell.okWide P W r base t v := h
  unfold Cell.okWide Cell.ok at h
  rw [hu] at h
  cases v <;> first | exact ⟨rfl, rfl⟩ | (exact h.elim)
theorem rel1_of {g : Gh} {c : AV} {v : Value} (h : RelL g true [c] [v]) : Rel g c v := by
  obtain ⟨u, ws, e, ⟨h1, _⟩, _⟩ := h
  injection e with e1 _
  subst e1
  exact h1
theorem relA_of {g : Gh} {C : List AV} {cs : Array Value} (h : RelL g true C (Value.agg cs).cells.toList) : Rel g (.agg C) (.agg cs) := ⟨cs.toList, rfl, h⟩
theorem laid_ok : laidOutB Tryz.prog = true := by kernel_rfl
end
end Go.Proofs.YtliabblchkgclaaGreatDoor

namespace Go.Proofs.YtliabblchkgclaaGreatDoor
open Go Go.Av
theorem flat_drop {α β : Type} (f : α → List β) (c : Nat) (hf : ∀ x, (f x).length = c) : ∀ {l : List α} {k : Nat} {x : α}, l[k]? = some x → (l.flatMap f).drop (mulN k c) = f x ++ (l.drop (k + 1)).flatMap f
  | [], _, _, h => by simp at h
  | y :: l, 0, x, h => by
    simp at h; subst h
    rw [mulN_eq, Nat.zero_mul]; rfl
  | y :: l, k + 1, x, h => by
    have ih := flat_drop f c hf (l := l) (k := k) (x := x) (by simpa using h)
    rw [mulN_eq] at ih ⊢
    rw [List.flatMap_cons, show (k + 1) * c = (f y).length + k * c by rw [hf, Nat.succ_mul]; omega, ← List.drop_drop, List.drop_left]
    exact ih
theorem flat_len {α β : Type} (f : α → List β) (c : Nat) (hf : ∀ x, (f x).length = c) (l : List α) : (l.flatMap f).length = l.length * c := by
  induction l with
  | nil => simp
  | cons x r ih => rw [List.flatMap_cons, List.length_append, hf, ih, List.length_cons, Nat.succ_mul]; omega
theorem opC_len (o : OpT) : (opC o).length = 3 := rfl
theorem ropC_len (o : ROp) : (ropC o).length = 6 := by obtain ⟨k, n, v⟩ := o; obtain ⟨a, b, s, l⟩ := v; simp [ropC, rvAV]
theorem codeC_len (c : CodeT) : (codeC c).length = 2 := rfl
theorem rcodeC_len (c : RCode) : (rcodeC c).length = 2 := rfl
@[simp] theorem opsC_len (l : List OpT) : (opsC l).length = l.length * 3 := flat_len opC 3 opC_len l
@[simp] theorem ropsC_len (l : List ROp) : (ropsC l).length = l.length * 6 := flat_len ropC 6 ropC_len l
@[simp] theorem codesC_len (l : List CodeT) : (codesC l).length = l.length * 2 := flat_len codeC 2 codeC_len l
@[simp] theorem rcodesC_len (l : List RCode) : (rcodesC l).length = l.length * 2 := flat_len rcodeC 2 rcodeC_len l
theorem valT_zero {v : RV} (h : v.knd = 0) : valT v = .none := by
  obtain ⟨k, n, s, l⟩ := v
  have h : k = 0 := h
  subst h
  rw [valT]; simp


set_option maxHeartbeats 1000000 in
theorem f_OpsOf (l : List ROp) (hl : l.length ≤ 1048576) (hv : ∀ o ∈ l, o.v.inp = true) : Av.Fn Tryz.prog 11 [.fz (ropsC l) l.length false] (.fz (opsC (l.map opT)) l.length false) := by
  refine ACalls.of_W tb_ok (fn := Tryz.f11) (n := 42) (by kernel_rfl) rfl (by kernel_rfl) rfl rfl (by simp) (go ?_)
  refine VLoop.mk [3, 4] AccI (fun i => [accV i.o i.k, .int .i64 i.k]) (fun i => accS i.o 3 (opsC ((l.take i.k).map opT))) (fun i => i.k ≤ l.length ∧ (i.o = none → i.k = 0)) (fun i => l.length - i.k) ⟨0, none⟩ ?_ ?_
  · exact ⟨⟨Nat.zero_le _, fun _ => rfl⟩, rfl, .nil⟩
  rintro ⟨k, o⟩ ⟨hk, ho⟩
  dsimp only at hk ho ⊢
  refine go ?_
  refine fork (fun hlt => go ?_) (fun hlt => ?_)
  · have hlt : k < l.length := by omega
    obtain ⟨x, hx⟩ : ∃ x, l[k]? = some x := ⟨l[k], by simp [hlt]⟩
    have hinp := hv x (List.mem_of_getElem? hx)
    have hval := f_Value hinp
    have hd := flat_drop ropC 6 ropC_len hx
    have hacc : opsC ((l.take (k + 1)).map opT) = opsC ((l.take k).map opT) ++ [.int .i64 x.kind, .int .i64 x.n, valAV (valT x.v)] := by
      rw [take_succ_at hx, List.map_append]; simp [opsC, opC, opT]
    have hlen : (opsC ((l.take k).map opT)).length = k * 3 := by rw [opsC_len, List.length_map, List.length_take]; congr 1; omega
    obtain ⟨kd, n, v⟩ := x
    have hz := valT_zero (v := v)
    obtain ⟨a, b, s, q⟩ := v
    have hd : List.drop (mulN k 6) (ropsC l) = [.int .i64 kd, .int .i64 n, .int .i64 a, .int .i64 b, .str s, .fz (rvsC q) q.length false] ++ ropsC (l.drop (k + 1)) := by
      rw [show ropsC l = l.flatMap ropC from rfl, hd]; simp [ropC, rvAV, ropsC]
    have d0 : (List.drop (mulN k 6) (ropsC l))[0]? = some (.int .i64 kd) := by rw [hd]; rfl
    have d1 : (List.drop 1 (List.drop (mulN k 6) (ropsC l)))[0]? = some (.int .i64 n) := by rw [hd]; rfl
    have d2 : (List.drop 2 (List.drop (mulN k 6) (ropsC l)))[0]? = some (.int .i64 a) := by rw [hd]; rfl
    have d3 : (List.drop 2 (List.drop (mulN k 6) (ropsC l))).take 4 = [.int .i64 a, .int .i64 b, .str s, .fz (rvsC q) q.length false] := by rw [hd]; rfl
    rw [rvAV] at hval
    refine VDraw.chain [11, 12] (go ?_)
    apply VQ.mk
    focus (refine go ?_; refine VNth.mk _ d0 (go ?_); exact ⟨rfl, rfl⟩)
    refine go ?_
    apply VQ.mk
    focus (refine go ?_; refine VNth.mk _ d1 (go ?_); exact ⟨rfl, rfl⟩)
    refine go ?_
    refine VAll.mk (fun b5 => go ?_)
    refine VNth.mk _ d2 (go ?_)
    refine fork (fun hK => go ?_) (fun hK => go ?_)
    · refine VTake.mk _ d3 rfl (go ?_)
      refine Fn.use (hval) (go ?_)
      refine VOne.mk (valAV_one' _) (go ?_)
      cases o with
      | none =>
        obtain rfl : k = 0 := ho rfl
        refine go ?_
        refine VAll.mk (fun b6 => go ?_)
        refine ⟨⟨1, some b6⟩, ⟨by dsimp only; omega, by simp⟩, by dsimp only; omega, rfl, .cons 0 (congrArg (fun c => some (b6, AObj.arr 3 c 0)) ?_) .nil⟩
        exact hacc.symm
      | some bo =>
        refine go ?_
        refine VGd.mk ⟨rfl, Nat.zero_le _, by rw [mulN_eq, hlen]; exact Nat.le_refl _, by dsimp only; omega⟩ (go ?_)
        refine VAll.mk (fun b6 => go ?_)
        refine ⟨⟨k + 1, some b6⟩, ⟨by dsimp only; omega, by simp⟩, by dsimp only; omega, rfl, .cons 0 (congrArg (fun c => some (b6, AObj.arr 3 c 0)) ?_) .nil⟩
        rw [mulN_eq, List.take_of_length_le (by rw [hlen]; exact Nat.le_refl _)]
        exact hacc.symm
    · have hK : a = 0 := by simpa using hK
      have hz : valT (.mk a b s q) = .none := hz hK
      rw [hz] at hacc
      cases o with
      | none =>
        obtain rfl : k = 0 := ho rfl
        refine go ?_
        refine VAll.mk (fun b6 => go ?_)
        refine ⟨⟨1, some b6⟩, ⟨by dsimp only; omega, by simp⟩, by dsimp only; omega, rfl, .cons 0 (congrArg (fun c => some (b6, AObj.arr 3 c 0)) ?_) .nil⟩
        exact hacc.symm
      | some bo =>
        refine go ?_
        refine VGd.mk ⟨rfl, Nat.zero_le _, by rw [mulN_eq, hlen]; exact Nat.le_refl _, by dsimp only; omega⟩ (go ?_)
        refine VAll.mk (fun b6 => go ?_)
        refine ⟨⟨k + 1, some b6⟩, ⟨by dsimp only; omega, by simp⟩, by dsimp only; omega, rfl, .cons 0 (congrArg (fun c => some (b6, AObj.arr 3 c 0)) ?_) .nil⟩
        rw [mulN_eq, List.take_of_length_le (by rw [hlen]; exact Nat.le_refl _)]
        exact hacc.symm
  · obtain rfl : k = (l).length := by omega
    rw [List.take_length]
    cases o with
    | none =>
      have h0 := List.length_eq_zero_iff.1 (ho rfl)
      subst h0
      refine go ?_
      refine VRet.mk [] .nil ?_
      exact ⟨rfl, rfl⟩
    | some bo =>
      have htk : (opsC (l.map opT)).take ((l).length * 3) = opsC (l.map opT) := List.take_of_length_le (by simp)
      refine go ?_
      refine VRet.mk [] .nil ?_
      refine ⟨?_, rfl⟩
      rw [htk]
theorem valAV_iface {t : Tree} (h : isSome t = true) (hv : valish t = true) : ∃ u x, valAV t = .iface u x := by
  cases t <;> first
    | (cases h; done)
    | (cases hv; done)
    | exact ⟨_, _, rfl⟩
set_option maxHeartbeats 1000000 in
theorem f_OpTrees (l : List OpT) (hl : l.length ≤ 1048576) (hv : ∀ o ∈ l, o.v.clean = true ∧ valish o.v = true) : Av.Fn Tryz.prog 14 [.fz (opsC l) l.length false] (.fz (ropsC (l.map opR)) l.length false) := by
  refine ACalls.of_W tb_ok (fn := Tryz.f14) (n := 41) (by kernel_rfl) rfl (by kernel_rfl) rfl rfl (by simp) (go ?_)
  refine VLoop.mk [3, 4] AccI (fun i => [accV i.o i.k, .int .i64 i.k]) (fun i => accS i.o 6 (ropsC ((l.take i.k).map opR))) (fun i => i.k ≤ l.length ∧ (i.o = none → i.k = 0)) (fun i => l.length - i.k) ⟨0, none⟩ ?_ ?_
  · exact ⟨⟨Nat.zero_le _, fun _ => rfl⟩, rfl, .nil⟩
  rintro ⟨k, o⟩ ⟨hk, ho⟩
  dsimp only at hk ho ⊢
  refine go ?_
  refine fork (fun hlt => go ?_) (fun hlt => ?_)
  · have hlt : k < l.length := by omega
    obtain ⟨x, hx⟩ : ∃ x, l[k]? = some x := ⟨l[k], by simp [hlt]⟩
    obtain ⟨hcl, hval⟩ := hv x (List.mem_of_getElem? hx)
    have hd := flat_drop opC 3 opC_len hx
    have hacc : ropsC ((l.take (k + 1)).map opR) = ropsC ((l.take k).map opR) ++ ropC (opR x) := by
      rw [take_succ_at hx, List.map_append]; simp [ropsC]
    have hlen : (ropsC ((l.take k).map opR)).length = k * 6 := by rw [ropsC_len, List.length_map, List.length_take]; congr 1; omega
    obtain ⟨kd, n, v⟩ := x
    have hd : List.drop (mulN k 3) (opsC l) = [.int .i64 kd, .int .i64 n, valAV v] ++ opsC (l.drop (k + 1)) := hd
    have d0 : (List.drop (mulN k 3) (opsC l))[0]? = some (.int .i64 kd) := by rw [hd]; rfl
    have d1 : (List.drop 1 (List.drop (mulN k 3) (opsC l)))[0]? = some (.int .i64 n) := by rw [hd]; rfl
    have d2 : (List.drop 2 (List.drop (mulN k 3) (opsC l)))[0]? = some (valAV v) := by rw [hd]; rfl
    dsimp only at hcl hval
    refine VDraw.chain [11, 12] (go ?_)
    apply VQ.mk
    focus (refine go ?_; refine VNth.mk _ d0 (go ?_); exact ⟨rfl, rfl⟩)
    refine go ?_
    apply VQ.mk
    focus (refine go ?_; refine VNth.mk _ d1 (go ?_); exact ⟨rfl, rfl⟩)
    refine go ?_
    refine VAll.mk (fun b5 => go ?_)
    refine VNth.mk _ d2 ?_
    cases hs : isSome v with
    | true =>
      have hT := f_Tree hcl
      obtain ⟨u, y, hy⟩ := valAV_iface hs hval
      have hR : vRV v = valRV v := vRV_some hs
      rw [show opR ⟨kd, n, v⟩ = ⟨kd, n, vRV v⟩ from rfl, hR] at hacc
      rw [hy] at d2 hT ⊢
      generalize valRV v = r at hT hacc
      obtain ⟨a, b, s, q⟩ := r
      rw [rvAV] at hT
      have hacc : ropsC ((l.take (k + 1)).map opR) = ropsC ((l.take k).map opR) ++ [.int .i64 kd, .int .i64 n, .int .i64 a, .int .i64 b, .str s, .fz (rvsC q) q.length false] := by
        rw [hacc]; simp [ropC, rvAV]
      refine go ?_
      refine VNth.mk _ d2 (go ?_)
      refine Fn.use (hT) (go ?_)
      cases o with
      | none =>
        obtain rfl : k = 0 := ho rfl
        refine go ?_
        refine VAll.mk (fun b6 => go ?_)
        refine ⟨⟨1, some b6⟩, ⟨by dsimp only; omega, by simp⟩, by dsimp only; omega, rfl, .cons 0 (congrArg (fun c => some (b6, AObj.arr 6 c 0)) ?_) .nil⟩
        exact hacc.symm
      | some bo =>
        refine go ?_
        refine VGd.mk ⟨rfl, Nat.zero_le _, by rw [mulN_eq, hlen]; exact Nat.le_refl _, by dsimp only; omega⟩ (go ?_)
        refine VAll.mk (fun b6 => go ?_)
        refine ⟨⟨k + 1, some b6⟩, ⟨by dsimp only; omega, by simp⟩, by dsimp only; omega, rfl, .cons 0 (congrArg (fun c => some (b6, AObj.arr 6 c 0)) ?_) .nil⟩
        rw [mulN_eq, List.take_of_length_le (by rw [hlen]; exact Nat.le_refl _)]
        exact hacc.symm
    | false =>
      have hn : v = .none := by cases v <;> first | rfl | (cases hs; done)
      subst hn
      have hacc : ropsC ((l.take (k + 1)).map opR) = ropsC ((l.take k).map opR) ++ [.int .i64 kd, .int .i64 n, .int .i64 0, .int .i64 0, .str [], .fz [] 0 false] := by
        rw [hacc]; simp [ropC, opR, vRV, rvAV, rvsC]
      refine go ?_
      cases o with
      | none =>
        obtain rfl : k = 0 := ho rfl
        refine go ?_
        refine VAll.mk (fun b6 => go ?_)
        refine ⟨⟨1, some b6⟩, ⟨by dsimp only; omega, by simp⟩, by dsimp only; omega, rfl, .cons 0 (congrArg (fun c => some (b6, AObj.arr 6 c 0)) ?_) .nil⟩
        exact hacc.symm
      | some bo =>
        refine go ?_
        refine VGd.mk ⟨rfl, Nat.zero_le _, by rw [mulN_eq, hlen]; exact Nat.le_refl _, by dsimp only; omega⟩ (go ?_)
        refine VAll.mk (fun b6 => go ?_)
        refine ⟨⟨k + 1, some b6⟩, ⟨by dsimp only; omega, by simp⟩, by dsimp only; omega, rfl, .cons 0 (congrArg (fun c => some (b6, AObj.arr 6 c 0)) ?_) .nil⟩
        rw [mulN_eq, List.take_of_length_le (by rw [hlen]; exact Nat.le_refl _)]
        exact hacc.symm
  · obtain rfl : k = (l).length := by omega
    rw [List.take_length]
    cases o with
    | none =>
      have h0 := List.length_eq_zero_iff.1 (ho rfl)
      subst h0
      refine go ?_
      refine VRet.mk [] .nil ?_
      exact ⟨rfl, rfl⟩
    | some bo =>
      have htk : (ropsC (l.map opR)).take ((l).length * 6) = ropsC (l.map opR) := List.take_of_length_le (by simp)
      refine go ?_
      refine VRet.mk [] .nil ?_
      refine ⟨?_, rfl⟩
      rw [htk]
/-- A code of the reference's that is no larger than the second form lets in. -/
structure RCodeIn (c : RCode) : Prop where
  ops : c.ops.length ≤ 1048576
  name : c.name.length ≤ 1048576
  inp : ∀ o ∈ c.ops, o.v.inp = true
set_option maxHeartbeats 1000000 in
theorem f_Api (l : List RCode) (hl : l.length ≤ 1048576) (hv : ∀ c ∈ l, RCodeIn c) : Av.Fn Tryz.prog 9 [.fz (rcodesC l) l.length false] (.fz (codesC (l.map codeT)) l.length false) := by
  refine ACalls.of_W tb_ok (fn := Tryz.f9) (n := 27) (by kernel_rfl) rfl (by kernel_rfl) rfl rfl (by simp) (go ?_)
  refine VLoop.mk [3, 4] AccI (fun i => [accV i.o i.k, .int .i64 i.k]) (fun i => accS i.o 2 (codesC ((l.take i.k).map codeT))) (fun i => i.k ≤ l.length ∧ (i.o = none → i.k = 0)) (fun i => l.length - i.k) ⟨0, none⟩ ?_ ?_
  · exact ⟨⟨Nat.zero_le _, fun _ => rfl⟩, rfl, .nil⟩
  rintro ⟨k, o⟩ ⟨hk, ho⟩
  dsimp only at hk ho ⊢
  refine go ?_
  refine fork (fun hlt => go ?_) (fun hlt => ?_)
  · have hlt : k < l.length := by omega
    obtain ⟨x, hx⟩ : ∃ x, l[k]? = some x := ⟨l[k], by simp [hlt]⟩
    obtain ⟨h1, _, h2⟩ := hv x (List.mem_of_getElem? hx)
    have hO := f_OpsOf x.ops h1 h2
    have hd := flat_drop rcodeC 2 rcodeC_len hx
    have hacc : codesC ((l.take (k + 1)).map codeT) = codesC ((l.take k).map codeT) ++ [.str x.name, .fz (opsC (x.ops.map opT)) x.ops.length false] := by
      rw [take_succ_at hx, List.map_append]; simp [codesC, codeC, codeT]
    have hlen : (codesC ((l.take k).map codeT)).length = k * 2 := by rw [codesC_len, List.length_map, List.length_take]; congr 1; omega
    obtain ⟨nm, ops⟩ := x
    have hd : List.drop (mulN k 2) (rcodesC l) = [.str nm, .fz (ropsC ops) ops.length false] ++ rcodesC (l.drop (k + 1)) := hd
    have d0 : (List.drop (mulN k 2) (rcodesC l))[0]? = some (.str nm) := by rw [hd]; rfl
    have d1 : (List.drop 1 (List.drop (mulN k 2) (rcodesC l)))[0]? = some (.fz (ropsC ops) ops.length false) := by rw [hd]; rfl
    refine VDraw.chain [14, 15] (go ?_)
    apply VQ.mk
    focus (refine go ?_; refine VNth.mk _ d0 (go ?_); exact ⟨rfl, rfl⟩)
    refine go ?_
    apply VQ.mk
    focus (refine go ?_; refine VNth.mk _ d1 (go ?_); exact ⟨rfl, rfl⟩)
    refine go ?_
    apply VQ.mk
    focus (refine go ?_; refine Fn.use hO (go ?_); exact ⟨rfl, rfl⟩)
    cases o with
    | none =>
      obtain rfl : k = 0 := ho rfl
      refine go ?_
      refine VAll.mk (fun b6 => go ?_)
      refine ⟨⟨1, some b6⟩, ⟨by dsimp only; omega, by simp⟩, by dsimp only; omega, rfl, .cons 0 (congrArg (fun c => some (b6, AObj.arr 2 c 0)) ?_) .nil⟩
      exact hacc.symm
    | some bo =>
      refine go ?_
      refine VGd.mk ⟨rfl, Nat.zero_le _, by rw [mulN_eq, hlen]; exact Nat.le_refl _, by dsimp only; omega⟩ (go ?_)
      refine VAll.mk (fun b6 => go ?_)
      refine ⟨⟨k + 1, some b6⟩, ⟨by dsimp only; omega, by simp⟩, by dsimp only; omega, rfl, .cons 0 (congrArg (fun c => some (b6, AObj.arr 2 c 0)) ?_) .nil⟩
      rw [mulN_eq, List.take_of_length_le (by rw [hlen]; exact Nat.le_refl _)]
      exact hacc.symm
  · obtain rfl : k = (l).length := by omega
    rw [List.take_length]
    cases o with
    | none =>
      have h0 := List.length_eq_zero_iff.1 (ho rfl)
      subst h0
      refine go ?_
      refine VRet.mk [] .nil ?_
      exact ⟨rfl, rfl⟩
    | some bo =>
      have htk : (codesC (l.map codeT)).take ((l).length * 2) = codesC (l.map codeT) := List.take_of_length_le (by simp)
      refine go ?_
      refine VRet.mk [] .nil ?_
      refine ⟨?_, rfl⟩
      rw [htk]
set_option maxHeartbeats 1000000 in
theorem f_Of18 (l : List CodeT) (hl : l.length ≤ 1048576) (hv : ∀ c ∈ l, c.ops.length ≤ 1048576 ∧ ∀ o ∈ c.ops, o.v.clean = true ∧ valish o.v = true) : Av.Fn Tryz.prog 12 [.fz (codesC l) l.length false] (.fz (rcodesC (l.map codeR)) l.length false) := by
  refine ACalls.of_W tb_ok (fn := Tryz.f12) (n := 27) (by kernel_rfl) rfl (by kernel_rfl) rfl rfl (by simp) (go ?_)
  refine VLoop.mk [3, 4] AccI (fun i => [accV i.o i.k, .int .i64 i.k]) (fun i => accS i.o 2 (rcodesC ((l.take i.k).map codeR))) (fun i => i.k ≤ l.length ∧ (i.o = none → i.k = 0)) (fun i => l.length - i.k) ⟨0, none⟩ ?_ ?_
  · exact ⟨⟨Nat.zero_le _, fun _ => rfl⟩, rfl, .nil⟩
  rintro ⟨k, o⟩ ⟨hk, ho⟩
  dsimp only at hk ho ⊢
  refine go ?_
  refine fork (fun hlt => go ?_) (fun hlt => ?_)
  · have hlt : k < l.length := by omega
    obtain ⟨x, hx⟩ : ∃ x, l[k]? = some x := ⟨l[k], by simp [hlt]⟩
    obtain ⟨h1, h2⟩ := hv x (List.mem_of_getElem? hx)
    have hO := f_OpTrees x.ops h1 h2
    have hd := flat_drop codeC 2 codeC_len hx
    have hacc : rcodesC ((l.take (k + 1)).map codeR) = rcodesC ((l.take k).map codeR) ++ [.str x.name, .fz (ropsC (x.ops.map opR)) x.ops.length false] := by
      rw [take_succ_at hx, List.map_append]; simp [rcodesC, rcodeC, codeR]
    have hlen : (rcodesC ((l.take k).map codeR)).length = k * 2 := by rw [rcodesC_len, List.length_map, List.length_take]; congr 1; omega
    obtain ⟨nm, ops⟩ := x
    have hd : List.drop (mulN k 2) (codesC l) = [.str nm, .fz (opsC ops) ops.length false] ++ codesC (l.drop (k + 1)) := hd
    have d0 : (List.drop (mulN k 2) (codesC l))[0]? = some (.str nm) := by rw [hd]; rfl
    have d1 : (List.drop 1 (List.drop (mulN k 2) (codesC l)))[0]? = some (.fz (opsC ops) ops.length false) := by rw [hd]; rfl
    refine VDraw.chain [14, 15] (go ?_)
    apply VQ.mk
    focus (refine go ?_; refine VNth.mk _ d0 (go ?_); exact ⟨rfl, rfl⟩)
    refine go ?_
    apply VQ.mk
    focus (refine go ?_; refine VNth.mk _ d1 (go ?_); exact ⟨rfl, rfl⟩)
    refine go ?_
    apply VQ.mk
    focus (refine go ?_; refine Fn.use hO (go ?_); exact ⟨rfl, rfl⟩)
    cases o with
    | none =>
      obtain rfl : k = 0 := ho rfl
      refine go ?_
      refine VAll.mk (fun b6 => go ?_)
      refine ⟨⟨1, some b6⟩, ⟨by dsimp only; omega, by simp⟩, by dsimp only; omega, rfl, .cons 0 (congrArg (fun c => some (b6, AObj.arr 2 c 0)) ?_) .nil⟩
      exact hacc.symm
    | some bo =>
      refine go ?_
      refine VGd.mk ⟨rfl, Nat.zero_le _, by rw [mulN_eq, hlen]; exact Nat.le_refl _, by dsimp only; omega⟩ (go ?_)
      refine VAll.mk (fun b6 => go ?_)
      refine ⟨⟨k + 1, some b6⟩, ⟨by dsimp only; omega, by simp⟩, by dsimp only; omega, rfl, .cons 0 (congrArg (fun c => some (b6, AObj.arr 2 c 0)) ?_) .nil⟩
      rw [mulN_eq, List.take_of_length_le (by rw [hlen]; exact Nat.le_refl _)]
      exact hacc.symm
  · obtain rfl : k = (l).length := by omega
    rw [List.take_length]
    cases o with
    | none =>
      have h0 := List.length_eq_zero_iff.1 (ho rfl)
      subst h0
      refine go ?_
      refine VRet.mk [] .nil ?_
      exact ⟨rfl, rfl⟩
    | some bo =>
      have htk : (rcodesC (l.map codeR)).take ((l).length * 2) = rcodesC (l.map codeR) := List.take_of_length_le (by simp)
      refine go ?_
      refine VRet.mk [] .nil ?_
      refine ⟨?_, rfl⟩
      rw [htk]
end Go.Proofs.YtliabblchkgclaaGreatDoor

namespace Go.Proofs.YtliabblchkgclaaGreatDoor
open Go Go.Av
mutual
theorem inp_nmS : ∀ v : RV, v.inp = true → (valT v).nmS = true
  | .mk k n s l, h => by
    simp only [RV.inp, Bool.and_eq_true, decide_eq_true_eq] at h
    rw [valT]
    repeat' split
    all_goals first
    | rfl
    | (rw [Tree.nmS]; first | exact inp_nmSV l h.2 | exact inp_nmSI l h.2)
theorem inp_nmSV : ∀ l : List RV, inpAll l = true → nmSAll (valTs l) = true
  | [], _ => by simp [valTs, nmSAll]
  | v :: r, h => by
    simp only [inpAll, Bool.and_eq_true] at h
    simp only [valTs, nmSAll, Bool.and_eq_true]
    exact ⟨inp_nmS v h.1, inp_nmSV r h.2⟩
theorem inp_nmSI : ∀ l : List RV, inpAll l = true → nmSAll (itemTs l) = true
  | [], _ => by simp [itemTs, nmSAll]
  | v :: r, h => by
    simp only [inpAll, Bool.and_eq_true] at h
    rw [itemTs]
    simp only [nmSAll, Bool.and_eq_true]
    refine ⟨?_, inp_nmSI r h.2⟩
    split
    · obtain ⟨k, n, s, l⟩ := v
      simp only [RV.inp, Bool.and_eq_true, decide_eq_true_eq] at h
      rw [Tree.nmS]
      exact decide_eq_true (by show s.length ≤ _; omega)
    · exact inp_nmS v h.1
end
end Go.Proofs.YtliabblchkgclaaGreatDoor

namespace Go.Proofs.YtliabblchkgclaaGreatDoor
open Go Go.Av



theorem f_CloneL (l : List Tree) (h : ∀ (i : Nat) t, l[i]? = some t → Av.Fn Tryz.prog 66 [valAV t] (valAV t)) (hl : l.length ≤ 2513169434916) :
    Av.Fn Tryz.prog 66 [.iface 74 (.agg [.fz (valAVs l) l.length false])] (.iface 74 (.agg [.fz (valAVs l) l.length false])) := by
  refine ACalls.thaw (ACalls.of_W tb_ok (fn := Tryz.f66) (n := 37) (by kernel_rfl) rfl (by kernel_rfl) rfl rfl (by simp) (go ?_))
  refine VAll.mk (fun b => go ?_)
  refine VLoop.mk [4, 15] AccI (fun i => [accV i.o i.k, .int .i64 i.k]) (fun i => accS i.o 1 (valAVs (l.take i.k))) (fun i => i.k ≤ l.length ∧ (i.o = none → i.k = 0)) (fun i => l.length - i.k) ⟨0, none⟩ ?_ ?_
  · exact ⟨⟨by simp, by simp⟩, rfl, .nil⟩
  rintro ⟨k, o⟩ ⟨hk, ho⟩
  dsimp only at hk ho ⊢
  refine go ?_
  refine fork (fun hlt => go ?_) (fun hlt => ?_)
  · have hlt : k < l.length := by omega
    obtain ⟨t, ht⟩ : ∃ t, l[k]? = some t := ⟨l[k], by simp [hlt]⟩
    have hacc : valAVs (l.take (k + 1)) = valAVs (l.take k) ++ [valAV t] := by
      rw [take_succ_at ht]; simp [valAVs_map]
    have hlen : (valAVs (l.take k)).length = k := by simp; omega
    refine VNth.mk (valAV t) (by simp [mulN_eq, valAVs_map, ht]) (go ?_)
    refine Fn.use (h k t ht) (go ?_)
    cases o with
    | none =>
      obtain rfl : k = 0 := ho rfl
      refine go ?_
      refine VOne.mk (valAV_one' _) (go ?_)
      refine VAll.mk (fun b2 => go ?_)
      refine ⟨⟨1, some b2⟩, ⟨by dsimp only; omega, by simp⟩, by dsimp only; omega, rfl, .cons 0 ?_ .nil⟩
      dsimp only
      rw [hacc]; simp [valAVs_map]
    | some bo =>
      refine go ?_
      refine VOne.mk (valAV_one' _) (go ?_)
      refine VGd.mk ⟨rfl, by omega, by rw [mulN_eq, hlen]; simp, by simp; omega⟩ (go ?_)
      refine VAll.mk (fun b2 => go ?_)
      refine ⟨⟨k + 1, some b2⟩, ⟨by dsimp only; omega, by simp⟩, by dsimp only; omega, rfl, .cons 0 ?_ .nil⟩
      dsimp only
      rw [hacc, mulN_eq, List.take_of_length_le (by rw [hlen]; simp)]; rfl
  · obtain rfl : k = l.length := by omega
    rw [List.take_length]
    cases o with
    | none =>
      have := ho rfl
      obtain rfl : l = [] := List.length_eq_zero_iff.1 this
      refine go ?_
      refine VRet.mk [] .nil ?_
      exact ⟨_, _, .same _ _, by simp [valAVs], rfl⟩
    | some bo =>
      refine go ?_
      refine VRet.mk [] .nil ?_
      exact ⟨_, _, .same _ _, by simp [List.take_of_length_le], rfl⟩


theorem f_CloneItems' (l : List Tree) (hodd : ∀ t ∈ l, ∀ u v, t ≠ .odd u v) (h : ∀ (i : Nat) t, l[i]? = some t → Av.Fn Tryz.prog 66 [valAV t] (valAV t)) (hl : l.length ≤ 2513169434916) :
    Av.Fn Tryz.prog 43 [.fz (itemAVs l) l.length false] (.fz (itemAVs l) l.length false) := by
  refine ACalls.of_W tb_ok (fn := Tryz.f43) (n := 31) (by kernel_rfl) rfl (by kernel_rfl) rfl rfl (by simp) (go ?_)
  refine VLoop.mk [3, 10] AccI (fun i => [accV i.o i.k, .int .i64 i.k]) (fun i => accS i.o 1 (itemAVs (l.take i.k))) (fun i => i.k ≤ l.length ∧ (i.o = none → i.k = 0)) (fun i => l.length - i.k) ⟨0, none⟩ ?_ ?_
  · exact ⟨⟨by simp, by simp⟩, rfl, .nil⟩
  rintro ⟨k, o⟩ ⟨hk, ho⟩
  dsimp only at hk ho ⊢
  refine go ?_
  refine fork (fun hlt => go ?_) (fun hlt => ?_)
  · have hlt : k < l.length := by omega
    obtain ⟨t, ht⟩ : ∃ t, l[k]? = some t := ⟨l[k], by simp [hlt]⟩
    have hacc : itemAVs (l.take (k + 1)) = itemAVs (l.take k) ++ [itemAV t] := by
      rw [take_succ_at ht]; simp [itemAVs_map]
    have hlen : (itemAVs (l.take k)).length = k := by simp; omega
    refine VNth.mk (itemAV t) (by simp [mulN_eq, itemAVs_map, ht]) (go ?_)
    have hc := h k t ht
    cases t with
    | none =>
      refine go ?_
      refine VAll.mk (fun b1 => go ?_)
      cases o with
      | none =>
        obtain rfl : k = 0 := ho rfl
        refine go ?_
        skip
        refine VAll.mk (fun b2 => go ?_)
        refine ⟨⟨1, some b2⟩, ⟨by dsimp only; omega, by simp⟩, by dsimp only; omega, rfl, .cons 0 ?_ .nil⟩
        dsimp only
        rw [hacc]; simp [itemAVs_map]
      | some bo =>
        refine go ?_
        skip
        refine VGd.mk ⟨rfl, by omega, by rw [mulN_eq, hlen]; simp, by simp; omega⟩ (go ?_)
        refine VAll.mk (fun b2 => go ?_)
        refine ⟨⟨k + 1, some b2⟩, ⟨by dsimp only; omega, by simp⟩, by dsimp only; omega, rfl, .cons 0 ?_ .nil⟩
        dsimp only
        rw [hacc, mulN_eq, List.take_of_length_le (by rw [hlen]; simp)]; rfl
    | call s =>
      refine go ?_
      refine VAll.mk (fun b1 => go ?_)
      cases o with
      | none =>
        obtain rfl : k = 0 := ho rfl
        refine go ?_
        skip
        refine VAll.mk (fun b2 => go ?_)
        refine ⟨⟨1, some b2⟩, ⟨by dsimp only; omega, by simp⟩, by dsimp only; omega, rfl, .cons 0 ?_ .nil⟩
        dsimp only
        rw [hacc]; simp [itemAVs_map]
      | some bo =>
        refine go ?_
        skip
        refine VGd.mk ⟨rfl, by omega, by rw [mulN_eq, hlen]; simp, by simp; omega⟩ (go ?_)
        refine VAll.mk (fun b2 => go ?_)
        refine ⟨⟨k + 1, some b2⟩, ⟨by dsimp only; omega, by simp⟩, by dsimp only; omega, rfl, .cons 0 ?_ .nil⟩
        dsimp only
        rw [hacc, mulN_eq, List.take_of_length_le (by rw [hlen]; simp)]; rfl
    | odd u v => exact (hodd _ (List.mem_of_getElem? ht) u v rfl).elim
    | int n =>
      rw [show itemAV (.int n) = .iface 138 (.agg [valAV (.int n)]) from rfl] at hacc ⊢
      have hone := valAV_one' (.int n)
      generalize valAV (.int n) = w at hc hacc hone ⊢
      refine go ?_
      refine VAll.mk (fun b1 => go ?_)
      refine Fn.use (hc) (go ?_)
      refine VOne.mk hone (go ?_)
      cases o with
      | none =>
        obtain rfl : k = 0 := ho rfl
        refine go ?_
        skip
        refine VAll.mk (fun b2 => go ?_)
        refine ⟨⟨1, some b2⟩, ⟨by dsimp only; omega, by simp⟩, by dsimp only; omega, rfl, .cons 0 ?_ .nil⟩
        dsimp only
        rw [hacc]; simp [itemAVs_map]
      | some bo =>
        refine go ?_
        skip
        refine VGd.mk ⟨rfl, by omega, by rw [mulN_eq, hlen]; simp, by simp; omega⟩ (go ?_)
        refine VAll.mk (fun b2 => go ?_)
        refine ⟨⟨k + 1, some b2⟩, ⟨by dsimp only; omega, by simp⟩, by dsimp only; omega, rfl, .cons 0 ?_ .nil⟩
        dsimp only
        rw [hacc, mulN_eq, List.take_of_length_le (by rw [hlen]; simp)]; rfl
    | str n =>
      rw [show itemAV (.str n) = .iface 138 (.agg [valAV (.str n)]) from rfl] at hacc ⊢
      have hone := valAV_one' (.str n)
      generalize valAV (.str n) = w at hc hacc hone ⊢
      refine go ?_
      refine VAll.mk (fun b1 => go ?_)
      refine Fn.use (hc) (go ?_)
      refine VOne.mk hone (go ?_)
      cases o with
      | none =>
        obtain rfl : k = 0 := ho rfl
        refine go ?_
        skip
        refine VAll.mk (fun b2 => go ?_)
        refine ⟨⟨1, some b2⟩, ⟨by dsimp only; omega, by simp⟩, by dsimp only; omega, rfl, .cons 0 ?_ .nil⟩
        dsimp only
        rw [hacc]; simp [itemAVs_map]
      | some bo =>
        refine go ?_
        skip
        refine VGd.mk ⟨rfl, by omega, by rw [mulN_eq, hlen]; simp, by simp; omega⟩ (go ?_)
        refine VAll.mk (fun b2 => go ?_)
        refine ⟨⟨k + 1, some b2⟩, ⟨by dsimp only; omega, by simp⟩, by dsimp only; omega, rfl, .cons 0 ?_ .nil⟩
        dsimp only
        rw [hacc, mulN_eq, List.take_of_length_le (by rw [hlen]; simp)]; rfl
    | bool n =>
      rw [show itemAV (.bool n) = .iface 138 (.agg [valAV (.bool n)]) from rfl] at hacc ⊢
      have hone := valAV_one' (.bool n)
      generalize valAV (.bool n) = w at hc hacc hone ⊢
      refine go ?_
      refine VAll.mk (fun b1 => go ?_)
      refine Fn.use (hc) (go ?_)
      refine VOne.mk hone (go ?_)
      cases o with
      | none =>
        obtain rfl : k = 0 := ho rfl
        refine go ?_
        skip
        refine VAll.mk (fun b2 => go ?_)
        refine ⟨⟨1, some b2⟩, ⟨by dsimp only; omega, by simp⟩, by dsimp only; omega, rfl, .cons 0 ?_ .nil⟩
        dsimp only
        rw [hacc]; simp [itemAVs_map]
      | some bo =>
        refine go ?_
        skip
        refine VGd.mk ⟨rfl, by omega, by rw [mulN_eq, hlen]; simp, by simp; omega⟩ (go ?_)
        refine VAll.mk (fun b2 => go ?_)
        refine ⟨⟨k + 1, some b2⟩, ⟨by dsimp only; omega, by simp⟩, by dsimp only; omega, rfl, .cons 0 ?_ .nil⟩
        dsimp only
        rw [hacc, mulN_eq, List.take_of_length_le (by rw [hlen]; simp)]; rfl
    | list n =>
      rw [show itemAV (.list n) = .iface 138 (.agg [valAV (.list n)]) from rfl] at hacc ⊢
      have hone := valAV_one' (.list n)
      generalize valAV (.list n) = w at hc hacc hone ⊢
      refine go ?_
      refine VAll.mk (fun b1 => go ?_)
      refine Fn.use (hc) (go ?_)
      refine VOne.mk hone (go ?_)
      cases o with
      | none =>
        obtain rfl : k = 0 := ho rfl
        refine go ?_
        skip
        refine VAll.mk (fun b2 => go ?_)
        refine ⟨⟨1, some b2⟩, ⟨by dsimp only; omega, by simp⟩, by dsimp only; omega, rfl, .cons 0 ?_ .nil⟩
        dsimp only
        rw [hacc]; simp [itemAVs_map]
      | some bo =>
        refine go ?_
        skip
        refine VGd.mk ⟨rfl, by omega, by rw [mulN_eq, hlen]; simp, by simp; omega⟩ (go ?_)
        refine VAll.mk (fun b2 => go ?_)
        refine ⟨⟨k + 1, some b2⟩, ⟨by dsimp only; omega, by simp⟩, by dsimp only; omega, rfl, .cons 0 ?_ .nil⟩
        dsimp only
        rw [hacc, mulN_eq, List.take_of_length_le (by rw [hlen]; simp)]; rfl
    | quot n =>
      rw [show itemAV (.quot n) = .iface 138 (.agg [valAV (.quot n)]) from rfl] at hacc ⊢
      have hone := valAV_one' (.quot n)
      generalize valAV (.quot n) = w at hc hacc hone ⊢
      refine go ?_
      refine VAll.mk (fun b1 => go ?_)
      refine Fn.use (hc) (go ?_)
      refine VOne.mk hone (go ?_)
      cases o with
      | none =>
        obtain rfl : k = 0 := ho rfl
        refine go ?_
        skip
        refine VAll.mk (fun b2 => go ?_)
        refine ⟨⟨1, some b2⟩, ⟨by dsimp only; omega, by simp⟩, by dsimp only; omega, rfl, .cons 0 ?_ .nil⟩
        dsimp only
        rw [hacc]; simp [itemAVs_map]
      | some bo =>
        refine go ?_
        skip
        refine VGd.mk ⟨rfl, by omega, by rw [mulN_eq, hlen]; simp, by simp; omega⟩ (go ?_)
        refine VAll.mk (fun b2 => go ?_)
        refine ⟨⟨k + 1, some b2⟩, ⟨by dsimp only; omega, by simp⟩, by dsimp only; omega, rfl, .cons 0 ?_ .nil⟩
        dsimp only
        rw [hacc, mulN_eq, List.take_of_length_le (by rw [hlen]; simp)]; rfl
    | box n =>
      rw [show itemAV (.box n) = .iface 138 (.agg [valAV (.box n)]) from rfl] at hacc ⊢
      have hone := valAV_one' (.box n)
      generalize valAV (.box n) = w at hc hacc hone ⊢
      refine go ?_
      refine VAll.mk (fun b1 => go ?_)
      refine Fn.use (hc) (go ?_)
      refine VOne.mk hone (go ?_)
      cases o with
      | none =>
        obtain rfl : k = 0 := ho rfl
        refine go ?_
        skip
        refine VAll.mk (fun b2 => go ?_)
        refine ⟨⟨1, some b2⟩, ⟨by dsimp only; omega, by simp⟩, by dsimp only; omega, rfl, .cons 0 ?_ .nil⟩
        dsimp only
        rw [hacc]; simp [itemAVs_map]
      | some bo =>
        refine go ?_
        skip
        refine VGd.mk ⟨rfl, by omega, by rw [mulN_eq, hlen]; simp, by simp; omega⟩ (go ?_)
        refine VAll.mk (fun b2 => go ?_)
        refine ⟨⟨k + 1, some b2⟩, ⟨by dsimp only; omega, by simp⟩, by dsimp only; omega, rfl, .cons 0 ?_ .nil⟩
        dsimp only
        rw [hacc, mulN_eq, List.take_of_length_le (by rw [hlen]; simp)]; rfl
  · obtain rfl : k = l.length := by omega
    rw [List.take_length]
    cases o with
    | none =>
      have := ho rfl
      obtain rfl : l = [] := List.length_eq_zero_iff.1 this
      refine go ?_
      refine VRet.mk [] .nil ?_
      exact ⟨by simp [itemAVs], rfl⟩
    | some bo =>
      refine go ?_
      refine VRet.mk [] .nil ?_
      exact ⟨by simp [List.take_of_length_le], rfl⟩
theorem clean_odd {l : List Tree} (h : cleanAll l = true) : ∀ t ∈ l, ∀ u v, t ≠ .odd u v := by
  intro t ht u v e
  obtain ⟨i, hi⟩ := List.getElem?_of_mem ht
  have := cleanAll_at h hi
  subst e
  simp [Tree.clean] at this
theorem f_Clone' (n : Nat) : ∀ t : Tree, t.clean = true → t.depth ≤ n → Av.Fn Tryz.prog 66 [valAV t] (valAV t) := by
  induction n with
  | zero =>
    intro t hc hd
    cases t with
    | odd => simp [Tree.clean] at hc
    | list l => simp [Tree.depth] at hd
    | quot l => simp [Tree.depth] at hd
    | _ =>
      simp only [valAV]
      refine ACalls.of_W tb_ok (fn := Tryz.f66) (n := 37) (by kernel_rfl) rfl (by kernel_rfl) rfl rfl (by simp) (go ?_)
      refine VRet.mk [] .nil ?_
      exact ⟨rfl, rfl⟩
  | succ n ih =>
    intro t hc hd
    cases t with
    | odd => simp [Tree.clean] at hc
    | list l =>
      simp only [Tree.clean, Bool.and_eq_true, decide_eq_true_eq] at hc
      rw [Tree.depth] at hd
      simp only [valAV]
      exact f_CloneL l (fun i t ht => ih t (cleanAll_at hc.2 ht) (by have := depthAll_at ht; omega)) hc.1
    | quot l =>
      simp only [Tree.clean, Bool.and_eq_true, decide_eq_true_eq] at hc
      rw [Tree.depth] at hd
      simp only [valAV]
      have hi := f_CloneItems' l (clean_odd hc.2) (fun i t ht => ih t (cleanAll_at hc.2 ht) (by have := depthAll_at ht; omega)) hc.1
      refine ACalls.of_W tb_ok (fn := Tryz.f66) (n := 37) (by kernel_rfl) rfl (by kernel_rfl) rfl rfl (by simp) (go ?_)
      refine VAll.mk (fun b => go ?_)
      refine Fn.use (hi) (go ?_)
      refine VRet.mk [] .nil ?_
      exact ⟨rfl, rfl⟩
    | _ =>
      simp only [valAV]
      refine ACalls.of_W tb_ok (fn := Tryz.f66) (n := 37) (by kernel_rfl) rfl (by kernel_rfl) rfl rfl (by simp) (go ?_)
      refine VRet.mk [] .nil ?_
      exact ⟨rfl, rfl⟩
theorem f_Clone {t : Tree} (h : t.clean = true) : Av.Fn Tryz.prog 66 [valAV t] (valAV t) := f_Clone' t.depth t h (Nat.le_refl _)
theorem f_CloneItems {l : List Tree} (h : cleanAll l = true) (hl : l.length ≤ 2513169434916) : Av.Fn Tryz.prog 43 [.fz (itemAVs l) l.length false] (.fz (itemAVs l) l.length false) :=
  f_CloneItems' l (clean_odd h) (fun i t ht => f_Clone (cleanAll_at h ht)) hl
end Go.Proofs.YtliabblchkgclaaGreatDoor

namespace Go.Proofs.YtliabblchkgclaaGreatDoor
open Go Go.Av
theorem f_pNames : Av.Fn Tryz.prog 65 [] (.fz (namesL.map .str) 52 false) := by
  refine ACalls.of_W tb_ok (fn := Tryz.f65) (n := 2) (by kernel_rfl) rfl (by kernel_rfl) rfl rfl (by simp) (go ?_)
  refine Fn.use (f_Names) (go ?_)
  refine VRet.mk [] .nil ?_
  exact ⟨rfl, rfl⟩
theorem f_pIs (s : List UInt8) : Av.Fn Tryz.prog 46 [.str s] (.bool (isPrim s)) := by
  have h := fn_Contains namesL s (by decide)
  refine ACalls.of_W tb_ok (fn := Tryz.f46) (n := 6) (by kernel_rfl) rfl (by kernel_rfl) rfl rfl (by simp) (go ?_)
  refine Fn.use (f_pNames) (go ?_)
  refine Fn.use (h) (go ?_)
  refine VRet.mk [] .nil ?_
  exact ⟨rfl, rfl⟩
theorem f_bare1 (n : Int) : Av.Fn Tryz.prog 64 [.int .i64 n] (.bool false) := by
  refine ACalls.of_W tb_ok (fn := Tryz.f64) (n := 3) (by kernel_rfl) rfl (by kernel_rfl) rfl rfl (by simp) (go ?_)
  refine VRet.mk [] .nil ?_
  exact ⟨rfl, rfl⟩
def EachC (t : Tree) : Prop := Av.Fn Tryz.prog 63 [valAV t, .fn (.func 64) [] []] (.bool (bareT t))
theorem each_leaf {t : Tree} (hc : t.clean = true) (h1 : ∀ l, t ≠ .list l) (h2 : ∀ l, t ≠ .quot l) : EachC t := by
  unfold EachC
  cases t with
  | odd u v => cases hc
  | list l => exact absurd rfl (h1 l)
  | quot l => exact absurd rfl (h2 l)
  | box n =>
    have h := f_bare1 n
    refine ACalls.of_W tb_ok (fn := Tryz.f63) (n := 61) (by kernel_rfl) rfl (by kernel_rfl) rfl rfl (by simp) (go ?_)
    refine VAll.mk (fun b => go ?_)
    refine Fn.use (h) (go ?_)
    refine VRet.mk [] .nil ?_
    exact ⟨rfl, rfl⟩
  | none =>
    refine ACalls.of_W tb_ok (fn := Tryz.f63) (n := 61) (by kernel_rfl) rfl (by kernel_rfl) rfl rfl (by simp) (go ?_)
    refine VRet.mk [] .nil ?_
    exact ⟨rfl, rfl⟩
  | int n =>
    refine ACalls.of_W tb_ok (fn := Tryz.f63) (n := 61) (by kernel_rfl) rfl (by kernel_rfl) rfl rfl (by simp) (go ?_)
    refine VRet.mk [] .nil ?_
    exact ⟨rfl, rfl⟩
  | str n =>
    refine ACalls.of_W tb_ok (fn := Tryz.f63) (n := 61) (by kernel_rfl) rfl (by kernel_rfl) rfl rfl (by simp) (go ?_)
    refine VRet.mk [] .nil ?_
    exact ⟨rfl, rfl⟩
  | bool n =>
    refine ACalls.of_W tb_ok (fn := Tryz.f63) (n := 61) (by kernel_rfl) rfl (by kernel_rfl) rfl rfl (by simp) (go ?_)
    refine VRet.mk [] .nil ?_
    exact ⟨rfl, rfl⟩
  | call n =>
    refine ACalls.of_W tb_ok (fn := Tryz.f63) (n := 61) (by kernel_rfl) rfl (by kernel_rfl) rfl rfl (by simp) (go ?_)
    refine VRet.mk [] .nil ?_
    exact ⟨rfl, rfl⟩
theorem each_list {l : List Tree} (hl : l.length ≤ 2513169434916) (h : ∀ t ∈ l, EachC t) : EachC (.list l) := by
  unfold EachC
  rw [valAV, bareT]
  refine ACalls.of_W tb_ok (fn := Tryz.f63) (n := 61) (by kernel_rfl) rfl (by kernel_rfl) rfl rfl (by simp) (go ?_)
  refine VAll.mk (fun b => go ?_)
  refine VLoop.mk [28] Nat (fun k => [.int .i64 k]) (fun _ => []) (fun k => k ≤ l.length ∧ bareTs (l.drop k) = bareTs l) (fun k => l.length - k) 0 ?_ ?_
  · exact ⟨⟨Nat.zero_le _, rfl⟩, rfl, .nil⟩
  rintro k ⟨hk, hI⟩
  dsimp only at hk hI ⊢
  refine go ?_
  refine fork (fun hlt => go ?_) (fun hlt => go ?_)
  · have hlt : k < l.length := by omega
    obtain ⟨t, ht⟩ : ∃ t, l[k]? = some t := ⟨l[k], by simp [hlt]⟩
    have hE := h t (List.mem_of_getElem? ht)
    have hd : l.drop k = t :: l.drop (k + 1) := by
      rw [List.drop_eq_getElem_cons hlt]
      congr 1
      rw [List.getElem?_eq_getElem hlt] at ht
      exact Option.some.inj ht
    rw [hd, bareTs] at hI
    refine VNth.mk (valAV t) (by rw [mulN_eq, valAVs_map]; simp [ht]) (go ?_)
    unfold EachC at hE
    cases hb : bareT t with
    | true =>
      rw [hb] at hE hI
      refine Fn.use (hE) (go ?_)
      exact ⟨k + 1, ⟨by omega, by rw [← hI]; simp⟩, by omega, rfl, .nil⟩
    | false =>
      rw [hb] at hE hI
      refine Fn.use (hE) (go ?_)
      refine VRet.mk [] .nil ?_
      rw [← hI]
      exact ⟨rfl, rfl⟩
  · have : k = l.length := by omega
    subst this
    rw [List.drop_length, bareTs] at hI
    refine VRet.mk [] .nil ?_
    rw [← hI]
    exact ⟨rfl, rfl⟩
theorem each_quot {l : List Tree} (hl : l.length ≤ 2513169434916) (hc : cleanAll l = true) (h : ∀ t ∈ l, EachC t) : EachC (.quot l) := by
  unfold EachC
  rw [valAV, bareT]
  refine ACalls.of_W tb_ok (fn := Tryz.f63) (n := 61) (by kernel_rfl) rfl (by kernel_rfl) rfl rfl (by simp) (go ?_)
  refine VAll.mk (fun b => go ?_)
  refine VLoop.mk [43] Nat (fun k => [.int .i64 k]) (fun _ => []) (fun k => k ≤ l.length ∧ bareTs (l.drop k) = bareTs l) (fun k => l.length - k) 0 ?_ ?_
  · exact ⟨⟨Nat.zero_le _, rfl⟩, rfl, .nil⟩
  rintro k ⟨hk, hI⟩
  dsimp only at hk hI ⊢
  refine go ?_
  refine fork (fun hlt => go ?_) (fun hlt => go ?_)
  · have hlt : k < l.length := by omega
    obtain ⟨t, ht⟩ : ∃ t, l[k]? = some t := ⟨l[k], by simp [hlt]⟩
    have hE := h t (List.mem_of_getElem? ht)
    have hodd := clean_odd hc t (List.mem_of_getElem? ht)
    have hd : l.drop k = t :: l.drop (k + 1) := by
      rw [List.drop_eq_getElem_cons hlt]
      congr 1
      rw [List.getElem?_eq_getElem hlt] at ht
      exact Option.some.inj ht
    rw [hd, bareTs] at hI
    refine VNth.mk (itemAV t) (by rw [mulN_eq, itemAVs_map]; simp [ht]) (go ?_)
    unfold EachC at hE
    have hgo : bareT t = true → k + 1 ≤ l.length ∧ bareTs (l.drop (k + 1)) = bareTs l := fun hb => ⟨by omega, by rw [← hI, hb]; simp⟩
    by_cases hcall : (∃ s, t = .call s) ∨ t = .none
    · have hit : (∃ u x, itemAV t = .iface u x ∧ u ≠ 138) ∨ itemAV t = .nili := by
        rcases hcall with ⟨s, rfl⟩ | rfl
        · exact .inl ⟨_, _, rfl, by decide⟩
        · exact .inr rfl
      have hb : bareT t = true := by rcases hcall with ⟨s, rfl⟩ | rfl <;> rfl
      rcases hcall with ⟨s, rfl⟩ | rfl
      · refine go ?_
        refine VAll.mk (fun b2 => go ?_)
        exact ⟨k + 1, hgo hb, by omega, rfl, .nil⟩
      · refine go ?_
        refine VAll.mk (fun b2 => go ?_)
        exact ⟨k + 1, hgo hb, by omega, rfl, .nil⟩
    · have hp : itemAV t = .iface 138 (.agg [valAV t]) := itemAV_push (fun s e => hcall (.inl ⟨s, e⟩)) (fun e => hcall (.inr e)) hodd
      rw [hp]
      generalize valAV t = w at hE ⊢
      refine go ?_
      refine VAll.mk (fun b2 => go ?_)
      cases hb : bareT t with
      | true =>
        rw [hb] at hE
        refine Fn.use (hE) (go ?_)
        exact ⟨k + 1, hgo hb, by omega, rfl, .nil⟩
      | false =>
        rw [hb] at hE hI
        refine Fn.use (hE) (go ?_)
        refine VRet.mk [] .nil ?_
        rw [← hI]
        exact ⟨rfl, rfl⟩
  · have : k = l.length := by omega
    subst this
    rw [List.drop_length, bareTs] at hI
    refine VRet.mk [] .nil ?_
    rw [← hI]
    exact ⟨rfl, rfl⟩
theorem f_Each (n : Nat) : ∀ t : Tree, t.clean = true → t.depth ≤ n → EachC t := by
  induction n with
  | zero =>
    intro t hc hd
    refine each_leaf hc (fun l e => ?_) (fun l e => ?_) <;> (subst e; rw [Tree.depth] at hd; omega)
  | succ n ih =>
    intro t hc hd
    cases t with
    | list l =>
      simp only [Tree.clean, Bool.and_eq_true, decide_eq_true_eq] at hc
      rw [Tree.depth] at hd
      exact each_list hc.1 fun t ht => let ⟨i, hi⟩ := List.mem_iff_getElem?.1 ht; ih t (cleanAll_at hc.2 hi) (Nat.le_trans (depthAll_at hi) (by omega))
    | quot l =>
      simp only [Tree.clean, Bool.and_eq_true, decide_eq_true_eq] at hc
      rw [Tree.depth] at hd
      exact each_quot hc.1 hc.2 fun t ht => let ⟨i, hi⟩ := List.mem_iff_getElem?.1 ht; ih t (cleanAll_at hc.2 hi) (Nat.le_trans (depthAll_at hi) (by omega))
    | _ => exact each_leaf hc (fun l e => by cases e) (fun l e => by cases e)
theorem f_tBare {l : List Tree} (hc : (Tree.quot l).clean = true) : Av.Fn Tryz.prog 35 [.fz (itemAVs l) l.length false] (.bool (bareTs l)) := by
  have h := f_Each _ (.quot l) hc (Nat.le_refl _)
  unfold EachC at h
  rw [valAV, bareT] at h
  refine ACalls.of_W tb_ok (fn := Tryz.f35) (n := 7) (by kernel_rfl) rfl (by kernel_rfl) rfl rfl (by simp) (go ?_)
  refine Fn.use (h) (go ?_)
  refine VRet.mk [] .nil ?_
  exact ⟨rfl, rfl⟩
def backV (r : Option (List Tree)) : AV := match r with
  | none => .tup [.fz [] 0 false, .bool false]
  | some l => .tup [.fz (itemAVs l) l.length false, .bool (backOk l)]
/-- A code that is no larger than the second form lets in. -/
structure OpIn (o : OpT) : Prop where
  clean : o.v.clean = true
  val : valish o.v = true
  nm : o.v.nmS = true
structure CodeIn (c : CodeT) : Prop where
  ops : c.ops.length ≤ 1048576
  name : c.name.length ≤ 1048576
  inp : ∀ o ∈ c.ops, OpIn o
theorem names_small {j : Nat} : (namesL.getD j []).length ≤ 100 := by
  have : (namesL.all fun n => decide (n.length ≤ 100)) = true := by decide
  rw [List.getD_eq_getElem?_getD]
  cases h : namesL[j]? with
  | none => exact Nat.zero_le _
  | some w => have := List.all_eq_true.1 this w (List.mem_of_getElem? h); simpa using this
theorem cnames_small {codes : List CodeT} (h : ∀ c ∈ codes, CodeIn c) {j : Nat} : ((codes.map (·.name)).getD j []).length ≤ 1048576 := by
  rw [List.getD_eq_getElem?_getD, List.getElem?_map]
  cases hq : codes[j]? with
  | none => exact Nat.zero_le _
  | some c => exact (h c (List.mem_of_getElem? hq)).name
theorem backO_in {codes : List CodeT} (hc : ∀ c ∈ codes, CodeIn c) {o : OpT} (ho : OpIn o) {t : Tree} (h : backO codes o = some t) : t.clean = true ∧ t.nmS = true := by
  unfold backO at h
  split at h
  · cases h; exact ⟨ho.clean, ho.nm⟩
  · split at h
    · cases h
      refine ⟨rfl, ?_⟩
      have := names_small (j := o.n.toNat)
      exact decide_eq_true (by omega)
    · split at h
      · cases h
        refine ⟨rfl, ?_⟩
        have := cnames_small hc (j := o.n.toNat)
        exact decide_eq_true (by omega)
      · cases h
theorem backL_next {codes : List CodeT} {l : List OpT} {k : Nat} {o : OpT} (h : l[k]? = some o) (A : List Tree) : (backL codes (l.drop k)).map (A ++ ·) = match backO codes o with
    | none => none
    | some t => (backL codes (l.drop (k + 1))).map ((A ++ [t]) ++ ·) := by
  have hlt := (List.getElem?_eq_some_iff.1 h).1
  have hd : l.drop k = o :: l.drop (k + 1) := by
    rw [List.drop_eq_getElem_cons hlt]
    congr 1
    rw [List.getElem?_eq_getElem hlt] at h
    exact Option.some.inj h
  rw [hd, backL]
  cases backO codes o with
  | none => rfl
  | some t =>
    dsimp only
    cases backL codes (l.drop (k + 1)) with
    | none => rfl
    | some r => dsimp only [Option.map_some]; rw [List.append_assoc]; rfl
theorem clean_append {a b : List Tree} (ha : cleanAll a = true) (hb : cleanAll b = true) : cleanAll (a ++ b) = true := by
  induction a with
  | nil => exact hb
  | cons x r ih =>
    simp only [cleanAll, Bool.and_eq_true] at ha
    simp only [List.cons_append, cleanAll, Bool.and_eq_true]
    exact ⟨ha.1, ih ha.2⟩
theorem nmS_append {a b : List Tree} (ha : nmSAll a = true) (hb : nmSAll b = true) : nmSAll (a ++ b) = true := by
  induction a with
  | nil => exact hb
  | cons x r ih =>
    simp only [nmSAll, Bool.and_eq_true] at ha
    simp only [List.cons_append, nmSAll, Bool.and_eq_true]
    exact ⟨ha.1, ih ha.2⟩
structure BackI where
  k : Nat
  o : Option Nat
  A : List Tree




set_option maxHeartbeats 2000000 in
theorem f_back (codes : List CodeT) (l : List OpT) (hcl : codes.length ≤ 1048576) (hll : l.length ≤ 1048576) (hc : ∀ c ∈ codes, CodeIn c) (hl : ∀ o ∈ l, OpIn o) :
    Av.Fn Tryz.prog 42 [.fz (codesC codes) codes.length false, .fz (opsC l) l.length false] (backV (backL codes l)) := by
  refine ACalls.of_W tb_ok (fn := Tryz.f42) (n := 110) (by kernel_rfl) rfl (by kernel_rfl) rfl rfl (by simp) (go ?_)
  refine Fn.use (f_pNames) (go ?_)
  refine VLoop.mk [7, 13] BackI (fun i => [accV i.o i.A.length, .int .i64 i.k]) (fun i => accS i.o 1 (itemAVs i.A))
    (fun i => i.k ≤ l.length ∧ (i.o = none → i.A = []) ∧ i.A.length = i.k ∧ cleanAll i.A = true ∧ nmSAll i.A = true ∧ backL codes l = (backL codes (l.drop i.k)).map (i.A ++ ·)) (fun i => l.length - i.k) ⟨0, none, []⟩ ?_ ?_
  · exact ⟨⟨Nat.zero_le _, fun _ => rfl, rfl, rfl, rfl, by dsimp only; rw [List.drop_zero]; cases backL codes l <;> rfl⟩, rfl, .nil⟩
  rintro ⟨k, o, A⟩ ⟨hk, ho, hA, hcA, hnA, hI⟩
  dsimp only at hk ho hA hcA hnA hI ⊢
  refine go ?_
  refine fork (fun hlt => go ?_) (fun hlt => ?_)
  · have hlt : k < l.length := by omega
    obtain ⟨x, hx⟩ : ∃ x, l[k]? = some x := ⟨l[k], by simp [hlt]⟩
    have hin := hl x (List.mem_of_getElem? hx)
    rw [backL_next hx] at hI
    have hO : ∀ t, backO codes x = some t → t.clean = true ∧ t.nmS = true := fun t h => backO_in hc hin h
    have hd := flat_drop opC 3 opC_len hx
    unfold backO at hI hO
    obtain ⟨kd, n, v⟩ := x
    have hd : List.drop (mulN k 3) (opsC l) = [.int .i64 kd, .int .i64 n, valAV v] ++ opsC (l.drop (k + 1)) := hd
    have d0 : (List.drop (mulN k 3) (opsC l)).take 3 = [.int .i64 kd, .int .i64 n, valAV v] := by rw [hd]; rfl
    have hval := hin.val
    dsimp only at hI hO hval
    refine VTake.mk _ d0 rfl (go ?_)
    refine VAll.mk (fun b9 => go ?_)
    by_cases c1 : kd = 1 ∧ n = 0 ∧ isSome v = true
    · rw [if_pos c1] at hI hO
      obtain ⟨rfl, rfl, hs⟩ := c1
      obtain ⟨i1, i2⟩ := hO _ rfl
      obtain ⟨u, y, hy⟩ := valAV_iface hs hval
      have hit : itemAV v = .iface 138 (.agg [.iface u y]) := by
        rw [← hy]
        refine itemAV_push (fun s e => ?_) (fun e => ?_) (fun u' v' e => ?_)
        · subst e; cases hval
        · subst e; cases hs
        · subst e; cases hval
      rw [hy]
      refine go ?_
      first | refine VIf.yes rfl (go ?_) | skip
      first | refine VIf.yes rfl (go ?_) | skip
      cases o with
      | none =>
        obtain rfl : A = [] := ho rfl
        have hk0 : k = 0 := by simpa using hA.symm
        refine go ?_
        refine VAll.mk (fun b2 => go ?_)
        refine ⟨⟨k + 1, some b2, [v]⟩, ⟨by dsimp only; omega, (fun h => by cases h), by rw [hk0]; rfl, ?_, ?_, hI⟩, by dsimp only; omega, rfl, .cons 0 (congrArg (fun c => some (b2, AObj.arr 1 c 0)) ?_) .nil⟩
        · simp [cleanAll, i1]
        · simp [nmSAll, i2]
        · rw [itemAVs_map]; exact (congrArg (fun z => [z]) hit).symm
      | some bo =>
        refine go ?_
        refine VGd.mk ⟨rfl, Nat.zero_le _, by rw [mulN_eq, itemAVs_length]; exact Nat.le_of_eq (by show A.length * 1 = A.length; omega), by show 16 * (A.length + 1) ≤ _; omega⟩ (go ?_)
        refine VAll.mk (fun b2 => go ?_)
        refine ⟨⟨k + 1, some b2, A ++ [v]⟩, ⟨by dsimp only; omega, (fun h => by cases h), by rw [List.length_append]; show A.length + 1 = k + 1; omega, clean_append hcA (by simp [cleanAll, i1]), nmS_append hnA (by simp [nmSAll, i2]), hI⟩, by dsimp only; omega, ?_, .cons 0 (congrArg (fun c => some (b2, AObj.arr 1 c 0)) ?_) .nil⟩
        · simp [accV]
        · rw [mulN_eq, Nat.mul_one, List.take_of_length_le (by rw [itemAVs_length]; exact Nat.le_refl _), itemAVs_snoc, hit]
    rw [if_neg c1] at hI hO
    cases hs : isSome v with
    | true =>
      rw [if_neg (by rw [hs]; simp), if_neg (by rw [hs]; simp)] at hI
      obtain ⟨u, y, hy⟩ := valAV_iface hs hval
      have c1 : ¬ (kd = 1 ∧ n = 0) := fun h => c1 ⟨h.1, h.2, hs⟩
      rw [hy]
      by_cases k1 : kd = 1
      · subst k1
        have hn0 : n ≠ 0 := fun h => c1 ⟨rfl, h⟩
        refine go ?_
        first | refine VIf.yes rfl (go ?_) | skip
        refine VIf.no (by simpa using hn0) (go ?_)
        first | refine VIf.no rfl (go ?_) | skip
        first | refine VIf.no rfl (go ?_) | skip
        refine VRet.mk [] .nil ?_
        rw [hI]
        exact ⟨rfl, rfl⟩
      by_cases k2 : kd = 2
      · subst k2
        refine go ?_
        first | refine VIf.no rfl (go ?_) | skip
        first | refine VIf.yes rfl (go ?_) | skip
        first | refine VIf.no rfl (go ?_) | skip
        refine VRet.mk [] .nil ?_
        rw [hI]
        exact ⟨rfl, rfl⟩
      by_cases k3 : kd = 3
      · subst k3
        refine go ?_
        first | refine VIf.no rfl (go ?_) | skip
        first | refine VIf.no rfl (go ?_) | skip
        first | refine VIf.yes rfl (go ?_) | skip
        refine VRet.mk [] .nil ?_
        rw [hI]
        exact ⟨rfl, rfl⟩
      · refine go ?_
        refine VIf.no (by simpa using k1) (go ?_)
        refine VIf.no (by simpa using k2) (go ?_)
        refine VIf.no (by simpa using k3) (go ?_)
        refine VRet.mk [] .nil ?_
        rw [hI]
        exact ⟨rfl, rfl⟩
    | false =>
      have hn : v = .none := by cases v <;> first | rfl | (cases hs; done)
      subst hn
      by_cases c2 : kd = 2 ∧ 0 ≤ n ∧ n < 52
      · rw [if_pos ⟨c2.1, hs, c2.2⟩] at hI hO
        obtain ⟨rfl, h0, h1⟩ := c2
        obtain ⟨i1, i2⟩ := hO _ rfl
        obtain ⟨j, rfl⟩ := Int.eq_ofNat_of_zero_le h0
        have hj : j < 52 := by omega
        obtain ⟨w, hw⟩ : ∃ w, namesL[j]? = some w := ⟨_, List.getElem?_eq_getElem (show j < namesL.length from hj)⟩
        have hgw : namesL.getD (j : Int).toNat [] = w := by rw [List.getD_eq_getElem?_getD]; show (namesL[j]?).getD [] = w; rw [hw]; rfl
        rw [hgw] at hI i1 i2
        have hit : itemAV (.call w) = .iface 87 (.agg [.str w]) := rfl
        refine go ?_
        first | refine VIf.no rfl (go ?_) | skip
        first | refine VIf.yes rfl (go ?_) | skip
        have y0 : decide ((0 : Int) ≤ (j : Int)) = true := by simp
        have y1 : decide ((j : Int) < ((52 : Nat) : Int)) = true := by simp; omega
        first | refine VIf.yes y0 (go ?_) | skip
        first | refine VIf.yes y1 (go ?_) | skip
        refine VNth.mk (.str w) (by rw [mulN_eq]; simp [hw]) (go ?_)
        cases o with
        | none =>
          obtain rfl : A = [] := ho rfl
          have hk0 : k = 0 := by simpa using hA.symm
          refine go ?_
          refine VAll.mk (fun b2 => go ?_)
          refine ⟨⟨k + 1, some b2, [(.call w)]⟩, ⟨by dsimp only; omega, (fun h => by cases h), by rw [hk0]; rfl, ?_, ?_, hI⟩, by dsimp only; omega, rfl, .cons 0 (congrArg (fun c => some (b2, AObj.arr 1 c 0)) ?_) .nil⟩
          · simp [cleanAll, i1]
          · simp [nmSAll, i2]
          · rw [itemAVs_map]; exact (congrArg (fun z => [z]) hit).symm
        | some bo =>
          refine go ?_
          refine VGd.mk ⟨rfl, Nat.zero_le _, by rw [mulN_eq, itemAVs_length]; exact Nat.le_of_eq (by show A.length * 1 = A.length; omega), by show 16 * (A.length + 1) ≤ _; omega⟩ (go ?_)
          refine VAll.mk (fun b2 => go ?_)
          refine ⟨⟨k + 1, some b2, A ++ [(.call w)]⟩, ⟨by dsimp only; omega, (fun h => by cases h), by rw [List.length_append]; show A.length + 1 = k + 1; omega, clean_append hcA (by simp [cleanAll, i1]), nmS_append hnA (by simp [nmSAll, i2]), hI⟩, by dsimp only; omega, ?_, .cons 0 (congrArg (fun c => some (b2, AObj.arr 1 c 0)) ?_) .nil⟩
          · simp [accV]
          · rw [mulN_eq, Nat.mul_one, List.take_of_length_le (by rw [itemAVs_length]; exact Nat.le_refl _), itemAVs_snoc, hit]
      · rw [if_neg (fun h => c2 ⟨h.1, h.2.2⟩)] at hI hO
        by_cases c3 : kd = 3 ∧ 0 ≤ n ∧ n < codes.length
        · rw [if_pos ⟨c3.1, hs, c3.2⟩] at hI hO
          obtain ⟨rfl, h0, h1⟩ := c3
          obtain ⟨i1, i2⟩ := hO _ rfl
          obtain ⟨j, rfl⟩ := Int.eq_ofNat_of_zero_le h0
          have hj : j < codes.length := by omega
          obtain ⟨c, hcj⟩ : ∃ c, codes[j]? = some c := ⟨_, List.getElem?_eq_getElem hj⟩
          have hgw : (codes.map (·.name)).getD (j : Int).toNat [] = c.name := by rw [List.getD_eq_getElem?_getD]; show ((codes.map (·.name))[j]?).getD [] = c.name; rw [List.getElem?_map, hcj]; rfl
          rw [hgw] at hI i1 i2
          have hcd := flat_drop codeC 2 codeC_len hcj
          have e0 : (List.drop 0 (List.drop (mulN j 2) (codesC codes)))[0]? = some (.str c.name) := by rw [show codesC codes = codes.flatMap codeC from rfl, hcd]; rfl
          generalize c.name = w at hI i1 i2 e0
          have hit : itemAV (.call w) = .iface 87 (.agg [.str w]) := rfl
          refine go ?_
          first | refine VIf.no rfl (go ?_) | skip
          first | refine VIf.no rfl (go ?_) | skip
          first | refine VIf.yes rfl (go ?_) | skip
          have y0 : decide ((0 : Int) ≤ (j : Int)) = true := by simp
          have y1 : decide ((j : Int) < (codes.length : Int)) = true := by simp; omega
          first | refine VIf.yes y0 (go ?_) | skip
          first | refine VIf.yes y1 (go ?_) | skip
          refine VNth.mk _ e0 (go ?_)
          cases o with
          | none =>
            obtain rfl : A = [] := ho rfl
            have hk0 : k = 0 := by simpa using hA.symm
            refine go ?_
            refine VAll.mk (fun b2 => go ?_)
            refine ⟨⟨k + 1, some b2, [(.call w)]⟩, ⟨by dsimp only; omega, (fun h => by cases h), by rw [hk0]; rfl, ?_, ?_, hI⟩, by dsimp only; omega, rfl, .cons 0 (congrArg (fun c => some (b2, AObj.arr 1 c 0)) ?_) .nil⟩
            · simp [cleanAll, i1]
            · simp [nmSAll, i2]
            · rw [itemAVs_map]; exact (congrArg (fun z => [z]) hit).symm
          | some bo =>
            refine go ?_
            refine VGd.mk ⟨rfl, Nat.zero_le _, by rw [mulN_eq, itemAVs_length]; exact Nat.le_of_eq (by show A.length * 1 = A.length; omega), by show 16 * (A.length + 1) ≤ _; omega⟩ (go ?_)
            refine VAll.mk (fun b2 => go ?_)
            refine ⟨⟨k + 1, some b2, A ++ [(.call w)]⟩, ⟨by dsimp only; omega, (fun h => by cases h), by rw [List.length_append]; show A.length + 1 = k + 1; omega, clean_append hcA (by simp [cleanAll, i1]), nmS_append hnA (by simp [nmSAll, i2]), hI⟩, by dsimp only; omega, ?_, .cons 0 (congrArg (fun c => some (b2, AObj.arr 1 c 0)) ?_) .nil⟩
            · simp [accV]
            · rw [mulN_eq, Nat.mul_one, List.take_of_length_le (by rw [itemAVs_length]; exact Nat.le_refl _), itemAVs_snoc, hit]
        · rw [if_neg (fun h => c3 ⟨h.1, h.2.2⟩)] at hI
          by_cases k1 : kd = 1
          · subst k1
            refine go ?_
            first | refine VIf.yes rfl (go ?_) | skip
            refine fork (fun hn0 => go ?_) (fun hn0 => go ?_)
            · first | refine VIf.no rfl (go ?_) | skip
              first | refine VIf.no rfl (go ?_) | skip
              refine VRet.mk [] .nil ?_
              rw [hI]
              exact ⟨rfl, rfl⟩
            · first | refine VIf.no rfl (go ?_) | skip
              first | refine VIf.no rfl (go ?_) | skip
              refine VRet.mk [] .nil ?_
              rw [hI]
              exact ⟨rfl, rfl⟩
          by_cases k2 : kd = 2
          · subst k2
            refine go ?_
            first | refine VIf.no rfl (go ?_) | skip
            first | refine VIf.yes rfl (go ?_) | skip
            refine fork (fun h0 => go ?_) (fun h0 => go ?_)
            · refine VIf.no (by simp; omega) (go ?_)
              first | refine VIf.no rfl (go ?_) | skip
              refine VRet.mk [] .nil ?_
              rw [hI]
              exact ⟨rfl, rfl⟩
            · first | refine VIf.no rfl (go ?_) | skip
              refine VRet.mk [] .nil ?_
              rw [hI]
              exact ⟨rfl, rfl⟩
          by_cases k3 : kd = 3
          · subst k3
            refine go ?_
            first | refine VIf.no rfl (go ?_) | skip
            first | refine VIf.no rfl (go ?_) | skip
            first | refine VIf.yes rfl (go ?_) | skip
            refine fork (fun h0 => go ?_) (fun h0 => go ?_)
            · refine VIf.no (by simp; omega) (go ?_)
              refine VRet.mk [] .nil ?_
              rw [hI]
              exact ⟨rfl, rfl⟩
            · refine VRet.mk [] .nil ?_
              rw [hI]
              exact ⟨rfl, rfl⟩
          · refine go ?_
            refine VIf.no (by simpa using k1) (go ?_)
            refine VIf.no (by simpa using k2) (go ?_)
            refine VIf.no (by simpa using k3) (go ?_)
            refine VRet.mk [] .nil ?_
            rw [hI]
            exact ⟨rfl, rfl⟩
  · obtain rfl : k = l.length := by omega
    rw [List.drop_length, backL, Option.map_some, List.append_nil] at hI
    rw [hI]
    have hcq : (Tree.quot A).clean = true := by simp only [Tree.clean, Bool.and_eq_true, decide_eq_true_eq]; exact ⟨by omega, hcA⟩
    have hCk := f_CheckItems hcq (by simp only [Tree.nmS]; exact hnA)
    have hB := f_tBare hcq
    have htk : (itemAVs A).take (A.length * 1) = itemAVs A := List.take_of_length_le (by rw [itemAVs_length]; omega)
    have hres : ∀ c, checkR A = c → backV (some A) = .tup [.fz (itemAVs A) A.length false, .bool (c && bareTs A)] := fun c hc => by rw [← hc]; rfl
    cases hb : checkR A with
    | true =>
      rw [hb, if_pos rfl] at hCk
      rw [hres true hb]
      cases o with
      | none =>
        obtain rfl : A = [] := ho rfl
        refine go ?_
        refine Fn.use (hCk) (go ?_)
        refine Fn.use (hB) (go ?_)
        refine VRet.mk [] .nil ?_
        exact ⟨rfl, rfl⟩
      | some bo =>
        refine go ?_
        rw [htk]
        refine Fn.use (hCk) (go ?_)
        rw [htk]
        refine Fn.use (hB) (go ?_)
        refine VRet.mk [] .nil ?_
        refine ⟨?_, rfl⟩
        rw [htk]; rfl
    | false =>
      rw [hb, if_neg (by simp)] at hCk
      rw [hres false hb]
      cases o with
      | none =>
        obtain rfl : A = [] := ho rfl
        refine go ?_
        refine Fn.use (hCk) (go ?_)
        first | refine VIf.no rfl (go ?_) | skip
        refine VRet.mk [] .nil ?_
        exact ⟨rfl, rfl⟩
      | some bo =>
        refine go ?_
        rw [htk]
        refine Fn.use (hCk) (go ?_)
        first | refine VIf.no rfl (go ?_) | skip
        refine VRet.mk [] .nil ?_
        refine ⟨?_, rfl⟩
        rw [htk]; rfl
end Go.Proofs.YtliabblchkgclaaGreatDoor

namespace Go.Proofs.YtliabblchkgclaaGreatDoor
open Go Go.Av
theorem sound_false {codes : List CodeT} {i : Nat} {c : CodeT} (h : codes[i]? = some c) (hc : codeOk codes i c = false) : soundC codes = false := by
  unfold soundC
  rw [List.all_eq_false]
  refine ⟨i, List.mem_range.2 (List.getElem?_eq_some_iff.1 h).1, ?_⟩
  rw [h]; simp [hc]
theorem sound_true {codes : List CodeT} (h : ∀ i c, codes[i]? = some c → codeOk codes i c = true) : soundC codes = true := by
  unfold soundC
  rw [List.all_eq_true]
  intro i hi
  cases hc : codes[i]? with
  | none => rfl
  | some c => exact h i c hc
/-- Is the body of a code sound? -/
def bodyOk (codes : List CodeT) (ops : List OpT) : Bool := match backL codes ops with
  | some l => backOk l
  | none => false
theorem codeOk_eq (codes : List CodeT) (i : Nat) (c : CodeT) : codeOk codes i c =
  ((nmR c.name && !isPrim c.name && (i == 0 || !(Op.bytesLess c.name ((codes.map (·.name)).getD (i - 1) []) || decide (c.name = (codes.map (·.name)).getD (i - 1) [])))) && bodyOk codes c.ops) := rfl

set_option maxHeartbeats 2000000 in
theorem f_Check (codes : List CodeT) (hcl : codes.length ≤ 1048576) (hc : ∀ c ∈ codes, CodeIn c) :
    Av.Fn Tryz.prog 19 [.fz (codesC codes) codes.length false] (.int .i64 (if soundC codes = true then 0 else 1)) := by
  refine ACalls.of_W tb_ok (fn := Tryz.f19) (n := 48) (by kernel_rfl) rfl (by kernel_rfl) rfl rfl (by simp) (go ?_)
  refine VLoop.mk [9] Nat (fun k => [.int .i64 k]) (fun _ => []) (fun k => k ≤ codes.length ∧ ∀ i c, i < k → codes[i]? = some c → codeOk codes i c = true) (fun k => codes.length - k) 0 ?_ ?_
  · exact ⟨⟨Nat.zero_le _, fun i c h => absurd h (Nat.not_lt_zero _)⟩, rfl, .nil⟩
  rintro k ⟨hk, hI⟩
  dsimp only at hk hI ⊢
  refine go ?_
  refine fork (fun hlt => go ?_) (fun hlt => go ?_)
  · have hlt : k < codes.length := by omega
    obtain ⟨x, hx⟩ : ∃ x, codes[k]? = some x := ⟨codes[k], by simp [hlt]⟩
    have hin := hc x (List.mem_of_getElem? hx)
    have hN := f_tName x.name (by have := hin.name; omega)
    have hP := f_pIs x.name
    have hB := f_back codes x.ops hcl hin.ops hc hin.inp
    have hd := flat_drop codeC 2 codeC_len hx
    have hbad : codeOk codes k x = false → soundC codes = false := sound_false hx
    have hgood : codeOk codes k x = true → k + 1 ≤ codes.length ∧ ∀ i c, i < k + 1 → codes[i]? = some c → codeOk codes i c = true := by
      intro h
      refine ⟨by omega, fun i c hi hic => ?_⟩
      by_cases e : i = k
      · subst e; rw [hx] at hic; cases hic; exact h
      · exact hI i c (by omega) hic
    rw [codeOk_eq] at hbad hgood
    obtain ⟨nm, ops⟩ := x
    have hd : List.drop (mulN k 2) (codesC codes) = [.str nm, .fz (opsC ops) ops.length false] ++ codesC (codes.drop (k + 1)) := hd
    have d0 : (List.drop (mulN k 2) (codesC codes)).take 2 = [.str nm, .fz (opsC ops) ops.length false] := by rw [hd]; rfl
    dsimp only at hN hP hB hbad hgood
    refine VTake.mk _ d0 rfl (go ?_)
    refine VAll.mk (fun b4 => go ?_)
    cases hn : nmR nm with
    | false =>
      rw [hn] at hN hbad
      refine VQ.mk (.bool false) (by refine go ?_; refine Fn.use hN (go ?_); exact ⟨rfl, rfl⟩) (go ?_)
      refine VRet.mk [] .nil ?_
      rw [hbad (by simp), if_neg (by simp)]
      exact ⟨rfl, rfl⟩
    | true =>
      rw [hn] at hN hbad hgood
      refine VQ.mk (.bool true) (by refine go ?_; refine Fn.use hN (go ?_); exact ⟨rfl, rfl⟩) (go ?_)
      cases hp : isPrim nm with
      | true =>
        rw [hp] at hP hbad
        refine VQ.mk (.bool true) (by refine go ?_; refine Fn.use hP (go ?_); exact ⟨rfl, rfl⟩) (go ?_)
        refine VRet.mk [] .nil ?_
        rw [hbad (by simp), if_neg (by simp)]
        exact ⟨rfl, rfl⟩
      | false =>
        rw [hp] at hP hbad hgood
        refine VQ.mk (.bool false) (by refine go ?_; refine Fn.use hP (go ?_); exact ⟨rfl, rfl⟩) (go ?_)
        cases hk0 : decide (0 < k) with
        | false =>
          have hk0 : k = 0 := by simpa using hk0
          subst hk0
          refine VIf.no (by simp) (go ?_)
          have hbad : bodyOk codes ops = false → soundC codes = false := fun h => hbad (by rw [h]; simp)
          have hgood : bodyOk codes ops = true → 0 + 1 ≤ codes.length ∧ ∀ i c, i < 0 + 1 → codes[i]? = some c → codeOk codes i c = true := fun h => hgood (by rw [h]; simp)
          cases hbl : backL codes ops with
          | none =>
            have hbo : bodyOk codes ops = false := by unfold bodyOk; rw [hbl]
            have hB : Av.Fn Tryz.prog 42 [.fz (codesC codes) codes.length false, .fz (opsC ops) ops.length false] (.tup [.fz [] 0 false, .bool false]) := by rw [hbl] at hB; exact hB
            refine go ?_
            refine Fn.use hB (go ?_)
            refine VRet.mk [] .nil ?_
            rw [hbad hbo, if_neg (by simp)]
            exact ⟨rfl, rfl⟩
          | some bl =>
            have hbo : bodyOk codes ops = backOk bl := by unfold bodyOk; rw [hbl]
            have hB : Av.Fn Tryz.prog 42 [.fz (codesC codes) codes.length false, .fz (opsC ops) ops.length false] (.tup [.fz (itemAVs bl) bl.length false, .bool (backOk bl)]) := by rw [hbl] at hB; exact hB
            cases hbo' : backOk bl with
            | false =>
              rw [hbo'] at hB hbo
              refine go ?_
              refine Fn.use hB (go ?_)
              refine VRet.mk [] .nil ?_
              rw [hbad hbo, if_neg (by simp)]
              exact ⟨rfl, rfl⟩
            | true =>
              rw [hbo'] at hB hbo
              refine go ?_
              refine Fn.use hB (go ?_)
              exact ⟨0 + 1, hgood hbo, by omega, rfl, .nil⟩
        | true =>
          have hk0 : 0 < k := by simpa using hk0
          obtain ⟨y, hy⟩ : ∃ y, codes[k - 1]? = some y := ⟨_, List.getElem?_eq_getElem (show k - 1 < codes.length by omega)⟩
          have hg : (codes.map (·.name)).getD (k - 1) [] = y.name := by rw [List.getD_eq_getElem?_getD, List.getElem?_map, hy]; rfl
          rw [hg] at hbad hgood
          have hyd := flat_drop codeC 2 codeC_len hy
          have e1 : (List.drop 0 (List.drop (mulN (k - 1) 2) (codesC codes)))[0]? = some (.str y.name) := by rw [show codesC codes = codes.flatMap codeC from rfl, List.drop_zero, hyd]; rfl
          have hkb : (k == 0) = false := by simp; omega
          rw [hkb] at hbad hgood
          refine VIf.yes (by simp; omega) (go ?_)
          refine VQ.mk (.fzp (List.drop (mulN (k - 1) 2) (codesC codes))) (by refine go ?_; exact VIdx.at (k - 1) (by omega) (by omega) ⟨rfl, rfl⟩) (go ?_)
          refine VQ.mk (.str y.name) (by refine go ?_; refine VNth.mk _ e1 (go ?_); exact ⟨rfl, rfl⟩) (go ?_)
          cases hlt2 : (Op.bytesLess nm y.name || decide (nm = y.name)) with
          | true =>
            refine VIf.yes rfl (go ?_)
            refine VRet.mk [] .nil ?_
            rw [hbad (by rw [hlt2]; simp), if_neg (by simp)]
            exact ⟨rfl, rfl⟩
          | false =>
            refine VIf.no rfl (go ?_)
            have hbad : bodyOk codes ops = false → soundC codes = false := fun h => hbad (by rw [h]; simp)
            have hgood : bodyOk codes ops = true → k + 1 ≤ codes.length ∧ ∀ i c, i < k + 1 → codes[i]? = some c → codeOk codes i c = true := fun h => hgood (by rw [h, hlt2]; rfl)
            cases hbl : backL codes ops with
            | none =>
              have hbo : bodyOk codes ops = false := by unfold bodyOk; rw [hbl]
              have hB : Av.Fn Tryz.prog 42 [.fz (codesC codes) codes.length false, .fz (opsC ops) ops.length false] (.tup [.fz [] 0 false, .bool false]) := by rw [hbl] at hB; exact hB
              refine go ?_
              refine Fn.use hB (go ?_)
              refine VRet.mk [] .nil ?_
              rw [hbad hbo, if_neg (by simp)]
              exact ⟨rfl, rfl⟩
            | some bl =>
              have hbo : bodyOk codes ops = backOk bl := by unfold bodyOk; rw [hbl]
              have hB : Av.Fn Tryz.prog 42 [.fz (codesC codes) codes.length false, .fz (opsC ops) ops.length false] (.tup [.fz (itemAVs bl) bl.length false, .bool (backOk bl)]) := by rw [hbl] at hB; exact hB
              cases hbo' : backOk bl with
              | false =>
                rw [hbo'] at hB hbo
                refine go ?_
                refine Fn.use hB (go ?_)
                refine VRet.mk [] .nil ?_
                rw [hbad hbo, if_neg (by simp)]
                exact ⟨rfl, rfl⟩
              | true =>
                rw [hbo'] at hB hbo
                refine go ?_
                refine Fn.use hB (go ?_)
                exact ⟨k + 1, hgood hbo, by omega, rfl, .nil⟩
  · have : k = codes.length := by omega
    subst this
    have hs : soundC codes = true := sound_true fun i c h => hI i c (List.getElem?_eq_some_iff.1 h).1 h
    refine VRet.mk [] .nil ?_
    rw [if_pos hs]
    exact ⟨rfl, rfl⟩
end Go.Proofs.YtliabblchkgclaaGreatDoor

namespace Go.Proofs.YtliabblchkgclaaGreatDoor
open Go Go.Av
theorem nil_iface (t : Tree) (h : valish t = true) : (isSome t = true ∧ ∃ u x, valAV t = .iface u x) ∨ (t = .none) := by
  cases hs : isSome t with
  | true => exact .inl ⟨rfl, valAV_iface hs h⟩
  | false => exact .inr (by cases t <;> first | rfl | (cases hs; done))
/-- A value that may be compared. -/
structure OpCmp (o : OpT) : Prop where
  clean : o.v.clean = true
  val : valish o.v = true
  full : isSome o.v = true → o.v.full false = true



theorem all2_len {α : Type} {f : α → α → Bool} : ∀ {l r : List α}, all2 f l r = true → l.length = r.length
  | [], [], _ => rfl
  | [], _ :: _, h => by cases h
  | _ :: _, [], h => by cases h
  | a :: l, b :: r, h => by
    rw [all2, Bool.and_eq_true] at h
    rw [List.length_cons, List.length_cons, all2_len h.2]
theorem f_LOp (x y : OpT) (hx : OpCmp x) (hy : OpCmp y) : Av.Fn Tryz.prog 52 [.agg (opC x), .agg (opC y)] (.bool (sameOp x y)) := by
  obtain ⟨k, n, v⟩ := x
  obtain ⟨k', n', w⟩ := y
  have hS : isSome v = true → isSome w = true → Av.Fn Tryz.prog 53 [valAV v, valAV w] (.bool (sameV (valRV v) (valRV w))) := fun h1 h2 => f_tSame hx.clean hy.clean (hx.full h1) (hy.full h2)
  have hv := nil_iface v hx.val
  have hw := nil_iface w hy.val
  unfold sameOp opC
  dsimp only at hv hw hS ⊢
  refine ACalls.of_W tb_ok (fn := Tryz.f52) (n := 38) (by kernel_rfl) rfl (by kernel_rfl) rfl rfl (by simp) (go ?_)
  refine VAll.mk (fun b1 => go ?_)
  refine VAll.mk (fun b2 => go ?_)
  by_cases hk : k = k'
  · subst hk
    by_cases hn : n = n'
    · subst hn
      rw [decide_eq_true rfl, decide_eq_true rfl]
      rcases hv with ⟨sv, u, z, ev⟩ | rfl
      · rcases hw with ⟨sw, u', z', ew⟩ | rfl
        · have hS := hS sv sw
          rw [sv, sw]
          rw [ev, ew] at hS ⊢
          refine go ?_
          refine VIf.yes (decide_eq_true rfl) (go ?_)
          refine VQ.mk _ (by refine go ?_; refine Fn.use hS (go ?_); exact ⟨rfl, rfl⟩) (go ?_)
          refine VRet.mk [] .nil ?_
          exact ⟨by simp, rfl⟩
        · rw [ev, sv]
          refine go ?_
          refine VIf.yes (decide_eq_true rfl) (go ?_)
          refine VRet.mk [] .nil ?_
          exact ⟨by simp [isSome], rfl⟩
      · rcases hw with ⟨sw, u', z', ew⟩ | rfl
        · rw [ew, sw]
          refine go ?_
          refine VIf.yes (decide_eq_true rfl) (go ?_)
          refine VRet.mk [] .nil ?_
          exact ⟨by simp [isSome], rfl⟩
        · refine go ?_
          refine VIf.yes (decide_eq_true rfl) (go ?_)
          refine VRet.mk [] .nil ?_
          exact ⟨by simp [isSome], rfl⟩
    · rw [decide_eq_false hn]
      refine go ?_
      refine VIf.yes (decide_eq_true rfl) (go ?_)
      first | refine VIf.no (decide_eq_false hn) (go ?_) | skip
      refine VRet.mk [] .nil ?_
      exact ⟨by simp, rfl⟩
  · rw [decide_eq_false hk]
    refine go ?_
    refine VRet.mk [] .nil ?_
    exact ⟨by simp, rfl⟩
theorem f_LOps (a b : List OpT) (ha : a.length ≤ 1048576) (hb : b.length ≤ 1048576) (h : ∀ x ∈ a, ∀ y ∈ b, Av.Fn Tryz.prog 52 [.agg (opC x), .agg (opC y)] (.bool (sameOp x y))) :
    Av.Fn Tryz.prog 51 [.fz (opsC a) a.length false, .fz (opsC b) b.length false, .fn (.func 52) [] []] (.bool (all2 sameOp a b)) := by
  refine ACalls.of_W tb_ok (fn := Tryz.f51) (n := 32) (by kernel_rfl) rfl (by kernel_rfl) rfl rfl (by simp) (go ?_)
  refine fork (fun hne => go ?_) (fun hne => go ?_)
  · refine VRet.mk [] .nil ?_
    refine ⟨?_, rfl⟩
    cases e : all2 sameOp a b with
    | true => exact absurd (by rw [all2_len e]) hne
    | false => rfl
  · have hne : a.length = b.length := by omega
    refine VLoop.mk [17] Nat (fun i => [.int .i64 i]) (fun _ => []) (fun i => i ≤ a.length ∧ all2 sameOp a b = all2 sameOp (a.drop i) (b.drop i)) (fun i => a.length - i) 0 ?_ ?_
    · exact ⟨⟨by omega, by simp⟩, rfl, .nil⟩
    intro i ⟨hi, hI⟩
    refine go ?_
    refine fork (fun hlt => go ?_) (fun hlt => go ?_)
    · have hlt : i < a.length := by omega
      obtain ⟨x, hx⟩ : ∃ x, a[i]? = some x := ⟨a[i], by simp [hlt]⟩
      obtain ⟨y, hy⟩ : ∃ y, b[i]? = some y := ⟨b[i]'(by omega), by simp [hne ▸ hlt]⟩
      have hda : a.drop i = x :: a.drop (i + 1) := by rw [List.drop_eq_getElem_cons hlt]; congr 1; rw [List.getElem?_eq_getElem hlt] at hx; exact Option.some.inj hx
      have hdb : b.drop i = y :: b.drop (i + 1) := by rw [List.drop_eq_getElem_cons (hne ▸ hlt)]; congr 1; rw [List.getElem?_eq_getElem (hne ▸ hlt)] at hy; exact Option.some.inj hy
      rw [hda, hdb, all2] at hI
      have hxy := h x (List.mem_of_getElem? hx) y (List.mem_of_getElem? hy)
      have da := flat_drop opC 3 opC_len hx
      have db := flat_drop opC 3 opC_len hy
      have d1 : (List.drop (mulN i 3) (opsC a)).take 3 = opC x := by rw [show opsC a = a.flatMap opC from rfl, da]; rfl
      have d2 : (List.drop (mulN i 3) (opsC b)).take 3 = opC y := by rw [show opsC b = b.flatMap opC from rfl, db]; rfl
      refine VTake.mk _ d1 rfl (go ?_)
      refine VAll.mk (fun b8 => go ?_)
      refine VTake.mk _ d2 rfl (go ?_)
      refine VAll.mk (fun b9 => go ?_)
      refine go ?_
      refine Fn.use hxy (go ?_)
      cases hq : sameOp x y with
      | true =>
        rw [hq] at hI
        refine go ?_
        exact ⟨i + 1, ⟨by omega, by rw [hI, Bool.true_and]⟩, by omega, rfl, .nil⟩
      | false =>
        rw [hq] at hI
        refine go ?_
        refine VRet.mk [] .nil ?_
        rw [hI]; exact ⟨rfl, rfl⟩
    · rw [List.drop_eq_nil_of_le (by omega), List.drop_eq_nil_of_le (by omega)] at hI
      refine VRet.mk [] .nil ?_
      rw [hI]; exact ⟨by simp [all2], rfl⟩
theorem f_LCode (x y : CodeT) (h : Av.Fn Tryz.prog 51 [.fz (opsC x.ops) x.ops.length false, .fz (opsC y.ops) y.ops.length false, .fn (.func 52) [] []] (.bool (all2 sameOp x.ops y.ops))) :
    Av.Fn Tryz.prog 50 [.agg (codeC x), .agg (codeC y)] (.bool (sameCode x y)) := by
  obtain ⟨nm, ops⟩ := x
  obtain ⟨nm', ops'⟩ := y
  unfold sameCode codeC
  dsimp only at h ⊢
  refine ACalls.of_W tb_ok (fn := Tryz.f50) (n := 17) (by kernel_rfl) rfl (by kernel_rfl) rfl rfl (by simp) (go ?_)
  refine VAll.mk (fun b1 => go ?_)
  refine VAll.mk (fun b2 => go ?_)
  cases hn : decide (nm = nm') with
  | true =>
    refine VIf.yes rfl (go ?_)
    refine Fn.use (h) (go ?_)
    refine VRet.mk [] .nil ?_
    exact ⟨by simp, rfl⟩
  | false =>
    refine VIf.no rfl (go ?_)
    refine VRet.mk [] .nil ?_
    exact ⟨by simp, rfl⟩
theorem f_LCodes (a b : List CodeT) (ha : a.length ≤ 1048576) (hb : b.length ≤ 1048576) (h : ∀ x ∈ a, ∀ y ∈ b, Av.Fn Tryz.prog 50 [.agg (codeC x), .agg (codeC y)] (.bool (sameCode x y))) :
    Av.Fn Tryz.prog 49 [.fz (codesC a) a.length false, .fz (codesC b) b.length false, .fn (.func 50) [] []] (.bool (all2 sameCode a b)) := by
  refine ACalls.of_W tb_ok (fn := Tryz.f49) (n := 32) (by kernel_rfl) rfl (by kernel_rfl) rfl rfl (by simp) (go ?_)
  refine fork (fun hne => go ?_) (fun hne => go ?_)
  · refine VRet.mk [] .nil ?_
    refine ⟨?_, rfl⟩
    cases e : all2 sameCode a b with
    | true => exact absurd (by rw [all2_len e]) hne
    | false => rfl
  · have hne : a.length = b.length := by omega
    refine VLoop.mk [17] Nat (fun i => [.int .i64 i]) (fun _ => []) (fun i => i ≤ a.length ∧ all2 sameCode a b = all2 sameCode (a.drop i) (b.drop i)) (fun i => a.length - i) 0 ?_ ?_
    · exact ⟨⟨by omega, by simp⟩, rfl, .nil⟩
    intro i ⟨hi, hI⟩
    refine go ?_
    refine fork (fun hlt => go ?_) (fun hlt => go ?_)
    · have hlt : i < a.length := by omega
      obtain ⟨x, hx⟩ : ∃ x, a[i]? = some x := ⟨a[i], by simp [hlt]⟩
      obtain ⟨y, hy⟩ : ∃ y, b[i]? = some y := ⟨b[i]'(by omega), by simp [hne ▸ hlt]⟩
      have hda : a.drop i = x :: a.drop (i + 1) := by rw [List.drop_eq_getElem_cons hlt]; congr 1; rw [List.getElem?_eq_getElem hlt] at hx; exact Option.some.inj hx
      have hdb : b.drop i = y :: b.drop (i + 1) := by rw [List.drop_eq_getElem_cons (hne ▸ hlt)]; congr 1; rw [List.getElem?_eq_getElem (hne ▸ hlt)] at hy; exact Option.some.inj hy
      rw [hda, hdb, all2] at hI
      have hxy := h x (List.mem_of_getElem? hx) y (List.mem_of_getElem? hy)
      have da := flat_drop codeC 2 codeC_len hx
      have db := flat_drop codeC 2 codeC_len hy
      have d1 : (List.drop (mulN i 2) (codesC a)).take 2 = codeC x := by rw [show codesC a = a.flatMap codeC from rfl, da]; rfl
      have d2 : (List.drop (mulN i 2) (codesC b)).take 2 = codeC y := by rw [show codesC b = b.flatMap codeC from rfl, db]; rfl
      refine VTake.mk _ d1 rfl (go ?_)
      refine VAll.mk (fun b8 => go ?_)
      refine VTake.mk _ d2 rfl (go ?_)
      refine VAll.mk (fun b9 => go ?_)
      refine go ?_
      refine Fn.use hxy (go ?_)
      cases hq : sameCode x y with
      | true =>
        rw [hq] at hI
        refine go ?_
        exact ⟨i + 1, ⟨by omega, by rw [hI, Bool.true_and]⟩, by omega, rfl, .nil⟩
      | false =>
        rw [hq] at hI
        refine go ?_
        refine VRet.mk [] .nil ?_
        rw [hI]; exact ⟨rfl, rfl⟩
    · rw [List.drop_eq_nil_of_le (by omega), List.drop_eq_nil_of_le (by omega)] at hI
      refine VRet.mk [] .nil ?_
      rw [hI]; exact ⟨by simp [all2], rfl⟩
theorem backL_mem : ∀ {codes : List CodeT} {l : List OpT} {r : List Tree}, backL codes l = some r → ∀ o ∈ l, ∃ t ∈ r, backO codes o = some t
  | _, [], _, _, o, ho => by cases ho
  | codes, x :: l, r, h, o, ho => by
    rw [backL] at h
    cases hx : backO codes x with
    | none => rw [hx] at h; cases h
    | some t =>
      rw [hx] at h
      dsimp only at h
      cases hl : backL codes l with
      | none => rw [hl] at h; cases h
      | some q =>
        rw [hl] at h
        obtain rfl : t :: q = r := Option.some.inj h
        rcases List.mem_cons.1 ho with rfl | ho
        · exact ⟨t, List.mem_cons_self .., hx⟩
        · obtain ⟨u, hu, hb⟩ := backL_mem hl o ho
          exact ⟨u, List.mem_cons_of_mem _ hu, hb⟩
theorem body_full {codes : List CodeT} {l : List OpT} (h : bodyOk codes l = true) {o : OpT} (ho : o ∈ l) (hv : valish o.v = true) (hs : isSome o.v = true) : o.v.full false = true := by
  unfold bodyOk at h
  cases hb : backL codes l with
  | none => rw [hb] at h; cases h
  | some r =>
    rw [hb] at h
    obtain ⟨t, ht, hbo⟩ := backL_mem hb o ho
    have hc : checkR r = true := by
      have : backOk r = true := h
      unfold backOk at this
      rw [Bool.and_eq_true] at this
      exact this.1
    have hf := meas_full false (.quot r) 1024 0 hc
    rw [Tree.full] at hf
    have he : o.v = t := by
      unfold backO at hbo
      split at hbo
      · exact Option.some.inj hbo
      · split at hbo
        · rename_i h2; rw [hs] at h2; exact absurd h2.2.1 (by simp)
        · split at hbo
          · rename_i h2; rw [hs] at h2; exact absurd h2.2.1 (by simp)
          · cases hbo
    subst he
    obtain ⟨i, hi⟩ := List.mem_iff_getElem?.1 ht
    refine full_val ?_ (fullAll_at hf hi)
    cases hq : o.v <;> first | rfl | (rw [hq] at hv; cases hv)
theorem sound_body {codes : List CodeT} (h : soundC codes = true) {c : CodeT} (hc : c ∈ codes) : bodyOk codes c.ops = true := by
  unfold soundC at h
  rw [List.all_eq_true] at h
  obtain ⟨i, hi⟩ := List.mem_iff_getElem?.1 hc
  have := h i (List.mem_range.2 (List.getElem?_eq_some_iff.1 hi).1)
  rw [hi] at this
  dsimp only at this
  rw [codeOk_eq, Bool.and_eq_true] at this
  exact this.2
theorem f_LEq {a b : List CodeT} (hal : a.length ≤ 1048576) (hbl : b.length ≤ 1048576) (ha : ∀ c ∈ a, CodeIn c) (hb : ∀ c ∈ b, CodeIn c) (sa : soundC a = true) (sb : soundC b = true) :
    Av.Fn Tryz.prog 49 [.fz (codesC a) a.length false, .fz (codesC b) b.length false, .fn (.func 50) [] []] (.bool (all2 sameCode a b)) :=
  f_LCodes a b hal hbl fun x hx y hy => f_LCode x y (f_LOps x.ops y.ops (ha x hx).ops (hb y hy).ops fun o ho p hp =>
    f_LOp o p ⟨((ha x hx).inp o ho).clean, ((ha x hx).inp o ho).val, body_full (sound_body sa hx) ho ((ha x hx).inp o ho).val⟩
      ⟨((hb y hy).inp p hp).clean, ((hb y hy).inp p hp).val, body_full (sound_body sb hy) hp ((hb y hy).inp p hp).val⟩)
def sameL (a b : List CodeT) : Bool := if soundC a && soundC b then all2 sameCode a b else !soundC a && !soundC b
theorem f_LSame {a b : List CodeT} (hal : a.length ≤ 1048576) (hbl : b.length ≤ 1048576) (ha : ∀ c ∈ a, CodeIn c) (hb : ∀ c ∈ b, CodeIn c) :
    Av.Fn Tryz.prog 24 [.fz (codesC a) a.length false, .fz (codesC b) b.length false] (.bool (sameL a b)) := by
  have hA := f_Check a hal ha
  have hB := f_Check b hbl hb
  have hE := f_LEq hal hbl ha hb
  unfold sameL
  cases sa : soundC a with
  | false =>
    rw [sa, if_neg (by simp)] at hA
    refine ACalls.of_W tb_ok (fn := Tryz.f24) (n := 25) (by kernel_rfl) rfl (by kernel_rfl) rfl rfl (by simp) (go ?_)
    refine Fn.use (hA) (go ?_)
    cases sb : soundC b with
    | false =>
      rw [sb, if_neg (by simp)] at hB
      refine Fn.use (hB) (go ?_)
      refine VRet.mk [] .nil ?_
      exact ⟨rfl, rfl⟩
    | true =>
      rw [sb, if_pos (by simp)] at hB
      refine Fn.use (hB) (go ?_)
      refine VRet.mk [] .nil ?_
      exact ⟨rfl, rfl⟩
  | true =>
    rw [sa, if_pos (by simp)] at hA
    refine ACalls.of_W tb_ok (fn := Tryz.f24) (n := 25) (by kernel_rfl) rfl (by kernel_rfl) rfl rfl (by simp) (go ?_)
    refine Fn.use (hA) (go ?_)
    cases sb : soundC b with
    | false =>
      rw [sb, if_neg (by simp)] at hB
      refine Fn.use (hB) (go ?_)
      refine VRet.mk [] .nil ?_
      exact ⟨rfl, rfl⟩
    | true =>
      rw [sb, if_pos (by simp)] at hB
      refine Fn.use (hB) (go ?_)
      refine Fn.use (hE sa sb) (go ?_)
      refine VRet.mk [] .nil ?_
      exact ⟨rfl, rfl⟩
end Go.Proofs.YtliabblchkgclaaGreatDoor

namespace Go.Proofs.YtliabblchkgclaaGreatDoor
open Go Go.Av
def movesV (x : Option (Nat × List Nat)) : AV := match x with
  | some x => .tup [.int .i64 (x.1 : Nat), .fz (x.2.map fun k : Nat => .int .i64 (k : Int)) x.2.length false, .bool true]
  | none => .tup [.int .i64 0, .fz [] 0 false, .bool false]
theorem f_moves (s : List UInt8) : Av.Fn Tryz.prog 124 [.str s] (movesV (moveR s)) := by
  unfold moveR
  refine ACalls.of_W tb_ok (fn := Tryz.f124) (n := 26) (by kernel_rfl) rfl (by kernel_rfl) rfl rfl (by simp) (go ?_)
  refine fork (fun h0 => go ?_) (fun h0 => go ?_)
  · have h0 : s = [100, 117, 112] := by simpa using h0
    rw [if_pos h0]
    refine VRet.mk [] .nil ?_
    exact ⟨rfl, rfl⟩
  have h0 : ¬ s = [100, 117, 112] := by simpa using h0
  rw [if_neg h0]
  refine fork (fun h1 => go ?_) (fun h1 => go ?_)
  · have h1 : s = [100, 114, 111, 112] := by simpa using h1
    rw [if_pos h1]
    refine VRet.mk [] .nil ?_
    exact ⟨rfl, rfl⟩
  have h1 : ¬ s = [100, 114, 111, 112] := by simpa using h1
  rw [if_neg h1]
  refine fork (fun h2 => go ?_) (fun h2 => go ?_)
  · have h2 : s = [115, 119, 97, 112] := by simpa using h2
    rw [if_pos h2]
    refine VRet.mk [] .nil ?_
    exact ⟨rfl, rfl⟩
  have h2 : ¬ s = [115, 119, 97, 112] := by simpa using h2
  rw [if_neg h2]
  refine fork (fun h3 => go ?_) (fun h3 => go ?_)
  · have h3 : s = [111, 118, 101, 114] := by simpa using h3
    rw [if_pos h3]
    refine VRet.mk [] .nil ?_
    exact ⟨rfl, rfl⟩
  have h3 : ¬ s = [111, 118, 101, 114] := by simpa using h3
  rw [if_neg h3]
  refine fork (fun h4 => go ?_) (fun h4 => go ?_)
  · have h4 : s = [114, 111, 116] := by simpa using h4
    rw [if_pos h4]
    refine VRet.mk [] .nil ?_
    exact ⟨rfl, rfl⟩
  have h4 : ¬ s = [114, 111, 116] := by simpa using h4
  rw [if_neg h4]
  refine fork (fun h5 => go ?_) (fun h5 => go ?_)
  · have h5 : s = [110, 105, 112] := by simpa using h5
    rw [if_pos h5]
    refine VRet.mk [] .nil ?_
    exact ⟨rfl, rfl⟩
  have h5 : ¬ s = [110, 105, 112] := by simpa using h5
  rw [if_neg h5]
  refine fork (fun h6 => go ?_) (fun h6 => go ?_)
  · have h6 : s = [116, 117, 99, 107] := by simpa using h6
    rw [if_pos h6]
    refine VRet.mk [] .nil ?_
    exact ⟨rfl, rfl⟩
  have h6 : ¬ s = [116, 117, 99, 107] := by simpa using h6
  rw [if_neg h6]
  refine VRet.mk [] .nil ?_
  exact ⟨rfl, rfl⟩
def primW (x : Option (Nat × Nat)) : AV := match x with
  | some x => .tup [.int .i64 (x.1 : Nat), .int .i64 (x.2 : Nat), .bool true]
  | none => .tup [.int .i64 0, .int .i64 0, .bool false]
theorem move_prim {s : List UInt8} {k : Nat} {ks : List Nat} (h : moveR s = some (k, ks)) : primR s = some (k, ks.length) := by
  unfold moveR at h
  repeat' (split at h)
  all_goals first
    | (rename_i e; cases h; subst e; decide)
    | cases h
def prims2 : List (List UInt8) := [[110, 101, 103], [97, 98, 115], [110, 111, 116], [105, 110, 116, 63], [115, 116, 114, 63], [98, 111, 111, 108, 63], [108, 105, 115, 116, 63], [113, 117, 111, 116, 63], [98, 111, 120, 63], [108, 101, 110, 103, 116, 104], [119, 114, 97, 112], [114, 101, 118, 101, 114, 115, 101], [62, 115, 116, 114], [62, 105, 110, 116], [98, 111, 120], [103, 101, 116], [43], [45], [42], [47], [109, 111, 100], [109, 105, 110], [109, 97, 120], [60], [62], [61], [97, 110, 100], [111, 114], [97, 112, 112, 101, 110, 100], [110, 116, 104], [112, 97, 105, 114], [99, 117, 114, 114, 121], [99, 111, 109, 112, 111, 115, 101], [115, 108, 105, 99, 101], [117, 110, 112, 97, 105, 114], [112, 117, 116], [46]]
theorem prim_mem {s : List UInt8} {x : Nat × Nat} (h : primR s = some x) (hm : moveR s = none) : s ∈ prims2 := by
  unfold primR at h
  cases hf : primsL.find? fun p => p.eff.isSome && decide (p.name = s) with
  | none => rw [hf] at h; cases h
  | some p =>
    have h1 := List.mem_of_find?_eq_some hf
    have h2 := List.find?_some hf
    simp only [Bool.and_eq_true, decide_eq_true_eq] at h2
    have key : (primsL.all fun p => !p.eff.isSome || (moveR p.name).isSome || decide (p.name ∈ prims2)) = true := by decide +kernel
    have := List.all_eq_true.1 key p h1
    rw [h2.1, h2.2, hm] at this
    simpa using this
set_option maxHeartbeats 4000000 in
theorem f_refPrim (s : List UInt8) : Av.Fn Tryz.prog 96 [.str s] (primW (primR s)) := by
  have hm := f_moves s
  cases hmv : moveR s with
  | some x =>
    obtain ⟨k, ks⟩ := x
    rw [hmv] at hm
    rw [move_prim hmv]
    refine ACalls.of_W tb_ok (fn := Tryz.f96) (n := 62) (by kernel_rfl) rfl (by kernel_rfl) rfl rfl (by simp) (go ?_)
    refine Fn.use (hm) (go ?_)
    refine VRet.mk [] .nil ?_
    exact ⟨rfl, rfl⟩
  | none =>
  rw [hmv] at hm
  refine ACalls.of_W tb_ok (fn := Tryz.f96) (n := 62) (by kernel_rfl) rfl (by kernel_rfl) rfl rfl (by simp) (go ?_)
  refine Fn.use (hm) (go ?_)
  refine fork (fun h0 => go ?_) (fun h0 => go ?_)
  · have h0 : s = [110, 101, 103] := by simpa using h0
    subst h0
    refine go ?_
    refine VRet.mk [] .nil ?_
    exact ⟨rfl, rfl⟩
  have h0 : ¬ s = [110, 101, 103] := by simpa using h0
  refine fork (fun h1 => go ?_) (fun h1 => go ?_)
  · have h1 : s = [97, 98, 115] := by simpa using h1
    subst h1
    refine go ?_
    refine VRet.mk [] .nil ?_
    exact ⟨rfl, rfl⟩
  have h1 : ¬ s = [97, 98, 115] := by simpa using h1
  refine fork (fun h2 => go ?_) (fun h2 => go ?_)
  · have h2 : s = [110, 111, 116] := by simpa using h2
    subst h2
    refine go ?_
    refine VRet.mk [] .nil ?_
    exact ⟨rfl, rfl⟩
  have h2 : ¬ s = [110, 111, 116] := by simpa using h2
  refine fork (fun h3 => go ?_) (fun h3 => go ?_)
  · have h3 : s = [105, 110, 116, 63] := by simpa using h3
    subst h3
    refine go ?_
    refine VRet.mk [] .nil ?_
    exact ⟨rfl, rfl⟩
  have h3 : ¬ s = [105, 110, 116, 63] := by simpa using h3
  refine fork (fun h4 => go ?_) (fun h4 => go ?_)
  · have h4 : s = [115, 116, 114, 63] := by simpa using h4
    subst h4
    refine go ?_
    refine VRet.mk [] .nil ?_
    exact ⟨rfl, rfl⟩
  have h4 : ¬ s = [115, 116, 114, 63] := by simpa using h4
  refine fork (fun h5 => go ?_) (fun h5 => go ?_)
  · have h5 : s = [98, 111, 111, 108, 63] := by simpa using h5
    subst h5
    refine go ?_
    refine VRet.mk [] .nil ?_
    exact ⟨rfl, rfl⟩
  have h5 : ¬ s = [98, 111, 111, 108, 63] := by simpa using h5
  refine fork (fun h6 => go ?_) (fun h6 => go ?_)
  · have h6 : s = [108, 105, 115, 116, 63] := by simpa using h6
    subst h6
    refine go ?_
    refine VRet.mk [] .nil ?_
    exact ⟨rfl, rfl⟩
  have h6 : ¬ s = [108, 105, 115, 116, 63] := by simpa using h6
  refine fork (fun h7 => go ?_) (fun h7 => go ?_)
  · have h7 : s = [113, 117, 111, 116, 63] := by simpa using h7
    subst h7
    refine go ?_
    refine VRet.mk [] .nil ?_
    exact ⟨rfl, rfl⟩
  have h7 : ¬ s = [113, 117, 111, 116, 63] := by simpa using h7
  refine fork (fun h8 => go ?_) (fun h8 => go ?_)
  · have h8 : s = [98, 111, 120, 63] := by simpa using h8
    subst h8
    refine go ?_
    refine VRet.mk [] .nil ?_
    exact ⟨rfl, rfl⟩
  have h8 : ¬ s = [98, 111, 120, 63] := by simpa using h8
  refine fork (fun h9 => go ?_) (fun h9 => go ?_)
  · have h9 : s = [108, 101, 110, 103, 116, 104] := by simpa using h9
    subst h9
    refine go ?_
    refine VRet.mk [] .nil ?_
    exact ⟨rfl, rfl⟩
  have h9 : ¬ s = [108, 101, 110, 103, 116, 104] := by simpa using h9
  refine fork (fun h10 => go ?_) (fun h10 => go ?_)
  · have h10 : s = [119, 114, 97, 112] := by simpa using h10
    subst h10
    refine go ?_
    refine VRet.mk [] .nil ?_
    exact ⟨rfl, rfl⟩
  have h10 : ¬ s = [119, 114, 97, 112] := by simpa using h10
  refine fork (fun h11 => go ?_) (fun h11 => go ?_)
  · have h11 : s = [114, 101, 118, 101, 114, 115, 101] := by simpa using h11
    subst h11
    refine go ?_
    refine VRet.mk [] .nil ?_
    exact ⟨rfl, rfl⟩
  have h11 : ¬ s = [114, 101, 118, 101, 114, 115, 101] := by simpa using h11
  refine fork (fun h12 => go ?_) (fun h12 => go ?_)
  · have h12 : s = [62, 115, 116, 114] := by simpa using h12
    subst h12
    refine go ?_
    refine VRet.mk [] .nil ?_
    exact ⟨rfl, rfl⟩
  have h12 : ¬ s = [62, 115, 116, 114] := by simpa using h12
  refine fork (fun h13 => go ?_) (fun h13 => go ?_)
  · have h13 : s = [62, 105, 110, 116] := by simpa using h13
    subst h13
    refine go ?_
    refine VRet.mk [] .nil ?_
    exact ⟨rfl, rfl⟩
  have h13 : ¬ s = [62, 105, 110, 116] := by simpa using h13
  refine fork (fun h14 => go ?_) (fun h14 => go ?_)
  · have h14 : s = [98, 111, 120] := by simpa using h14
    subst h14
    refine go ?_
    refine VRet.mk [] .nil ?_
    exact ⟨rfl, rfl⟩
  have h14 : ¬ s = [98, 111, 120] := by simpa using h14
  refine fork (fun h15 => go ?_) (fun h15 => go ?_)
  · have h15 : s = [103, 101, 116] := by simpa using h15
    subst h15
    refine go ?_
    refine VRet.mk [] .nil ?_
    exact ⟨rfl, rfl⟩
  have h15 : ¬ s = [103, 101, 116] := by simpa using h15
  refine fork (fun h16 => go ?_) (fun h16 => go ?_)
  · have h16 : s = [43] := by simpa using h16
    subst h16
    refine go ?_
    refine VRet.mk [] .nil ?_
    exact ⟨rfl, rfl⟩
  have h16 : ¬ s = [43] := by simpa using h16
  refine fork (fun h17 => go ?_) (fun h17 => go ?_)
  · have h17 : s = [45] := by simpa using h17
    subst h17
    refine go ?_
    refine VRet.mk [] .nil ?_
    exact ⟨rfl, rfl⟩
  have h17 : ¬ s = [45] := by simpa using h17
  refine fork (fun h18 => go ?_) (fun h18 => go ?_)
  · have h18 : s = [42] := by simpa using h18
    subst h18
    refine go ?_
    refine VRet.mk [] .nil ?_
    exact ⟨rfl, rfl⟩
  have h18 : ¬ s = [42] := by simpa using h18
  refine fork (fun h19 => go ?_) (fun h19 => go ?_)
  · have h19 : s = [47] := by simpa using h19
    subst h19
    refine go ?_
    refine VRet.mk [] .nil ?_
    exact ⟨rfl, rfl⟩
  have h19 : ¬ s = [47] := by simpa using h19
  refine fork (fun h20 => go ?_) (fun h20 => go ?_)
  · have h20 : s = [109, 111, 100] := by simpa using h20
    subst h20
    refine go ?_
    refine VRet.mk [] .nil ?_
    exact ⟨rfl, rfl⟩
  have h20 : ¬ s = [109, 111, 100] := by simpa using h20
  refine fork (fun h21 => go ?_) (fun h21 => go ?_)
  · have h21 : s = [109, 105, 110] := by simpa using h21
    subst h21
    refine go ?_
    refine VRet.mk [] .nil ?_
    exact ⟨rfl, rfl⟩
  have h21 : ¬ s = [109, 105, 110] := by simpa using h21
  refine fork (fun h22 => go ?_) (fun h22 => go ?_)
  · have h22 : s = [109, 97, 120] := by simpa using h22
    subst h22
    refine go ?_
    refine VRet.mk [] .nil ?_
    exact ⟨rfl, rfl⟩
  have h22 : ¬ s = [109, 97, 120] := by simpa using h22
  refine fork (fun h23 => go ?_) (fun h23 => go ?_)
  · have h23 : s = [60] := by simpa using h23
    subst h23
    refine go ?_
    refine VRet.mk [] .nil ?_
    exact ⟨rfl, rfl⟩
  have h23 : ¬ s = [60] := by simpa using h23
  refine fork (fun h24 => go ?_) (fun h24 => go ?_)
  · have h24 : s = [62] := by simpa using h24
    subst h24
    refine go ?_
    refine VRet.mk [] .nil ?_
    exact ⟨rfl, rfl⟩
  have h24 : ¬ s = [62] := by simpa using h24
  refine fork (fun h25 => go ?_) (fun h25 => go ?_)
  · have h25 : s = [61] := by simpa using h25
    subst h25
    refine go ?_
    refine VRet.mk [] .nil ?_
    exact ⟨rfl, rfl⟩
  have h25 : ¬ s = [61] := by simpa using h25
  refine fork (fun h26 => go ?_) (fun h26 => go ?_)
  · have h26 : s = [97, 110, 100] := by simpa using h26
    subst h26
    refine go ?_
    refine VRet.mk [] .nil ?_
    exact ⟨rfl, rfl⟩
  have h26 : ¬ s = [97, 110, 100] := by simpa using h26
  refine fork (fun h27 => go ?_) (fun h27 => go ?_)
  · have h27 : s = [111, 114] := by simpa using h27
    subst h27
    refine go ?_
    refine VRet.mk [] .nil ?_
    exact ⟨rfl, rfl⟩
  have h27 : ¬ s = [111, 114] := by simpa using h27
  refine fork (fun h28 => go ?_) (fun h28 => go ?_)
  · have h28 : s = [97, 112, 112, 101, 110, 100] := by simpa using h28
    subst h28
    refine go ?_
    refine VRet.mk [] .nil ?_
    exact ⟨rfl, rfl⟩
  have h28 : ¬ s = [97, 112, 112, 101, 110, 100] := by simpa using h28
  refine fork (fun h29 => go ?_) (fun h29 => go ?_)
  · have h29 : s = [110, 116, 104] := by simpa using h29
    subst h29
    refine go ?_
    refine VRet.mk [] .nil ?_
    exact ⟨rfl, rfl⟩
  have h29 : ¬ s = [110, 116, 104] := by simpa using h29
  refine fork (fun h30 => go ?_) (fun h30 => go ?_)
  · have h30 : s = [112, 97, 105, 114] := by simpa using h30
    subst h30
    refine go ?_
    refine VRet.mk [] .nil ?_
    exact ⟨rfl, rfl⟩
  have h30 : ¬ s = [112, 97, 105, 114] := by simpa using h30
  refine fork (fun h31 => go ?_) (fun h31 => go ?_)
  · have h31 : s = [99, 117, 114, 114, 121] := by simpa using h31
    subst h31
    refine go ?_
    refine VRet.mk [] .nil ?_
    exact ⟨rfl, rfl⟩
  have h31 : ¬ s = [99, 117, 114, 114, 121] := by simpa using h31
  refine fork (fun h32 => go ?_) (fun h32 => go ?_)
  · have h32 : s = [99, 111, 109, 112, 111, 115, 101] := by simpa using h32
    subst h32
    refine go ?_
    refine VRet.mk [] .nil ?_
    exact ⟨rfl, rfl⟩
  have h32 : ¬ s = [99, 111, 109, 112, 111, 115, 101] := by simpa using h32
  refine fork (fun h33 => go ?_) (fun h33 => go ?_)
  · have h33 : s = [115, 108, 105, 99, 101] := by simpa using h33
    subst h33
    refine go ?_
    refine VRet.mk [] .nil ?_
    exact ⟨rfl, rfl⟩
  have h33 : ¬ s = [115, 108, 105, 99, 101] := by simpa using h33
  refine fork (fun h34 => go ?_) (fun h34 => go ?_)
  · have h34 : s = [117, 110, 112, 97, 105, 114] := by simpa using h34
    subst h34
    refine go ?_
    refine VRet.mk [] .nil ?_
    exact ⟨rfl, rfl⟩
  have h34 : ¬ s = [117, 110, 112, 97, 105, 114] := by simpa using h34
  refine fork (fun h35 => go ?_) (fun h35 => go ?_)
  · have h35 : s = [112, 117, 116] := by simpa using h35
    subst h35
    refine go ?_
    refine VRet.mk [] .nil ?_
    exact ⟨rfl, rfl⟩
  have h35 : ¬ s = [112, 117, 116] := by simpa using h35
  refine fork (fun h36 => go ?_) (fun h36 => go ?_)
  · have h36 : s = [46] := by simpa using h36
    subst h36
    refine go ?_
    refine VRet.mk [] .nil ?_
    exact ⟨rfl, rfl⟩
  have h36 : ¬ s = [46] := by simpa using h36
  have hn : primR s = none := by
    cases hp : primR s with
    | none => rfl
    | some x =>
      have := prim_mem hp hmv
      simp only [prims2, List.mem_cons, List.not_mem_nil, or_false] at this
      exfalso
      rcases this with h | h | h | h | h | h | h | h | h | h | h | h | h | h | h | h | h | h | h | h | h | h | h | h | h | h | h | h | h | h | h | h | h | h | h | h | h <;> contradiction
  rw [hn]
  refine VRet.mk [] .nil ?_
  exact ⟨rfl, rfl⟩
end Go.Proofs.YtliabblchkgclaaGreatDoor

namespace Go.Proofs.YtliabblchkgclaaGreatDoor
open Go Go.Av
theorem f_ctl (s : List UInt8) : Av.Fn Tryz.prog 97 [.str s] (.bool (ctlL.contains s)) := by
  have e : ctlL.contains s = (decide (s = [99, 97, 108, 108]) || (decide (s = [100, 105, 112]) || (decide (s = [107, 101, 101, 112]) || (decide (s = [105, 102]) || (decide (s = [119, 104, 101, 110]) || (decide (s = [116, 105, 109, 101, 115]) || (decide (s = [101, 97, 99, 104]) || (decide (s = [108, 111, 111, 112]) || false)))))))) := by
    rw [Bool.eq_iff_iff]
    simp [ctlL, List.contains_iff_mem]
  rw [e]
  refine ACalls.of_W tb_ok (fn := Tryz.f97) (n := 33) (by kernel_rfl) rfl (by kernel_rfl) rfl rfl (by simp) (go ?_)
  refine fork (fun h0 => go ?_) (fun h0 => go ?_)
  · have h0 : s = [99, 97, 108, 108] := by simpa using h0
    subst h0
    refine go ?_
    refine VRet.mk [] .nil ?_
    exact ⟨rfl, rfl⟩
  have h0 : ¬ s = [99, 97, 108, 108] := by simpa using h0
  rw [decide_eq_false h0, Bool.false_or]
  refine fork (fun h1 => go ?_) (fun h1 => go ?_)
  · have h1 : s = [100, 105, 112] := by simpa using h1
    subst h1
    refine go ?_
    refine VRet.mk [] .nil ?_
    exact ⟨rfl, rfl⟩
  have h1 : ¬ s = [100, 105, 112] := by simpa using h1
  rw [decide_eq_false h1, Bool.false_or]
  refine fork (fun h2 => go ?_) (fun h2 => go ?_)
  · have h2 : s = [107, 101, 101, 112] := by simpa using h2
    subst h2
    refine go ?_
    refine VRet.mk [] .nil ?_
    exact ⟨rfl, rfl⟩
  have h2 : ¬ s = [107, 101, 101, 112] := by simpa using h2
  rw [decide_eq_false h2, Bool.false_or]
  refine fork (fun h3 => go ?_) (fun h3 => go ?_)
  · have h3 : s = [105, 102] := by simpa using h3
    subst h3
    refine go ?_
    refine VRet.mk [] .nil ?_
    exact ⟨rfl, rfl⟩
  have h3 : ¬ s = [105, 102] := by simpa using h3
  rw [decide_eq_false h3, Bool.false_or]
  refine fork (fun h4 => go ?_) (fun h4 => go ?_)
  · have h4 : s = [119, 104, 101, 110] := by simpa using h4
    subst h4
    refine go ?_
    refine VRet.mk [] .nil ?_
    exact ⟨rfl, rfl⟩
  have h4 : ¬ s = [119, 104, 101, 110] := by simpa using h4
  rw [decide_eq_false h4, Bool.false_or]
  refine fork (fun h5 => go ?_) (fun h5 => go ?_)
  · have h5 : s = [116, 105, 109, 101, 115] := by simpa using h5
    subst h5
    refine go ?_
    refine VRet.mk [] .nil ?_
    exact ⟨rfl, rfl⟩
  have h5 : ¬ s = [116, 105, 109, 101, 115] := by simpa using h5
  rw [decide_eq_false h5, Bool.false_or]
  refine fork (fun h6 => go ?_) (fun h6 => go ?_)
  · have h6 : s = [101, 97, 99, 104] := by simpa using h6
    subst h6
    refine go ?_
    refine VRet.mk [] .nil ?_
    exact ⟨rfl, rfl⟩
  have h6 : ¬ s = [101, 97, 99, 104] := by simpa using h6
  rw [decide_eq_false h6, Bool.false_or]
  refine VRet.mk [] .nil ?_
  exact ⟨by simp, rfl⟩
theorem f_is12 (s : List UInt8) : Av.Fn Tryz.prog 75 [.str s] (.bool ((primR s).isSome || ctlL.contains s)) := by
  have h := f_refPrim s
  have h2 := f_ctl s
  cases hp : primR s with
  | some x =>
    rw [hp] at h
    obtain ⟨i, o⟩ := x
    have h : Av.Fn Tryz.prog 96 [.str s] (.tup [.int .i64 (i : Nat), .int .i64 (o : Nat), .bool true]) := h
    refine ACalls.of_W tb_ok (fn := Tryz.f75) (n := 17) (by kernel_rfl) rfl (by kernel_rfl) rfl rfl (by simp) (go ?_)
    refine Fn.use (h) (go ?_)
    refine VRet.mk [] .nil ?_
    exact ⟨rfl, rfl⟩
  | none =>
    rw [hp] at h
    have h : Av.Fn Tryz.prog 96 [.str s] (.tup [.int .i64 0, .int .i64 0, .bool false]) := h
    refine ACalls.of_W tb_ok (fn := Tryz.f75) (n := 17) (by kernel_rfl) rfl (by kernel_rfl) rfl rfl (by simp) (go ?_)
    refine Fn.use (h) (go ?_)
    refine Fn.use (h2) (go ?_)
    refine VRet.mk [] .nil ?_
    exact ⟨by simp, rfl⟩
theorem f_names12 : Av.Fn Tryz.prog 70 [] (.fz (namesL.map .str) 52 false) := by
  refine ACalls.of_W tb_ok (fn := Tryz.f70) (n := 2) (by kernel_rfl) rfl (by kernel_rfl) rfl rfl (by simp) (go ?_)
  refine VRet.mk [] .nil ?_
  exact ⟨rfl, rfl⟩
def callR (s : List UInt8) : Bool := nmR s && !((primR s).isSome || ctlL.contains s)
theorem f_callable (s : List UInt8) (hs : s.length ≤ 1000000000) : Av.Fn Tryz.prog 47 [.str s] (.bool (callR s)) := by
  have h := f_ref07Name s hs
  have h2 := f_is12 s
  unfold callR nmR
  generalize (nameR s && !reservedR s) = p at h ⊢
  refine ACalls.of_W tb_ok (fn := Tryz.f47) (n := 10) (by kernel_rfl) rfl (by kernel_rfl) rfl rfl (by simp) (go ?_)
  refine Fn.use (h) (go ?_)
  cases p with
  | false =>
    refine go ?_
    refine VRet.mk [] .nil ?_
    exact ⟨rfl, rfl⟩
  | true =>
    refine go ?_
    refine Fn.use (h2) (go ?_)
    refine VRet.mk [] .nil ?_
    exact ⟨by simp, rfl⟩
theorem f_namesOf (l : List RCode) (hl : l.length ≤ 1048576) : Av.Fn Tryz.prog 41 [.fz (rcodesC l) l.length false] (.fz ((l.map (·.name)).map .str) l.length false) := by
  refine ACalls.of_W tb_ok (fn := Tryz.f41) (n := 20) (by kernel_rfl) rfl (by kernel_rfl) rfl rfl (by simp) (go ?_)
  refine VLoop.mk [3, 4] AccI (fun i => [accV i.o i.k, .int .i64 i.k]) (fun i => accS i.o 1 (((l.take i.k).map (·.name)).map .str)) (fun i => i.k ≤ l.length ∧ (i.o = none → i.k = 0)) (fun i => l.length - i.k) ⟨0, none⟩ ?_ ?_
  · exact ⟨⟨Nat.zero_le _, fun _ => rfl⟩, rfl, .nil⟩
  rintro ⟨k, o⟩ ⟨hk, ho⟩
  dsimp only at hk ho ⊢
  refine go ?_
  refine fork (fun hlt => go ?_) (fun hlt => ?_)
  · have hlt : k < l.length := by omega
    obtain ⟨x, hx⟩ : ∃ x, l[k]? = some x := ⟨l[k], by simp [hlt]⟩
    have hd := flat_drop rcodeC 2 rcodeC_len hx
    have hacc : ((l.take (k + 1)).map (·.name)).map AV.str = ((l.take k).map (·.name)).map AV.str ++ [.str x.name] := by
      rw [take_succ_at hx]; simp
    have hlen : (((l.take k).map (·.name)).map AV.str).length = k * 1 := by simp; omega
    obtain ⟨nm, ops⟩ := x
    have hd : List.drop (mulN k 2) (rcodesC l) = [.str nm, .fz (ropsC ops) ops.length false] ++ rcodesC (l.drop (k + 1)) := hd
    have d0 : (List.drop 0 (List.drop (mulN k 2) (rcodesC l)))[0]? = some (.str nm) := by rw [hd]; rfl
    refine VNth.mk _ d0 (go ?_)
    cases o with
    | none =>
      obtain rfl : k = 0 := ho rfl
      refine go ?_
      refine VAll.mk (fun b6 => go ?_)
      refine ⟨⟨1, some b6⟩, ⟨by dsimp only; omega, by simp⟩, by dsimp only; omega, rfl, .cons 0 (congrArg (fun c => some (b6, AObj.arr 1 c 0)) ?_) .nil⟩
      exact hacc.symm
    | some bo =>
      refine go ?_
      refine VGd.mk ⟨rfl, Nat.zero_le _, by rw [mulN_eq, hlen]; exact Nat.le_refl _, by dsimp only; omega⟩ (go ?_)
      refine VAll.mk (fun b6 => go ?_)
      refine ⟨⟨k + 1, some b6⟩, ⟨by dsimp only; omega, by simp⟩, by dsimp only; omega, rfl, .cons 0 (congrArg (fun c => some (b6, AObj.arr 1 c 0)) ?_) .nil⟩
      rw [mulN_eq, List.take_of_length_le (by rw [hlen]; exact Nat.le_refl _)]
      exact hacc.symm
  · obtain rfl : k = l.length := by omega
    rw [List.take_length]
    cases o with
    | none =>
      have h0 := List.length_eq_zero_iff.1 (ho rfl)
      subst h0
      refine go ?_
      refine VRet.mk [] .nil ?_
      exact ⟨rfl, rfl⟩
    | some bo =>
      have htk : ((l.map (·.name)).map AV.str).take (l.length * 1) = (l.map (·.name)).map AV.str := List.take_of_length_le (by simp)
      refine go ?_
      refine VRet.mk [] .nil ?_
      refine ⟨?_, rfl⟩
      rw [htk]
def ritemsV (r : Option (List RV)) : AV := match r with
  | none => .tup [.fz [] 0 false, .bool false]
  | some l => .tup [.fz (rvsC l) l.length false, .bool (refOk l)]
/-- What the document's answer is asked of. -/
structure RIn (c : RCode) : Prop where
  ops : c.ops.length ≤ 1048576
  name : c.name.length ≤ 1048576
  inp : ∀ o ∈ c.ops, o.v.small = true ∧ o.v.fit = true
theorem refBackL_next {names : List (List UInt8)} {l : List ROp} {k : Nat} {o : ROp} (h : l[k]? = some o) (A : List RV) : (refBackL names (l.drop k)).map (A ++ ·) = match refBackO names o with
    | none => none
    | some t => (refBackL names (l.drop (k + 1))).map ((A ++ [t]) ++ ·) := by
  have hlt := (List.getElem?_eq_some_iff.1 h).1
  have hd : l.drop k = o :: l.drop (k + 1) := by
    rw [List.drop_eq_getElem_cons hlt]
    congr 1
    rw [List.getElem?_eq_getElem hlt] at h
    exact Option.some.inj h
  rw [hd, refBackL]
  cases refBackO names o with
  | none => rfl
  | some t =>
    dsimp only
    cases refBackL names (l.drop (k + 1)) with
    | none => rfl
    | some r => dsimp only [Option.map_some]; rw [List.append_assoc]; rfl
theorem fitAll_append {a b : List RV} (ha : fitAll a = true) (hb : fitAll b = true) : fitAll (a ++ b) = true := by
  induction a with
  | nil => exact hb
  | cons x r ih =>
    simp only [fitAll, Bool.and_eq_true] at ha
    simp only [List.cons_append, fitAll, Bool.and_eq_true]
    exact ⟨ha.1, ih ha.2⟩
theorem smallAll_append {a b : List RV} (ha : smallAll a = true) (hb : smallAll b = true) : smallAll (a ++ b) = true := by
  induction a with
  | nil => exact hb
  | cons x r ih =>
    simp only [smallAll, Bool.and_eq_true] at ha
    simp only [List.cons_append, smallAll, Bool.and_eq_true]
    exact ⟨ha.1, ih ha.2⟩
theorem refBackO_in {names : List (List UInt8)} (hn : ∀ n ∈ names, n.length ≤ 1048576) {o : ROp} (h1 : o.v.small = true) (h2 : o.v.fit = true) {t : RV} (h : refBackO names o = some t) : t.small = true ∧ t.fit = true := by
  have key : ∀ s : List UInt8, s.length ≤ 1048576 → (RV.mk 7 0 s []).small = true ∧ (RV.mk 7 0 s []).fit = true := fun s hs => by
    constructor
    · simp [RV.small, smallAll]
    · simp [RV.fit]; omega
  unfold refBackO at h
  split at h
  · cases h; exact ⟨h1, h2⟩
  · split at h
    · cases h
      exact key _ (Nat.le_trans names_small (by omega))
    · split at h
      · cases h
        refine key _ ?_
        rw [List.getD_eq_getElem?_getD]
        cases hq : names[o.n.toNat]? with
        | none => exact Nat.zero_le _
        | some w => exact hn w (List.mem_of_getElem? hq)
      · cases h
theorem rb1 {names : List (List UInt8)} {kd n a b : Int} {s : List UInt8} {q : List RV} (h : kd = 1 ∧ n = 0 ∧ a ≠ 0 ∧ a ≠ 7) : refBackO names ⟨kd, n, .mk a b s q⟩ = some (.mk a b s q) := by
  exact if_pos h
theorem rb2 {names : List (List UInt8)} {kd n a b : Int} {s : List UInt8} {q : List RV} (h : kd = 2 ∧ a = 0 ∧ 0 ≤ n ∧ n < 52) : refBackO names ⟨kd, n, .mk a b s q⟩ = some (.mk 7 0 (namesL.getD n.toNat []) []) := by
  exact (if_neg (fun c => absurd (h.1.symm.trans c.1) (by decide))).trans (if_pos h)
theorem rb3 {names : List (List UInt8)} {kd n a b : Int} {s : List UInt8} {q : List RV} (h : kd = 3 ∧ a = 0 ∧ 0 ≤ n ∧ n < names.length) : refBackO names ⟨kd, n, .mk a b s q⟩ = some (.mk 7 0 (names.getD n.toNat []) []) := by
  exact (if_neg (fun c => absurd (h.1.symm.trans c.1) (by decide))).trans ((if_neg (fun c => absurd (h.1.symm.trans c.1) (by decide))).trans (if_pos h))
theorem rb0 {names : List (List UInt8)} {kd n a b : Int} {s : List UInt8} {q : List RV} (h1 : ¬ (kd = 1 ∧ n = 0 ∧ a ≠ 0 ∧ a ≠ 7)) (h2 : ¬ (kd = 2 ∧ a = 0 ∧ 0 ≤ n ∧ n < 52)) (h3 : ¬ (kd = 3 ∧ a = 0 ∧ 0 ≤ n ∧ n < names.length)) : refBackO names ⟨kd, n, .mk a b s q⟩ = none := by
  exact (if_neg h1).trans ((if_neg h2).trans (if_neg h3))
structure BackJ where
  k : Nat
  o : Option Nat
  A : List RV




/-- What is handed to a call need not be written any more. -/
theorem acalls_cool {P : Program} {f : FuncId} {args args' : List AV} {st st' : St} {Post : AOut → St → Prop} (hf : FzL args args' st st') (h : ACalls P f args' st' Post) : ACalls P f args st Post :=
  ⟨h.ent, fun W F g w us hl hr inv => by
    obtain ⟨g1, le1, inv1, k⟩ := hf.sound inv
    exact (h.run W F g1 w us hl (k false us hr) inv1).mono fun e w' ⟨g', out, st'', le, x⟩ => ⟨g', out, st'', Gh.le_trans le1 le, x⟩⟩
theorem f_bare0 : Av.Fn Tryz.prog 39 [.agg [.int .i64 5, .int .i64 0, .str [], .nils]] (.bool true) := by
  refine ACalls.of_W tb_ok (fn := Tryz.f39) (n := 21) (by kernel_rfl) rfl (by kernel_rfl) rfl rfl (by simp) (go ?_)
  refine VAll.mk (fun b => go ?_)
  refine VLoop.mk [3] Unit (fun _ => [.int .i64 0]) (fun _ => [(b, .box [.int .i64 5, .int .i64 0, .str [], .nils])]) (fun _ => True) (fun _ => 0) () ?_ ?_
  · exact ⟨trivial, rfl, .cons 0 rfl .nil⟩
  rintro _ _
  refine go ?_
  refine VRet.mk [] .nil ?_
  exact ⟨rfl, rfl⟩
set_option maxHeartbeats 2000000 in
theorem f_ritems (names : List (List UInt8)) (l : List ROp) (hnl : names.length ≤ 1048576) (hll : l.length ≤ 1048576) (hn : ∀ n ∈ names, n.length ≤ 1048576) (hl : ∀ o ∈ l, o.v.small = true ∧ o.v.fit = true) :
    Av.Fn Tryz.prog 44 [.fz (names.map .str) names.length false, .fz (ropsC l) l.length false] (ritemsV (refBackL names l)) := by
  refine ACalls.of_W tb_ok (fn := Tryz.f44) (n := 115) (by kernel_rfl) rfl (by kernel_rfl) rfl rfl (by simp) (go ?_)
  refine VLoop.mk [6, 7] BackJ (fun i => [accV i.o i.A.length, .int .i64 i.k]) (fun i => accS i.o 4 (rvsC i.A))
    (fun i => i.k ≤ l.length ∧ (i.o = none → i.A = []) ∧ i.A.length = i.k ∧ smallAll i.A = true ∧ fitAll i.A = true ∧ refBackL names l = (refBackL names (l.drop i.k)).map (i.A ++ ·)) (fun i => l.length - i.k) ⟨0, none, []⟩ ?_ ?_
  · exact ⟨⟨Nat.zero_le _, fun _ => rfl, rfl, rfl, rfl, by dsimp only; rw [List.drop_zero]; cases refBackL names l <;> rfl⟩, rfl, .nil⟩
  rintro ⟨k, o, A⟩ ⟨hk, ho, hA, hcA, hnA, hI⟩
  dsimp only at hk ho hA hcA hnA hI ⊢
  refine go ?_
  refine fork (fun hlt => go ?_) (fun hlt => ?_)
  · have hlt : k < l.length := by omega
    obtain ⟨x, hx⟩ : ∃ x, l[k]? = some x := ⟨l[k], by simp [hlt]⟩
    have hin := hl x (List.mem_of_getElem? hx)
    rw [refBackL_next hx] at hI
    have hO : ∀ t, refBackO names x = some t → t.small = true ∧ t.fit = true := fun t h => refBackO_in hn hin.1 hin.2 h
    have hd := flat_drop ropC 6 ropC_len hx
    obtain ⟨kd, n, v⟩ := x
    obtain ⟨a, b, s, q⟩ := v
    have hd : List.drop (mulN k 6) (ropsC l) = [.int .i64 kd, .int .i64 n, .int .i64 a, .int .i64 b, .str s, .fz (rvsC q) q.length false] ++ ropsC (l.drop (k + 1)) := by
      rw [show ropsC l = l.flatMap ropC from rfl, hd]; simp [ropC, rvAV, ropsC]
    have d0 : (List.drop (mulN k 6) (ropsC l)).take 6 = [.int .i64 kd, .int .i64 n, .int .i64 a, .int .i64 b, .str s, .fz (rvsC q) q.length false] := by rw [hd]; rfl
    refine VTake.mk _ d0 rfl (go ?_)
    refine VAll.mk (fun b9 => go ?_)
    have hnone : refBackO names ⟨kd, n, .mk a b s q⟩ = none → refBackL names l = none := fun h => by rw [hI, h]
    by_cases k1 : kd = 1
    · subst k1
      by_cases n0 : n = 0
      · subst n0
        by_cases a0 : a = 0
        · have hI := hnone (rb0 (fun c => c.2.2.1 a0) (fun c => by omega) (fun c => by omega))
          subst a0
          refine go ?_
          refine VRet.mk [] .nil ?_
          rw [hI]
          exact ⟨rfl, rfl⟩
        by_cases a7 : a = 7
        · have hI := hnone (rb0 (fun c => c.2.2.2 a7) (fun c => by omega) (fun c => by omega))
          subst a7
          refine go ?_
          refine VRet.mk [] .nil ?_
          rw [hI]
          exact ⟨rfl, rfl⟩
        · rw [rb1 ⟨rfl, rfl, a0, a7⟩] at hI hO
          obtain ⟨i1, i2⟩ := hO _ rfl
          refine go ?_
          refine VIf.yes (by simpa using a0) (go ?_)
          refine VIf.yes (by simpa using a7) (go ?_)
          cases o with
          | none =>
            obtain rfl : A = [] := ho rfl
            have hk0 : k = 0 := by simpa using hA.symm
            refine go ?_
            refine VAll.mk (fun b2 => go ?_)
            refine ⟨⟨k + 1, some b2, [(.mk a b s q)]⟩, ⟨by dsimp only; omega, (fun h => by cases h), by rw [hk0]; rfl, smallAll_append (a := []) rfl (by simp [smallAll, i1]), fitAll_append (a := []) rfl (by simp [fitAll, i2]), hI⟩, by dsimp only; omega, rfl, .cons 0 (congrArg (fun c => some (b2, AObj.arr 4 c 0)) ?_) .nil⟩
            simp [rvsC, rvAV]
          | some bo =>
            refine go ?_
            refine VGd.mk ⟨rfl, Nat.zero_le _, by rw [mulN_eq, rvsC_length]; exact Nat.le_refl _, by show 56 * (A.length + 1) ≤ _; omega⟩ (go ?_)
            refine VAll.mk (fun b2 => go ?_)
            refine ⟨⟨k + 1, some b2, A ++ [(.mk a b s q)]⟩, ⟨by dsimp only; omega, (fun h => by cases h), by rw [List.length_append]; show A.length + 1 = k + 1; omega, smallAll_append hcA (by simp [smallAll, i1]), fitAll_append hnA (by simp [fitAll, i2]), hI⟩, by dsimp only; omega, ?_, .cons 0 (congrArg (fun c => some (b2, AObj.arr 4 c 0)) ?_) .nil⟩
            · simp [accV]
            · rw [mulN_eq, List.take_of_length_le (by rw [rvsC_length]; exact Nat.le_refl _), rvsC_app]; simp [rvsC, rvAV]
      · have hI := hnone (rb0 (fun c => n0 c.2.1) (fun c => by omega) (fun c => by omega))
        refine go ?_
        refine VIf.no (by simpa using n0) (go ?_)
        refine VRet.mk [] .nil ?_
        rw [hI]
        exact ⟨rfl, rfl⟩
    by_cases k2 : kd = 2
    · subst k2
      by_cases a0 : a = 0
      · subst a0
        by_cases n0 : 0 ≤ n
        · by_cases n1 : n < 52
          · rw [rb2 ⟨rfl, rfl, n0, n1⟩] at hI hO
            obtain ⟨i1, i2⟩ := hO _ rfl
            obtain ⟨j, rfl⟩ := Int.eq_ofNat_of_zero_le n0
            have hj : j < 52 := by omega
            obtain ⟨w, hw⟩ : ∃ w, namesL[j]? = some w := ⟨_, List.getElem?_eq_getElem (show j < namesL.length from hj)⟩
            have hgw : namesL.getD (j : Int).toNat [] = w := by rw [List.getD_eq_getElem?_getD]; show (namesL[j]?).getD [] = w; rw [hw]; rfl
            rw [hgw] at hI i1 i2
            refine go ?_
            refine VQ.mk _ (by refine go ?_; refine Fn.use f_names12 (go ?_); exact ⟨rfl, rfl⟩) (go ?_)
            refine VIf.yes (by simp; omega) (go ?_)
            refine VDraw.chain [8, 9] (go ?_)
            refine VQ.mk _ (by refine go ?_; refine Fn.use f_names12 (go ?_); exact ⟨rfl, rfl⟩) (go ?_)
            refine VQ.mk (.str w) (by refine go ?_; refine VNth.mk (.str w) (by rw [mulN_eq]; simp [hw]) (go ?_); exact ⟨rfl, rfl⟩) ?_
            (conv => whnf)
            apply VQ.mk; focus (refine go ?_; exact ⟨rfl, rfl⟩)
            (conv => whnf)
            apply VQ.mk; focus (refine go ?_; exact ⟨rfl, rfl⟩)
            cases o with
            | none =>
              obtain rfl : A = [] := ho rfl
              have hk0 : k = 0 := by simpa using hA.symm
              refine go ?_
              refine VAll.mk (fun b2 => go ?_)
              refine ⟨⟨k + 1, some b2, [(.mk 7 0 w [])]⟩, ⟨by dsimp only; omega, (fun h => by cases h), by rw [hk0]; rfl, smallAll_append (a := []) rfl (by simp [smallAll, i1]), fitAll_append (a := []) rfl (by simp [fitAll, i2]), hI⟩, by dsimp only; omega, rfl, .cons 0 (congrArg (fun c => some (b2, AObj.arr 4 c 0)) ?_) .nil⟩
              simp [rvsC, rvAV]
            | some bo =>
              refine go ?_
              refine VGd.mk ⟨rfl, Nat.zero_le _, by rw [mulN_eq, rvsC_length]; exact Nat.le_refl _, by show 56 * (A.length + 1) ≤ _; omega⟩ (go ?_)
              refine VAll.mk (fun b2 => go ?_)
              refine ⟨⟨k + 1, some b2, A ++ [(.mk 7 0 w [])]⟩, ⟨by dsimp only; omega, (fun h => by cases h), by rw [List.length_append]; show A.length + 1 = k + 1; omega, smallAll_append hcA (by simp [smallAll, i1]), fitAll_append hnA (by simp [fitAll, i2]), hI⟩, by dsimp only; omega, ?_, .cons 0 (congrArg (fun c => some (b2, AObj.arr 4 c 0)) ?_) .nil⟩
              · simp [accV]
              · rw [mulN_eq, List.take_of_length_le (by rw [rvsC_length]; exact Nat.le_refl _), rvsC_app]; simp [rvsC, rvAV]
          · have hI := hnone (rb0 (fun c => by omega) (fun c => by omega) (fun c => by omega))
            refine go ?_
            refine VIf.yes (by simpa using n0) (go ?_)
            refine VQ.mk _ (by refine go ?_; refine Fn.use f_names12 (go ?_); exact ⟨rfl, rfl⟩) (go ?_)
            refine VIf.no (by simp; omega) (go ?_)
            refine VRet.mk [] .nil ?_
            rw [hI]
            exact ⟨rfl, rfl⟩
        · have hI := hnone (rb0 (fun c => by omega) (fun c => by omega) (fun c => by omega))
          refine go ?_
          refine VIf.no (by simpa using n0) (go ?_)
          refine VRet.mk [] .nil ?_
          rw [hI]
          exact ⟨rfl, rfl⟩
      · have hI := hnone (rb0 (fun c => by omega) (fun c => a0 c.2.1) (fun c => by omega))
        refine go ?_
        refine VIf.no (by simpa using a0) (go ?_)
        refine VRet.mk [] .nil ?_
        rw [hI]
        exact ⟨rfl, rfl⟩
    by_cases k3 : kd = 3
    · subst k3
      by_cases a0 : a = 0
      · subst a0
        by_cases n0 : 0 ≤ n
        · by_cases n1 : n < names.length
          · rw [rb3 ⟨rfl, rfl, n0, n1⟩] at hI hO
            obtain ⟨i1, i2⟩ := hO _ rfl
            obtain ⟨j, rfl⟩ := Int.eq_ofNat_of_zero_le n0
            have hj : j < names.length := by omega
            obtain ⟨w, hw⟩ : ∃ w, names[j]? = some w := ⟨_, List.getElem?_eq_getElem hj⟩
            have hgw : names.getD (j : Int).toNat [] = w := by rw [List.getD_eq_getElem?_getD]; show (names[j]?).getD [] = w; rw [hw]; rfl
            rw [hgw] at hI i1 i2
            refine go ?_
            refine VIf.yes (by simp; omega) (go ?_)
            refine VNth.mk (.str w) (by rw [mulN_eq]; simp [hw]) (go ?_)
            cases o with
            | none =>
              obtain rfl : A = [] := ho rfl
              have hk0 : k = 0 := by simpa using hA.symm
              refine go ?_
              refine VAll.mk (fun b2 => go ?_)
              refine ⟨⟨k + 1, some b2, [(.mk 7 0 w [])]⟩, ⟨by dsimp only; omega, (fun h => by cases h), by rw [hk0]; rfl, smallAll_append (a := []) rfl (by simp [smallAll, i1]), fitAll_append (a := []) rfl (by simp [fitAll, i2]), hI⟩, by dsimp only; omega, rfl, .cons 0 (congrArg (fun c => some (b2, AObj.arr 4 c 0)) ?_) .nil⟩
              simp [rvsC, rvAV]
            | some bo =>
              refine go ?_
              refine VGd.mk ⟨rfl, Nat.zero_le _, by rw [mulN_eq, rvsC_length]; exact Nat.le_refl _, by show 56 * (A.length + 1) ≤ _; omega⟩ (go ?_)
              refine VAll.mk (fun b2 => go ?_)
              refine ⟨⟨k + 1, some b2, A ++ [(.mk 7 0 w [])]⟩, ⟨by dsimp only; omega, (fun h => by cases h), by rw [List.length_append]; show A.length + 1 = k + 1; omega, smallAll_append hcA (by simp [smallAll, i1]), fitAll_append hnA (by simp [fitAll, i2]), hI⟩, by dsimp only; omega, ?_, .cons 0 (congrArg (fun c => some (b2, AObj.arr 4 c 0)) ?_) .nil⟩
              · simp [accV]
              · rw [mulN_eq, List.take_of_length_le (by rw [rvsC_length]; exact Nat.le_refl _), rvsC_app]; simp [rvsC, rvAV]
          · have hI := hnone (rb0 (fun c => by omega) (fun c => by omega) (fun c => by omega))
            refine go ?_
            refine VIf.yes (by simpa using n0) (go ?_)
            refine VIf.no (by simpa using n1) (go ?_)
            refine VRet.mk [] .nil ?_
            rw [hI]
            exact ⟨rfl, rfl⟩
        · have hI := hnone (rb0 (fun c => by omega) (fun c => by omega) (fun c => by omega))
          refine go ?_
          refine VIf.no (by simpa using n0) (go ?_)
          refine VRet.mk [] .nil ?_
          rw [hI]
          exact ⟨rfl, rfl⟩
      · have hI := hnone (rb0 (fun c => by omega) (fun c => by omega) (fun c => a0 c.2.1))
        refine go ?_
        refine VIf.no (by simpa using a0) (go ?_)
        refine VRet.mk [] .nil ?_
        rw [hI]
        exact ⟨rfl, rfl⟩
    · have hI := hnone (rb0 (fun c => k1 c.1) (fun c => k2 c.1) (fun c => k3 c.1))
      refine go ?_
      refine VIf.no (by simpa using k1) (go ?_)
      refine VIf.no (by simpa using k2) (go ?_)
      refine VIf.no (by simpa using k3) (go ?_)
      refine VRet.mk [] .nil ?_
      rw [hI]
      exact ⟨rfl, rfl⟩
  · obtain rfl : k = l.length := by omega
    rw [List.drop_length, refBackL, Option.map_some, List.append_nil] at hI
    have hS := f_SoundItems A (by omega) hnA
    have hB := f_Bare _ (.mk 5 0 [] A) (Nat.le_refl _) (by simp only [RV.small, Bool.and_eq_true, decide_eq_true_eq]; exact ⟨by omega, hcA⟩)
    have hR : ritemsV (refBackL names l) = .tup [.fz (rvsC A) A.length false, .bool ((measR (.mk 5 0 [] A) 1024 0).2.2 && bareR (.mk 5 0 [] A))] := by
      rw [hI]; show AV.tup [.fz (rvsC A) A.length false, .bool (refOk A)] = _; simp [refOk, RV.kind]
    rw [hR]
    rw [rvAV] at hB
    have hr : A = [] → bareR (.mk 5 0 [] A) = true := by rintro rfl; simp [bareR, bareAll]
    generalize (measR (.mk 5 0 [] A) 1024 0).2.2 = p at hS ⊢
    generalize bareR (.mk 5 0 [] A) = r at hB hr ⊢
    cases o with
    | none =>
      obtain rfl : A = [] := ho rfl
      refine go ?_
      refine Fn.use (hS) (go ?_)
      cases p with
      | false =>
        refine go ?_
        refine VRet.mk [] .nil ?_
        exact ⟨rfl, rfl⟩
      | true =>
        refine go ?_
        refine Fn.use f_bare0 (go ?_)
        refine VRet.mk [] .nil ?_
        rw [hr rfl]
        exact ⟨rfl, rfl⟩
    | some bo =>
      have htk : (rvsC A).take (A.length * 4) = rvsC A := List.take_of_length_le (by simp)
      refine go ?_
      rw [htk]
      refine Fn.use hS (go ?_)
      cases p with
      | false =>
        refine VIf.no rfl (go ?_)
        refine VRet.mk [] .nil ?_
        rw [htk]
        exact ⟨rfl, rfl⟩
      | true =>
        refine VIf.yes rfl (go ?_)
        refine acalls_cool (.cons (.agg (.cons (.keep _ _) (.cons (.keep _ _) (.cons (.keep _ _) (.cons (.own 0 4 (rvsC A) (max 0 (A.length * 4)) rfl (by simp)) (.nil _)))))) (.nil _)) ?_
        rw [htk]
        refine Fn.use hB (go ?_)
        refine VRet.mk [] .nil ?_
        rw [htk, Bool.true_and]
        exact ⟨rfl, rfl⟩
end Go.Proofs.YtliabblchkgclaaGreatDoor
