/- term.Same, term.SameItems: the walks. Conditions: as each says. What stands for a text, and which tokens a text with it has: plain Lean. Conditions: as each says. Trees of the reference as values and items: plain Lean and the walks. Conditions: as each says. Names in the reference's trees are no longer than memory. Conditions: as each says. The reference's trees as a row's arguments. Conditions: as each says. Trees of a bounded bulk are not too large for the document's answer. Conditions: as each says. The text of a value: plain Lean. Conditions: as each says. Trees that are the same are equal: plain Lean. Conditions: as each says. Copies of values and items: the walks. Conditions: as each says. strconv.FormatInt and strings.Join over abstract values. Conditions: as each says. term.bracket: the walk. Conditions: as it says. sync.Once of one's own, not yet done: what Do does. Conditions: what the function that is called does is known. sync.Once of one's own, not yet done: doSlow and Do. Conditions: what the function that is called does is known. sync.Once of one's own, not yet done: Do as an abstract call. Conditions: what the function that is called does is known. A replacer of three bytes by texts: how it is made and built. Conditions: none. Bytes replaced by texts: the loop of a replacer. Conditions: the text has at most 4096 bytes. Bytes replaced by texts: the walk. Conditions: the text has at most 4096 bytes. What stands for a text: the walk. Conditions: none. term.Text: the walk. Conditions: as each says. -/
import Derived.Test.YthhonmkmmalfjaaGreatDoorX8
import Derived.Test.YthhonmkmmalfjaaGreatDoorX7
import Derived.Test.YthhonmkmmalfjaaGreatDoorX4
import Derived.Lib.ItoaLen
import Derived.Lib.Join
import Derived.Test.YthhonmkmmalfjaaGreatDoorX5
import Derived.Lib.AppendIntMem
import Derived.Test.YthhonmkmmalfjaaGreatDoorX6
import Derived.Tactics
import Derived.Tactics2
import Derived.Defers
import Derived.Laws.Pointers
import Derived.Laws.LoneSync
import Derived.RegionTactic
import Derived.RegionCalls
import Derived.ChangeAlike
import Derived.Laws.NewBlocks
set_option linter.all false
set_option maxRecDepth 20000
namespace Go.Proofs.YthhonmkmmalfjaaGreatDoor
open Go Go.Av
mutual
/-- Neither nil nor another dynamic type; calls among items alone. -/
def Tree.full (it : Bool) : Tree → Bool
  | .none => false
  | .odd _ _ => false
  | .call _ => it
  | .list l => fullAll false l
  | .quot l => fullAll true l
  | .int _ => true
  | .str _ => true
  | .bool _ => true
  | .box _ => true
def fullAll (it : Bool) : List Tree → Bool
  | [] => true
  | t :: r => t.full it && fullAll it r
end
theorem fullAll_at : ∀ {it : Bool} {l : List Tree} {i : Nat} {t : Tree}, fullAll it l = true → l[i]? = some t → t.full it = true
  | _, [], _, _, _, h => by simp at h
  | _, x :: l, 0, t, hc, h => by simp at h; subst h; simp [fullAll] at hc; exact hc.1
  | _, x :: l, i + 1, t, hc, h => by simp [fullAll] at hc; exact fullAll_at hc.2 (by simpa using h)
mutual
theorem meas_full : ∀ (it : Bool) (t : Tree) (left nest : Int), (measT it t left nest).isSome = true → t.full it = true := by
  intro it t left nest h
  cases t with
  | none => rw [measT] at h; cases h
  | odd u v => rw [measT] at h; cases h
  | call s =>
    rw [measT] at h
    split at h
    · rename_i h0; rw [Tree.full]; exact h0.1
    · cases h
  | list l =>
    rw [measT] at h
    split at h
    · cases h
    · rw [Tree.full]; exact meass_full false l _ _ _ h
  | quot l =>
    rw [measT] at h
    split at h
    · cases h
    · rw [Tree.full]; exact meass_full true l _ _ _ h
  | _ => rw [Tree.full]
theorem meass_full : ∀ (it : Bool) (l : List Tree) (left nest depth : Int), (measTs it l left nest depth).isSome = true → fullAll it l = true
  | it, [], _, _, _, _ => by rw [fullAll]
  | it, t :: r, left, nest, depth, h => by
    rw [measTs] at h
    split at h
    · rename_i d l' e
      rw [fullAll, meas_full it t left (nest + 1) (by rw [e]; rfl), meass_full it r _ _ _ h]; rfl
    · cases h
end

theorem f_EqFuncV (a b : List Tree) (h : ∀ (i : Nat) t u, a[i]? = some t → b[i]? = some u → Av.Fn Tryz.prog 14 [valAV t, valAV u] (.bool (sameV (valRV t) (valRV u)))) (ha : a.length ≤ 2513169434916) (hb : b.length ≤ 2513169434916) :
    Av.Fn Tryz.prog 20 [.fz (valAVs a) a.length false, .fz (valAVs b) b.length false, .fn (.func 14) [] []] (.bool (sameVs (valRVs a) (valRVs b))) := by
  refine ACalls.of_W tb_ok (fn := Tryz.f20) (n := 32) (by kernel_rfl) rfl (by kernel_rfl) rfl rfl (by simp) (go ?_)
  refine fork (fun hne => go ?_) (fun hne => go ?_)
  · refine VRet.mk [] .nil ?_
    refine ⟨?_, rfl⟩
    cases e : sameVs (valRVs a) (valRVs b) with
    | true => exact absurd (by have := sameVs_length e; simp at this; rw [this]) hne
    | false => rfl
  · have hne : a.length = b.length := by omega
    refine VLoop.mk [17] Nat (fun i => [.int .i64 i]) (fun _ => []) (fun i => i ≤ a.length ∧ sameVs (valRVs a) (valRVs b) = sameVs (valRVs (a.drop i)) (valRVs (b.drop i))) (fun i => a.length - i) 0 ?_ ?_
    · exact ⟨⟨by omega, by simp⟩, rfl, .nil⟩
    intro i ⟨hi, hI⟩
    refine go ?_
    refine fork (fun hlt => go ?_) (fun hlt => go ?_)
    · have hlt : i < a.length := by omega
      obtain ⟨x, hx⟩ : ∃ x, a[i]? = some x := ⟨a[i], by simp [hlt]⟩
      obtain ⟨y, hy⟩ : ∃ y, b[i]? = some y := ⟨b[i]'(by omega), by simp [hne ▸ hlt]⟩
      have hda : a.drop i = x :: a.drop (i + 1) := by rw [List.drop_eq_getElem_cons hlt]; congr 1; rw [List.getElem?_eq_getElem hlt] at hx; exact Option.some.inj hx
      have hdb : b.drop i = y :: b.drop (i + 1) := by rw [List.drop_eq_getElem_cons (hne ▸ hlt)]; congr 1; rw [List.getElem?_eq_getElem (hne ▸ hlt)] at hy; exact Option.some.inj hy
      rw [hda, hdb, valRVs, valRVs, sameVs] at hI
      have hxy := h i x y hx hy
      refine VNth.mk (valAV x) (by simp [mulN_eq, valAVs_map, hx]) (go ?_)
      refine VNth.mk (valAV y) (by simp [mulN_eq, valAVs_map, hy]) (go ?_)
      refine Fn.use (hxy) (go ?_)
      generalize sameV (valRV x) (valRV y) = q at hI
      cases q with
      | true =>
        refine go ?_
        exact ⟨i + 1, ⟨by omega, by rw [hI, Bool.true_and]⟩, by omega, rfl, .nil⟩
      | false =>
        refine go ?_
        refine VRet.mk [] .nil ?_
        rw [hI]; exact ⟨rfl, rfl⟩
    · rw [List.drop_eq_nil_of_le (by omega), List.drop_eq_nil_of_le (by omega)] at hI
      refine VRet.mk [] .nil ?_
      rw [hI]; exact ⟨by simp [valRVs, sameVs], rfl⟩
theorem f_EqFuncI (a b : List Tree) (h : ∀ (i : Nat) t u, a[i]? = some t → b[i]? = some u → Av.Fn Tryz.prog 32 [itemAV t, itemAV u] (.bool (sameV (itemRV t) (itemRV u)))) (ha : a.length ≤ 2513169434916) (hb : b.length ≤ 2513169434916) :
    Av.Fn Tryz.prog 31 [.fz (itemAVs a) a.length false, .fz (itemAVs b) b.length false, .fn (.func 32) [] []] (.bool (sameVs (itemRVs a) (itemRVs b))) := by
  refine ACalls.of_W tb_ok (fn := Tryz.f31) (n := 32) (by kernel_rfl) rfl (by kernel_rfl) rfl rfl (by simp) (go ?_)
  refine fork (fun hne => go ?_) (fun hne => go ?_)
  · refine VRet.mk [] .nil ?_
    refine ⟨?_, rfl⟩
    cases e : sameVs (itemRVs a) (itemRVs b) with
    | true => exact absurd (by have := sameVs_length e; simp at this; rw [this]) hne
    | false => rfl
  · have hne : a.length = b.length := by omega
    refine VLoop.mk [17] Nat (fun i => [.int .i64 i]) (fun _ => []) (fun i => i ≤ a.length ∧ sameVs (itemRVs a) (itemRVs b) = sameVs (itemRVs (a.drop i)) (itemRVs (b.drop i))) (fun i => a.length - i) 0 ?_ ?_
    · exact ⟨⟨by omega, by simp⟩, rfl, .nil⟩
    intro i ⟨hi, hI⟩
    refine go ?_
    refine fork (fun hlt => go ?_) (fun hlt => go ?_)
    · have hlt : i < a.length := by omega
      obtain ⟨x, hx⟩ : ∃ x, a[i]? = some x := ⟨a[i], by simp [hlt]⟩
      obtain ⟨y, hy⟩ : ∃ y, b[i]? = some y := ⟨b[i]'(by omega), by simp [hne ▸ hlt]⟩
      have hda : a.drop i = x :: a.drop (i + 1) := by rw [List.drop_eq_getElem_cons hlt]; congr 1; rw [List.getElem?_eq_getElem hlt] at hx; exact Option.some.inj hx
      have hdb : b.drop i = y :: b.drop (i + 1) := by rw [List.drop_eq_getElem_cons (hne ▸ hlt)]; congr 1; rw [List.getElem?_eq_getElem (hne ▸ hlt)] at hy; exact Option.some.inj hy
      rw [hda, hdb, itemRVs_cons, itemRVs_cons, sameVs] at hI
      have hxy := h i x y hx hy
      refine VNth.mk (itemAV x) (by simp [mulN_eq, itemAVs_map, hx]) (go ?_)
      refine VNth.mk (itemAV y) (by simp [mulN_eq, itemAVs_map, hy]) (go ?_)
      refine Fn.use (hxy) (go ?_)
      generalize sameV (itemRV x) (itemRV y) = q at hI
      cases q with
      | true =>
        refine go ?_
        exact ⟨i + 1, ⟨by omega, by rw [hI, Bool.true_and]⟩, by omega, rfl, .nil⟩
      | false =>
        refine go ?_
        refine VRet.mk [] .nil ?_
        rw [hI]; exact ⟨rfl, rfl⟩
    · rw [List.drop_eq_nil_of_le (by omega), List.drop_eq_nil_of_le (by omega)] at hI
      refine VRet.mk [] .nil ?_
      rw [hI]; exact ⟨by simp [itemRVs, sameVs], rfl⟩
theorem sameV_leaf (k n : Int) (s : List UInt8) (k' n' : Int) (s' : List UInt8) (l' : List RV) (h : k ≠ k') : sameV (.mk k n s []) (.mk k' n' s' l') = false := by
  rw [sameV, decide_eq_false h]; rfl
/-- A leaf and what it is compared with. -/
def Tree.leaf : Tree → Bool
  | .int _ => true
  | .str _ => true
  | .bool _ => true
  | .box _ => true
  | _ => false
set_option maxHeartbeats 2000000 in
theorem f_SameLeaf (t u : Tree) (ht : t.leaf = true) (hu : u.full false = true) : Av.Fn Tryz.prog 14 [valAV t, valAV u] (.bool (sameV (valRV t) (valRV u))) := by
  cases t <;> first | (simp [Tree.leaf] at ht; done) | skip
  all_goals cases u <;> first | (simp [Tree.full] at hu; done) | skip
  all_goals
    rw [valAV, valAV]
    refine ACalls.of_W tb_ok (fn := Tryz.f14) (n := 55) (by kernel_rfl) rfl (by kernel_rfl) rfl rfl (by simp) (go ?_)
    refine VRet.mk [] .nil ⟨congrArg (fun b => AOut.ret (.bool b)) ?_, rfl⟩
    first
    | (simp [valRV, sameV, leafSame, sameVs]; done)
    | (rename_i b1 b2; cases b1 <;> cases b2 <;> rfl)
theorem f_SameList (a b : List Tree) (h : Av.Fn Tryz.prog 20 [.fz (valAVs a) a.length false, .fz (valAVs b) b.length false, .fn (.func 14) [] []] (.bool (sameVs (valRVs a) (valRVs b)))) :
    Av.Fn Tryz.prog 14 [valAV (.list a), valAV (.list b)] (.bool (sameV (valRV (.list a)) (valRV (.list b)))) := by
  rw [valAV, valAV]
  refine ACalls.of_W tb_ok (fn := Tryz.f14) (n := 55) (by kernel_rfl) rfl (by kernel_rfl) rfl rfl (by simp) (go ?_)
  refine VAll.mk (fun b1 => go ?_)
  refine VAll.mk (fun b2 => go ?_)
  refine Fn.use (h) (go ?_)
  refine VRet.mk [] .nil ⟨congrArg (fun b => AOut.ret (.bool b)) ?_, rfl⟩
  simp only [valRV, sameV, leafSame, decide_true, Bool.true_and]
  cases e : sameVs (valRVs a) (valRVs b) with
  | true => have := sameVs_length e; simp at this; simp [this]
  | false => simp
theorem f_SameQuot (a b : List Tree) (h : Av.Fn Tryz.prog 21 [.fz (itemAVs a) a.length false, .fz (itemAVs b) b.length false] (.bool (sameVs (itemRVs a) (itemRVs b)))) :
    Av.Fn Tryz.prog 14 [valAV (.quot a), valAV (.quot b)] (.bool (sameV (valRV (.quot a)) (valRV (.quot b)))) := by
  rw [valAV, valAV]
  refine ACalls.of_W tb_ok (fn := Tryz.f14) (n := 55) (by kernel_rfl) rfl (by kernel_rfl) rfl rfl (by simp) (go ?_)
  refine VAll.mk (fun b1 => go ?_)
  refine VAll.mk (fun b2 => go ?_)
  refine Fn.use (h) (go ?_)
  refine VRet.mk [] .nil ⟨congrArg (fun b => AOut.ret (.bool b)) ?_, rfl⟩
  simp only [valRV, sameV, leafSame, decide_true, Bool.true_and]
  cases e : sameVs (itemRVs a) (itemRVs b) with
  | true => have := sameVs_length e; simp at this; simp [this]
  | false => simp
theorem f_SameOdd (t u : Tree) (ht : t.leaf = false) (hft : t.full false = true) (hu : u.full false = true) (h4 : ∀ a b, t = .list a → u = .list b → False) (h5 : ∀ a b, t = .quot a → u = .quot b → False) : Av.Fn Tryz.prog 14 [valAV t, valAV u] (.bool (sameV (valRV t) (valRV u))) := by
  cases t <;> first | (simp [Tree.leaf] at ht; done) | (simp [Tree.full] at hft; done) | skip
  all_goals cases u <;> first | (simp [Tree.full] at hu; done) | exact (h4 _ _ rfl rfl).elim | exact (h5 _ _ rfl rfl).elim | skip
  all_goals
    rw [valAV, valAV]
    refine ACalls.of_W tb_ok (fn := Tryz.f14) (n := 55) (by kernel_rfl) rfl (by kernel_rfl) rfl rfl (by simp) (go ?_)
    refine VAll.mk (fun b1 => go ?_)
    refine VAll.mk (fun b2 => go ?_)
    refine VRet.mk [] .nil ⟨congrArg (fun b => AOut.ret (.bool b)) ?_, rfl⟩
    simp [valRV, sameV]
theorem f_SameItems (a b : List Tree) (h : Av.Fn Tryz.prog 31 [.fz (itemAVs a) a.length false, .fz (itemAVs b) b.length false, .fn (.func 32) [] []] (.bool (sameVs (itemRVs a) (itemRVs b)))) :
    Av.Fn Tryz.prog 21 [.fz (itemAVs a) a.length false, .fz (itemAVs b) b.length false] (.bool (sameVs (itemRVs a) (itemRVs b))) := by
  refine ACalls.of_W tb_ok (fn := Tryz.f21) (n := 8) (by kernel_rfl) rfl (by kernel_rfl) rfl rfl (by simp) (go ?_)
  refine Fn.use (h) (go ?_)
  refine VRet.mk [] .nil ?_
  exact ⟨rfl, rfl⟩
theorem item_push {t : Tree} (hc : t.isCall = false) (hf : t.full true = true) : itemAV t = .iface 78 (.agg [valAV t]) := by
  cases t <;> first | rfl | (simp [Tree.isCall] at hc; done) | (simp [Tree.full] at hf; done)
theorem full_val {t : Tree} (hc : t.isCall = false) (hf : t.full true = true) : t.full false = true := by
  cases t <;> first | exact hf | (simp [Tree.isCall] at hc; done) | (simp [Tree.full] at hf; done)
theorem f_SameItem (t u : Tree) (ht : t.full true = true) (hu : u.full true = true) (h : t.isCall = false → u.isCall = false → Av.Fn Tryz.prog 14 [valAV t, valAV u] (.bool (sameV (valRV t) (valRV u)))) :
    Av.Fn Tryz.prog 32 [itemAV t, itemAV u] (.bool (sameV (itemRV t) (itemRV u))) := by
  cases hct : t.isCall with
  | true =>
    obtain ⟨s, rfl⟩ : ∃ s, t = .call s := by cases t <;> first | exact ⟨_, rfl⟩ | (simp [Tree.isCall] at hct; done)
    cases hcu : u.isCall with
    | true =>
      obtain ⟨s', rfl⟩ : ∃ s, u = .call s := by cases u <;> first | exact ⟨_, rfl⟩ | (simp [Tree.isCall] at hcu; done)
      rw [itemAV, itemAV]
      refine ACalls.of_W tb_ok (fn := Tryz.f32) (n := 31) (by kernel_rfl) rfl (by kernel_rfl) rfl rfl (by simp) (go ?_)
      refine VAll.mk (fun b1 => go ?_)
      refine VAll.mk (fun b2 => go ?_)
      refine VRet.mk [] .nil ⟨congrArg (fun b => AOut.ret (.bool b)) ?_, rfl⟩
      simp [itemRV, sameV, leafSame, sameVs]
    | false =>
      rw [item_push hcu hu, itemAV]
      have ho := valAV_one' u
      have hk := valRV_kind u
      rw [item_val hcu]
      generalize valAV u = y at ho ⊢
      refine ACalls.of_W tb_ok (fn := Tryz.f32) (n := 31) (by kernel_rfl) rfl (by kernel_rfl) rfl rfl (by simp) (go ?_)
      refine VAll.mk (fun b1 => go ?_)
      refine VAll.mk (fun b2 => go ?_)
      refine VRet.mk [] .nil ⟨congrArg (fun b => AOut.ret (.bool b)) ?_, rfl⟩
      generalize valRV u = z at hk ⊢
      obtain ⟨k, n, s', l⟩ := z
      exact (sameV_leaf _ _ _ _ _ _ _ (fun e => hk e.symm)).symm
  | false =>
    rw [item_push hct ht]
    have ho := valAV_one' t
    cases hcu : u.isCall with
    | true =>
      obtain ⟨s', rfl⟩ : ∃ s, u = .call s := by cases u <;> first | exact ⟨_, rfl⟩ | (simp [Tree.isCall] at hcu; done)
      rw [itemAV]
      have hk := valRV_kind t
      rw [item_val hct]
      generalize valAV t = y at ho ⊢
      refine ACalls.of_W tb_ok (fn := Tryz.f32) (n := 31) (by kernel_rfl) rfl (by kernel_rfl) rfl rfl (by simp) (go ?_)
      refine VAll.mk (fun b1 => go ?_)
      refine VAll.mk (fun b2 => go ?_)
      refine VRet.mk [] .nil ⟨congrArg (fun b => AOut.ret (.bool b)) ?_, rfl⟩
      generalize valRV t = z at hk ⊢
      obtain ⟨k, n, s, l⟩ := z
      show false = sameV (.mk k n s l) (.mk 7 0 s' [])
      have hk : k ≠ 7 := hk
      rw [sameV, decide_eq_false hk]; rfl
    | false =>
      rw [item_push hcu hu, item_val hct, item_val hcu]
      have hh := h hct hcu
      have ho' := valAV_one' u
      generalize valAV t = x at ho hh ⊢
      generalize valAV u = y at ho' hh ⊢
      refine ACalls.of_W tb_ok (fn := Tryz.f32) (n := 31) (by kernel_rfl) rfl (by kernel_rfl) rfl rfl (by simp) (go ?_)
      refine VAll.mk (fun b1 => go ?_)
      refine VAll.mk (fun b2 => go ?_)
      refine Fn.use (hh) (go ?_)
      refine VRet.mk [] .nil ?_
      exact ⟨rfl, rfl⟩
theorem f_tSame' (n : Nat) : ∀ t u : Tree, t.depth ≤ n → t.clean = true → u.clean = true → t.full false = true → u.full false = true → Av.Fn Tryz.prog 14 [valAV t, valAV u] (.bool (sameV (valRV t) (valRV u))) := by
  induction n with
  | zero =>
    intro t u hd hct hcu ht hu
    cases hl : t.leaf with
    | true => exact f_SameLeaf t u hl hu
    | false => refine f_SameOdd t u hl ht hu ?_ ?_ <;> (rintro a b rfl _; rw [Tree.depth] at hd; omega)
  | succ n ih =>
    intro t u hd hct hcu ht hu
    cases hl : t.leaf with
    | true => exact f_SameLeaf t u hl hu
    | false =>
      by_cases h4 : ∃ a b, t = .list a ∧ u = .list b
      · obtain ⟨a, b, rfl, rfl⟩ := h4
        rw [Tree.depth] at hd
        simp only [Tree.clean, Bool.and_eq_true, decide_eq_true_eq] at hct hcu
        rw [Tree.full] at ht hu
        exact f_SameList a b (f_EqFuncV a b (fun i x y hx hy => ih x y (by have := depthAll_at hx; omega) (cleanAll_at hct.2 hx) (cleanAll_at hcu.2 hy) (fullAll_at ht hx) (fullAll_at hu hy)) hct.1 hcu.1)
      by_cases h5 : ∃ a b, t = .quot a ∧ u = .quot b
      · obtain ⟨a, b, rfl, rfl⟩ := h5
        rw [Tree.depth] at hd
        simp only [Tree.clean, Bool.and_eq_true, decide_eq_true_eq] at hct hcu
        rw [Tree.full] at ht hu
        exact f_SameQuot a b (f_SameItems a b (f_EqFuncI a b (fun i x y hx hy => f_SameItem x y (fullAll_at ht hx) (fullAll_at hu hy) fun c1 c2 =>
          ih x y (by have := depthAll_at hx; omega) (cleanAll_at hct.2 hx) (cleanAll_at hcu.2 hy) (full_val c1 (fullAll_at ht hx)) (full_val c2 (fullAll_at hu hy))) hct.1 hcu.1))
      exact f_SameOdd t u hl ht hu (fun a b e1 e2 => h4 ⟨a, b, e1, e2⟩) (fun a b e1 e2 => h5 ⟨a, b, e1, e2⟩)
theorem f_tSame {t u : Tree} (hct : t.clean = true) (hcu : u.clean = true) (ht : t.full false = true) (hu : u.full false = true) : Av.Fn Tryz.prog 14 [valAV t, valAV u] (.bool (sameV (valRV t) (valRV u))) := f_tSame' t.depth t u (Nat.le_refl _) hct hcu ht hu
end Go.Proofs.YthhonmkmmalfjaaGreatDoor

namespace Go.Proofs.YthhonmkmmalfjaaGreatDoor
open Go Go.Av
def qb (c : UInt8) : List UInt8 := if c = 10 then [92, 110] else if c = 34 then [92, 34] else if c = 92 then [92, 92] else [c]
def qL : List UInt8 → List UInt8
  | [] => []
  | c :: s => qb c ++ qL s
def quoteR (s : List UInt8) : List UInt8 := 34 :: (qL s ++ [34])
def quotedR (s : List UInt8) : List UInt8 × Int := if 0 ≤ faultV s then ([], 8) else if 4096 < s.length then ([], 11) else (quoteR s, 0)
theorem qb_cases (c : UInt8) : (qb c = [c] ∧ c ≠ 10 ∧ c ≠ 34 ∧ c ≠ 92) ∨ ∃ d e, qb c = [92, d] ∧ esc d = some e ∧ c = e ∧ d.toNat < 128 ∧ c.toNat < 128 := by
  by_cases h1 : c = 10
  · subst h1; exact .inr ⟨110, 10, rfl, rfl, rfl, by decide, by decide⟩
  by_cases h2 : c = 34
  · subst h2; exact .inr ⟨34, 34, rfl, rfl, rfl, by decide, by decide⟩
  by_cases h3 : c = 92
  · subst h3; exact .inr ⟨92, 92, rfl, rfl, rfl, by decide, by decide⟩
  · left
    refine ⟨?_, h1, h2, h3⟩
    unfold qb
    rw [if_neg h1, if_neg h2, if_neg h3]
theorem fault_qL : ∀ (t a : List UInt8), faultR (a ++ t) = none → faultR (a ++ qL t) = none
  | [], a, h => h
  | c :: t, a, h => by
    rcases qb_cases c with ⟨e, _⟩ | ⟨d, x, e, _, _, hd, hc⟩
    · have := fault_qL t (a ++ [c]) (by simpa using h)
      rw [qL, e]
      simpa using this
    · have h2 := (faultR_app a c t hc).1 h
      have h3 := fault_qL t [] h2.2
      rw [qL, e]
      exact (faultR_app a 92 (d :: qL t) (by decide)).2 ⟨h2.1, (faultR_app [] d (qL t) hd).2 ⟨rfl, h3⟩⟩
theorem fault_quote {s t : List UInt8} (hs : faultR s = none) (ht : faultR t = none) : faultR (quoteR s ++ t) = none := by
  have : quoteR s ++ t = [] ++ 34 :: (qL s ++ 34 :: t) := by simp [quoteR]
  rw [this]
  exact (faultR_app [] 34 _ (by decide)).2 ⟨rfl, (faultR_app (qL s) 34 t (by decide)).2 ⟨fault_qL s [] hs, ht⟩⟩
theorem qL_le : ∀ (s : List UInt8), (qL s).length ≤ 2 * s.length
  | [] => by simp [qL]
  | c :: s => by
    have := qL_le s
    rcases qb_cases c with ⟨e, _⟩ | ⟨d, x, e, _⟩ <;> simp [qL, e] <;> omega
theorem textL_quote (a : Nat) (y : List UInt8) : ∀ (s acc : List UInt8) (i : Nat), acc.length + s.length ≤ 4096 →
    textL a (qL s ++ 34 :: y) acc i = (acc ++ s, ((i + (qL s).length + 1 : Nat) : Int), 0)
  | [], acc, i, h => by
    rw [qL, List.nil_append, textL_cons, if_pos rfl, if_neg (by simp at h; omega)]
    simp
  | c :: s, acc, i, h => by
    simp only [List.length_cons] at h
    rcases qb_cases c with ⟨e, h1, h2, h3⟩ | ⟨d, x, e, hx, hc, _, _⟩
    · rw [qL, e, List.append_assoc]
      show textL a (c :: (qL s ++ 34 :: y)) acc i = _
      rw [textL_cons, if_neg h2, if_neg h3, textL_quote a y s (acc ++ [c]) (i + 1) (by simp; omega)]
      simp only [List.append_assoc, List.singleton_append, List.length_cons, Prod.mk.injEq, true_and, and_true]
      omega
    · subst hc
      rw [qL, e, List.append_assoc]
      show textL a (92 :: (d :: (qL s ++ 34 :: y))) acc i = _
      rw [textL_cons, if_neg (by decide), if_pos rfl]
      dsimp only
      rw [hx]
      dsimp only
      rw [textL_quote a y s (acc ++ [c]) (i + 2) (by simp; omega)]
      simp only [List.append_assoc, List.singleton_append, List.cons_append, List.nil_append, List.length_cons, Prod.mk.injEq, true_and, and_true]
      omega
theorem nb34 : ¬ blankB ((34 : UInt8).toNat : Nat) = true := by decide
theorem wlen_quote (x : List UInt8) : ∃ k, wlen (34 :: x) = k + 1 := by
  unfold wlen
  rw [runes_ascii 34 x (by decide), spanR, if_neg nb34, Nat.add_comm]
  exact ⟨_, rfl⟩
theorem trimL_quote (x : List UInt8) : trimL (34 :: x) = 34 :: x := by
  unfold trimL
  rw [runes_ascii 34 x (by decide), spanR, if_pos (by simpa using nb34)]
  rfl
theorem tokAt_quote (N : Nat) (s y : List UInt8) (hs : s.length ≤ 4096) :
    tokAt N (quoteR s ++ y) = .tok ⟨3, s, 0, (N - (quoteR s ++ y).length : Nat)⟩ y := by
  have hq : quoteR s ++ y = 34 :: (qL s ++ 34 :: y) := by simp [quoteR]
  rw [hq]
  obtain ⟨k, hk⟩ := wlen_quote (qL s ++ 34 :: y)
  have ht := fun a => textL_quote a y s [] (a + 1) (by simpa using hs)
  unfold tokAt
  rw [hk, List.take_succ_cons, if_neg (by simp)]
  dsimp only
  rw [if_pos rfl, show (34 :: (qL s ++ 34 :: y) : List UInt8).drop 1 = qL s ++ 34 :: y from rfl, ht]
  dsimp only
  rw [if_pos rfl]
  generalize N - (34 :: (qL s ++ 34 :: y)).length = a
  have : (((a + 1 + (qL s).length + 1 : Nat) : Int) - (a : Int)).toNat = (qL s).length + 2 := by omega
  rw [this, show (qL s).length + 2 = ((qL s).length + 1) + 1 from rfl, List.drop_succ_cons, ← List.drop_drop, List.drop_left]
  rfl
theorem toks_quote (N : Nat) (s y : List UInt8) (out : List Tok) (hs : s.length ≤ 4096) (ho : out.length < 4096) :
    toks N (quoteR s ++ y) out = toks N y (out ++ [⟨3, s, 0, (N - (quoteR s ++ y).length : Nat)⟩]) := by
  have hq : quoteR s ++ y = 34 :: (qL s ++ 34 :: y) := by simp [quoteR]
  rw [toks_step, if_neg (by rw [hq]; simp)]
  have : trimL (quoteR s ++ y) = quoteR s ++ y := by rw [hq]; exact trimL_quote _
  rw [this, tokAt_quote N s y hs]
  dsimp only
  rw [if_neg (by omega)]
theorem blank_sp : blankB ((32 : UInt8).toNat : Nat) = true := by decide
theorem trimL_sp (t : List UInt8) : trimL (32 :: t) = trimL t := by
  unfold trimL
  rw [runes_ascii 32 t (by decide), spanR, if_neg (by rw [blank_sp]; simp), show 1 + spanR (fun r => !blankB r) (runes t) = spanR (fun r => !blankB r) (runes t) + 1 by omega]
  rfl
theorem toks_sp (N : Nat) (t : List UInt8) (out : List Tok) : toks N (32 :: t) out = toks N t out := by
  rw [toks_step, if_neg (by simp), trimL_sp]
  cases t with
  | nil => rfl
  | cons c t => rw [toks_step N (c :: t), if_neg (by simp)]
theorem toks_dup (N : Nat) (t : List UInt8) (out : List Tok) (ho : out.length < 4096) :
    toks N ([100, 117, 112, 32] ++ t) out = toks N t (out ++ [⟨1, [100, 117, 112], 0, (N - (t.length + 4) : Nat)⟩]) := by
  have hw : wlen ([100, 117, 112, 32] ++ t) = 3 := by
    unfold wlen
    show spanR _ (runes (100 :: 117 :: 112 :: 32 :: t)) = 3
    rw [runes_ascii 100 _ (by decide), runes_ascii 117 _ (by decide), runes_ascii 112 _ (by decide), runes_ascii 32 _ (by decide)]
    rfl
  have ht : trimL ([100, 117, 112, 32] ++ t) = [100, 117, 112, 32] ++ t := by
    unfold trimL
    show List.drop (spanR _ (runes (100 :: 117 :: 112 :: 32 :: t))) _ = _
    rw [runes_ascii 100 _ (by decide)]
    rfl
  have ha : tokAt N ([100, 117, 112, 32] ++ t) = .tok ⟨1, [100, 117, 112], 0, (N - (t.length + 4) : Nat)⟩ (32 :: t) := by
    unfold tokAt
    rw [hw, if_neg (by simp)]
    show (if (100 : UInt8) = 34 then _ else if (digitsR [100, 117, 112]).2.1 then _ else if nameR [100, 117, 112] then _ else _) = _
    rw [if_neg (by decide), if_neg (by decide), if_pos (by decide)]
    simp
  rw [toks_step, if_neg (by simp), ht, ha]
  dsimp only
  rw [if_neg (by omega), toks_sp]
theorem toks_swap (N : Nat) (t : List UInt8) (out : List Tok) (ho : out.length < 4096) :
    toks N ([115, 119, 97, 112, 32] ++ t) out = toks N t (out ++ [⟨1, [115, 119, 97, 112], 0, (N - (t.length + 5) : Nat)⟩]) := by
  have hw : wlen ([115, 119, 97, 112, 32] ++ t) = 4 := by
    unfold wlen
    show spanR _ (runes (115 :: 119 :: 97 :: 112 :: 32 :: t)) = 4
    rw [runes_ascii 115 _ (by decide), runes_ascii 119 _ (by decide), runes_ascii 97 _ (by decide), runes_ascii 112 _ (by decide), runes_ascii 32 _ (by decide)]
    rfl
  have ht : trimL ([115, 119, 97, 112, 32] ++ t) = [115, 119, 97, 112, 32] ++ t := by
    unfold trimL
    show List.drop (spanR _ (runes (115 :: 119 :: 97 :: 112 :: 32 :: t))) _ = _
    rw [runes_ascii 115 _ (by decide)]
    rfl
  have ha : tokAt N ([115, 119, 97, 112, 32] ++ t) = .tok ⟨1, [115, 119, 97, 112], 0, (N - (t.length + 5) : Nat)⟩ (32 :: t) := by
    unfold tokAt
    rw [hw, if_neg (by simp)]
    show (if (115 : UInt8) = 34 then _ else if (digitsR [115, 119, 97, 112]).2.1 then _ else if nameR [115, 119, 97, 112] then _ else _) = _
    rw [if_neg (by decide), if_neg (by decide), if_pos (by decide)]
    simp
  rw [toks_step, if_neg (by simp), ht, ha]
  dsimp only
  rw [if_neg (by omega), toks_sp]
def srcQ (s : List UInt8) : List UInt8 := [100, 117, 112, 32] ++ (quoteR s ++ ([115, 119, 97, 112, 32] ++ (quoteR s ++ [])))
theorem quoteR_length (s : List UInt8) : (quoteR s).length = (qL s).length + 2 := by simp [quoteR]
theorem srcQ_length (s : List UInt8) : (srcQ s).length = 2 * (qL s).length + 13 := by simp [srcQ, quoteR_length]; omega
theorem tokens_srcQ {s : List UInt8} (hf : faultR s = none) (hs : s.length ≤ 4096) :
    ∃ p q : Int, tokensR (srcQ s) = ([⟨1, [100, 117, 112], 0, 0⟩, ⟨3, s, 0, 4⟩, ⟨1, [115, 119, 97, 112], 0, p⟩, ⟨3, s, 0, q⟩], 0, 0) := by
  have hlen := srcQ_length s
  have hq := qL_le s
  have hfl : faultR (srcQ s) = none := by
    unfold srcQ
    have asc : ∀ (c : UInt8) (t : List UInt8), c.toNat < 128 → faultR t = none → faultR (c :: t) = none := fun c t hc ht => (faultR_app [] c t hc).2 ⟨rfl, ht⟩
    refine asc _ _ (by decide) (asc _ _ (by decide) (asc _ _ (by decide) (asc _ _ (by decide) (fault_quote hf ?_))))
    exact asc _ _ (by decide) (asc _ _ (by decide) (asc _ _ (by decide) (asc _ _ (by decide) (asc _ _ (by decide) (fault_quote hf rfl)))))
  have key : tokensR (srcQ s) = toks (srcQ s).length (srcQ s) [] := by
    unfold tokensR
    rw [if_neg (by omega), hfl]
  rw [key]
  generalize hN : (srcQ s).length = N
  have e0 : N = 2 * (qL s).length + 13 := by omega
  unfold srcQ
  rw [toks_dup N _ [] (by simp), toks_quote N s _ _ hs (by simp), toks_swap N _ _ (by simp), toks_quote N s [] _ hs (by simp)]
  have e1 : N - ((quoteR s ++ ([115, 119, 97, 112, 32] ++ (quoteR s ++ []))).length + 4) = 0 := by simp [quoteR_length]; omega
  have e2 : N - (quoteR s ++ ([115, 119, 97, 112, 32] ++ (quoteR s ++ []))).length = 4 := by simp [quoteR_length]; omega
  rw [e1, e2]
  exact ⟨_, _, rfl⟩
end Go.Proofs.YthhonmkmmalfjaaGreatDoor

namespace Go.Proofs.YthhonmkmmalfjaaGreatDoor
open Go Go.Av
def RV.knd : RV → Int
  | .mk k _ _ _ => k
def RV.txt : RV → List UInt8
  | .mk _ _ s _ => s
mutual
/-- The value of a tree. -/
def valT : RV → Tree
  | .mk k n s l => if k = 1 then .int n else if k = 2 then .str s else if k = 3 then .bool (decide (n ≠ 0)) else if k = 4 then .list (valTs l) else if k = 5 then .quot (itemTs l) else if k = 6 then .box n else .none
def valTs : List RV → List Tree
  | [] => []
  | v :: r => valT v :: valTs r
def itemTs : List RV → List Tree
  | [] => []
  | v :: r => (if v.knd = 7 then .call v.txt else valT v) :: itemTs r
end
/-- The item of a tree. -/
def itemT (v : RV) : Tree := if v.knd = 7 then .call v.txt else valT v
theorem itemTs_cons (v : RV) (r : List RV) : itemTs (v :: r) = itemT v :: itemTs r := by simp [itemTs, itemT]
theorem valTs_map : ∀ l : List RV, valTs l = l.map valT
  | [] => by simp [valTs]
  | v :: r => by rw [valTs, valTs_map r]; rfl
theorem itemTs_map : ∀ l : List RV, itemTs l = l.map itemT
  | [] => by simp [itemTs]
  | v :: r => by rw [itemTs_cons, itemTs_map r]; rfl
@[simp] theorem valTs_length (l : List RV) : (valTs l).length = l.length := by simp [valTs_map]
@[simp] theorem itemTs_length (l : List RV) : (itemTs l).length = l.length := by simp [itemTs_map]
mutual
/-- What comes in: numbers that fit, no list of more than 2^47 bytes. -/
def RV.inp : RV → Bool
  | .mk k n s l => (decide (-9223372036854775808 ≤ k) && decide (k ≤ 9223372036854775807)) && (decide (-9223372036854775808 ≤ n) && decide (n ≤ 9223372036854775807)) && decide (s.length ≤ 140737488351232) && decide (l.length ≤ 2513169434916) && inpAll l
def inpAll : List RV → Bool
  | [] => true
  | v :: r => v.inp && inpAll r
end
theorem inpAll_at : ∀ {l : List RV} {i : Nat} {t : RV}, inpAll l = true → l[i]? = some t → t.inp = true
  | [], _, _, _, h => by simp at h
  | x :: l, 0, t, hc, h => by simp at h; subst h; simp [inpAll] at hc; exact hc.1
  | x :: l, i + 1, t, hc, h => by simp [inpAll] at hc; exact inpAll_at hc.2 (by simpa using h)
mutual
theorem inp_clean : ∀ v : RV, v.inp = true → (valT v).clean = true
  | .mk k n s l, h => by
    simp only [RV.inp, Bool.and_eq_true, decide_eq_true_eq] at h
    rw [valT]
    repeat' split
    all_goals first
    | rfl
    | (simp only [Tree.clean, Bool.and_eq_true, decide_eq_true_eq, valTs_length, itemTs_length]; exact ⟨h.1.2, by first | exact inp_cleanV l h.2 | exact inp_cleanI l h.2⟩)
theorem inp_cleanV : ∀ l : List RV, inpAll l = true → cleanAll (valTs l) = true
  | [], _ => by simp [valTs, cleanAll]
  | v :: r, h => by
    simp only [inpAll, Bool.and_eq_true] at h
    simp only [valTs, cleanAll, Bool.and_eq_true]
    exact ⟨inp_clean v h.1, inp_cleanV r h.2⟩
theorem inp_cleanI : ∀ l : List RV, inpAll l = true → cleanAll (itemTs l) = true
  | [], _ => by simp [itemTs, cleanAll]
  | v :: r, h => by
    simp only [inpAll, Bool.and_eq_true] at h
    rw [itemTs]
    simp only [cleanAll, Bool.and_eq_true]
    refine ⟨?_, inp_cleanI r h.2⟩
    split
    · rfl
    · exact inp_clean v h.1
end
theorem inp_cleanT {v : RV} (h : v.inp = true) : (itemT v).clean = true := by
  unfold itemT
  split
  · rfl
  · exact inp_clean v h
mutual
theorem inp_small : ∀ v : RV, v.inp = true → v.small = true
  | .mk k n s l, h => by
    simp only [RV.inp, Bool.and_eq_true, decide_eq_true_eq] at h
    simp only [RV.small, Bool.and_eq_true, decide_eq_true_eq]
    exact ⟨h.1.2, inp_smallA l h.2⟩
theorem inp_smallA : ∀ l : List RV, inpAll l = true → smallAll l = true
  | [], _ => by simp [smallAll]
  | v :: r, h => by
    simp only [inpAll, Bool.and_eq_true] at h
    simp only [smallAll, Bool.and_eq_true]
    exact ⟨inp_small v h.1, inp_smallA r h.2⟩
end

theorem f_Values' (l : List RV) (h : ∀ (i : Nat) v, l[i]? = some v → Av.Fn Tryz.prog 5 [.agg (rvAV v)] (valAV (valT v))) (hl : l.length ≤ 2513169434916) :
    Av.Fn Tryz.prog 11 [.fz (rvsC l) l.length false] (.fz (valAVs (valTs l)) l.length false) := by
  have hcell : ∀ {i : Nat} {v : RV}, l[i]? = some v → (List.drop (mulN i 4) (rvsC l)).take 4 = rvAV v := fun h => by
    have := rvsC_at (r := []) h
    rwa [List.append_nil, ← mulN_eq] at this
  have hmap : ∀ q : List RV, valAVs (valTs q) = q.map fun v => valAV (valT v) := fun q => by rw [valAVs_map, valTs_map, List.map_map]; rfl
  rw [hmap]
  refine ACalls.of_W tb_ok (fn := Tryz.f11) (n := 20) (by kernel_rfl) rfl (by kernel_rfl) rfl rfl (by simp) (go ?_)
  refine VLoop.mk [3, 4] AccI (fun i => [accV i.o i.k, .int .i64 i.k]) (fun i => accS i.o 1 ((List.map fun v => valAV (valT v)) (l.take i.k))) (fun i => i.k ≤ l.length ∧ (i.o = none → i.k = 0)) (fun i => l.length - i.k) ⟨0, none⟩ ?_ ?_
  · exact ⟨⟨by simp, by simp⟩, rfl, .nil⟩
  rintro ⟨k, o⟩ ⟨hk, ho⟩
  dsimp only at hk ho ⊢
  refine go ?_
  refine fork (fun hlt => go ?_) (fun hlt => ?_)
  · have hlt : k < l.length := by omega
    obtain ⟨t, ht⟩ : ∃ t, l[k]? = some t := ⟨l[k], by simp [hlt]⟩
    have hv := h k t ht
    have hacc : (List.map fun v => valAV (valT v)) (l.take (k + 1)) = (List.map fun v => valAV (valT v)) (l.take k) ++ [(fun v => valAV (valT v)) t] := by
      rw [take_succ_at ht]; simp [hmap]
    have hlen : ((List.map fun v => valAV (valT v)) (l.take k)).length = k := by simp; omega
    refine VTake.mk (rvAV t) (hcell ht) (by simp) (go ?_)
    refine Fn.use (hv) (go ?_)
    cases o with
    | none =>
      obtain rfl : k = 0 := ho rfl
      refine go ?_
      refine VOne.mk (by first | exact valAV_one' _ | exact itemAV_one _) (go ?_)
      refine VAll.mk (fun b2 => go ?_)
      refine ⟨⟨1, some b2⟩, ⟨by dsimp only; omega, by simp⟩, by dsimp only; omega, rfl, .cons 0 ?_ .nil⟩
      dsimp only
      rw [hacc]; simp [hmap]
    | some bo =>
      refine go ?_
      refine VOne.mk (by first | exact valAV_one' _ | exact itemAV_one _) (go ?_)
      refine VGd.mk ⟨rfl, by omega, by rw [mulN_eq, hlen]; simp, by simp; omega⟩ (go ?_)
      refine VAll.mk (fun b2 => go ?_)
      refine ⟨⟨k + 1, some b2⟩, ⟨by dsimp only; omega, by simp⟩, by dsimp only; omega, rfl, .cons 0 ?_ .nil⟩
      dsimp only
      rw [hacc, mulN_eq, List.take_of_length_le (by rw [hlen]; simp)]; rfl
  · obtain rfl : k = l.length := by omega
    rw [List.take_length]
    cases o with
    | none =>
      have := ho rfl
      obtain rfl : l = [] := List.length_eq_zero_iff.1 this
      refine go ?_
      refine VRet.mk [] .nil ?_
      exact ⟨by simp [hmap], rfl⟩
    | some bo =>
      refine go ?_
      refine VRet.mk [] .nil ?_
      exact ⟨by simp [mulN_eq, List.take_of_length_le], rfl⟩
theorem f_ItemsOf' (l : List RV) (h : ∀ (i : Nat) v, l[i]? = some v → Av.Fn Tryz.prog 18 [.agg (rvAV v)] (itemAV (itemT v))) (hl : l.length ≤ 2513169434916) :
    Av.Fn Tryz.prog 12 [.fz (rvsC l) l.length false] (.fz (itemAVs (itemTs l)) l.length false) := by
  have hcell : ∀ {i : Nat} {v : RV}, l[i]? = some v → (List.drop (mulN i 4) (rvsC l)).take 4 = rvAV v := fun h => by
    have := rvsC_at (r := []) h
    rwa [List.append_nil, ← mulN_eq] at this
  have hmap : ∀ q : List RV, itemAVs (itemTs q) = q.map fun v => itemAV (itemT v) := fun q => by rw [itemAVs_map, itemTs_map, List.map_map]; rfl
  rw [hmap]
  refine ACalls.of_W tb_ok (fn := Tryz.f12) (n := 20) (by kernel_rfl) rfl (by kernel_rfl) rfl rfl (by simp) (go ?_)
  refine VLoop.mk [3, 4] AccI (fun i => [accV i.o i.k, .int .i64 i.k]) (fun i => accS i.o 1 ((List.map fun v => itemAV (itemT v)) (l.take i.k))) (fun i => i.k ≤ l.length ∧ (i.o = none → i.k = 0)) (fun i => l.length - i.k) ⟨0, none⟩ ?_ ?_
  · exact ⟨⟨by simp, by simp⟩, rfl, .nil⟩
  rintro ⟨k, o⟩ ⟨hk, ho⟩
  dsimp only at hk ho ⊢
  refine go ?_
  refine fork (fun hlt => go ?_) (fun hlt => ?_)
  · have hlt : k < l.length := by omega
    obtain ⟨t, ht⟩ : ∃ t, l[k]? = some t := ⟨l[k], by simp [hlt]⟩
    have hv := h k t ht
    have hacc : (List.map fun v => itemAV (itemT v)) (l.take (k + 1)) = (List.map fun v => itemAV (itemT v)) (l.take k) ++ [(fun v => itemAV (itemT v)) t] := by
      rw [take_succ_at ht]; simp [hmap]
    have hlen : ((List.map fun v => itemAV (itemT v)) (l.take k)).length = k := by simp; omega
    refine VTake.mk (rvAV t) (hcell ht) (by simp) (go ?_)
    refine Fn.use (hv) (go ?_)
    cases o with
    | none =>
      obtain rfl : k = 0 := ho rfl
      refine go ?_
      refine VOne.mk (by first | exact valAV_one' _ | exact itemAV_one _) (go ?_)
      refine VAll.mk (fun b2 => go ?_)
      refine ⟨⟨1, some b2⟩, ⟨by dsimp only; omega, by simp⟩, by dsimp only; omega, rfl, .cons 0 ?_ .nil⟩
      dsimp only
      rw [hacc]; simp [hmap]
    | some bo =>
      refine go ?_
      refine VOne.mk (by first | exact valAV_one' _ | exact itemAV_one _) (go ?_)
      refine VGd.mk ⟨rfl, by omega, by rw [mulN_eq, hlen]; simp, by simp; omega⟩ (go ?_)
      refine VAll.mk (fun b2 => go ?_)
      refine ⟨⟨k + 1, some b2⟩, ⟨by dsimp only; omega, by simp⟩, by dsimp only; omega, rfl, .cons 0 ?_ .nil⟩
      dsimp only
      rw [hacc, mulN_eq, List.take_of_length_le (by rw [hlen]; simp)]; rfl
  · obtain rfl : k = l.length := by omega
    rw [List.take_length]
    cases o with
    | none =>
      have := ho rfl
      obtain rfl : l = [] := List.length_eq_zero_iff.1 this
      refine go ?_
      refine VRet.mk [] .nil ?_
      exact ⟨by simp [hmap], rfl⟩
    | some bo =>
      refine go ?_
      refine VRet.mk [] .nil ?_
      exact ⟨by simp [mulN_eq, List.take_of_length_le], rfl⟩
theorem f_Value' (v : RV) (hv : v.inp = true) (h4 : Av.Fn Tryz.prog 11 [.fz (rvsC (match v with | .mk _ _ _ l => l)) (match v with | .mk _ _ _ l => l).length false] (.fz (valAVs (valTs (match v with | .mk _ _ _ l => l))) (match v with | .mk _ _ _ l => l).length false))
    (h5 : Av.Fn Tryz.prog 12 [.fz (rvsC (match v with | .mk _ _ _ l => l)) (match v with | .mk _ _ _ l => l).length false] (.fz (itemAVs (itemTs (match v with | .mk _ _ _ l => l))) (match v with | .mk _ _ _ l => l).length false)) :
    Av.Fn Tryz.prog 5 [.agg (rvAV v)] (valAV (valT v)) := by
  obtain ⟨k, n, s, l⟩ := v
  dsimp only at h4 h5
  simp only [RV.inp, Bool.and_eq_true, decide_eq_true_eq] at hv
  rw [rvAV, valT]
  refine ACalls.of_W tb_ok (fn := Tryz.f5) (n := 44) (by kernel_rfl) rfl (by kernel_rfl) rfl rfl (by simp) (go ?_)
  refine VAll.mk (fun b => go ?_)
  refine fork (fun k1 => go ?_) (fun k1 => go ?_)
  · rw [if_pos k1]
    refine VRet.mk [] .nil ?_
    exact ⟨by simp [valAV], rfl⟩
  rw [if_neg k1]
  refine fork (fun k2 => go ?_) (fun k2 => go ?_)
  · rw [if_pos k2]
    refine VRet.mk [] .nil ?_
    exact ⟨by simp [valAV], rfl⟩
  rw [if_neg k2]
  refine fork (fun k3 => go ?_) (fun k3 => go ?_)
  · rw [if_pos k3]
    refine VRet.mk [] .nil ?_
    exact ⟨by simp [valAV], rfl⟩
  rw [if_neg k3]
  refine fork (fun k4 => go ?_) (fun k4 => go ?_)
  · rw [if_pos k4]
    refine Fn.use (h4) (go ?_)
    refine VRet.mk [] .nil ?_
    exact ⟨by simp [valAV], rfl⟩
  rw [if_neg k4]
  refine fork (fun k5 => go ?_) (fun k5 => go ?_)
  · rw [if_pos k5]
    refine Fn.use (h5) (go ?_)
    refine VRet.mk [] .nil ?_
    exact ⟨by simp [valAV], rfl⟩
  rw [if_neg k5]
  refine fork (fun k6 => go ?_) (fun k6 => go ?_)
  · rw [if_pos k6]
    refine VRet.mk [] .nil ?_
    exact ⟨by simp [valAV], rfl⟩
  rw [if_neg k6]
  refine VRet.mk [] .nil ?_
  exact ⟨by simp [valAV], rfl⟩
theorem itemAV_push {t : Tree} (h1 : ∀ s, t ≠ .call s) (h2 : t ≠ .none) (h3 : ∀ u v, t ≠ .odd u v) : itemAV t = .iface 78 (.agg [valAV t]) := by
  cases t <;> first | rfl | (exact absurd rfl (h1 _)) | (exact absurd rfl h2) | (exact absurd rfl (h3 _ _))
theorem f_ItemOf' (v : RV) (h : Av.Fn Tryz.prog 5 [.agg (rvAV v)] (valAV (valT v))) : Av.Fn Tryz.prog 18 [.agg (rvAV v)] (itemAV (itemT v)) := by
  obtain ⟨k, n, s, l⟩ := v
  unfold itemT
  rw [rvAV] at h ⊢
  rw [show (RV.mk k n s l).knd = k from rfl, show (RV.mk k n s l).txt = s from rfl]
  refine ACalls.of_W tb_ok (fn := Tryz.f18) (n := 22) (by kernel_rfl) rfl (by kernel_rfl) rfl rfl (by simp) (go ?_)
  refine VAll.mk (fun b => go ?_)
  refine fork (fun k7 => go ?_) (fun k7 => go ?_)
  · rw [if_pos k7]
    refine VRet.mk [] .nil ?_
    exact ⟨rfl, rfl⟩
  rw [if_neg k7]
  refine fork (fun k1 => go ?_) (fun k1 => go ?_)
  · rw [valT, if_neg (by omega), if_neg (by omega), if_neg (by omega), if_neg (by omega), if_neg (by omega), if_neg (by omega)]
    refine VRet.mk [] .nil ?_
    exact ⟨rfl, rfl⟩
  refine fork (fun k6 => go ?_) (fun k6 => go ?_)
  · rw [valT, if_neg (by omega), if_neg (by omega), if_neg (by omega), if_neg (by omega), if_neg (by omega), if_neg (by omega)]
    refine VRet.mk [] .nil ?_
    exact ⟨rfl, rfl⟩
  have hp : itemAV (valT (.mk k n s l)) = .iface 78 (.agg [valAV (valT (.mk k n s l))]) := by
    refine itemAV_push ?_ ?_ ?_
    · intro s; rw [valT]; repeat' split
      all_goals (intro e; cases e)
    · rw [valT]; repeat' split
      all_goals first | (intro e; cases e; done) | (exfalso; omega)
    · intro u v; rw [valT]; repeat' split
      all_goals (intro e; cases e)
  rw [hp]
  have ho := valAV_one' (valT (.mk k n s l))
  generalize valAV (valT (.mk k n s l)) = w at h ho ⊢
  refine Fn.use (h) (go ?_)
  refine VOne.mk ho (go ?_)
  refine VRet.mk [] .nil ?_
  exact ⟨rfl, rfl⟩
theorem f_vals (n : Nat) :
    (∀ v : RV, v.inp = true → v.deep ≤ n → Av.Fn Tryz.prog 5 [.agg (rvAV v)] (valAV (valT v))) ∧
    (∀ l : List RV, inpAll l = true → l.length ≤ 2513169434916 → deepAll l ≤ n → Av.Fn Tryz.prog 11 [.fz (rvsC l) l.length false] (.fz (valAVs (valTs l)) l.length false) ∧
      Av.Fn Tryz.prog 12 [.fz (rvsC l) l.length false] (.fz (itemAVs (itemTs l)) l.length false)) := by
  suffices H : ∀ v : RV, v.inp = true → v.deep ≤ n → Av.Fn Tryz.prog 5 [.agg (rvAV v)] (valAV (valT v)) from
    ⟨H, fun l hi hl hd => ⟨f_Values' l (fun i v hv => H v (inpAll_at hi hv) (Nat.le_trans (deepAll_at hv) hd)) hl,
      f_ItemsOf' l (fun i v hv => f_ItemOf' v (H v (inpAll_at hi hv) (Nat.le_trans (deepAll_at hv) hd))) hl⟩⟩
  induction n with
  | zero =>
    intro v _ hd
    obtain ⟨k, n, s, l⟩ := v
    rw [RV.deep] at hd; omega
  | succ n ih =>
    intro v hi hd
    obtain ⟨k, n', s, l⟩ := v
    rw [RV.deep] at hd
    have hi' := hi
    simp only [RV.inp, Bool.and_eq_true, decide_eq_true_eq] at hi'
    refine f_Value' _ hi ?_ ?_
    · exact f_Values' l (fun i v hv => ih v (inpAll_at hi'.2 hv) (by have := deepAll_at hv; omega)) hi'.1.2
    · exact f_ItemsOf' l (fun i v hv => f_ItemOf' v (ih v (inpAll_at hi'.2 hv) (by have := deepAll_at hv; omega))) hi'.1.2
theorem f_Value {v : RV} (h : v.inp = true) : Av.Fn Tryz.prog 5 [.agg (rvAV v)] (valAV (valT v)) := (f_vals v.deep).1 v h (Nat.le_refl _)
theorem f_ItemOf {v : RV} (h : v.inp = true) : Av.Fn Tryz.prog 18 [.agg (rvAV v)] (itemAV (itemT v)) := f_ItemOf' v (f_Value h)
theorem f_Values {l : List RV} (h : inpAll l = true) (hl : l.length ≤ 2513169434916) : Av.Fn Tryz.prog 11 [.fz (rvsC l) l.length false] (.fz (valAVs (valTs l)) l.length false) := ((f_vals (deepAll l)).2 l h hl (Nat.le_refl _)).1
theorem f_ItemsOf {l : List RV} (h : inpAll l = true) (hl : l.length ≤ 2513169434916) : Av.Fn Tryz.prog 12 [.fz (rvsC l) l.length false] (.fz (itemAVs (itemTs l)) l.length false) := ((f_vals (deepAll l)).2 l h hl (Nat.le_refl _)).2
end Go.Proofs.YthhonmkmmalfjaaGreatDoor

namespace Go.Proofs.YthhonmkmmalfjaaGreatDoor
open Go Go.Av
mutual
theorem inp_nmS : ∀ v : RV, v.inp = true → (valT v).nmS = true
  | .mk k n s l, h => by
    simp only [RV.inp, Bool.and_eq_true, decide_eq_true_eq] at h
    rw [valT]
    repeat' split
    all_goals first
    | rfl
    | (rw [Tree.nmS]; first | exact inp_nmSV l h.2 | exact inp_nmSI l h.2)
theorem inp_nmSV : ∀ l : List RV, inpAll l = true → nmSAll (valTs l) = true
  | [], _ => by simp [valTs, nmSAll]
  | v :: r, h => by
    simp only [inpAll, Bool.and_eq_true] at h
    simp only [valTs, nmSAll, Bool.and_eq_true]
    exact ⟨inp_nmS v h.1, inp_nmSV r h.2⟩
theorem inp_nmSI : ∀ l : List RV, inpAll l = true → nmSAll (itemTs l) = true
  | [], _ => by simp [itemTs, nmSAll]
  | v :: r, h => by
    simp only [inpAll, Bool.and_eq_true] at h
    rw [itemTs]
    simp only [nmSAll, Bool.and_eq_true]
    refine ⟨?_, inp_nmSI r h.2⟩
    split
    · obtain ⟨k, n, s, l⟩ := v
      simp only [RV.inp, Bool.and_eq_true, decide_eq_true_eq] at h
      rw [Tree.nmS]
      exact decide_eq_true (by show s.length ≤ _; omega)
    · exact inp_nmS v h.1
end
end Go.Proofs.YthhonmkmmalfjaaGreatDoor

namespace Go.Proofs.YthhonmkmmalfjaaGreatDoor
open Go Go.Av
mutual
def RV.bulk : RV → Nat
  | .mk _ _ s l => s.length + bulkAll l + 1
def bulkAll : List RV → Nat
  | [] => 0
  | v :: r => v.bulk + bulkAll r
end
theorem bulkAll_sum : ∀ l : List RV, bulkAll l = (l.map RV.bulk).sum
  | [] => rfl
  | v :: r => by rw [bulkAll, bulkAll_sum r]; rfl
theorem rvsC_flat : ∀ l : List RV, rvsC l = l.flatMap rvAV
  | [] => by simp [rvsC]
  | v :: r => by rw [rvsC, rvsC_flat r]; rfl
theorem inpAll_all {l : List RV} : (∀ v ∈ l, v.inp = true) → inpAll l = true := by
  intro h
  induction l with
  | nil => simp [inpAll]
  | cons v l ih => simp only [inpAll, Bool.and_eq_true]; exact ⟨h v (List.mem_cons_self), ih fun w hw => h w (List.mem_cons_of_mem _ hw)⟩
theorem wf_i64 {n : Int} (h : (Lit.int .i64 n).wf = true) : -9223372036854775808 ≤ n ∧ n ≤ 9223372036854775807 := by
  simp only [Lit.wf, Bool.and_eq_true, decide_eq_true_eq] at h
  rw [show IntKind.i64.min = -9223372036854775808 by decide, show IntKind.i64.max = 9223372036854775807 by decide] at h
  exact h
section
variable {H : Type} {enc : TypeId × Value → H} {W : World}
theorem reads_VL (fuel : Nat) : Reads enc Tryz.prog W 24 fuel rvAV (fun v => v.inp = true) RV.bulk ∧
    Reads enc Tryz.prog W 22 fuel (fun l => [.fz (rvsC l) l.length false]) (fun l => l.length ≤ 2513169434916 ∧ inpAll l = true) (fun l => bulkAll l + 1) := by
  induction fuel with
  | zero => exact ⟨.zero, .zero⟩
  | succ fuel ih =>
    refine ⟨?_, ?_⟩
    · have hf : ReadsF enc Tryz.prog W fuel 0 [⟨"K", 3, 0, false, "", "", 0⟩, ⟨"N", 2, 1, false, "", "", 8⟩, ⟨"S", 9, 2, false, "", "", 16⟩, ⟨"L", 22, 3, false, "", "", 32⟩] (1 + (1 + (1 + (1 + 0)))) _ _ _ :=
        .cons rfl (by kernel_rfl) (reads_int (Tryz.underlying3) fuel) (.cons rfl (by kernel_rfl) (reads_int (Tryz.underlying2) fuel) (.cons rfl (by kernel_rfl) (reads_str (Tryz.underlying9) fuel) (.cons rfl (by kernel_rfl) ih.2 .nil)))
      have h := reads_struct (Tryz.underlying24) (by kernel_rfl) hf
      refine h.map (fun x => .mk x.1 x.2.1 x.2.2.1 x.2.2.2.1) (fun x => ?_) (fun x hx => ?_) (fun x => ?_)
      · simp [rvAV]
      · obtain ⟨h1, h2, h3, ⟨h4, h5⟩, _⟩ := hx
        have h1 := wf_i64 h1
        have h2 := wf_i64 h2
        have h3 : x.2.2.1.length ≤ 140737488351232 := h3
        simp only [RV.inp, h5, Bool.and_true, Bool.and_eq_true, decide_eq_true_eq]
        exact ⟨⟨⟨h1, h2⟩, h3⟩, h4⟩
      · simp only [RV.bulk]; omega
    · have h := reads_slice (Tryz.underlying22) (esz := 4) (by kernel_rfl) (by omega) ih.1 (enc := enc) (W := W)
      refine h.map (fun l => l) (fun l => by rw [rvsC_flat]) (fun l hl => ?_) (fun l => by rw [bulkAll_sum]; exact Nat.le_refl _)
      refine ⟨?_, inpAll_all hl.2⟩
      have h1 := hl.1
      rw [show Tryz.prog.bytesOf 24 = 56 by kernel_rfl, show reachBytes = 140737488351232 by decide] at h1
      omega
theorem arg_struct {P : Program} {W : World} {r : Reach} {base : Nat} {t : TypeId} {fs : Array Field} {v : Value} (hu : P.underlying t = some (.struct fs)) (h : Value.okWide P W r base t v) : ∃ cs, v = .agg cs := by
  unfold Value.okWide at h
  rw [hu] at h
  obtain ⟨cs, e, _⟩ := h
  exact ⟨cs, e⟩
theorem arg_slice {P : Program} {W : World} {r : Reach} {base : Nat} {t e : TypeId} {v : Value} (hu : P.underlying t = some (.slice e)) (h : Value.okWide P W r base t v) : v.cells.toList = [v] ∧ v.oneCell' = true := by
  unfold Value.okWide at h
  rw [hu] at h
  have h : Cell.okWide P W r base t v := h
  unfold Cell.okWide Cell.ok at h
  rw [hu] at h
  cases v <;> first | exact ⟨rfl, rfl⟩ | (exact h.elim)
theorem rel1_of {g : Gh} {c : AV} {v : Value} (h : RelL g true [c] [v]) : Rel g c v := by
  obtain ⟨u, ws, e, ⟨h1, _⟩, _⟩ := h
  injection e with e1 _
  subst e1
  exact h1
theorem relA_of {g : Gh} {C : List AV} {cs : Array Value} (h : RelL g true C (Value.agg cs).cells.toList) : Rel g (.agg C) (.agg cs) := ⟨cs.toList, rfl, h⟩
theorem laid_ok : laidOutB Tryz.prog = true := by kernel_rfl
end
end Go.Proofs.YthhonmkmmalfjaaGreatDoor

namespace Go.Proofs.YthhonmkmmalfjaaGreatDoor
open Go Go.Av
mutual
theorem bulk_fitV : ∀ v : RV, v.inp = true → v.bulk ≤ 1000000000 → (valRV (valT v)).fit = true
  | .mk k n s l, h, hb => by
    simp only [RV.inp, Bool.and_eq_true, decide_eq_true_eq] at h
    rw [RV.bulk] at hb
    rw [valT]
    repeat' split
    all_goals first
    | rfl
    | (simp [valRV, RV.fit, fitAll]; done)
    | (simp only [valRV, RV.fit, Bool.and_eq_true, decide_eq_true_eq, valRVs_length, itemRVs_length, valTs_length, itemTs_length]
       exact ⟨⟨h.1.2, fun _ => by simp⟩, by first | exact bulk_fitVs l h.2 (by omega) | exact bulk_fitIs l h.2 (by omega)⟩)
theorem bulk_fitVs : ∀ l : List RV, inpAll l = true → bulkAll l ≤ 1000000000 → fitAll (valRVs (valTs l)) = true
  | [], _, _ => by simp [valTs, valRVs, fitAll]
  | v :: r, h, hb => by
    simp only [inpAll, Bool.and_eq_true] at h
    rw [bulkAll] at hb
    simp only [valTs, valRVs, fitAll, Bool.and_eq_true]
    exact ⟨bulk_fitV v h.1 (by omega), bulk_fitVs r h.2 (by omega)⟩
theorem bulk_fitIs : ∀ l : List RV, inpAll l = true → bulkAll l ≤ 1000000000 → fitAll (itemRVs (itemTs l)) = true
  | [], _, _ => by simp [itemTs, itemRVs, fitAll]
  | v :: r, h, hb => by
    simp only [inpAll, Bool.and_eq_true] at h
    rw [bulkAll] at hb
    rw [itemTs_cons, itemRVs_cons]
    simp only [fitAll, Bool.and_eq_true]
    refine ⟨?_, bulk_fitIs r h.2 (by omega)⟩
    unfold itemT
    split
    · rename_i h7
      obtain ⟨k, n, s, l⟩ := v
      rw [RV.bulk] at hb
      show RV.fit (.mk 7 0 s []) = true
      simp only [RV.fit, fitAll, Bool.and_eq_true, decide_eq_true_eq]
      exact ⟨⟨by simp, fun _ => by omega⟩, by simp⟩
    · rename_i h7
      have := bulk_fitV v h.1 (by omega)
      have hk : (valT v).isCall = false := by
        obtain ⟨k, n, s, l⟩ := v
        rw [valT]; repeat' split
        all_goals rfl
      rw [item_val hk]; exact this
end
end Go.Proofs.YthhonmkmmalfjaaGreatDoor

namespace Go.Proofs.YthhonmkmmalfjaaGreatDoor
open Go Go.Av
def callS : Tree → List UInt8
  | .call s => s
  | _ => []
mutual
def textT : Tree → List UInt8
  | .int n => Lib.itoa n
  | .str s => (quotedR s).1
  | .bool b => if b then [116] else [102]
  | .list l => Lib.join ([123] :: (textVs l ++ [[125]])) [32]
  | .quot l => Lib.join ([91] :: (textIs l ++ [[93]])) [32]
  | .none => [98, 111, 120]
  | .box _ => [98, 111, 120]
  | .call _ => [98, 111, 120]
  | .odd _ _ => [98, 111, 120]
def textVs : List Tree → List (List UInt8)
  | [] => []
  | t :: r => textT t :: textVs r
def textIs : List Tree → List (List UInt8)
  | [] => []
  | t :: r => (if t.isCall then callS t else textT t) :: textIs r
end
def textI (t : Tree) : List UInt8 := if t.isCall then callS t else textT t
theorem textVs_map : ∀ l : List Tree, textVs l = l.map textT
  | [] => by simp [textVs]
  | t :: r => by rw [textVs, textVs_map r]; rfl
theorem textIs_map : ∀ l : List Tree, textIs l = l.map textI
  | [] => by simp [textIs]
  | t :: r => by rw [textIs, textIs_map r]; rfl
mutual
/-- How many bytes of text there are, at most. -/
def tlen : Tree → Nat
  | .str s => 2 * s.length + 32
  | .call s => s.length + 32
  | .list l => tlens l + 32
  | .quot l => tlens l + 32
  | .none => 32
  | .int _ => 32
  | .bool _ => 32
  | .box _ => 32
  | .odd _ _ => 32
def tlens : List Tree → Nat
  | [] => 0
  | t :: r => tlen t + tlens r
end
mutual
/-- Numbers that fit. -/
def Tree.nums : Tree → Bool
  | .int n => decide (-9223372036854775808 ≤ n) && decide (n ≤ 9223372036854775807)
  | .list l => numsAll l
  | .quot l => numsAll l
  | .none => true
  | .str _ => true
  | .bool _ => true
  | .box _ => true
  | .call _ => true
  | .odd _ _ => true
def numsAll : List Tree → Bool
  | [] => true
  | t :: r => t.nums && numsAll r
end
theorem numsAll_at : ∀ {l : List Tree} {i : Nat} {t : Tree}, numsAll l = true → l[i]? = some t → t.nums = true
  | [], _, _, _, h => by simp at h
  | x :: l, 0, t, hc, h => by simp at h; subst h; simp [numsAll] at hc; exact hc.1
  | x :: l, i + 1, t, hc, h => by simp [numsAll] at hc; exact numsAll_at hc.2 (by simpa using h)
mutual
theorem inp_nums : ∀ v : RV, v.inp = true → (valT v).nums = true
  | .mk k n s l, h => by
    simp only [RV.inp, Bool.and_eq_true, decide_eq_true_eq] at h
    rw [valT]
    repeat' split
    all_goals first
    | rfl
    | (rw [Tree.nums]; simp; omega)
    | (rw [Tree.nums]; first | exact inp_numsV l h.2 | exact inp_numsI l h.2)
theorem inp_numsV : ∀ l : List RV, inpAll l = true → numsAll (valTs l) = true
  | [], _ => by simp [valTs, numsAll]
  | v :: r, h => by
    simp only [inpAll, Bool.and_eq_true] at h
    rw [valTs, numsAll, inp_nums v h.1, inp_numsV r h.2]; rfl
theorem inp_numsI : ∀ l : List RV, inpAll l = true → numsAll (itemTs l) = true
  | [], _ => by simp [itemTs, numsAll]
  | v :: r, h => by
    simp only [inpAll, Bool.and_eq_true] at h
    rw [itemTs_cons, numsAll, inp_numsI r h.2, Bool.and_true]
    unfold itemT
    split
    · rw [Tree.nums]
    · exact inp_nums v h.1
end
mutual
theorem bulk_tlen : ∀ v : RV, tlen (valT v) ≤ 32 * v.bulk
  | .mk k n s l => by
    have h1 := bulk_tlenV l
    have h2 := bulk_tlenI l
    rw [valT, RV.bulk]
    repeat' split
    all_goals (rw [tlen]; omega)
theorem bulk_tlenV : ∀ l : List RV, tlens (valTs l) ≤ 32 * bulkAll l
  | [] => by simp [valTs, tlens]
  | v :: r => by
    have h1 := bulk_tlen v
    have h2 := bulk_tlenV r
    rw [valTs, tlens, bulkAll]; omega
theorem bulk_tlenI : ∀ l : List RV, tlens (itemTs l) ≤ 32 * bulkAll l
  | [] => by simp [itemTs, tlens]
  | v :: r => by
    have h1 := bulk_tlen v
    have h2 := bulk_tlenI r
    rw [itemTs_cons, tlens, bulkAll]
    unfold itemT
    split
    · obtain ⟨k, n, s, l⟩ := v
      rw [tlen, RV.bulk, RV.txt]; omega
    · omega
end
theorem join_le (x : List UInt8) (r : List (List UInt8)) (k : Nat) (h : (r.map fun y => y.length + 1).sum ≤ k) : (Lib.join (x :: r) [32]).length ≤ x.length + k := by
  rw [Lib.join_cons, List.length_append]
  have : (Lib.joinTail [32] r).length = (r.map fun y => y.length + 1).sum := by
    clear h
    induction r with
    | nil => rfl
    | cons y r ih => simp only [Lib.joinTail, List.map_cons, List.flatten_cons, List.length_append, List.sum_cons] at ih ⊢; rw [ih]; simp; omega
  omega
theorem quoted_le (s : List UInt8) : (quotedR s).1.length ≤ 2 * s.length + 2 := by
  unfold quotedR
  split
  · simp
  · split
    · simp
    · have := qL_le s
      rw [quoteR_length]; omega
mutual
theorem text_le : ∀ (t : Tree), t.nums = true → (textT t).length + 1 ≤ tlen t
  | .int n, h => by
    simp only [Tree.nums, Bool.and_eq_true, decide_eq_true_eq] at h
    have := Lib.itoa_length_le n h.1 h.2
    rw [textT, tlen]; omega
  | .str s, _ => by have := quoted_le s; rw [textT, tlen]; omega
  | .bool b, _ => by rw [textT, tlen]; split <;> simp
  | .list l, hc => by
    rw [Tree.nums] at hc
    have := text_leV l hc
    rw [textT, tlen]
    have := join_le [123] (textVs l ++ [[125]]) (tlens l + 2) (by rw [List.map_append, List.sum_append]; simp; omega)
    simp only [List.length_singleton] at this
    omega
  | .quot l, hc => by
    rw [Tree.nums] at hc
    have := text_leI l hc
    rw [textT, tlen]
    have := join_le [91] (textIs l ++ [[93]]) (tlens l + 2) (by rw [List.map_append, List.sum_append]; simp; omega)
    simp only [List.length_singleton] at this
    omega
  | .none, _ => by rw [textT, tlen]; simp
  | .box _, _ => by rw [textT, tlen]; simp
  | .call _, _ => by rw [textT, tlen]; simp
  | .odd _ _, _ => by rw [textT, tlen]; simp
theorem text_leV : ∀ (l : List Tree), numsAll l = true → ((textVs l).map fun y => y.length + 1).sum ≤ tlens l
  | [], _ => by simp [textVs, tlens]
  | t :: r, hc => by
    simp only [numsAll, Bool.and_eq_true] at hc
    have h1 := text_le t hc.1
    have h2 := text_leV r hc.2
    rw [textVs, tlens, List.map_cons, List.sum_cons]; omega
theorem text_leI : ∀ (l : List Tree), numsAll l = true → ((textIs l).map fun y => y.length + 1).sum ≤ tlens l
  | [], _ => by simp [textIs, tlens]
  | t :: r, hc => by
    simp only [numsAll, Bool.and_eq_true] at hc
    have h1 := text_le t hc.1
    have h2 := text_leI r hc.2
    rw [textIs, tlens, List.map_cons, List.sum_cons]
    split
    · rename_i hcall
      cases t <;> first | (cases hcall; done) | (rw [callS, tlen]; omega)
    · omega
end
end Go.Proofs.YthhonmkmmalfjaaGreatDoor

namespace Go.Proofs.YthhonmkmmalfjaaGreatDoor
open Go Go.Av
theorem len_runes (l : List UInt8) : l.length ≤ 4 * (runes l).length := by
  induction l using runes_ind with
  | h0 => simp
  | h1 l hl ih =>
    obtain ⟨h1, h2, h3, _⟩ := dec_pos l hl
    rw [runes_cons hl, List.length_cons]
    rw [List.length_drop] at ih
    omega
theorem name_len {s : List UInt8} (h : nmR s = true) : s.length ≤ 128 := by
  unfold nmR nameR at h
  simp only [Bool.and_eq_true, decide_eq_true_eq] at h
  have h2 : (chars s).length ≤ 32 := h.1.2.1.1.2
  have h1 := len_runes s
  simp only [chars, List.length_map] at h2
  omega
mutual
theorem meas_tlen : ∀ (it : Bool) (t : Tree) (left nest d l' : Int), measT it t left nest = some (d, l') → (tlen t : Int) ≤ 8300 * (left - l')
  | it, .none, _, _, _, _, h => by rw [measT] at h; cases h
  | it, .odd _ _, _, _, _, _, h => by rw [measT] at h; cases h
  | it, .call s, left, _, d, l', h => by
    rw [measT] at h
    split at h
    · rename_i h0
      have := name_len h0.2.2
      simp only [Option.some.injEq, Prod.mk.injEq] at h
      rw [tlen]; omega
    · cases h
  | it, .int n, left, nest, d, l', h => by
    rw [measT] at h
    repeat' split at h
    all_goals first
    | (cases h; done)
    | (simp only [Option.some.injEq, Prod.mk.injEq] at h; rw [tlen]; omega)
  | it, .str s, left, nest, d, l', h => by
    rw [measT] at h
    repeat' split at h
    all_goals first
    | (cases h; done)
    | (simp only [Option.some.injEq, Prod.mk.injEq] at h; rw [tlen]; omega)
  | it, .bool b, left, nest, d, l', h => by
    rw [measT] at h
    repeat' split at h
    all_goals first
    | (cases h; done)
    | (simp only [Option.some.injEq, Prod.mk.injEq] at h; rw [tlen]; omega)
  | it, .box n, left, nest, d, l', h => by
    rw [measT] at h
    repeat' split at h
    all_goals first
    | (cases h; done)
    | (simp only [Option.some.injEq, Prod.mk.injEq] at h; rw [tlen]; omega)
  | it, .list l, left, nest, d, l', h => by
    rw [measT] at h
    split at h
    · cases h
    · have := meass_tlen false l _ _ _ _ _ h
      rw [tlen]; omega
  | it, .quot l, left, nest, d, l', h => by
    rw [measT] at h
    split at h
    · cases h
    · have := meass_tlen true l _ _ _ _ _ h
      rw [tlen]; omega
theorem meass_tlen : ∀ (it : Bool) (l : List Tree) (left nest depth d l' : Int), measTs it l left nest depth = some (d, l') → (tlens l : Int) ≤ 8300 * (left - l')
  | it, [], left, nest, depth, d, l', h => by
    rw [measTs] at h
    split at h
    · simp only [Option.some.injEq, Prod.mk.injEq] at h; rw [tlens]; omega
    · cases h
  | it, t :: r, left, nest, depth, d, l', h => by
    rw [measTs] at h
    split at h
    · rename_i d2 l2 e
      have h1 := meas_tlen it t _ _ _ _ e
      have h2 := meass_tlen it r _ _ _ _ _ h
      rw [tlens]; omega
    · cases h
end
theorem meas_len {t : Tree} (h : (measT false t 1024 0).isSome = true) : tlen t ≤ 1000000000 := by
  obtain ⟨p, hp⟩ := Option.isSome_iff_exists.1 h
  have h1 := meas_tlen false t 1024 0 p.1 p.2 hp
  have h2 := measT_le false t 1024 0 p.1 p.2 hp
  omega
theorem item_kind {t : Tree} (hf : t.full false = true) : ∃ k n s l, valRV t = .mk k n s l ∧ k ≠ 7 := by
  cases t <;> first | exact ⟨_, _, _, _, by rw [valRV], by decide⟩ | (rw [Tree.full] at hf; cases hf)
mutual
theorem same_tree : ∀ (a b : Tree), a.full false = true → b.full false = true → sameV (valRV a) (valRV b) = true → a = b
  | .none, _, ha, _, _ => by rw [Tree.full] at ha; cases ha
  | .odd _ _, _, ha, _, _ => by rw [Tree.full] at ha; cases ha
  | .call _, _, ha, _, _ => by rw [Tree.full] at ha; cases ha
  | .int n, b, _, hb, h => by
    cases b <;> first
      | (rw [Tree.full] at hb; cases hb; done)
      | (simp [valRV, sameV, leafSame, sameVs] at h; done)
      | (simp [valRV, sameV, leafSame, sameVs] at h; rw [h])
  | .str s, b, _, hb, h => by
    cases b <;> first
      | (rw [Tree.full] at hb; cases hb; done)
      | (simp [valRV, sameV, leafSame, sameVs] at h; done)
      | (simp [valRV, sameV, leafSame, sameVs] at h; rw [h])
  | .box n, b, _, hb, h => by
    cases b <;> first
      | (rw [Tree.full] at hb; cases hb; done)
      | (simp [valRV, sameV, leafSame, sameVs] at h; done)
      | (simp [valRV, sameV, leafSame, sameVs] at h; rw [h])
  | .bool v, b, _, hb, h => by
    cases b <;> first
      | (rw [Tree.full] at hb; cases hb; done)
      | (simp [valRV, sameV, leafSame, sameVs] at h; done)
      | (rename_i u; cases u <;> cases v <;> first | rfl | (simp [valRV, sameV, leafSame, sameVs] at h; done))
  | .list l, b, ha, hb, h => by
    cases b with
    | list m =>
      rw [Tree.full] at ha hb
      rw [valRV, valRV, sameV] at h
      simp only [Bool.and_eq_true] at h
      rw [same_trees l m ha hb h.2]
    | none => rw [Tree.full] at hb; cases hb
    | odd _ _ => rw [Tree.full] at hb; cases hb
    | call _ => rw [Tree.full] at hb; cases hb
    | _ => simp [valRV, sameV] at h
  | .quot l, b, ha, hb, h => by
    cases b with
    | quot m =>
      rw [Tree.full] at ha hb
      rw [valRV, valRV, sameV] at h
      simp only [Bool.and_eq_true] at h
      rw [same_items l m ha hb h.2]
    | none => rw [Tree.full] at hb; cases hb
    | odd _ _ => rw [Tree.full] at hb; cases hb
    | call _ => rw [Tree.full] at hb; cases hb
    | _ => simp [valRV, sameV] at h
theorem same_trees : ∀ (l m : List Tree), fullAll false l = true → fullAll false m = true → sameVs (valRVs l) (valRVs m) = true → l = m
  | [], [], _, _, _ => rfl
  | [], _ :: _, _, _, h => by simp [valRVs, sameVs] at h
  | _ :: _, [], _, _, h => by simp [valRVs, sameVs] at h
  | t :: r, u :: s, ha, hb, h => by
    simp only [fullAll, Bool.and_eq_true] at ha hb
    rw [valRVs, valRVs, sameVs, Bool.and_eq_true] at h
    rw [same_tree t u ha.1 hb.1 h.1, same_trees r s ha.2 hb.2 h.2]
theorem same_items : ∀ (l m : List Tree), fullAll true l = true → fullAll true m = true → sameVs (itemRVs l) (itemRVs m) = true → l = m
  | [], [], _, _, _ => rfl
  | [], u :: s, _, _, h => by rw [itemRVs_cons] at h; simp [itemRVs, sameVs] at h
  | t :: r, [], _, _, h => by rw [itemRVs_cons] at h; simp [itemRVs, sameVs] at h
  | t :: r, u :: s, ha, hb, h => by
    simp only [fullAll, Bool.and_eq_true] at ha hb
    rw [itemRVs_cons, itemRVs_cons, sameVs, Bool.and_eq_true] at h
    rw [same_items r s ha.2 hb.2 h.2]
    have key : t = u := by
      cases hct : t.isCall with
      | false =>
        cases hcu : u.isCall with
        | false =>
          have h1 := h.1
          rw [item_val hct, item_val hcu] at h1
          exact same_tree t u (full_val hct ha.1) (full_val hcu hb.1) h1
        | true =>
          exfalso
          obtain ⟨s', rfl⟩ : ∃ s, u = .call s := by cases u <;> first | exact ⟨_, rfl⟩ | (cases hcu; done)
          obtain ⟨k, n, s2, l2, hk, hk7⟩ := item_kind (full_val hct ha.1)
          have h1 := h.1
          rw [item_val hct, hk] at h1
          have h1 : sameV (.mk k n s2 l2) (.mk 7 0 s' []) = true := h1
          rw [sameV] at h1
          simp [hk7] at h1
      | true =>
        obtain ⟨s1, rfl⟩ : ∃ s, t = .call s := by cases t <;> first | exact ⟨_, rfl⟩ | (cases hct; done)
        cases hcu : u.isCall with
        | false =>
          exfalso
          obtain ⟨k, n, s2, l2, hk, hk7⟩ := item_kind (full_val hcu hb.1)
          have h1 := h.1
          rw [item_val hcu, hk] at h1
          have h1 : sameV (.mk 7 0 s1 []) (.mk k n s2 l2) = true := h1
          rw [sameV] at h1
          simp [Ne.symm hk7] at h1
        | true =>
          obtain ⟨s', rfl⟩ : ∃ s, u = .call s := by cases u <;> first | exact ⟨_, rfl⟩ | (cases hcu; done)
          have h1 : sameV (.mk 7 0 s1 []) (.mk 7 0 s' []) = true := h.1
          simp [sameV, leafSame, sameVs] at h1
          rw [h1]
    rw [key]
end
end Go.Proofs.YthhonmkmmalfjaaGreatDoor

namespace Go.Proofs.YthhonmkmmalfjaaGreatDoor
open Go Go.Av



theorem f_CloneL (l : List Tree) (h : ∀ (i : Nat) t, l[i]? = some t → Av.Fn Tryz.prog 15 [valAV t] (valAV t)) (hl : l.length ≤ 2513169434916) :
    Av.Fn Tryz.prog 15 [.iface 49 (.agg [.fz (valAVs l) l.length false])] (.iface 49 (.agg [.fz (valAVs l) l.length false])) := by
  refine ACalls.thaw (ACalls.of_W tb_ok (fn := Tryz.f15) (n := 37) (by kernel_rfl) rfl (by kernel_rfl) rfl rfl (by simp) (go ?_))
  refine VAll.mk (fun b => go ?_)
  refine VLoop.mk [4, 15] AccI (fun i => [accV i.o i.k, .int .i64 i.k]) (fun i => accS i.o 1 (valAVs (l.take i.k))) (fun i => i.k ≤ l.length ∧ (i.o = none → i.k = 0)) (fun i => l.length - i.k) ⟨0, none⟩ ?_ ?_
  · exact ⟨⟨by simp, by simp⟩, rfl, .nil⟩
  rintro ⟨k, o⟩ ⟨hk, ho⟩
  dsimp only at hk ho ⊢
  refine go ?_
  refine fork (fun hlt => go ?_) (fun hlt => ?_)
  · have hlt : k < l.length := by omega
    obtain ⟨t, ht⟩ : ∃ t, l[k]? = some t := ⟨l[k], by simp [hlt]⟩
    have hacc : valAVs (l.take (k + 1)) = valAVs (l.take k) ++ [valAV t] := by
      rw [take_succ_at ht]; simp [valAVs_map]
    have hlen : (valAVs (l.take k)).length = k := by simp; omega
    refine VNth.mk (valAV t) (by simp [mulN_eq, valAVs_map, ht]) (go ?_)
    refine Fn.use (h k t ht) (go ?_)
    cases o with
    | none =>
      obtain rfl : k = 0 := ho rfl
      refine go ?_
      refine VOne.mk (valAV_one' _) (go ?_)
      refine VAll.mk (fun b2 => go ?_)
      refine ⟨⟨1, some b2⟩, ⟨by dsimp only; omega, by simp⟩, by dsimp only; omega, rfl, .cons 0 ?_ .nil⟩
      dsimp only
      rw [hacc]; simp [valAVs_map]
    | some bo =>
      refine go ?_
      refine VOne.mk (valAV_one' _) (go ?_)
      refine VGd.mk ⟨rfl, by omega, by rw [mulN_eq, hlen]; simp, by simp; omega⟩ (go ?_)
      refine VAll.mk (fun b2 => go ?_)
      refine ⟨⟨k + 1, some b2⟩, ⟨by dsimp only; omega, by simp⟩, by dsimp only; omega, rfl, .cons 0 ?_ .nil⟩
      dsimp only
      rw [hacc, mulN_eq, List.take_of_length_le (by rw [hlen]; simp)]; rfl
  · obtain rfl : k = l.length := by omega
    rw [List.take_length]
    cases o with
    | none =>
      have := ho rfl
      obtain rfl : l = [] := List.length_eq_zero_iff.1 this
      refine go ?_
      refine VRet.mk [] .nil ?_
      exact ⟨_, _, .same _ _, by simp [valAVs], rfl⟩
    | some bo =>
      refine go ?_
      refine VRet.mk [] .nil ?_
      exact ⟨_, _, .same _ _, by simp [List.take_of_length_le], rfl⟩


theorem f_CloneItems' (l : List Tree) (hodd : ∀ t ∈ l, ∀ u v, t ≠ .odd u v) (h : ∀ (i : Nat) t, l[i]? = some t → Av.Fn Tryz.prog 15 [valAV t] (valAV t)) (hl : l.length ≤ 2513169434916) :
    Av.Fn Tryz.prog 22 [.fz (itemAVs l) l.length false] (.fz (itemAVs l) l.length false) := by
  refine ACalls.of_W tb_ok (fn := Tryz.f22) (n := 31) (by kernel_rfl) rfl (by kernel_rfl) rfl rfl (by simp) (go ?_)
  refine VLoop.mk [3, 10] AccI (fun i => [accV i.o i.k, .int .i64 i.k]) (fun i => accS i.o 1 (itemAVs (l.take i.k))) (fun i => i.k ≤ l.length ∧ (i.o = none → i.k = 0)) (fun i => l.length - i.k) ⟨0, none⟩ ?_ ?_
  · exact ⟨⟨by simp, by simp⟩, rfl, .nil⟩
  rintro ⟨k, o⟩ ⟨hk, ho⟩
  dsimp only at hk ho ⊢
  refine go ?_
  refine fork (fun hlt => go ?_) (fun hlt => ?_)
  · have hlt : k < l.length := by omega
    obtain ⟨t, ht⟩ : ∃ t, l[k]? = some t := ⟨l[k], by simp [hlt]⟩
    have hacc : itemAVs (l.take (k + 1)) = itemAVs (l.take k) ++ [itemAV t] := by
      rw [take_succ_at ht]; simp [itemAVs_map]
    have hlen : (itemAVs (l.take k)).length = k := by simp; omega
    refine VNth.mk (itemAV t) (by simp [mulN_eq, itemAVs_map, ht]) (go ?_)
    have hc := h k t ht
    cases t with
    | none =>
      refine go ?_
      refine VAll.mk (fun b1 => go ?_)
      cases o with
      | none =>
        obtain rfl : k = 0 := ho rfl
        refine go ?_
        skip
        refine VAll.mk (fun b2 => go ?_)
        refine ⟨⟨1, some b2⟩, ⟨by dsimp only; omega, by simp⟩, by dsimp only; omega, rfl, .cons 0 ?_ .nil⟩
        dsimp only
        rw [hacc]; simp [itemAVs_map]
      | some bo =>
        refine go ?_
        skip
        refine VGd.mk ⟨rfl, by omega, by rw [mulN_eq, hlen]; simp, by simp; omega⟩ (go ?_)
        refine VAll.mk (fun b2 => go ?_)
        refine ⟨⟨k + 1, some b2⟩, ⟨by dsimp only; omega, by simp⟩, by dsimp only; omega, rfl, .cons 0 ?_ .nil⟩
        dsimp only
        rw [hacc, mulN_eq, List.take_of_length_le (by rw [hlen]; simp)]; rfl
    | call s =>
      refine go ?_
      refine VAll.mk (fun b1 => go ?_)
      cases o with
      | none =>
        obtain rfl : k = 0 := ho rfl
        refine go ?_
        skip
        refine VAll.mk (fun b2 => go ?_)
        refine ⟨⟨1, some b2⟩, ⟨by dsimp only; omega, by simp⟩, by dsimp only; omega, rfl, .cons 0 ?_ .nil⟩
        dsimp only
        rw [hacc]; simp [itemAVs_map]
      | some bo =>
        refine go ?_
        skip
        refine VGd.mk ⟨rfl, by omega, by rw [mulN_eq, hlen]; simp, by simp; omega⟩ (go ?_)
        refine VAll.mk (fun b2 => go ?_)
        refine ⟨⟨k + 1, some b2⟩, ⟨by dsimp only; omega, by simp⟩, by dsimp only; omega, rfl, .cons 0 ?_ .nil⟩
        dsimp only
        rw [hacc, mulN_eq, List.take_of_length_le (by rw [hlen]; simp)]; rfl
    | odd u v => exact (hodd _ (List.mem_of_getElem? ht) u v rfl).elim
    | int n =>
      rw [show itemAV (.int n) = .iface 78 (.agg [valAV (.int n)]) from rfl] at hacc ⊢
      have hone := valAV_one' (.int n)
      generalize valAV (.int n) = w at hc hacc hone ⊢
      refine go ?_
      refine VAll.mk (fun b1 => go ?_)
      refine Fn.use (hc) (go ?_)
      refine VOne.mk hone (go ?_)
      cases o with
      | none =>
        obtain rfl : k = 0 := ho rfl
        refine go ?_
        skip
        refine VAll.mk (fun b2 => go ?_)
        refine ⟨⟨1, some b2⟩, ⟨by dsimp only; omega, by simp⟩, by dsimp only; omega, rfl, .cons 0 ?_ .nil⟩
        dsimp only
        rw [hacc]; simp [itemAVs_map]
      | some bo =>
        refine go ?_
        skip
        refine VGd.mk ⟨rfl, by omega, by rw [mulN_eq, hlen]; simp, by simp; omega⟩ (go ?_)
        refine VAll.mk (fun b2 => go ?_)
        refine ⟨⟨k + 1, some b2⟩, ⟨by dsimp only; omega, by simp⟩, by dsimp only; omega, rfl, .cons 0 ?_ .nil⟩
        dsimp only
        rw [hacc, mulN_eq, List.take_of_length_le (by rw [hlen]; simp)]; rfl
    | str n =>
      rw [show itemAV (.str n) = .iface 78 (.agg [valAV (.str n)]) from rfl] at hacc ⊢
      have hone := valAV_one' (.str n)
      generalize valAV (.str n) = w at hc hacc hone ⊢
      refine go ?_
      refine VAll.mk (fun b1 => go ?_)
      refine Fn.use (hc) (go ?_)
      refine VOne.mk hone (go ?_)
      cases o with
      | none =>
        obtain rfl : k = 0 := ho rfl
        refine go ?_
        skip
        refine VAll.mk (fun b2 => go ?_)
        refine ⟨⟨1, some b2⟩, ⟨by dsimp only; omega, by simp⟩, by dsimp only; omega, rfl, .cons 0 ?_ .nil⟩
        dsimp only
        rw [hacc]; simp [itemAVs_map]
      | some bo =>
        refine go ?_
        skip
        refine VGd.mk ⟨rfl, by omega, by rw [mulN_eq, hlen]; simp, by simp; omega⟩ (go ?_)
        refine VAll.mk (fun b2 => go ?_)
        refine ⟨⟨k + 1, some b2⟩, ⟨by dsimp only; omega, by simp⟩, by dsimp only; omega, rfl, .cons 0 ?_ .nil⟩
        dsimp only
        rw [hacc, mulN_eq, List.take_of_length_le (by rw [hlen]; simp)]; rfl
    | bool n =>
      rw [show itemAV (.bool n) = .iface 78 (.agg [valAV (.bool n)]) from rfl] at hacc ⊢
      have hone := valAV_one' (.bool n)
      generalize valAV (.bool n) = w at hc hacc hone ⊢
      refine go ?_
      refine VAll.mk (fun b1 => go ?_)
      refine Fn.use (hc) (go ?_)
      refine VOne.mk hone (go ?_)
      cases o with
      | none =>
        obtain rfl : k = 0 := ho rfl
        refine go ?_
        skip
        refine VAll.mk (fun b2 => go ?_)
        refine ⟨⟨1, some b2⟩, ⟨by dsimp only; omega, by simp⟩, by dsimp only; omega, rfl, .cons 0 ?_ .nil⟩
        dsimp only
        rw [hacc]; simp [itemAVs_map]
      | some bo =>
        refine go ?_
        skip
        refine VGd.mk ⟨rfl, by omega, by rw [mulN_eq, hlen]; simp, by simp; omega⟩ (go ?_)
        refine VAll.mk (fun b2 => go ?_)
        refine ⟨⟨k + 1, some b2⟩, ⟨by dsimp only; omega, by simp⟩, by dsimp only; omega, rfl, .cons 0 ?_ .nil⟩
        dsimp only
        rw [hacc, mulN_eq, List.take_of_length_le (by rw [hlen]; simp)]; rfl
    | list n =>
      rw [show itemAV (.list n) = .iface 78 (.agg [valAV (.list n)]) from rfl] at hacc ⊢
      have hone := valAV_one' (.list n)
      generalize valAV (.list n) = w at hc hacc hone ⊢
      refine go ?_
      refine VAll.mk (fun b1 => go ?_)
      refine Fn.use (hc) (go ?_)
      refine VOne.mk hone (go ?_)
      cases o with
      | none =>
        obtain rfl : k = 0 := ho rfl
        refine go ?_
        skip
        refine VAll.mk (fun b2 => go ?_)
        refine ⟨⟨1, some b2⟩, ⟨by dsimp only; omega, by simp⟩, by dsimp only; omega, rfl, .cons 0 ?_ .nil⟩
        dsimp only
        rw [hacc]; simp [itemAVs_map]
      | some bo =>
        refine go ?_
        skip
        refine VGd.mk ⟨rfl, by omega, by rw [mulN_eq, hlen]; simp, by simp; omega⟩ (go ?_)
        refine VAll.mk (fun b2 => go ?_)
        refine ⟨⟨k + 1, some b2⟩, ⟨by dsimp only; omega, by simp⟩, by dsimp only; omega, rfl, .cons 0 ?_ .nil⟩
        dsimp only
        rw [hacc, mulN_eq, List.take_of_length_le (by rw [hlen]; simp)]; rfl
    | quot n =>
      rw [show itemAV (.quot n) = .iface 78 (.agg [valAV (.quot n)]) from rfl] at hacc ⊢
      have hone := valAV_one' (.quot n)
      generalize valAV (.quot n) = w at hc hacc hone ⊢
      refine go ?_
      refine VAll.mk (fun b1 => go ?_)
      refine Fn.use (hc) (go ?_)
      refine VOne.mk hone (go ?_)
      cases o with
      | none =>
        obtain rfl : k = 0 := ho rfl
        refine go ?_
        skip
        refine VAll.mk (fun b2 => go ?_)
        refine ⟨⟨1, some b2⟩, ⟨by dsimp only; omega, by simp⟩, by dsimp only; omega, rfl, .cons 0 ?_ .nil⟩
        dsimp only
        rw [hacc]; simp [itemAVs_map]
      | some bo =>
        refine go ?_
        skip
        refine VGd.mk ⟨rfl, by omega, by rw [mulN_eq, hlen]; simp, by simp; omega⟩ (go ?_)
        refine VAll.mk (fun b2 => go ?_)
        refine ⟨⟨k + 1, some b2⟩, ⟨by dsimp only; omega, by simp⟩, by dsimp only; omega, rfl, .cons 0 ?_ .nil⟩
        dsimp only
        rw [hacc, mulN_eq, List.take_of_length_le (by rw [hlen]; simp)]; rfl
    | box n =>
      rw [show itemAV (.box n) = .iface 78 (.agg [valAV (.box n)]) from rfl] at hacc ⊢
      have hone := valAV_one' (.box n)
      generalize valAV (.box n) = w at hc hacc hone ⊢
      refine go ?_
      refine VAll.mk (fun b1 => go ?_)
      refine Fn.use (hc) (go ?_)
      refine VOne.mk hone (go ?_)
      cases o with
      | none =>
        obtain rfl : k = 0 := ho rfl
        refine go ?_
        skip
        refine VAll.mk (fun b2 => go ?_)
        refine ⟨⟨1, some b2⟩, ⟨by dsimp only; omega, by simp⟩, by dsimp only; omega, rfl, .cons 0 ?_ .nil⟩
        dsimp only
        rw [hacc]; simp [itemAVs_map]
      | some bo =>
        refine go ?_
        skip
        refine VGd.mk ⟨rfl, by omega, by rw [mulN_eq, hlen]; simp, by simp; omega⟩ (go ?_)
        refine VAll.mk (fun b2 => go ?_)
        refine ⟨⟨k + 1, some b2⟩, ⟨by dsimp only; omega, by simp⟩, by dsimp only; omega, rfl, .cons 0 ?_ .nil⟩
        dsimp only
        rw [hacc, mulN_eq, List.take_of_length_le (by rw [hlen]; simp)]; rfl
  · obtain rfl : k = l.length := by omega
    rw [List.take_length]
    cases o with
    | none =>
      have := ho rfl
      obtain rfl : l = [] := List.length_eq_zero_iff.1 this
      refine go ?_
      refine VRet.mk [] .nil ?_
      exact ⟨by simp [itemAVs], rfl⟩
    | some bo =>
      refine go ?_
      refine VRet.mk [] .nil ?_
      exact ⟨by simp [List.take_of_length_le], rfl⟩
theorem clean_odd {l : List Tree} (h : cleanAll l = true) : ∀ t ∈ l, ∀ u v, t ≠ .odd u v := by
  intro t ht u v e
  obtain ⟨i, hi⟩ := List.getElem?_of_mem ht
  have := cleanAll_at h hi
  subst e
  simp [Tree.clean] at this
theorem f_Clone' (n : Nat) : ∀ t : Tree, t.clean = true → t.depth ≤ n → Av.Fn Tryz.prog 15 [valAV t] (valAV t) := by
  induction n with
  | zero =>
    intro t hc hd
    cases t with
    | odd => simp [Tree.clean] at hc
    | list l => simp [Tree.depth] at hd
    | quot l => simp [Tree.depth] at hd
    | _ =>
      simp only [valAV]
      refine ACalls.of_W tb_ok (fn := Tryz.f15) (n := 37) (by kernel_rfl) rfl (by kernel_rfl) rfl rfl (by simp) (go ?_)
      refine VRet.mk [] .nil ?_
      exact ⟨rfl, rfl⟩
  | succ n ih =>
    intro t hc hd
    cases t with
    | odd => simp [Tree.clean] at hc
    | list l =>
      simp only [Tree.clean, Bool.and_eq_true, decide_eq_true_eq] at hc
      rw [Tree.depth] at hd
      simp only [valAV]
      exact f_CloneL l (fun i t ht => ih t (cleanAll_at hc.2 ht) (by have := depthAll_at ht; omega)) hc.1
    | quot l =>
      simp only [Tree.clean, Bool.and_eq_true, decide_eq_true_eq] at hc
      rw [Tree.depth] at hd
      simp only [valAV]
      have hi := f_CloneItems' l (clean_odd hc.2) (fun i t ht => ih t (cleanAll_at hc.2 ht) (by have := depthAll_at ht; omega)) hc.1
      refine ACalls.of_W tb_ok (fn := Tryz.f15) (n := 37) (by kernel_rfl) rfl (by kernel_rfl) rfl rfl (by simp) (go ?_)
      refine VAll.mk (fun b => go ?_)
      refine Fn.use (hi) (go ?_)
      refine VRet.mk [] .nil ?_
      exact ⟨rfl, rfl⟩
    | _ =>
      simp only [valAV]
      refine ACalls.of_W tb_ok (fn := Tryz.f15) (n := 37) (by kernel_rfl) rfl (by kernel_rfl) rfl rfl (by simp) (go ?_)
      refine VRet.mk [] .nil ?_
      exact ⟨rfl, rfl⟩
theorem f_Clone {t : Tree} (h : t.clean = true) : Av.Fn Tryz.prog 15 [valAV t] (valAV t) := f_Clone' t.depth t h (Nat.le_refl _)
theorem f_CloneItems {l : List Tree} (h : cleanAll l = true) (hl : l.length ≤ 2513169434916) : Av.Fn Tryz.prog 22 [.fz (itemAVs l) l.length false] (.fz (itemAVs l) l.length false) :=
  f_CloneItems' l (clean_odd h) (fun i t ht => f_Clone (cleanAll_at h ht)) hl
end Go.Proofs.YthhonmkmmalfjaaGreatDoor

namespace Go.Proofs.YthhonmkmmalfjaaGreatDoor
open Go Go.Av
theorem fn_FormatI (n : Int) (h0 : -9223372036854775808 ≤ n) (h1 : n ≤ 9223372036854775807) : Av.Fn Tryz.prog 33 [.int .i64 n, .int .i64 10] (.str (Lib.itoa n)) := by
  refine Fn.of_calls (fn := Tryz.f33) (by kernel_rfl) rfl (by kernel_rfl) ?_
  intro W w g us hl hr hb
  obtain ⟨u1, _, rfl, ⟨e1, _⟩, u2, _, rfl, ⟨e2, _⟩, h3⟩ := hr
  have e1 : u1 = _ := e1; have e2 : u2 = _ := e2; have h3 : _ = [] := h3
  subst e1; subst e2; subst h3
  refine (Tryz.internal_strconv_FormatInt_10 n h0 h1 w (hl.pow hb (a := 2) (by kernel_rfl))).mono fun e w' ⟨h1, k, os, h2⟩ => ?_
  exact ⟨_, h1, rfl, by rw [h2]; exact Lib.below_grow _ _ (Nat.le_refl _) _ _⟩
theorem fn_FormatN (n : Int) (h0 : -9223372036854775808 ≤ n) (h1 : n ≤ 9223372036854775807) : Av.Fn Tryz.prog 23 [.int .i64 n, .int .i64 10] (.str (Lib.itoa n)) := by
  have h := fn_FormatI n h0 h1
  refine ACalls.of_W tb_ok (fn := Tryz.f23) (n := 8) (by kernel_rfl) rfl (by kernel_rfl) rfl rfl (by simp) (go ?_)
  refine Fn.use (h) (go ?_)
  refine VRet.mk [] .nil ?_
  exact ⟨rfl, rfl⟩
theorem fn_Join (l : List (List UInt8)) (sep : List UInt8) (hlen : (Lib.join l sep).length ≤ 140737488355328) (hN : l.length ≤ 140737488355328) : Av.Fn Tryz.prog 37 [.fz (l.map .str) l.length false, .str sep] (.str (Lib.join l sep)) := by
  refine ⟨⟨Tryz.f37, by kernel_rfl, rfl, by kernel_rfl⟩, fun W F g w us hL hr inv => ?_⟩
  obtain ⟨u1, _, rfl, ⟨e1, _⟩, u2, _, rfl, ⟨e2, _⟩, h3⟩ := hr
  have e2 : u2 = _ := e2; have h3 : _ = [] := h3
  subst e2; subst h3
  obtain ⟨a, cap, rfl, hc, _, hm⟩ := e1
  have fin : ∀ {bk o : Nat}, a = some ⟨bk, o, none⟩ → Cells g bk o (l.map .str) → l ≠ [] → Calls Tryz.prog 37 ⟨[.slice a l.length cap, .string ⟨⟨sep⟩⟩]⟩ w fun e w' =>
      ∃ g' out st', Gh.le g g' ∧ OutR g' out e ∧ Inv W g' (st' ++ F) w' ∧ out = .ret (.str (Lib.join l sep)) ∧ st' = [] := by
    intro bk o ha hcl hne
    subst ha
    obtain ⟨vs, hv, hmu⟩ := hcl.rel
    have hcell : ∀ (j : Nat) x, (l.map fun x => (⟨⟨x⟩⟩ : ByteArray))[j]? = some x → w.cell? ⟨bk, o + j, none⟩ = some (.string x) := by
      intro j x hx
      simp only [List.getElem?_map, Option.map_eq_some_iff] at hx
      obtain ⟨y, hy, rfl⟩ := hx
      obtain ⟨u, hu, hru, _⟩ := hv.nth j (v := .str y) (by simp [hy])
      have hru : u = .string ⟨⟨y⟩⟩ := hru
      subst hru
      exact inv.mem _ _ _ (hmu j _ hu)
    have hbk : bk < w.heap.size := by
      obtain ⟨y, r, rfl⟩ : ∃ y r, l = y :: r := by cases l with | nil => exact absurd rfl hne | cons y r => exact ⟨y, r, rfl⟩
      have := World.block_lt_of_cell? _ _ (hcell 0 ⟨⟨y⟩⟩ rfl)
      simpa using this
    have hmap : (l.map fun x => (⟨⟨x⟩⟩ : ByteArray)).map (·.data.toList) = l := by simp [Function.comp_def]
    have := Tryz.strings_Join bk o cap (l.map fun x => (⟨⟨x⟩⟩ : ByteArray)) ⟨⟨sep⟩⟩ w hcell hbk (by simpa using hN) (by simpa using hc) (by rw [hmap]; exact hlen)
    rw [hmap, List.length_map] at this
    refine this.mono fun e w' ⟨h1, h2⟩ => ?_
    exact ⟨g, .ret (.str (Lib.join l sep)), [], Gh.le_refl g, ⟨_, h1, rfl⟩, inv.below' h2, rfl, rfl⟩
  by_cases hne : l = []
  · subst hne
    refine (Tryz.strings_Join_none a cap ⟨⟨sep⟩⟩ w).mono fun e w' ⟨h1, h2⟩ => ?_
    subst h2
    exact ⟨g, .ret (.str []), [], Gh.le_refl g, ⟨_, h1, rfl⟩, inv, rfl, rfl⟩
  · rcases hm with ⟨h0, h1⟩ | ⟨bk, o, ha, hcl⟩
    · exact absurd (by simpa using h1) hne
    · exact fin ha hcl hne
end Go.Proofs.YthhonmkmmalfjaaGreatDoor

namespace Go.Proofs.YthhonmkmmalfjaaGreatDoor
open Go Go.Av
structure BrI where
  k : Nat
  o : Option Nat
def brV (op : List UInt8) (o : Option Nat) (k : Nat) : AV := match o with
  | none => .fz [.str op] 1 true
  | some lb => .own lb (k + 1)
def brS (l : List (List UInt8)) (o : Option Nat) : St := match o with
  | none => []
  | some lb => [(lb, .arr 1 (l.map .str) 0)]
theorem a_bracket (f : FuncId) (b : Nat) (bx : List AV) (op sh : List UInt8) (xs : List (List UInt8))
    (hf : ∀ (i : Nat) x, xs[i]? = some x → ACalls Tryz.prog f [.int .i64 i, .ptr b 0] [(b, .box bx)] fun out st => out = .ret (.str x) ∧ st = [(b, .box bx)])
    (hl : (Lib.join (op :: (xs ++ [sh])) [32]).length ≤ 140737488355328) (hn : xs.length ≤ 1000000000) :
    ACalls Tryz.prog 25 [.str op, .str sh, .int .i64 xs.length, .fn (.func f) [] [.ptr b 0]] [(b, .box bx)] fun out st => out = .ret (.str (Lib.join (op :: (xs ++ [sh])) [32])) ∧ st = [(b, .box bx)] := by
  have hj := fn_Join (op :: (xs ++ [sh])) [32] hl (by simp; omega)
  refine ACalls.of_W tb_ok (fn := Tryz.f25) (n := 29) (by kernel_rfl) rfl (by kernel_rfl) rfl rfl (by simp) (go ?_)
  refine VLoop.mk [9, 14] BrI (fun i => [brV op i.o i.k, .int .i64 i.k]) (fun i => brS (op :: xs.take i.k) i.o ++ [(b, .box bx)]) (fun i => i.k ≤ xs.length ∧ (i.o = none → i.k = 0)) (fun i => xs.length - i.k) ⟨0, none⟩ ?_ ?_
  · exact ⟨⟨by simp, by simp⟩, rfl, VSel.refl _⟩
  rintro ⟨k, o⟩ ⟨hk, ho⟩
  dsimp only at hk ho ⊢
  have hlen : ((op :: xs.take k).map AV.str).length = k + 1 := by simp; omega
  cases o with
  | none =>
    obtain rfl : k = 0 := ho rfl
    refine go ?_
    refine fork (fun hlt => go ?_) (fun hlt => go ?_)
    · have hlt : 0 < xs.length := by omega
      obtain ⟨x, hx⟩ : ∃ x, xs[0]? = some x := ⟨xs[0], by simp [hlt]⟩
      refine ACalls.use (R := []) (hf 0 x hx) (by exact List.Perm.refl _) ?_
      rintro out s' ⟨rfl, rfl⟩
      refine go ?_
      refine VGd.mk ⟨rfl, by omega, rfl, by decide⟩ (go ?_)
      refine VAll.mk (fun lb => go ?_)
      refine ⟨⟨1, some lb⟩, ⟨by dsimp only; omega, by simp⟩, by dsimp only; omega, rfl, ?_⟩
      have htk : xs.take 1 = [x] := by rw [show (1 : Nat) = 0 + 1 from rfl, List.take_add_one, hx]; rfl
      dsimp only [brS]
      rw [htk]
      exact VSel.refl _
    · refine VGd.mk ⟨rfl, by omega, rfl, by decide⟩ (go ?_)
      refine VAll.mk (fun lb => go ?_)
      obtain rfl : xs = [] := List.length_eq_zero_iff.1 (by omega)
      refine Fn.use (hj) (go ?_)
      refine VRet.mk _ (.cons 1 rfl .nil) ⟨rfl, rfl⟩
  | some lb =>
    refine go ?_
    refine fork (fun hlt => go ?_) (fun hlt => go ?_)
    · have hlt : k < xs.length := by omega
      obtain ⟨x, hx⟩ : ∃ x, xs[k]? = some x := ⟨xs[k], by simp [hlt]⟩
      refine ACalls.usep (R := [(lb, .arr 1 ((op :: xs.take k).map .str) 0)]) (hf k x hx) (by exact List.Perm.swap _ _ _) ?_
      rintro out s' ⟨rfl, rfl⟩
      refine go ?_
      refine VGd.mk ⟨rfl, Nat.zero_le _, by rw [hlen]; exact Nat.le_refl _, by dsimp only; omega⟩ (go ?_)
      refine VAll.mk (fun lb2 => go ?_)
      refine ⟨⟨k + 1, some lb2⟩, ⟨by dsimp only; omega, by simp⟩, by dsimp only; omega, rfl, ?_⟩
      have htk : xs.take (k + 1) = xs.take k ++ [x] := by rw [List.take_add_one, hx]; rfl
      dsimp only [brS]
      rw [htk]
      have hcl : ((op :: xs.take k).map AV.str).take (mulN (k + 1) 1) ++ [AV.str x] = (op :: (xs.take k ++ [x])).map AV.str := by
        rw [List.take_of_length_le (by rw [hlen]; exact Nat.le_refl _)]; simp
      rw [← hcl]
      exact VSel.refl _
    · obtain rfl : k = xs.length := by omega
      refine VGd.mk ⟨rfl, Nat.zero_le _, by rw [hlen]; exact Nat.le_refl _, by dsimp only; omega⟩ (go ?_)
      refine VAll.mk (fun lb2 => go ?_)
      have e : List.take ((xs.length + 1 + 1) * 1) (List.take (mulN (xs.length + 1) 1) ((op :: xs.take xs.length).map AV.str) ++ [AV.str sh]) = (op :: (xs ++ [sh])).map AV.str := by
        rw [List.take_of_length_le (l := (op :: xs.take xs.length).map AV.str) (by rw [hlen]; exact Nat.le_refl _), List.take_of_length_le (by rw [List.length_append, hlen]; simp), List.take_length]; simp
      have hj' : Av.Fn Tryz.prog 37 [.fz (List.take ((xs.length + 1 + 1) * 1) (List.take (mulN (xs.length + 1) 1) ((op :: xs.take xs.length).map AV.str) ++ [AV.str sh])) (xs.length + 1 + 1) false, .str [32]] (.str (Lib.join (op :: (xs ++ [sh])) [32])) := by
        rw [e, show xs.length + 1 + 1 = (op :: (xs ++ [sh])).length by simp]; exact hj
      refine Fn.use (hj') (go ?_)
      refine VRet.mk _ (.cons 1 rfl .nil) ⟨rfl, rfl⟩
end Go.Proofs.YthhonmkmmalfjaaGreatDoor

namespace Go.Proofs.YthhonmkmmalfjaaGreatDoor
open Go Go.Av
theorem q_disable (w : World) : (callFunc 88 #[]).run Tryz.prog w = .ok (.value (.tuple #[])) w := run_call_mark0 Tryz.func88 (by kernel_rfl) (by kernel_rfl) (by kernel_rfl) .disable (by kernel_rfl) w
theorem q_enable (w : World) : (callFunc 90 #[]).run Tryz.prog w = .ok (.value (.tuple #[])) w := run_call_mark0 Tryz.func90 (by kernel_rfl) (by kernel_rfl) (by kernel_rfl) .enable (by kernel_rfl) w
theorem q_acquire (a : Addr) (w : World) : (callFunc 91 #[.pointer (some a)]).run Tryz.prog w = .ok (.value (.tuple #[])) w := run_call_marked Tryz.func91 (by kernel_rfl) (by kernel_rfl) (by kernel_rfl) .acquire (by kernel_rfl) a w
theorem q_releaseMerge (a : Addr) (w : World) : (callFunc 93 #[.pointer (some a)]).run Tryz.prog w = .ok (.value (.tuple #[])) w := run_call_marked Tryz.func93 (by kernel_rfl) (by kernel_rfl) (by kernel_rfl) .releaseMerge (by kernel_rfl) a w
theorem q_store (a : Addr) (x : Value) (u : FrameMode) (w : World) (hc : w.cell? a = some x) (hz : w.frozen? a = false) :
    CallsD Tryz.prog 71 #[.pointer (some a), .bool true] u w fun e u' w' => u' = u ∧ (e = .returned (.tuple #[]) ∧ w' = w.drew.setCell a (.int .u32 1)) := by
  have hc' : w.drew.cell? a = some x := by go_simp
  have hz' : w.drew.frozen? a = false := by go_simp
  have hst := run_call_store (P := Tryz.prog) Tryz.func82 (by kernel_rfl) (by kernel_rfl) (by kernel_rfl) (by kernel_rfl) (k := .u32) (y := 1) hc' hz'
  go_enter_d Tryz.func71, Tryz.ntmps71
  go_wp2
  go_region_calls
  all_goals (go_end0; exact ⟨rfl, rfl⟩)
theorem q_unlock (a : Addr) (u : FrameMode) (w : World) (hc : w.cell? a = some (.int .i32 1)) (hz : w.frozen? a = false) :
    CallsD Tryz.prog 70 #[.pointer (some a)] u w fun e u' w' => u' = u ∧ (e = .returned (.tuple #[]) ∧ w' = w.setCell a (.int .i32 0)) := by
  have hd := q_disable
  have he := q_enable
  have hr := q_releaseMerge
  have hadd := run_call_add (P := Tryz.prog) Tryz.func94 (by kernel_rfl) (by kernel_rfl) (by kernel_rfl) .i32 (by kernel_rfl) (y := -1) (s := 0) hc hz (by simp [go_sem]; rfl)
  have hcv := run_convert_to_unsafe (P := Tryz.prog) (src := 186) (dst := 159) Tryz.underlying186 Tryz.underlying159 (by kernel_rfl) hc
  go_enter_d Tryz.func70, Tryz.ntmps70
  go_wp2
  go_end0
  go_wp2
  go_end0
  exact ⟨rfl, rfl⟩
theorem q_lock (a : Addr) (w : World) (hc : w.cell? a = some (.int .i32 0)) (hz : w.frozen? a = false) :
    Calls Tryz.prog 69 #[.pointer (some a)] w fun e w' => e = .returned (.tuple #[]) ∧ w' = w.setCell a (.int .i32 1) := by
  have hd := q_disable
  have he := q_enable
  have ha := q_acquire
  have hcas := run_call_cas_hit (P := Tryz.prog) Tryz.func89 (by kernel_rfl) (by kernel_rfl) (by kernel_rfl) .i32 (by kernel_rfl) (y := 1) hc hz
  have hc' : (w.setCell a (.int .i32 1)).cell? a = some (.int .i32 1) := World.cell?_setCell_same w a _ hc
  have hcv := run_convert_to_unsafe (P := Tryz.prog) (src := 186) (dst := 159) Tryz.underlying186 Tryz.underlying159 (by kernel_rfl) hc'
  go_enter Tryz.func69, Tryz.ntmps69
  go_wp2
  first | go_end0 | (simp only [Exit.inBlock, Exit.then]; refine bodyPost_ret (results_none rfl _ _ _) rfl ?_) | refine bodyPost_ret (results_none rfl _ _ _) rfl ?_
  go_wp2
  go_end0
  exact ⟨rfl, rfl⟩
theorem q_load0 (a : Addr) (w : World) (hc : w.cell? a = some (.int .u32 0)) :
    Calls Tryz.prog 58 #[.pointer (some a)] w fun e w' => e = .returned (.bool false) ∧ w' = w := by
  have hl := run_call_load (P := Tryz.prog) Tryz.func68 (by kernel_rfl) (by kernel_rfl) (by kernel_rfl) .u32 (by kernel_rfl) hc
  go_enter Tryz.func58, Tryz.ntmps58
  go_wp2
  go_ret
  exact ⟨rfl, rfl⟩
end Go.Proofs.YthhonmkmmalfjaaGreatDoor

namespace Go.Proofs.YthhonmkmmalfjaaGreatDoor
open Go Go.Av
set_option maxRecDepth 100000 in
set_option maxHeartbeats 1600000 in
theorem q_slow (b : Nat) (R : World → Prop) (w : World)
    (h0 : w.cell? ⟨b, 0, none⟩ = some (.int .u32 0)) (h1 : w.cell? ⟨b, 1, none⟩ = some (.int .i32 0))
    (f1 : w.frozen? ⟨b, 1, none⟩ = false)
    (hk : Calls Tryz.prog 46 #[.pointer (some ⟨b, 0, none⟩)] (w.setCell ⟨b, 1, none⟩ (.int .i32 1)) fun e w' => e = .returned (.tuple #[]) ∧ R w')
    (hR : ∀ w', R w' → w'.cell? ⟨b, 0, none⟩ = some (.int .u32 0) ∧ w'.cell? ⟨b, 1, none⟩ = some (.int .i32 1) ∧ w'.frozen? ⟨b, 0, none⟩ = false ∧ w'.frozen? ⟨b, 1, none⟩ = false) :
    Calls Tryz.prog 59 #[.pointer (some ⟨b, 0, none⟩), .func (.func 46) #[.pointer (some ⟨b, 0, none⟩)] #[]] w fun e w' => e = .returned (.tuple #[]) ∧
      ∃ w2, R w2 ∧ w' = (w2.drew.setCell ⟨b, 0, none⟩ (.int .u32 1)).setCell ⟨b, 1, none⟩ (.int .i32 0) := by
  have hnot : ∀ (x : Bool) (w : World), (Op.unary .not (.bool x)).run Tryz.prog w = .ok (.bool (!x)) w := fun _ _ => rfl
  go_enter_defers Tryz.func59, Tryz.ntmps59
  have h0' : (w.setCell ⟨b, 1, none⟩ (.int .i32 1)).cell? ⟨b, 0, none⟩ = some (.int .u32 0) := (World.cell?_setCell_other _ ⟨b, 1, none⟩ ⟨b, 0, none⟩ _ (by simp)).trans h0
  go_wp2_with (first | (go_at_call 58; refine (q_load0 _ _ h0').mono ?_; rintro e w' ⟨rfl, rfl⟩) | (go_at_call 69; refine (q_lock ⟨b, 1, none⟩ _ (by go_simp) (by go_simp)).mono ?_; rintro e w' ⟨rfl, rfl⟩) | (go_at_call 46; refine hk.mono ?_; rintro e w2 ⟨rfl, hr⟩; obtain ⟨r0, r1, z0, z1⟩ := hR w2 hr))
  refine leaves_cons (f := 71) (args := #[.pointer (some ⟨b, 0, none⟩), .bool true]) (by simp) (by simp [go_sem]) ?_
  refine (q_store ⟨b, 0, none⟩ (.int .u32 0) .returning _ (by first | exact r0 | (simp; exact r0)) (by first | exact z0 | simp [z0])).mono ?_
  rintro e u' w'' ⟨rfl, rfl, rfl⟩
  refine leaves_cons (f := 70) (args := #[.pointer (some ⟨b, 1, none⟩)]) (by simp [settle]) (by simp [go_sem]) ?_
  refine (q_unlock ⟨b, 1, none⟩ _ _ ?_ (by simp [z1])).mono ?_
  · refine (World.cell?_setCell_other _ ⟨b, 0, none⟩ ⟨b, 1, none⟩ _ (by simp)).trans ?_
    rw [World.cell?_drew]
    exact r1
  rintro e u' w'' ⟨rfl, rfl, rfl⟩
  simp [Leaves, settle, results, Tryz.results59]
  exact ⟨w2, hr, rfl⟩
set_option maxRecDepth 100000 in
set_option maxHeartbeats 1600000 in
theorem q_do (b : Nat) (R : World → Prop) (w : World)
    (h0 : w.cell? ⟨b, 0, none⟩ = some (.int .u32 0)) (h1 : w.cell? ⟨b, 1, none⟩ = some (.int .i32 0))
    (f1 : w.frozen? ⟨b, 1, none⟩ = false)
    (hk : Calls Tryz.prog 46 #[.pointer (some ⟨b, 0, none⟩)] (w.setCell ⟨b, 1, none⟩ (.int .i32 1)) fun e w' => e = .returned (.tuple #[]) ∧ R w')
    (hR : ∀ w', R w' → w'.cell? ⟨b, 0, none⟩ = some (.int .u32 0) ∧ w'.cell? ⟨b, 1, none⟩ = some (.int .i32 1) ∧ w'.frozen? ⟨b, 0, none⟩ = false ∧ w'.frozen? ⟨b, 1, none⟩ = false) :
    Calls Tryz.prog 45 #[.pointer (some ⟨b, 0, none⟩), .func (.func 46) #[.pointer (some ⟨b, 0, none⟩)] #[]] w fun e w' => e = .returned (.tuple #[]) ∧
      ∃ w2, R w2 ∧ w' = (w2.drew.setCell ⟨b, 0, none⟩ (.int .u32 1)).setCell ⟨b, 1, none⟩ (.int .i32 0) := by
  have hnot : ∀ (x : Bool) (w : World), (Op.unary .not (.bool x)).run Tryz.prog w = .ok (.bool (!x)) w := fun _ _ => rfl
  go_enter Tryz.func45, Tryz.ntmps45
  go_wp2_with (first | (go_at_call 59; refine (q_slow b R _ h0 h1 f1 hk hR).mono ?_; rintro e w' ⟨rfl, hw⟩) | (go_at_call 58; refine (q_load0 _ _ h0).mono ?_; rintro e w' ⟨rfl, rfl⟩))
  go_end0
  exact ⟨rfl, hw⟩
end Go.Proofs.YthhonmkmmalfjaaGreatDoor

namespace Go.Proofs.YthhonmkmmalfjaaGreatDoor
open Go Go.Av
theorem relL_set {g : Gh} {q : Bool} : ∀ {l : List AV} {us : List Value} (i : Nat) {v : AV} {u : Value}, RelL g q l us → Rel g v u → (q = true → u.oneCell' = true) → RelL g q (l.set i v) (us.set i u)
  | [], us, i, v, u, h, _, _ => by cases h; simp; exact rfl
  | c :: l, us, i, v, u, ⟨x, ws, e, hx, hl⟩, hv, h1 => by
    subst e
    cases i with
    | zero => exact ⟨u, ws, rfl, ⟨hv, h1⟩, hl⟩
    | succ i => exact ⟨x, _, rfl, hx, relL_set i hl hv h1⟩
theorem inv_setBox {W : World} {g : Gh} {st F : St} {w : World} (inv : Inv W g (st ++ F) w) {m b : Nat} {cells : List AV} (hm : st[m]? = some (b, .box cells)) (i : Nat) {v : AV} {u : Value} (hr : Rel g v u) (h1 : u.oneCell' = true) :
    Inv W g (st.set m (b, .box (cells.set i v)) ++ F) (w.setCell ⟨b, i, none⟩ u) := by
  obtain ⟨us, T, lo, hi', hh, hrel, hf, hmu⟩ := inv.objAt hm
  have hw := wrote_setCell hh i u
  exact inv.upd hm (Gh.le_refl g) (fun _ _ _ => rfl) inv.cap (fun i u e => by rw [hmu] at e; cases e) hw.other hw.size (hw.below inv.below (inv.lowAt hm)) ⟨_, T, lo, hi', hw.at_, relL_set i hrel hr (fun _ => h1), by simpa using hf, hmu⟩
theorem inv_boxCell {W : World} {g : Gh} {st F : St} {w : World} (inv : Inv W g (st ++ F) w) {m b : Nat} {cells : List AV} (hm : st[m]? = some (b, .box cells)) {i : Nat} {k : IntKind} {n : Int} (hi : cells[i]? = some (.int k n)) :
    w.cell? ⟨b, i, none⟩ = some (.int k n) ∧ w.frozen? ⟨b, i, none⟩ = false := by
  obtain ⟨us, T, lo, hi', hh, hrel, hf, hmu⟩ := inv.objAt hm
  obtain ⟨u, hu, hr, _⟩ := hrel.nth i hi
  have hr : u = .int k n := hr
  subst hr
  refine ⟨by rw [cell_of hh]; exact hu, ?_⟩
  have := hf i (List.getElem?_eq_some_iff.1 hu).1
  simp only [World.frozen?, hh, Bool.and_eq_false_iff, decide_eq_false_iff_not]
  omega
theorem a_Do (b : Nat) (r o : AV) (E : St) (Q : AV → AV → St → Prop)
    (hk : ACalls Tryz.prog 46 [.ptr b 0] ((b, .box [.int .u32 0, .int .i32 1, .int .u32 0, r, o]) :: E) fun out st' => out = .ret (.tup []) ∧ ∃ r' o' E', st' = (b, .box [.int .u32 0, .int .i32 1, .int .u32 0, r', o']) :: E' ∧ Q r' o' E') :
    ACalls Tryz.prog 45 [.ptr b 0, .fn (.func 46) [.ptr b 0] []] ((b, .box [.int .u32 0, .int .i32 0, .int .u32 0, r, o]) :: E) fun out st' => out = .ret (.tup []) ∧ ∃ r' o' E', st' = (b, .box [.int .u32 1, .int .i32 0, .int .u32 0, r', o']) :: E' ∧ Q r' o' E' where
  ent := ⟨Tryz.f45, by kernel_rfl, rfl, by kernel_rfl⟩
  run W F g w us hL hr inv := by
    obtain ⟨u0, ws, rfl, ⟨h0, _⟩, u1, ws', rfl, ⟨h1, _⟩, rfl⟩ := hr
    have h0 : u0 = .pointer (some ⟨b, 0, none⟩) := h0
    subst h0
    obtain ⟨fs, cs, rfl, ⟨x, fs', rfl, ⟨hx, _⟩, rfl⟩, rfl⟩ := h1
    have hx : x = .pointer (some ⟨b, 0, none⟩) := hx
    subst hx
    obtain ⟨c0, z0⟩ := inv_boxCell inv (m := 0) rfl (i := 0) rfl
    obtain ⟨c1, z1⟩ := inv_boxCell inv (m := 0) rfl (i := 1) rfl
    have inv1 := inv_setBox inv (m := 0) rfl 1 (v := .int .i32 1) (u := .int .i32 1) rfl rfl
    have hcall := hk.run W F g (w.setCell ⟨b, 1, none⟩ (.int .i32 1)) [.pointer (some ⟨b, 0, none⟩)] hL ⟨_, _, rfl, ⟨rfl, fun h => by cases h⟩, rfl⟩ inv1
    refine (q_do b (fun w' => ∃ g' r' o' E', Gh.le g g' ∧ Inv W g' (((b, .box [.int .u32 0, .int .i32 1, .int .u32 0, r', o']) :: E') ++ F) w' ∧ Q r' o' E') w c0 c1 z1 ?_ ?_).mono ?_
    · refine hcall.mono ?_
      rintro e w' ⟨g', out, st', le, ho, hi, rfl, r', o', E', rfl, hq⟩
      obtain ⟨u, rfl, hu⟩ := ho
      obtain ⟨vs, rfl, hvs⟩ := hu
      have hvs : vs = [] := hvs
      subst hvs
      exact ⟨rfl, g', r', o', E', le, hi, hq⟩
    · rintro w' ⟨g', r', o', E', le, hi, hq⟩
      obtain ⟨c0, z0⟩ := inv_boxCell hi (m := 0) rfl (i := 0) rfl
      obtain ⟨c1, z1⟩ := inv_boxCell hi (m := 0) rfl (i := 1) rfl
      exact ⟨c0, c1, z0, z1⟩
    · rintro e w' ⟨rfl, w2, ⟨g', r', o', E', le, hi, hq⟩, rfl⟩
      have i1 := inv_setBox hi.drew (m := 0) rfl 0 (v := .int .u32 1) (u := .int .u32 1) rfl rfl
      have i2 := inv_setBox i1 (m := 0) rfl 1 (v := .int .i32 0) (u := .int .i32 0) rfl rfl
      exact ⟨g', .ret (.tup []), _, le, ⟨_, rfl, [], rfl, rfl⟩, i2, rfl, r', o', E', rfl, hq⟩
end Go.Proofs.YthhonmkmmalfjaaGreatDoor

namespace Go.Proofs.YthhonmkmmalfjaaGreatDoor
open Go Go.Av
def oldC : List AV := [.str [92], .str [92, 92], .str [10], .str [92, 110], .str [34], .str [92, 34]]
theorem a_New : ACalls Tryz.prog 35 [.fz oldC 6 false] [] fun out st' => ∃ b c, out = .ret (.ptr b 0) ∧ st' = [(b, .box [.int .u32 0, .int .i32 0, .int .u32 0, .nili, .own c 6]), (c, .arr 1 oldC 0)] := by
  refine ACalls.of_W tb_ok (fn := Tryz.f35) (n := 12) (by kernel_rfl) rfl (by kernel_rfl) rfl rfl (by simp) (go ?_)
  refine VAll.mk (fun c => go ?_)
  refine VAll.mk (fun b => go ?_)
  refine VRet.mk _ (.cons 0 rfl (.cons 0 rfl .nil)) ⟨b, c, rfl, rfl⟩
/-- The cells of the replacer: three bytes have texts. -/
def repC (e1 e2 e3 t : Nat) : List AV := (((List.replicate 257 AV.nils).set 34 (.own e1 2)).set 10 (.own e2 2)).set 92 (.own e3 2) |>.set 256 (.own t 3)
def bytesV (l : List UInt8) : List AV := l.map fun c => .int .u8 c.toNat
def repS (d e1 e2 e3 t : Nat) : St := [(d, .box (repC e1 e2 e3 t)), (e1, .arr 1 (bytesV [92, 34]) 0), (e2, .arr 1 (bytesV [92, 110]) 0), (e3, .arr 1 (bytesV [92, 92]) 0), (t, .arr 1 [.str [34], .str [10], .str [92]] 0)]
set_option maxRecDepth 200000 in
theorem a_build (b c : Nat) (x0 x1 x2 x3 : AV) : ACalls Tryz.prog 60 [.ptr b 0] [(b, .box [x0, x1, x2, x3, .own c 6]), (c, .arr 1 oldC 0)] fun out st' =>
    ∃ d e1 e2 e3 t, out = .ret (.iface 158 (.ptr d 0)) ∧ st' = repS d e1 e2 e3 t ++ [(b, .box [x0, x1, x2, x3, .own c 6]), (c, .arr 1 oldC 0)] := by
  refine ACalls.of_W tb_ok (fn := Tryz.f60) (n := 132) (by kernel_rfl) rfl (by kernel_rfl) rfl rfl (by simp) (go ?_)
  refine VLoop.un 4 [4, 5] (go ?_)
  refine VInt.to 3 (by decide) (by omega) (by omega) (go ?_)
  refine VAll.mk (fun t0 => go ?_)
  refine VAll.mk (fun d => go ?_)
  refine VLoop.un 4 [12] (go ?_)
  refine VBytes.mk [34] rfl rfl (go ?_)
  refine VAll.mk (fun t1 => go ?_)
  refine VAll.mk (fun e1 => go ?_)
  refine VBytes.mk [10] rfl rfl (go ?_)
  refine VAll.mk (fun t2 => go ?_)
  refine VAll.mk (fun e2 => go ?_)
  refine VObj.mk 5 _ rfl (go ?_)
  refine VObj.mk 5 _ rfl (go ?_)
  refine VBytes.mk [92] rfl rfl (go ?_)
  refine VAll.mk (fun t3 => go ?_)
  refine VAll.mk (fun e3 => go ?_)
  refine VRet.mk _ (.cons 4 rfl (.cons 3 rfl (.cons 2 rfl (.cons 0 rfl (.cons 0 rfl (.cons 0 rfl (.cons 0 rfl .nil))))))) ⟨d, e1, e2, e3, t3, rfl, ?_⟩
  rfl
end Go.Proofs.YthhonmkmmalfjaaGreatDoor

namespace Go.Proofs.YthhonmkmmalfjaaGreatDoor
open Go Go.Av
theorem fn_Count (l : List UInt8) (c : UInt8) : Av.Fn Tryz.prog 145 [.str l, .str [c]] (.int .i64 (Lib.countByte l c)) := by
  refine Fn.of_calls (fn := Tryz.f145) (by kernel_rfl) rfl (by kernel_rfl) ?_
  intro W w g us hl hr hb
  obtain ⟨u1, _, rfl, ⟨h1, _⟩, u2, _, rfl, ⟨h2, _⟩, h3⟩ := hr
  have h1 : u1 = _ := h1; have h2 : u2 = _ := h2; have h3 : _ = [] := h3
  subst h1; subst h2; subst h3
  refine (Tryz.strings_Count_one ⟨⟨l⟩⟩ c w).mono fun e w' ⟨h1, h2⟩ => ?_
  subst h2
  exact ⟨_, h1, rfl, RowKit.Below.refl _ _⟩
/-- How many bytes are replaced. -/
def nq : List UInt8 → Nat
  | [] => 0
  | c :: s => (if c = 10 ∨ c = 34 ∨ c = 92 then 1 else 0) + nq s
theorem qL_append : ∀ (a b : List UInt8), qL (a ++ b) = qL a ++ qL b
  | [], _ => rfl
  | c :: a, b => by rw [List.cons_append, qL, qL, qL_append a b, List.append_assoc]
theorem nq_append : ∀ (a b : List UInt8), nq (a ++ b) = nq a + nq b
  | [], _ => by simp [nq]
  | c :: a, b => by rw [List.cons_append, nq, nq, nq_append a b]; omega
theorem qL_length : ∀ (s : List UInt8), (qL s).length = s.length + nq s
  | [] => rfl
  | c :: s => by
    rw [qL, nq, List.length_append, List.length_cons, qL_length s]
    by_cases h1 : c = 10
    · subst h1; simp [qb]; omega
    by_cases h2 : c = 34
    · subst h2; simp [qb]; omega
    by_cases h3 : c = 92
    · subst h3; simp [qb]; omega
    · simp [qb, h1, h2, h3]; omega
theorem qL_none : ∀ (s : List UInt8), nq s = 0 → qL s = s
  | [], _ => rfl
  | c :: s, h => by
    rw [nq] at h
    have h1 : ¬ (c = 10 ∨ c = 34 ∨ c = 92) := by intro e; rw [if_pos e] at h; omega
    rw [qL, qL_none s (by omega)]
    simp only [not_or] at h1
    simp [qb, h1.1, h1.2.1, h1.2.2]
theorem nq_le : ∀ (s : List UInt8), nq s ≤ s.length
  | [] => by simp [nq]
  | c :: s => by
    have := nq_le s
    rw [nq, List.length_cons]; split <;> omega
theorem nq_count : ∀ (s : List UInt8), nq s = s.count 34 + s.count 10 + s.count 92
  | [] => rfl
  | c :: s => by
    rw [nq, nq_count s]
    simp only [List.count_cons]
    by_cases h1 : c = 10
    · subst h1; simp; omega
    by_cases h2 : c = 34
    · subst h2; simp; omega
    by_cases h3 : c = 92
    · subst h3; simp; omega
    · simp [h1, h2, h3]
theorem take_one {s : List UInt8} {i : Nat} (h : i < s.length) : s.take (i + 1) = s.take i ++ [s.getD i 0] := by
  rw [List.take_succ_eq_append_getElem h]; simp [h]
theorem qL_step {s : List UInt8} {i : Nat} (h : i < s.length) : qL (s.take (i + 1)) = qL (s.take i) ++ qb (s.getD i 0) := by
  rw [take_one h, qL_append]; simp [qL]
theorem nq_step {s : List UInt8} {i : Nat} (h : i < s.length) : nq (s.take (i + 1)) = nq (s.take i) + (if s.getD i 0 = 10 ∨ s.getD i 0 = 34 ∨ s.getD i 0 = 92 then 1 else 0) := by
  rw [take_one h, nq_append]; simp [nq]
theorem rep_none (e1 e2 e3 t k : Nat) (hk : k < 256) (h1 : k ≠ 10) (h2 : k ≠ 34) (h3 : k ≠ 92) : (repC e1 e2 e3 t)[k]? = some .nils := by
  unfold repC
  rw [List.getElem?_set_ne (by omega), List.getElem?_set_ne (by omega), List.getElem?_set_ne (by omega), List.getElem?_set_ne (by omega)]
  rw [List.getElem?_replicate, if_pos (by omega)]
theorem rep_34 (e1 e2 e3 t : Nat) : (repC e1 e2 e3 t)[34]? = some (.own e1 2) := rfl
theorem rep_10 (e1 e2 e3 t : Nat) : (repC e1 e2 e3 t)[10]? = some (.own e2 2) := rfl
theorem rep_92 (e1 e2 e3 t : Nat) : (repC e1 e2 e3 t)[92]? = some (.own e3 2) := rfl
theorem rep_t (e1 e2 e3 t : Nat) : (repC e1 e2 e3 t)[256]? = some (.own t 3) := rfl
theorem countByte_eq (l : List UInt8) (c : UInt8) : Lib.countByte l c = l.count c := rfl
theorem qfit (s : List UInt8) (k : Nat) : (qL (s.take k)).length ≤ s.length + nq s := by
  rw [qL_length]
  have h := nq_append (s.take k) (s.drop k)
  rw [List.take_append_drop] at h
  have := List.length_take_le k s
  have := List.length_take (i := k) (l := s)
  omega
def bufC (A : List UInt8) (n : Nat) : List AV := bytesV A ++ List.replicate (n - A.length) (.int .u8 0)
theorem bufC_length (A : List UInt8) (n : Nat) (h : A.length ≤ n) : (bufC A n).length = n := by simp [bufC, bytesV]; omega
theorem buf_put (A X : List UInt8) (n : Nat) (h : A.length + X.length ≤ n) : (bufC A n).take A.length ++ bytesV X ++ (bufC A n).drop (A.length + X.length) = bufC (A ++ X) n := by
  have hl : (bytesV A).length = A.length := by simp [bytesV]
  unfold bufC
  rw [← hl, List.take_left, ← List.drop_drop, List.drop_left]
  simp only [List.drop_replicate]
  rw [show bytesV (A ++ X) = bytesV A ++ bytesV X by simp [bytesV], hl, List.length_append, Nat.sub_sub]
theorem buf_set (A : List UInt8) (c : UInt8) (n : Nat) (h : A.length < n) : (bufC A n).set A.length (.int .u8 c.toNat) = bufC (A ++ [c]) n := by
  have := buf_put A [c] n (by simp only [List.length_singleton]; omega)
  rw [← this, List.set_eq_take_append_cons_drop, if_pos (by rw [bufC_length A n (by omega)]; exact h)]
  simp [bytesV]
theorem buf_full (A : List UInt8) (n : Nat) (h : A.length = n) : (bufC A n).take n = A.map fun c => .int .u8 c.toNat := by
  subst h
  unfold bufC
  have hl : (bytesV A).length = A.length := by simp [bytesV]
  rw [← hl, List.take_left]; rfl
end Go.Proofs.YthhonmkmmalfjaaGreatDoor

namespace Go.Proofs.YthhonmkmmalfjaaGreatDoor
open Go Go.Av
def cs (a b c : Nat) : Nat → Nat
  | 0 => 0
  | 1 => a
  | 2 => a + b
  | _ => a + b + c




set_option maxHeartbeats 4000000 in
theorem a_repl (d e1 e2 e3 t : Nat) (s : List UInt8) (hs : s.length ≤ 4096) : ACalls Tryz.prog 143 [.ptr d 0, .str s] (repS d e1 e2 e3 t) fun out st' =>
    out = .ret (.str (qL s)) ∧ st' = [] := by
  have hnq := nq_le s
  unfold repS
  refine ACalls.of_W tb_ok (fn := Tryz.f143) (n := 122) (by kernel_rfl) rfl (by kernel_rfl) rfl rfl (by simp) (go ?_)
  have hcnt := nq_count s
  have f1 := fn_Count s 34
  have f2 := fn_Count s 10
  have f3 := fn_Count s 92
  rw [countByte_eq] at f1 f2 f3
  generalize s.count 34 = c1 at f1 hcnt
  generalize s.count 10 = c2 at f2 hcnt
  generalize s.count 92 = c3 at f3 hcnt
  refine fork (fun hbig => go ?_) (fun hbig => go ?_)
  · refine VLoop.mk [32, 5, 6] Nat (fun i => [.int .i64 i, .int .i64 (s.length + cs c1 c2 c3 i : Nat), .bool (decide (cs c1 c2 c3 i ≠ 0))]) (fun _ => repS d e1 e2 e3 t) (fun i => i ≤ 3) (fun i => 3 - i) 0 ?_ ?_
    · exact ⟨by omega, rfl, VSel.refl _⟩
    intro i hi
    obtain rfl | rfl | rfl | rfl : i = 0 ∨ i = 1 ∨ i = 2 ∨ i = 3 := by omega
    · refine go ?_
      refine Fn.use (f1) (go ?_)
      refine fork (fun h1 => go ?_) (fun h1 => go ?_)
      · refine VQ.mk (.int .i64 ((s.length + cs c1 c2 c3 1 : Nat) : Int)) (by refine go ?_; refine VInt.to ((s.length + cs c1 c2 c3 1 : Nat) : Int) (by simp only [cs]; omega) (by simp only [cs]; omega) (by simp only [cs]; omega) (go ?_); exact ⟨rfl, rfl⟩) (go ?_)
        refine ⟨1, by omega, by omega, ?_, VSel.refl _⟩
        have hb : decide (cs c1 c2 c3 1 ≠ 0) = true := by rw [decide_eq_true_eq]; simp only [cs]; omega
        rw [hb]
        rfl
      · refine ⟨1, by omega, by omega, ?_, VSel.refl _⟩
        have e : c1 = 0 := by omega
        subst e
        rfl
    · refine go ?_
      refine Fn.use (f2) (go ?_)
      refine fork (fun h1 => go ?_) (fun h1 => go ?_)
      · refine VQ.mk (.int .i64 ((s.length + cs c1 c2 c3 2 : Nat) : Int)) (by refine go ?_; refine VInt.to ((s.length + cs c1 c2 c3 2 : Nat) : Int) (by simp only [cs]; omega) (by simp only [cs]; omega) (by simp only [cs]; omega) (go ?_); exact ⟨rfl, rfl⟩) (go ?_)
        refine ⟨2, by omega, by omega, ?_, VSel.refl _⟩
        have hb : decide (cs c1 c2 c3 2 ≠ 0) = true := by rw [decide_eq_true_eq]; simp only [cs]; omega
        rw [hb]
        rfl
      · refine ⟨2, by omega, by omega, ?_, VSel.refl _⟩
        have e : c2 = 0 := by omega
        subst e
        rfl
    · refine go ?_
      refine Fn.use (f3) (go ?_)
      refine fork (fun h1 => go ?_) (fun h1 => go ?_)
      · refine VQ.mk (.int .i64 ((s.length + cs c1 c2 c3 3 : Nat) : Int)) (by refine go ?_; refine VInt.to ((s.length + cs c1 c2 c3 3 : Nat) : Int) (by simp only [cs]; omega) (by simp only [cs]; omega) (by simp only [cs]; omega) (go ?_); exact ⟨rfl, rfl⟩) (go ?_)
        refine ⟨3, by omega, by omega, ?_, VSel.refl _⟩
        have hb : decide (cs c1 c2 c3 3 ≠ 0) = true := by rw [decide_eq_true_eq]; simp only [cs]; omega
        rw [hb]
        rfl
      · refine ⟨3, by omega, by omega, ?_, VSel.refl _⟩
        have e : c3 = 0 := by omega
        subst e
        rfl
    · refine go ?_
      have hcs : cs c1 c2 c3 3 = nq s := by simp only [cs]; omega
      rw [hcs]
      refine fork (fun hz => go ?_) (fun hz => go ?_)
      · refine VRet.mk [] .nil ?_
        have h0 : nq s = 0 := by simpa using hz
        rw [qL_none s h0]
        exact ⟨rfl, rfl⟩
      · refine VGd.mk (by dsimp only; omega) (go ?_)
        refine VAll.mk (fun bb => go ?_)
        refine VLoop.mk [13, 14] Nat (fun i => [.int .i64 ((qL (s.take i)).length : Nat), .int .i64 i]) (fun i => (bb, .arr 1 (bufC (qL (s.take i)) (s.length + nq s)) 0) :: repS d e1 e2 e3 t) (fun i => i ≤ s.length) (fun i => s.length - i) 0 ?_ ?_
        · exact ⟨by omega, rfl, VSel.refl _⟩
        intro i hi
        have hc6 : (s.getD i 0).toNat < 256 := UInt8.toNat_lt _
        have hfit := qfit s i
        have hfit2 := qfit s (i + 1)
        have hbl := bufC_length (qL (s.take i)) (s.length + nq s) hfit
        refine go ?_
        refine fork (fun hlt => go ?_) (fun hlt => go ?_)
        · have hlt : i < s.length := by omega
          have hst := qL_step hlt
          have hns := nq_step hlt
          rw [hst, List.length_append] at hfit2
          generalize s.getD i 0 = c at hc6 hst hns hfit2
          rcases Decidable.em (c = 10) with h1 | h1
          · subst h1
            rw [show qb 10 = [92, 110] from rfl] at hst hfit2
            simp only [List.length_cons, List.length_nil] at hfit2
            refine VNth.mk _ (rep_10 e1 e2 e3 t) (go ?_)
            refine VDraw.chain [10, 11, 12] (go ?_)
            refine VQ.mk (.sub bb (qL (s.take i)).length ((((s.length + nq s : Nat) : Int)).toNat - (qL (s.take i)).length)) (by (conv => whnf); refine VIdx.at (qL (s.take i)).length rfl (by omega) ?_; (conv => whnf); refine VCut.sub (VGd.mk (by omega) ?_); exact ⟨rfl, rfl⟩) (go ?_)
            refine VGd.mk ⟨rfl, rfl, by decide, by omega⟩ (go ?_)
            refine ⟨i + 1, by omega, by omega, ?_, ?_⟩
            · rw [hst, List.length_append]; rfl
            · rw [hst]
              have hb := buf_put (qL (s.take i)) [92, 110] (s.length + nq s) (by simp only [List.length_cons, List.length_nil]; omega)
              show VSel _ ((bb, AObj.arr 1 ((bufC (qL (s.take i)) (s.length + nq s)).take (qL (s.take i)).length ++ bytesV [92, 110] ++ (bufC (qL (s.take i)) (s.length + nq s)).drop ((qL (s.take i)).length + ([92, 110] : List UInt8).length)) 0) :: repS d e1 e2 e3 t)
              rw [hb]
              exact VSel.refl _
          rcases Decidable.em (c = 34) with h2 | h2
          · subst h2
            rw [show qb 34 = [92, 34] from rfl] at hst hfit2
            simp only [List.length_cons, List.length_nil] at hfit2
            refine VNth.mk _ (rep_34 e1 e2 e3 t) (go ?_)
            refine VDraw.chain [10, 11, 12] (go ?_)
            refine VQ.mk (.sub bb (qL (s.take i)).length ((((s.length + nq s : Nat) : Int)).toNat - (qL (s.take i)).length)) (by (conv => whnf); refine VIdx.at (qL (s.take i)).length rfl (by omega) ?_; (conv => whnf); refine VCut.sub (VGd.mk (by omega) ?_); exact ⟨rfl, rfl⟩) (go ?_)
            refine VGd.mk ⟨rfl, rfl, by decide, by omega⟩ (go ?_)
            refine ⟨i + 1, by omega, by omega, ?_, ?_⟩
            · rw [hst, List.length_append]; rfl
            · rw [hst]
              have hb := buf_put (qL (s.take i)) [92, 34] (s.length + nq s) (by simp only [List.length_cons, List.length_nil]; omega)
              show VSel _ ((bb, AObj.arr 1 ((bufC (qL (s.take i)) (s.length + nq s)).take (qL (s.take i)).length ++ bytesV [92, 34] ++ (bufC (qL (s.take i)) (s.length + nq s)).drop ((qL (s.take i)).length + ([92, 34] : List UInt8).length)) 0) :: repS d e1 e2 e3 t)
              rw [hb]
              exact VSel.refl _
          rcases Decidable.em (c = 92) with h3 | h3
          · subst h3
            rw [show qb 92 = [92, 92] from rfl] at hst hfit2
            simp only [List.length_cons, List.length_nil] at hfit2
            refine VNth.mk _ (rep_92 e1 e2 e3 t) (go ?_)
            refine VDraw.chain [10, 11, 12] (go ?_)
            refine VQ.mk (.sub bb (qL (s.take i)).length ((((s.length + nq s : Nat) : Int)).toNat - (qL (s.take i)).length)) (by (conv => whnf); refine VIdx.at (qL (s.take i)).length rfl (by omega) ?_; (conv => whnf); refine VCut.sub (VGd.mk (by omega) ?_); exact ⟨rfl, rfl⟩) (go ?_)
            refine VGd.mk ⟨rfl, rfl, by decide, by omega⟩ (go ?_)
            refine ⟨i + 1, by omega, by omega, ?_, ?_⟩
            · rw [hst, List.length_append]; rfl
            · rw [hst]
              have hb := buf_put (qL (s.take i)) [92, 92] (s.length + nq s) (by simp only [List.length_cons, List.length_nil]; omega)
              show VSel _ ((bb, AObj.arr 1 ((bufC (qL (s.take i)) (s.length + nq s)).take (qL (s.take i)).length ++ bytesV [92, 92] ++ (bufC (qL (s.take i)) (s.length + nq s)).drop ((qL (s.take i)).length + ([92, 92] : List UInt8).length)) 0) :: repS d e1 e2 e3 t)
              rw [hb]
              exact VSel.refl _
          have hn : ∀ k : UInt8, c ≠ k → c.toNat ≠ k.toNat := fun k hk e => hk (UInt8.toNat_inj.1 e)
          have hr : (repC e1 e2 e3 t)[0 + c.toNat]? = some .nils := by rw [Nat.zero_add]; exact rep_none e1 e2 e3 t c.toNat hc6 (hn 10 h1) (hn 34 h2) (hn 92 h3)
          have hq1 : qb c = [c] := by unfold qb; rw [if_neg h1, if_neg h2, if_neg h3]
          rw [hq1] at hst hfit2
          simp only [List.length_cons, List.length_nil] at hfit2
          refine VNth.mk _ hr (go ?_)
          refine VGd.mk ⟨Nat.zero_le _, by rw [hbl]; show (qL (s.take i)).length < _; omega⟩ (go ?_)
          refine ⟨i + 1, by omega, by omega, ?_, ?_⟩
          · rw [hst, List.length_append]; rfl
          · rw [hst]
            have hb := buf_set (qL (s.take i)) c (s.length + nq s) (by omega)
            show VSel _ ((bb, AObj.arr 1 ((bufC (qL (s.take i)) (s.length + nq s)).set (qL (s.take i)).length (.int .u8 c.toNat)) 0) :: repS d e1 e2 e3 t)
            rw [hb]
            exact VSel.refl _
        · obtain rfl : i = s.length := by omega
          refine VBytes.mk (qL s) (by rw [List.take_length]; exact buf_full (qL s) (s.length + nq s) (qL_length s)) (qL_length s) (go ?_)
          refine VRet.mk [] .nil ?_
          exact ⟨rfl, rfl⟩
  · refine VLoop.mk [10, 5, 6] Nat (fun i => [.int .i64 i, .int .i64 (s.length + nq (s.take i) : Nat), .bool (decide (nq (s.take i) ≠ 0))]) (fun _ => repS d e1 e2 e3 t) (fun i => i ≤ s.length) (fun i => s.length - i) 0 ?_ ?_
    · exact ⟨by omega, rfl, VSel.refl _⟩
    intro i hi
    have hc6 : (s.getD i 0).toNat < 256 := UInt8.toNat_lt _
    have hle := nq_le (s.take i)
    have hle2 := List.length_take (i := i) (l := s)
    refine go ?_
    refine fork (fun hlt => go ?_) (fun hlt => go ?_)
    · have hlt : i < s.length := by omega
      have hns := nq_step hlt
      generalize s.getD i 0 = c at hc6 hns
      rcases Decidable.em (c = 10) with h1 | h1
      · subst h1
        rw [if_pos (by decide)] at hns
        refine VNth.mk _ (rep_10 e1 e2 e3 t) (go ?_)
        refine ⟨i + 1, by omega, by omega, ?_, VSel.refl _⟩
        have hb : decide (nq (s.take (i + 1)) ≠ 0) = true := by rw [decide_eq_true_eq]; omega
        have e : ((s.length + nq (s.take i) : Nat) : Int) + (((2 : Nat) : Int) - 1) = ((s.length + (nq (s.take i) + 1) : Nat) : Int) := by omega
        rw [hb, hns]
        exact congrArg (fun x : Int => [AV.int .i64 ((i : Int) + 1), AV.int .i64 x, AV.bool true]) e
      rcases Decidable.em (c = 34) with h2 | h2
      · subst h2
        rw [if_pos (by decide)] at hns
        refine VNth.mk _ (rep_34 e1 e2 e3 t) (go ?_)
        refine ⟨i + 1, by omega, by omega, ?_, VSel.refl _⟩
        have hb : decide (nq (s.take (i + 1)) ≠ 0) = true := by rw [decide_eq_true_eq]; omega
        have e : ((s.length + nq (s.take i) : Nat) : Int) + (((2 : Nat) : Int) - 1) = ((s.length + (nq (s.take i) + 1) : Nat) : Int) := by omega
        rw [hb, hns]
        exact congrArg (fun x : Int => [AV.int .i64 ((i : Int) + 1), AV.int .i64 x, AV.bool true]) e
      rcases Decidable.em (c = 92) with h3 | h3
      · subst h3
        rw [if_pos (by decide)] at hns
        refine VNth.mk _ (rep_92 e1 e2 e3 t) (go ?_)
        refine ⟨i + 1, by omega, by omega, ?_, VSel.refl _⟩
        have hb : decide (nq (s.take (i + 1)) ≠ 0) = true := by rw [decide_eq_true_eq]; omega
        have e : ((s.length + nq (s.take i) : Nat) : Int) + (((2 : Nat) : Int) - 1) = ((s.length + (nq (s.take i) + 1) : Nat) : Int) := by omega
        rw [hb, hns]
        exact congrArg (fun x : Int => [AV.int .i64 ((i : Int) + 1), AV.int .i64 x, AV.bool true]) e
      have hn : ∀ k : UInt8, c ≠ k → c.toNat ≠ k.toNat := fun k hk e => hk (UInt8.toNat_inj.1 e)
      have hr : (repC e1 e2 e3 t)[0 + c.toNat]? = some .nils := by rw [Nat.zero_add]; exact rep_none e1 e2 e3 t c.toNat hc6 (hn 10 h1) (hn 34 h2) (hn 92 h3)
      refine VNth.mk _ hr (go ?_)
      rw [if_neg (by simp [h1, h2, h3])] at hns
      refine ⟨i + 1, by omega, by omega, ?_, VSel.refl _⟩
      rw [hns]
      rfl
    · obtain rfl : i = s.length := by omega
      rw [List.take_length]
      refine fork (fun hz => go ?_) (fun hz => go ?_)
      · refine VRet.mk [] .nil ?_
        have h0 : nq s = 0 := by simpa using hz
        rw [qL_none s h0]
        exact ⟨rfl, rfl⟩
      · refine VGd.mk (by dsimp only; omega) (go ?_)
        refine VAll.mk (fun bb => go ?_)
        refine VLoop.mk [13, 14] Nat (fun i => [.int .i64 ((qL (s.take i)).length : Nat), .int .i64 i]) (fun i => (bb, .arr 1 (bufC (qL (s.take i)) (s.length + nq s)) 0) :: repS d e1 e2 e3 t) (fun i => i ≤ s.length) (fun i => s.length - i) 0 ?_ ?_
        · exact ⟨by omega, rfl, VSel.refl _⟩
        intro i hi
        have hc6 : (s.getD i 0).toNat < 256 := UInt8.toNat_lt _
        have hfit := qfit s i
        have hfit2 := qfit s (i + 1)
        have hbl := bufC_length (qL (s.take i)) (s.length + nq s) hfit
        refine go ?_
        refine fork (fun hlt => go ?_) (fun hlt => go ?_)
        · have hlt : i < s.length := by omega
          have hst := qL_step hlt
          have hns := nq_step hlt
          rw [hst, List.length_append] at hfit2
          generalize s.getD i 0 = c at hc6 hst hns hfit2
          rcases Decidable.em (c = 10) with h1 | h1
          · subst h1
            rw [show qb 10 = [92, 110] from rfl] at hst hfit2
            simp only [List.length_cons, List.length_nil] at hfit2
            refine VNth.mk _ (rep_10 e1 e2 e3 t) (go ?_)
            refine VDraw.chain [10, 11, 12] (go ?_)
            refine VQ.mk (.sub bb (qL (s.take i)).length ((((s.length + nq s : Nat) : Int)).toNat - (qL (s.take i)).length)) (by (conv => whnf); refine VIdx.at (qL (s.take i)).length rfl (by omega) ?_; (conv => whnf); refine VCut.sub (VGd.mk (by omega) ?_); exact ⟨rfl, rfl⟩) (go ?_)
            refine VGd.mk ⟨rfl, rfl, by decide, by omega⟩ (go ?_)
            refine ⟨i + 1, by omega, by omega, ?_, ?_⟩
            · rw [hst, List.length_append]; rfl
            · rw [hst]
              have hb := buf_put (qL (s.take i)) [92, 110] (s.length + nq s) (by simp only [List.length_cons, List.length_nil]; omega)
              show VSel _ ((bb, AObj.arr 1 ((bufC (qL (s.take i)) (s.length + nq s)).take (qL (s.take i)).length ++ bytesV [92, 110] ++ (bufC (qL (s.take i)) (s.length + nq s)).drop ((qL (s.take i)).length + ([92, 110] : List UInt8).length)) 0) :: repS d e1 e2 e3 t)
              rw [hb]
              exact VSel.refl _
          rcases Decidable.em (c = 34) with h2 | h2
          · subst h2
            rw [show qb 34 = [92, 34] from rfl] at hst hfit2
            simp only [List.length_cons, List.length_nil] at hfit2
            refine VNth.mk _ (rep_34 e1 e2 e3 t) (go ?_)
            refine VDraw.chain [10, 11, 12] (go ?_)
            refine VQ.mk (.sub bb (qL (s.take i)).length ((((s.length + nq s : Nat) : Int)).toNat - (qL (s.take i)).length)) (by (conv => whnf); refine VIdx.at (qL (s.take i)).length rfl (by omega) ?_; (conv => whnf); refine VCut.sub (VGd.mk (by omega) ?_); exact ⟨rfl, rfl⟩) (go ?_)
            refine VGd.mk ⟨rfl, rfl, by decide, by omega⟩ (go ?_)
            refine ⟨i + 1, by omega, by omega, ?_, ?_⟩
            · rw [hst, List.length_append]; rfl
            · rw [hst]
              have hb := buf_put (qL (s.take i)) [92, 34] (s.length + nq s) (by simp only [List.length_cons, List.length_nil]; omega)
              show VSel _ ((bb, AObj.arr 1 ((bufC (qL (s.take i)) (s.length + nq s)).take (qL (s.take i)).length ++ bytesV [92, 34] ++ (bufC (qL (s.take i)) (s.length + nq s)).drop ((qL (s.take i)).length + ([92, 34] : List UInt8).length)) 0) :: repS d e1 e2 e3 t)
              rw [hb]
              exact VSel.refl _
          rcases Decidable.em (c = 92) with h3 | h3
          · subst h3
            rw [show qb 92 = [92, 92] from rfl] at hst hfit2
            simp only [List.length_cons, List.length_nil] at hfit2
            refine VNth.mk _ (rep_92 e1 e2 e3 t) (go ?_)
            refine VDraw.chain [10, 11, 12] (go ?_)
            refine VQ.mk (.sub bb (qL (s.take i)).length ((((s.length + nq s : Nat) : Int)).toNat - (qL (s.take i)).length)) (by (conv => whnf); refine VIdx.at (qL (s.take i)).length rfl (by omega) ?_; (conv => whnf); refine VCut.sub (VGd.mk (by omega) ?_); exact ⟨rfl, rfl⟩) (go ?_)
            refine VGd.mk ⟨rfl, rfl, by decide, by omega⟩ (go ?_)
            refine ⟨i + 1, by omega, by omega, ?_, ?_⟩
            · rw [hst, List.length_append]; rfl
            · rw [hst]
              have hb := buf_put (qL (s.take i)) [92, 92] (s.length + nq s) (by simp only [List.length_cons, List.length_nil]; omega)
              show VSel _ ((bb, AObj.arr 1 ((bufC (qL (s.take i)) (s.length + nq s)).take (qL (s.take i)).length ++ bytesV [92, 92] ++ (bufC (qL (s.take i)) (s.length + nq s)).drop ((qL (s.take i)).length + ([92, 92] : List UInt8).length)) 0) :: repS d e1 e2 e3 t)
              rw [hb]
              exact VSel.refl _
          have hn : ∀ k : UInt8, c ≠ k → c.toNat ≠ k.toNat := fun k hk e => hk (UInt8.toNat_inj.1 e)
          have hr : (repC e1 e2 e3 t)[0 + c.toNat]? = some .nils := by rw [Nat.zero_add]; exact rep_none e1 e2 e3 t c.toNat hc6 (hn 10 h1) (hn 34 h2) (hn 92 h3)
          have hq1 : qb c = [c] := by unfold qb; rw [if_neg h1, if_neg h2, if_neg h3]
          rw [hq1] at hst hfit2
          simp only [List.length_cons, List.length_nil] at hfit2
          refine VNth.mk _ hr (go ?_)
          refine VGd.mk ⟨Nat.zero_le _, by rw [hbl]; show (qL (s.take i)).length < _; omega⟩ (go ?_)
          refine ⟨i + 1, by omega, by omega, ?_, ?_⟩
          · rw [hst, List.length_append]; rfl
          · rw [hst]
            have hb := buf_set (qL (s.take i)) c (s.length + nq s) (by omega)
            show VSel _ ((bb, AObj.arr 1 ((bufC (qL (s.take i)) (s.length + nq s)).set (qL (s.take i)).length (.int .u8 c.toNat)) 0) :: repS d e1 e2 e3 t)
            rw [hb]
            exact VSel.refl _
        · obtain rfl : i = s.length := by omega
          refine VBytes.mk (qL s) (by rw [List.take_length]; exact buf_full (qL s) (s.length + nq s) (qL_length s)) (qL_length s) (go ?_)
          refine VRet.mk [] .nil ?_
          exact ⟨rfl, rfl⟩
end Go.Proofs.YthhonmkmmalfjaaGreatDoor

namespace Go.Proofs.YthhonmkmmalfjaaGreatDoor
open Go Go.Av
theorem a_once (b c : Nat) (x0 x1 x2 x3 : AV) : ACalls Tryz.prog 46 [.ptr b 0] [(b, .box [x0, x1, x2, x3, .own c 6]), (c, .arr 1 oldC 0)] fun out st' =>
    out = .ret (.tup []) ∧ ∃ d e1 e2 e3 t, st' = (b, .box [x0, x1, x2, .iface 158 (.ptr d 0), .nils]) :: repS d e1 e2 e3 t := by
  refine ACalls.of_W tb_ok (fn := Tryz.f46) (n := 10) (by kernel_rfl) rfl (by kernel_rfl) rfl rfl (by simp) (go ?_)
  refine ACalls.use (R := []) (a_build b c x0 x1 x2 x3) (by exact List.Perm.refl _) ?_
  rintro out s' ⟨d, e1, e2, e3, t, rfl, rfl⟩
  unfold repS
  refine go ?_
  refine VObj.mk 5 _ rfl (go ?_)
  refine VObj.mk 5 _ rfl (go ?_)
  exact VRet.mk _ (.cons 5 rfl (.cons 0 rfl (.cons 0 rfl (.cons 0 rfl (.cons 0 rfl (.cons 0 rfl .nil)))))) ⟨rfl, d, e1, e2, e3, t, rfl⟩
theorem a_Replace (b c : Nat) (s : List UInt8) (hs : s.length ≤ 4096) : ACalls Tryz.prog 36 [.ptr b 0, .str s] [(b, .box [.int .u32 0, .int .i32 0, .int .u32 0, .nili, .own c 6]), (c, .arr 1 oldC 0)] fun out st' =>
    out = .ret (.str (qL s)) ∧ st' = [] := by
  have hdo := a_Do b .nili (.own c 6) [(c, .arr 1 oldC 0)] (fun r o E => o = .nils ∧ ∃ d e1 e2 e3 t, r = .iface 158 (.ptr d 0) ∧ E = repS d e1 e2 e3 t)
    ((a_once b c _ _ _ _).mono fun out st' ⟨h1, d, e1, e2, e3, t, h2⟩ => ⟨h1, _, _, _, h2, rfl, d, e1, e2, e3, t, rfl, rfl⟩)
  refine ACalls.of_W tb_ok (fn := Tryz.f36) (n := 17) (by kernel_rfl) rfl (by kernel_rfl) rfl rfl (by simp) (go ?_)
  refine ACalls.use (R := []) hdo (by exact List.Perm.refl _) ?_
  rintro out s' ⟨rfl, r', o', E', rfl, rfl, d, e1, e2, e3, t, rfl, rfl⟩
  refine go ?_
  refine VMeth.mk 143 (by intro u args w; kernel_rfl) (go ?_)
  refine ACalls.use (R := [(b, .box [.int .u32 1, .int .i32 0, .int .u32 0, .iface 158 (.ptr d 0), .nils])]) (a_repl d e1 e2 e3 t s hs) (by simpa using List.perm_append_singleton _ _) ?_
  rintro out s' ⟨rfl, rfl⟩
  refine go ?_
  refine VRet.mk [] .nil ?_
  exact ⟨rfl, rfl⟩
theorem f_Quoted (s : List UInt8) : Av.Fn Tryz.prog 24 [.str s] (.tup [.str (quotedR s).1, .int .i64 (quotedR s).2]) := by
  have ff := f_fault s
  refine ACalls.of_W tb_ok (fn := Tryz.f24) (n := 18) (by kernel_rfl) rfl (by kernel_rfl) rfl rfl (by simp) (go ?_)
  refine Fn.use (ff) (go ?_)
  unfold quotedR
  refine fork (fun h1 => go ?_) (fun h1 => go ?_)
  · refine VRet.mk [] .nil ?_
    rw [if_pos h1]; exact ⟨rfl, rfl⟩
  · rw [if_neg h1]
    refine fork (fun h2 => go ?_) (fun h2 => go ?_)
    · refine VRet.mk [] .nil ?_
      rw [if_pos (by omega)]; exact ⟨rfl, rfl⟩
    · rw [if_neg (by omega)]
      have hq := qL_le s
      have h2 : s.length ≤ 4096 := by omega
      refine ACalls.use (R := []) a_New (by exact List.Perm.refl _) ?_
      rintro out s' ⟨b, c, rfl, rfl⟩
      refine go ?_
      refine ACalls.use (R := []) (a_Replace b c s h2) (by exact List.Perm.refl _) ?_
      rintro out s' ⟨rfl, rfl⟩
      refine go ?_
      refine VGd.mk (by simp; omega) (go ?_)
      refine VGd.mk (by simp; omega) (go ?_)
      refine VRet.mk [] .nil ?_
      exact ⟨rfl, rfl⟩
end Go.Proofs.YthhonmkmmalfjaaGreatDoor

namespace Go.Proofs.YthhonmkmmalfjaaGreatDoor
open Go Go.Av
theorem f_ItemText (t : Tree) (hf : t.full true = true) (h : t.isCall = false → Av.Fn Tryz.prog 16 [valAV t] (.str (textT t))) : Av.Fn Tryz.prog 28 [itemAV t] (.str (textI t)) := by
  cases hc : t.isCall with
  | true =>
    obtain ⟨s, rfl⟩ : ∃ s, t = .call s := by cases t <;> first | exact ⟨_, rfl⟩ | (cases hc; done)
    show Av.Fn Tryz.prog 28 [.iface 76 (.agg [.str s])] (.str s)
    refine ACalls.of_W tb_ok (fn := Tryz.f28) (n := 17) (by kernel_rfl) rfl (by kernel_rfl) rfl rfl (by simp) (go ?_)
    refine VAll.mk (fun b => go ?_)
    refine VRet.mk [] .nil ?_
    exact ⟨rfl, rfl⟩
  | false =>
    have h := h hc
    rw [item_push hc hf, show textI t = textT t by unfold textI; rw [hc]; rfl]
    generalize textT t = x at h
    generalize valAV t = v at h
    refine ACalls.of_W tb_ok (fn := Tryz.f28) (n := 17) (by kernel_rfl) rfl (by kernel_rfl) rfl rfl (by simp) (go ?_)
    refine VAll.mk (fun b => go ?_)
    refine Fn.use (h) (go ?_)
    refine VRet.mk [] .nil ?_
    exact ⟨rfl, rfl⟩
theorem f_T1 (b : Nat) (l : List Tree) (i : Nat) (t : Tree) (hi : l[i]? = some t) (h : Av.Fn Tryz.prog 16 [valAV t] (.str (textT t))) :
    ACalls Tryz.prog 26 [.int .i64 i, .ptr b 0] [(b, .box [.fz (valAVs l) l.length false])] fun out st => out = .ret (.str (textT t)) ∧ st = [(b, .box [.fz (valAVs l) l.length false])] := by
  have hlt := (List.getElem?_eq_some_iff.1 hi).1
  have hv : (valAVs l)[i]? = some (valAV t) := by rw [valAVs_map]; simp [hi]
  refine ACalls.of_W tb_ok (fn := Tryz.f26) (n := 10) (by kernel_rfl) rfl (by kernel_rfl) rfl rfl (by simp) (go ?_)
  refine VNth.mk (valAV t) (by rw [List.getElem?_drop]; exact hv) (go ?_)
  generalize valAV t = v at h
  refine Fn.use (h) (go ?_)
  exact VRet.mk _ (VSel.refl _) ⟨rfl, rfl⟩
theorem f_T2 (b : Nat) (l : List Tree) (i : Nat) (t : Tree) (hi : l[i]? = some t) (h : Av.Fn Tryz.prog 28 [itemAV t] (.str (textI t))) :
    ACalls Tryz.prog 27 [.int .i64 i, .ptr b 0] [(b, .box [.fz (itemAVs l) l.length false])] fun out st => out = .ret (.str (textI t)) ∧ st = [(b, .box [.fz (itemAVs l) l.length false])] := by
  have hlt := (List.getElem?_eq_some_iff.1 hi).1
  have hv : (itemAVs l)[i]? = some (itemAV t) := by rw [itemAVs_map]; simp [hi]
  refine ACalls.of_W tb_ok (fn := Tryz.f27) (n := 10) (by kernel_rfl) rfl (by kernel_rfl) rfl rfl (by simp) (go ?_)
  refine VNth.mk (itemAV t) (by rw [List.getElem?_drop]; exact hv) (go ?_)
  generalize itemAV t = v at h
  refine Fn.use (h) (go ?_)
  exact VRet.mk _ (VSel.refl _) ⟨rfl, rfl⟩
theorem f_TextList (l : List Tree) (hl : l.length ≤ 1000000000) (hj : (Lib.join ([123] :: (textVs l ++ [[125]])) [32]).length ≤ 140737488355328) (h : ∀ (i : Nat) t, l[i]? = some t → Av.Fn Tryz.prog 16 [valAV t] (.str (textT t))) :
    Av.Fn Tryz.prog 16 [valAV (.list l)] (.str (textT (.list l))) := by
  have hlen : (textVs l).length = l.length := by rw [textVs_map]; simp
  rw [valAV, textT]
  refine ACalls.of_W tb_ok (fn := Tryz.f16) (n := 48) (by kernel_rfl) rfl (by kernel_rfl) rfl rfl (by simp) (go ?_)
  refine VAll.mk (fun b => go ?_)
  have hb := a_bracket 26 b [.fz (valAVs l) l.length false] [123] [125] (textVs l) (fun i x hx => by
    rw [textVs_map, List.getElem?_map] at hx
    obtain ⟨t, ht, rfl⟩ := Option.map_eq_some_iff.1 hx
    exact f_T1 b l i t ht (h i t ht)) hj (by omega)
  rw [hlen] at hb
  refine ACalls.use (R := []) hb (by exact List.Perm.refl _) ?_
  rintro out s' ⟨rfl, rfl⟩
  refine go ?_
  refine VRet.mk [] .nil ?_
  exact ⟨rfl, rfl⟩
theorem f_TextQuot (l : List Tree) (hl : l.length ≤ 1000000000) (hj : (Lib.join ([91] :: (textIs l ++ [[93]])) [32]).length ≤ 140737488355328) (h : ∀ (i : Nat) t, l[i]? = some t → Av.Fn Tryz.prog 28 [itemAV t] (.str (textI t))) :
    Av.Fn Tryz.prog 16 [valAV (.quot l)] (.str (textT (.quot l))) := by
  have hlen : (textIs l).length = l.length := by rw [textIs_map]; simp
  rw [valAV, textT]
  refine ACalls.of_W tb_ok (fn := Tryz.f16) (n := 48) (by kernel_rfl) rfl (by kernel_rfl) rfl rfl (by simp) (go ?_)
  refine VAll.mk (fun b => go ?_)
  have hb := a_bracket 27 b [.fz (itemAVs l) l.length false] [91] [93] (textIs l) (fun i x hx => by
    rw [textIs_map, List.getElem?_map] at hx
    obtain ⟨t, ht, rfl⟩ := Option.map_eq_some_iff.1 hx
    exact f_T2 b l i t ht (h i t ht)) hj (by omega)
  rw [hlen] at hb
  refine ACalls.use (R := []) hb (by exact List.Perm.refl _) ?_
  rintro out s' ⟨rfl, rfl⟩
  refine go ?_
  refine VRet.mk [] .nil ?_
  exact ⟨rfl, rfl⟩
theorem tlens_at : ∀ {l : List Tree} {i : Nat} {t : Tree}, l[i]? = some t → tlen t ≤ tlens l
  | [], _, _, h => by simp at h
  | x :: l, 0, t, h => by simp at h; subst h; rw [tlens]; omega
  | x :: l, i + 1, t, h => by have := tlens_at (l := l) (by simpa using h); rw [tlens]; omega
theorem tlens_len : ∀ (l : List Tree), l.length ≤ tlens l
  | [] => by simp [tlens]
  | t :: l => by
    have := tlens_len l
    have h2 : 1 ≤ tlen t := by cases t <;> (rw [tlen]; omega)
    rw [tlens, List.length_cons]; omega
theorem f_TextInt (n : Int) (h0 : -9223372036854775808 ≤ n) (h1 : n ≤ 9223372036854775807) : Av.Fn Tryz.prog 16 [valAV (.int n)] (.str (textT (.int n))) := by
  have h := fn_FormatN n h0 h1
  rw [valAV, textT]
  refine ACalls.of_W tb_ok (fn := Tryz.f16) (n := 48) (by kernel_rfl) rfl (by kernel_rfl) rfl rfl (by simp) (go ?_)
  refine VAll.mk (fun b => go ?_)
  refine Fn.use (h) (go ?_)
  refine VRet.mk [] .nil ?_
  exact ⟨rfl, rfl⟩
theorem f_TextStr (s : List UInt8) : Av.Fn Tryz.prog 16 [valAV (.str s)] (.str (textT (.str s))) := by
  have h := f_Quoted s
  rw [valAV, textT]
  refine ACalls.of_W tb_ok (fn := Tryz.f16) (n := 48) (by kernel_rfl) rfl (by kernel_rfl) rfl rfl (by simp) (go ?_)
  refine VAll.mk (fun b => go ?_)
  refine Fn.use (h) (go ?_)
  refine VRet.mk [] .nil ?_
  exact ⟨rfl, rfl⟩
theorem f_TextBool (v : Bool) : Av.Fn Tryz.prog 16 [valAV (.bool v)] (.str (textT (.bool v))) := by
  rw [valAV, textT]
  cases v with
  | true =>
    refine ACalls.of_W tb_ok (fn := Tryz.f16) (n := 48) (by kernel_rfl) rfl (by kernel_rfl) rfl rfl (by simp) (go ?_)
    refine VAll.mk (fun b => go ?_)
    refine VRet.mk [] .nil ?_
    exact ⟨rfl, rfl⟩
  | false =>
    refine ACalls.of_W tb_ok (fn := Tryz.f16) (n := 48) (by kernel_rfl) rfl (by kernel_rfl) rfl rfl (by simp) (go ?_)
    refine VAll.mk (fun b => go ?_)
    refine VRet.mk [] .nil ?_
    exact ⟨rfl, rfl⟩
theorem f_TextBox (n : Int) : Av.Fn Tryz.prog 16 [valAV (.box n)] (.str (textT (.box n))) := by
  rw [valAV, textT]
  refine ACalls.of_W tb_ok (fn := Tryz.f16) (n := 48) (by kernel_rfl) rfl (by kernel_rfl) rfl rfl (by simp) (go ?_)
  refine VRet.mk [] .nil ?_
  exact ⟨rfl, rfl⟩
theorem f_Text' (n : Nat) : ∀ t : Tree, t.depth < n → t.full false = true → t.nums = true → tlen t ≤ 1000000000 → Av.Fn Tryz.prog 16 [valAV t] (.str (textT t)) := by
  induction n with
  | zero => intro t hd; omega
  | succ n ih =>
    intro t hd hf hn hl
    cases t with
    | none => rw [Tree.full] at hf; cases hf
    | odd u v => rw [Tree.full] at hf; cases hf
    | call s => rw [Tree.full] at hf; cases hf
    | int n =>
      simp only [Tree.nums, Bool.and_eq_true, decide_eq_true_eq] at hn
      exact f_TextInt n hn.1 hn.2
    | str s => exact f_TextStr s
    | bool v => exact f_TextBool v
    | box n => exact f_TextBox n
    | list l =>
      have hj := text_le (.list l) hn
      rw [Tree.full] at hf
      rw [Tree.nums] at hn
      rw [textT] at hj
      rw [tlen] at hl hj
      have h1 := tlens_len l
      rw [Tree.depth] at hd
      refine f_TextList l (by omega) (by omega) fun i t ht => ih t ?_ (fullAll_at hf ht) (numsAll_at hn ht) (by have := tlens_at ht; omega)
      have := depthAll_at ht
      omega
    | quot l =>
      have hj := text_le (.quot l) hn
      rw [Tree.full] at hf
      rw [Tree.nums] at hn
      rw [textT] at hj
      rw [tlen] at hl hj
      have h1 := tlens_len l
      rw [Tree.depth] at hd
      refine f_TextQuot l (by omega) (by omega) fun i t ht => f_ItemText t (fullAll_at hf ht) fun hc => ih t ?_ (full_val hc (fullAll_at hf ht)) (numsAll_at hn ht) (by have := tlens_at ht; omega)
      have := depthAll_at ht
      omega
theorem f_Text {t : Tree} (hf : t.full false = true) (hn : t.nums = true) (hl : tlen t ≤ 1000000000) : Av.Fn Tryz.prog 16 [valAV t] (.str (textT t)) := f_Text' (t.depth + 1) t (by omega) hf hn hl
end Go.Proofs.YthhonmkmmalfjaaGreatDoor
