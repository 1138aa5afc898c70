/- Effects: Of. Conditions: as each says. term.Same, term.SameItems: the walks. Conditions: as each says. Names in the reference's trees are no longer than memory. Conditions: as each says. Effects: the law EffectKeeps. Conditions: the slices are no longer than memory can hold. The reference's known words as a row's argument. Conditions: as each says. -/
import Derived.Test.YtliabblchkgclaaDoorX8
import Derived.Test.YtliabblchkgclaaDoorX9
import Derived.Test.YtliabblchkgclaaDoorX5
set_option linter.all false
set_option maxRecDepth 20000
namespace Go.Proofs.YtliabblchkgclaaDoor
open Go Go.Av
def fitsR (i u : Int) : Bool := decide (0 ≤ min i u) && decide (max i u ≤ 16)
theorem fitsR_iff {i u : Int} : fitsR i u = true ↔ 0 ≤ i ∧ i ≤ 16 ∧ 0 ≤ u ∧ u ≤ 16 := by
  simp only [fitsR, Bool.and_eq_true, decide_eq_true_eq]; omega
theorem f_fits (i u : Int) : Av.Fn Tryd.prog 19 [.agg [.int .i64 i, .int .i64 u]] (.bool (fitsR i u)) := by
  refine ACalls.of_W tb_ok (fn := Tryd.f19) (n := 17) (by kernel_rfl) rfl (by kernel_rfl) rfl rfl (by simp) (go ?_)
  refine VAll.mk (fun b => go ?_)
  unfold fitsR
  refine fork (fun h => go ?_) (fun h => go ?_)
  · refine VRet.mk [] .nil ?_
    have h : 0 ≤ min i u := by simpa using h
    exact ⟨by rw [decide_eq_true h, Bool.true_and], rfl⟩
  · refine VRet.mk [] .nil ?_
    have h : ¬ 0 ≤ min i u := by simpa using h
    exact ⟨by rw [decide_eq_false h, Bool.false_and], rfl⟩
theorem f_Of1_ok (b4 b5 : Nat) (st : St) {K : St → Prop} (k : K st) : DCalls Tryd.prog 20 [.ptr b4 0, .ptr b5 0] st none K := by
  refine DCalls.use (s := []) (R := st) (K := fun st' => st' = []) ?_ (.refl _) (fun s' h => by rw [h]; exact k)
  refine DCalls.of_Ws tb_ok (fn := Tryd.f20) (n := 19) (by kernel_rfl) rfl (by kernel_rfl) rfl rfl (by simp) (go ?_)
  refine VRet.mk [] .nil ?_
  rfl
theorem f_Of1_panic (b4 b5 : Nat) (x y z : AV) (e : Int) : DCalls Tryd.prog 20 [.ptr b4 0, .ptr b5 0] [(b4, .box [x, y]), (b5, .box [z])] (some (stopV e)) fun st' => st' = [(b4, .box [.int .i64 0, .int .i64 0]), (b5, .box [.int .i64 e])] := by
  refine DCalls.of_Ws tb_ok (fn := Tryd.f20) (n := 19) (by kernel_rfl) rfl (by kernel_rfl) rfl rfl (by simp) (go ?_)
  refine VAll.mk (fun b3 => go ?_)
  refine VDraw.all (go ?_)
  refine VAny.mk Unit [] (fun _ => []) (fun _ => [(b3, .box [.int .i64 e]), (b4, .box [.int .i64 0, .int .i64 0]), (b5, .box [.int .i64 e])]) ?_ fun _ => ?_
  · exact anyd
  refine go ?_
  exact VRet.mk [(b4, .box [.int .i64 0, .int .i64 0]), (b5, .box [.int .i64 e])] (.cons 1 rfl (.cons 1 rfl .nil)) rfl
/-- The first of each name. -/
def addK (kn : KnL) (x : List UInt8 × Int × Int) : KnL := if (knownR kn x.1).isSome then kn else kn ++ [x]
def firsts (kl : KnL) : KnL := kl.foldl addK []
theorem firsts_next {kl : KnL} {j : Nat} {x : List UInt8 × Int × Int} (h : kl[j]? = some x) : firsts (kl.take (j + 1)) = addK (firsts (kl.take j)) x := by
  rw [take_succ_at h, firsts, List.foldl_append]; rfl
def fitsK (kl : KnL) : Bool := kl.all fun x => fitsR x.2.1 x.2.2
theorem firsts_mem {kl : KnL} {x : List UInt8 × Int × Int} : x ∈ firsts kl → x ∈ kl := by
  have : ∀ (kl kn : KnL), x ∈ kl.foldl addK kn → x ∈ kn ∨ x ∈ kl := by
    intro kl
    induction kl with
    | nil => intro kn h; exact .inl h
    | cons y kl ih =>
      intro kn h
      rcases ih _ h with h | h
      · unfold addK at h
        split at h
        · exact .inl h
        · rcases List.mem_append.1 h with h | h
          · exact .inl h
          · rw [List.mem_singleton.1 h]; exact .inr (List.mem_cons_self ..)
      · exact .inr (List.mem_cons_of_mem _ h)
  intro h
  rcases this kl [] h with h | h
  · cases h
  · exact h
theorem firsts_fit {kl : KnL} (h : fitsK kl = true) : ∀ n i o, knownR (firsts kl) n = some (i, o) → 0 ≤ i ∧ i ≤ 16 ∧ 0 ≤ o ∧ o ≤ 16 := by
  intro n i o hk
  unfold knownR at hk
  simp only [Option.map_eq_some_iff] at hk
  obtain ⟨x, hx, he⟩ := hk
  have := List.all_eq_true.1 h x (firsts_mem (List.mem_of_find?_eq_some hx))
  rw [he] at this
  exact fitsR_iff.1 this
def checkR (l : List Tree) : Bool := (measT false (.quot l) 1024 0).isSome
noncomputable def ofR (l : List Tree) (kl : KnL) : Int × Int × Int :=
  if checkR l = false then (0, 0, 1) else if fitsK kl = false then (0, 0, 1) else match runL (knownR (firsts kl)) l ⟨4096, 0, []⟩ with
    | .error e => (0, 0, e)
    | .ok t => if fitsR t.inn t.stk.length = true then (t.inn, (t.stk.length : Int), 0) else (0, 0, 11)
def ofV (x : Int × Int × Int) : AV := .tup [.agg [.int .i64 x.1, .int .i64 x.2.1], .int .i64 x.2.2]
/-- Words whose effect is known, in memory. -/
def knC : KnL → List AV
  | [] => []
  | x :: r => .str x.1 :: .int .i64 x.2.1 :: .int .i64 x.2.2 :: knC r
theorem knC_at {kl : KnL} {i : Nat} {x : List UInt8 × Int × Int} (h : kl[i]? = some x) : (List.drop (mulN i 3) (knC kl)).take 3 = [.str x.1, .int .i64 x.2.1, .int .i64 x.2.2] := by
  rw [mulN_eq]
  induction kl generalizing i with
  | nil => simp at h
  | cons y r ih =>
    cases i with
    | zero => simp at h; subst h; rfl
    | succ i =>
      have h : r[i]? = some x := by simpa using h
      rw [show (i + 1) * 3 = i * 3 + 1 + 1 + 1 by omega]
      exact ih h
theorem f_CheckItems {l : List Tree} (hc : (Tree.quot l).clean = true) (hs : (Tree.quot l).nmS = true) : Av.Fn Tryd.prog 18 [.fz (itemAVs l) l.length false] (.int .i64 (if checkR l = true then 0 else 1)) := by
  have h := f_tCheck hc hs
  refine ACalls.of_W tb_ok (fn := Tryd.f18) (n := 7) (by kernel_rfl) rfl (by kernel_rfl) rfl rfl (by simp) (go ?_)
  refine Fn.use (h) (go ?_)
  refine VRet.mk [] .nil ?_
  exact ⟨rfl, rfl⟩
theorem nameR_nil : nameR [] = false := by decide +kernel
mutual
theorem good_of : ∀ (it : Bool) (t : Tree) (left nest : Int), t.clean = true → (measT it t left nest).isSome = true → goodI t = true
  | it, .none, left, nest, _, h => by rw [measT] at h; cases h
  | it, .odd u v, left, nest, _, h => by rw [measT] at h; cases h
  | it, .int m, left, nest, _, h => rfl
  | it, .str m, left, nest, _, h => rfl
  | it, .bool m, left, nest, _, h => rfl
  | it, .box m, left, nest, _, h => rfl
  | it, .list m, left, nest, _, h => rfl
  | it, .call s, left, nest, _, h => by
    rw [measT] at h
    split at h
    · rename_i hc
      cases s with
      | nil => simp [nmR, nameR_nil] at hc
      | cons c s => rfl
    · cases h
  | it, .quot l, left, nest, hc, h => by
    rw [measT] at h
    simp only [Tree.clean, Bool.and_eq_true, decide_eq_true_eq] at hc
    split at h
    · cases h
    · simp only [goodI, Bool.and_eq_true, decide_eq_true_eq]
      exact ⟨hc.1, goods_of true l _ _ _ hc.2 h⟩
theorem goods_of : ∀ (it : Bool) (l : List Tree) (left nest depth : Int), cleanAll l = true → (measTs it l left nest depth).isSome = true → goodIs l = true
  | it, [], left, nest, depth, _, h => rfl
  | it, t :: r, left, nest, depth, hc, h => by
    simp only [cleanAll, Bool.and_eq_true] at hc
    rw [measTs] at h
    simp only [goodIs, Bool.and_eq_true]
    cases hm : measT it t left (nest + 1) with
    | none => rw [hm] at h; cases h
    | some x =>
      obtain ⟨d, l'⟩ := x
      rw [hm] at h
      exact ⟨good_of it t _ _ hc.1 (by rw [hm]; rfl), goods_of it r _ _ _ hc.2 h⟩
end
theorem good_check {l : List Tree} (hc : (Tree.quot l).clean = true) (h : checkR l = true) : l.length ≤ 2513169434916 ∧ goodIs l = true := by
  have := good_of false (.quot l) 1024 0 hc h
  simpa only [goodI, Bool.and_eq_true, decide_eq_true_eq] using this

set_option maxHeartbeats 4000000 in
theorem f_Of (l : List Tree) (kl : KnL) (hc : (Tree.quot l).clean = true) (hs : (Tree.quot l).nmS = true) (hkl : kl.length ≤ 4398046511104) :
    Av.Fn Tryd.prog 8 [.fz (itemAVs l) l.length false, .fz (knC kl) kl.length false] (ofV (ofR l kl)) := by
  have hC := f_CheckItems hc hs
  have hgc := good_check hc
  unfold ofR
  generalize checkR l = c at hC hgc
  refine ACalls.of_Wd tb_ok (fn := Tryd.f8) (n := 70) (by kernel_rfl) rfl (by kernel_rfl) rfl rfl (by simp) (go ?_)
  refine VAll.mk (fun b4 => go ?_)
  refine VAll.mk (fun b5 => go ?_)
  refine Fn.use (hC) (go ?_)
  cases c with
  | false =>
    refine go ?_
    refine VRet.mk [] .nil ?_
    exact ⟨rfl, rfl⟩
  | true =>
    obtain ⟨hl, hg⟩ := hgc rfl
    refine go ?_
    refine VAll.mk (fun bm => go ?_)
    refine VAll.mk (fun bw => go ?_)
    refine VAll.mk (fun bf => go ?_)
    refine VLoop.mk [21] Nat (fun j => [.int .i64 j]) (fun j => [(bm, .map (entsOf (firsts (kl.take j)))), (bf, .box [.mapr bm, .ptr bw 0, .int .i64 0, .nils]), (b5, .box [.int .i64 0]), (b4, .box [.int .i64 0, .int .i64 0]), (bw, .box [.int .i64 0])])
      (fun j => j ≤ kl.length ∧ fitsK (kl.drop j) = fitsK kl) (fun j => kl.length - j) 0 ?_ ?_
    · exact ⟨⟨Nat.zero_le _, rfl⟩, rfl, .cons 2 rfl (.cons 0 rfl (.cons 1 rfl (.cons 1 rfl (.cons 0 rfl .nil))))⟩
    rintro j ⟨hj, hI⟩
    dsimp only at hj hI ⊢
    refine go ?_
    refine fork (fun hlt => go ?_) (fun hlt => go ?_)
    · have hlt : j < kl.length := by omega
      obtain ⟨x, hx⟩ : ∃ x, kl[j]? = some x := ⟨kl[j], by simp [hlt]⟩
      have hd : kl.drop j = x :: kl.drop (j + 1) := by
        rw [List.drop_eq_getElem_cons hlt]
        congr 1
        rw [List.getElem?_eq_getElem hlt] at hx
        exact Option.some.inj hx
      have hfk : fitsK kl = (fitsR x.2.1 x.2.2 && fitsK (kl.drop (j + 1))) := by rw [← hI, hd]; rfl
      have hF := f_fits x.2.1 x.2.2
      refine VTake.mk [.str x.1, .int .i64 x.2.1, .int .i64 x.2.2] (knC_at hx) (by simp) (go ?_)
      refine VAll.mk (fun b8 => go ?_)
      refine Fn.use (hF) (go ?_)
      generalize fitsR x.2.1 x.2.2 = fx at hfk
      cases fx with
      | false =>
        refine go ?_
        refine VRet.mk [] .nil ?_
        rw [hfk]
        exact ⟨rfl, rfl⟩
      | true =>
        rw [Bool.true_and] at hfk
        obtain ⟨r, hr1, hr2⟩ := mapFind_ents x.1 (firsts (kl.take j)) 0
        have hnx := firsts_next hx
        unfold addK at hnx
        refine go ?_
        have hI' : j + 1 ≤ kl.length ∧ fitsK (kl.drop (j + 1)) = fitsK kl := ⟨by omega, hfk.symm⟩
        cases hkn : knownR (firsts (kl.take j)) x.1 with
        | none =>
          rw [hkn] at hr2
          rw [hkn, Option.isSome_none, if_neg (by simp)] at hnx
          cases r with
          | some p => simp at hr2
          | none =>
            refine VDraw.chain [10, 11] (go ?_)
            apply VQ.mk
            focus (refine go ?_; refine VMap.mk none hr1 (go ?_); exact ⟨rfl, rfl⟩)
            refine go ?_
            refine VAll.mk (fun b9 => go ?_)
            refine VDraw.chain [8] (go ?_)
            refine VMap.mk none hr1 (go ?_)
            refine ⟨j + 1, hI', by omega, rfl, ?_⟩
            rw [hnx]
            exact .cons 2 (congrArg (fun c => some (bm, AObj.map c)) (by simp [entsOf])) (.cons 2 rfl (.cons 2 rfl (.cons 2 rfl (.cons 2 rfl .nil))))
        | some y =>
          rw [hkn] at hr2
          rw [hkn, Option.isSome_some, if_pos rfl] at hnx
          cases r with
          | none => simp at hr2
          | some p =>
            obtain ⟨pi, pv⟩ := p
            obtain rfl : pv = .agg [.int .i64 y.1, .int .i64 y.2] := by simpa using hr2
            refine VDraw.chain [10, 11] (go ?_)
            apply VQ.mk
            focus (refine go ?_; refine VMap.mk _ hr1 (go ?_); exact ⟨rfl, rfl⟩)
            refine go ?_
            refine VAll.mk (fun b9 => go ?_)
            refine ⟨j + 1, hI', by omega, rfl, ?_⟩
            rw [hnx]
            exact VSel.skip (VSel.skip (VSel.refl _) _) _
    · have hje : j = kl.length := by omega
      subst hje
      rw [List.drop_length] at hI
      have hfk : fitsK kl = true := hI.symm
      rw [List.take_length, hfk]
      have hk := firsts_fit hfk
      refine run_c (n := 4096) (l := 4096) (o := none) (s := ⟨4096, 0, []⟩) [(b5, .box [.int .i64 0]), (b4, .box [.int .i64 0, .int .i64 0])] (List.perm_append_comm (l₁ := [_, _, _]) (l₂ := [_, _])) rfl (f_run hk 4096) (Nat.le_refl _) (fun _ => rfl) ⟨by decide, by decide, by decide, by decide⟩ (fun x hx => by cases hx) hl hg
        (fun t o' e ho' hg' => ?_) (fun e he => ?_)
      · obtain ⟨Tl, Ti, Tk⟩ := t
        have hF := f_fits Ti (Tk.length : Int)
        cases o' with
        | none =>
          obtain rfl : Tk = [] := ho' rfl
          refine go ?_
          refine VDraw.chain [10] (go ?_)
          iterate 7 ((conv => whnf); (apply VQ.mk; focus (refine go ?_; exact ⟨rfl, rfl⟩)))
          refine go ?_
          refine Fn.use (hF) (go ?_)
          cases hf : fitsR Ti _ with
          | false =>
            refine go ?_
            refine f_Of1_ok b4 b5 _ (go ?_)
            refine VRet.mk [] .nil ?_
            rw [if_neg (by simp), if_neg (by simp), e]
            dsimp only
            rw [if_neg (by rw [hf]; simp)]
            exact ⟨rfl, rfl⟩
          | true =>
            refine go ?_
            refine f_Of1_ok b4 b5 _ (go ?_)
            refine VRet.mk [] .nil ?_
            rw [if_neg (by simp), if_neg (by simp), e]
            dsimp only
            rw [if_pos hf]
            exact ⟨rfl, rfl⟩
        | some y =>
          refine go ?_
          refine VDraw.chain [10] (go ?_)
          iterate 7 ((conv => whnf); (apply VQ.mk; focus (refine go ?_; exact ⟨rfl, rfl⟩)))
          refine go ?_
          refine Fn.use (hF) (go ?_)
          cases hf : fitsR Ti _ with
          | false =>
            refine go ?_
            refine f_Of1_ok b4 b5 _ (go ?_)
            refine VRet.mk [] .nil ?_
            rw [if_neg (by simp), if_neg (by simp), e]
            dsimp only
            rw [if_neg (by rw [hf]; simp)]
            exact ⟨rfl, rfl⟩
          | true =>
            refine go ?_
            refine f_Of1_ok b4 b5 _ (go ?_)
            refine VRet.mk [] .nil ?_
            rw [if_neg (by simp), if_neg (by simp), e]
            dsimp only
            rw [if_pos hf]
            exact ⟨rfl, rfl⟩
      · refine go ?_
        refine DCalls.use (R := []) (f_Of1_panic b4 b5 _ _ _ e) (.swap _ _ _) ?_
        intro s' hs'
        subst hs'
        refine go ?_
        refine VRet.mk [] .nil ?_
        rw [if_neg (by simp), if_neg (by simp), he]
        exact ⟨rfl, rfl⟩
end Go.Proofs.YtliabblchkgclaaDoor

namespace Go.Proofs.YtliabblchkgclaaDoor
open Go Go.Av
mutual
/-- Neither nil nor another dynamic type; calls among items alone. -/
def Tree.full (it : Bool) : Tree → Bool
  | .none => false
  | .odd _ _ => false
  | .call _ => it
  | .list l => fullAll false l
  | .quot l => fullAll true l
  | .int _ => true
  | .str _ => true
  | .bool _ => true
  | .box _ => true
def fullAll (it : Bool) : List Tree → Bool
  | [] => true
  | t :: r => t.full it && fullAll it r
end
theorem fullAll_at : ∀ {it : Bool} {l : List Tree} {i : Nat} {t : Tree}, fullAll it l = true → l[i]? = some t → t.full it = true
  | _, [], _, _, _, h => by simp at h
  | _, x :: l, 0, t, hc, h => by simp at h; subst h; simp [fullAll] at hc; exact hc.1
  | _, x :: l, i + 1, t, hc, h => by simp [fullAll] at hc; exact fullAll_at hc.2 (by simpa using h)
mutual
theorem meas_full : ∀ (it : Bool) (t : Tree) (left nest : Int), (measT it t left nest).isSome = true → t.full it = true := by
  intro it t left nest h
  cases t with
  | none => rw [measT] at h; cases h
  | odd u v => rw [measT] at h; cases h
  | call s =>
    rw [measT] at h
    split at h
    · rename_i h0; rw [Tree.full]; exact h0.1
    · cases h
  | list l =>
    rw [measT] at h
    split at h
    · cases h
    · rw [Tree.full]; exact meass_full false l _ _ _ h
  | quot l =>
    rw [measT] at h
    split at h
    · cases h
    · rw [Tree.full]; exact meass_full true l _ _ _ h
  | _ => rw [Tree.full]
theorem meass_full : ∀ (it : Bool) (l : List Tree) (left nest depth : Int), (measTs it l left nest depth).isSome = true → fullAll it l = true
  | it, [], _, _, _, _ => by rw [fullAll]
  | it, t :: r, left, nest, depth, h => by
    rw [measTs] at h
    split at h
    · rename_i d l' e
      rw [fullAll, meas_full it t left (nest + 1) (by rw [e]; rfl), meass_full it r _ _ _ h]; rfl
    · cases h
end

theorem sameV_leaf (k n : Int) (s : List UInt8) (k' n' : Int) (s' : List UInt8) (l' : List RV) (h : k ≠ k') : sameV (.mk k n s []) (.mk k' n' s' l') = false := by
  rw [sameV, decide_eq_false h]; rfl
/-- A leaf and what it is compared with. -/
def Tree.leaf : Tree → Bool
  | .int _ => true
  | .str _ => true
  | .bool _ => true
  | .box _ => true
  | _ => false
theorem item_push {t : Tree} (hc : t.isCall = false) (hf : t.full true = true) : itemAV t = .iface 59 (.agg [valAV t]) := by
  cases t <;> first | rfl | (simp [Tree.isCall] at hc; done) | (simp [Tree.full] at hf; done)
theorem full_val {t : Tree} (hc : t.isCall = false) (hf : t.full true = true) : t.full false = true := by
  cases t <;> first | exact hf | (simp [Tree.isCall] at hc; done) | (simp [Tree.full] at hf; done)
end Go.Proofs.YtliabblchkgclaaDoor

namespace Go.Proofs.YtliabblchkgclaaDoor
open Go Go.Av
mutual
theorem inp_nmS : ∀ v : RV, v.inp = true → (valT v).nmS = true
  | .mk k n s l, h => by
    simp only [RV.inp, Bool.and_eq_true, decide_eq_true_eq] at h
    rw [valT]
    repeat' split
    all_goals first
    | rfl
    | (rw [Tree.nmS]; first | exact inp_nmSV l h.2 | exact inp_nmSI l h.2)
theorem inp_nmSV : ∀ l : List RV, inpAll l = true → nmSAll (valTs l) = true
  | [], _ => by simp [valTs, nmSAll]
  | v :: r, h => by
    simp only [inpAll, Bool.and_eq_true] at h
    simp only [valTs, nmSAll, Bool.and_eq_true]
    exact ⟨inp_nmS v h.1, inp_nmSV r h.2⟩
theorem inp_nmSI : ∀ l : List RV, inpAll l = true → nmSAll (itemTs l) = true
  | [], _ => by simp [itemTs, nmSAll]
  | v :: r, h => by
    simp only [inpAll, Bool.and_eq_true] at h
    rw [itemTs]
    simp only [nmSAll, Bool.and_eq_true]
    refine ⟨?_, inp_nmSI r h.2⟩
    split
    · obtain ⟨k, n, s, l⟩ := v
      simp only [RV.inp, Bool.and_eq_true, decide_eq_true_eq] at h
      rw [Tree.nmS]
      exact decide_eq_true (by show s.length ≤ _; omega)
    · exact inp_nmS v h.1
end
end Go.Proofs.YtliabblchkgclaaDoor

namespace Go.Proofs.YtliabblchkgclaaDoor
open Go Go.Av
theorem f_awake09 : Av.Fn Tryd.prog 6 [] (.bool true) := by
  have hP := f_Prim [100, 117, 112]
  rw [show primR [100, 117, 112] = some (1, 2) by decide] at hP
  have hP : Av.Fn Tryd.prog 16 [.str [100, 117, 112]] (.tup [.agg [.int .i64 1, .int .i64 2], .bool true]) := hP
  refine ACalls.of_W tb_ok (fn := Tryd.f6) (n := 13) (by kernel_rfl) rfl (by kernel_rfl) rfl rfl (by simp) (go ?_)
  refine Fn.use (hP) (go ?_)
  refine VAll.mk (fun b => go ?_)
  refine VRet.mk [] .nil ?_
  exact ⟨rfl, rfl⟩
@[simp] theorem knC_len (kl : KnL) : (knC kl).length = kl.length * 3 := by
  induction kl with
  | nil => rfl
  | cons x r ih => simp only [knC, List.length_cons, ih]; omega
theorem knC_get {kl : KnL} {j : Nat} {x : List UInt8 × Int × Int} (h : kl[j]? = some x) : (knC kl)[j * 3]? = some (.str x.1) ∧ (knC kl)[j * 3 + 1]? = some (.int .i64 x.2.1) ∧ (knC kl)[j * 3 + 2]? = some (.int .i64 x.2.2) := by
  induction kl generalizing j with
  | nil => simp at h
  | cons y r ih =>
    cases j with
    | zero => simp at h; subst h; exact ⟨rfl, rfl, rfl⟩
    | succ j =>
      have h : r[j]? = some x := by simpa using h
      obtain ⟨h1, h2, h3⟩ := ih h
      rw [show (j + 1) * 3 = j * 3 + 3 by omega]
      exact ⟨h1, h2, h3⟩
theorem knC_append (a b : KnL) : knC (a ++ b) = knC a ++ knC b := by
  induction a with
  | nil => rfl
  | cons x r ih => simp only [List.cons_append, knC, ih]
theorem f_known (kl : KnL) (hkl : kl.length ≤ 4398046510976) : Av.Fn Tryd.prog 11 [.fz (knC kl) kl.length false] (.fz (knC kl) kl.length false) := by
  refine ACalls.of_W tb_ok (fn := Tryd.f11) (n := 32) (by kernel_rfl) rfl (by kernel_rfl) rfl rfl (by simp) (go ?_)
  refine VLoop.mk [3, 4] AccI (fun i => [accV i.o i.k, .int .i64 i.k]) (fun i => accS i.o 3 (knC (kl.take i.k))) (fun i => i.k ≤ kl.length ∧ (i.o = none → i.k = 0)) (fun i => kl.length - i.k) ⟨0, none⟩ ?_ ?_
  · exact ⟨⟨by simp, by simp⟩, rfl, .nil⟩
  rintro ⟨k, o⟩ ⟨hk, ho⟩
  dsimp only at hk ho ⊢
  refine go ?_
  refine fork (fun hlt => go ?_) (fun hlt => ?_)
  · have hlt : k < kl.length := by omega
    obtain ⟨x, hx⟩ : ∃ x, kl[k]? = some x := ⟨kl[k], by simp [hlt]⟩
    obtain ⟨g1, g2, g3⟩ := knC_get hx
    have d1 : (List.drop (k * 3) (knC kl))[0]? = some (.str x.1) := by rw [List.getElem?_drop]; exact g1
    have d2 : (List.drop 1 (List.drop (k * 3) (knC kl)))[0]? = some (.int .i64 x.2.1) := by rw [List.drop_drop, List.getElem?_drop]; exact g2
    have d3 : (List.drop 2 (List.drop (k * 3) (knC kl)))[0]? = some (.int .i64 x.2.2) := by rw [List.drop_drop, List.getElem?_drop]; exact g3
    rw [← mulN_eq] at d1 d2 d3
    have hacc : knC (kl.take (k + 1)) = knC (kl.take k) ++ [.str x.1, .int .i64 x.2.1, .int .i64 x.2.2] := by
      rw [take_succ_at hx, knC_append]; rfl
    have hlen : (knC (kl.take k)).length = k * 3 := by rw [knC_len, List.length_take]; congr 1; omega
    refine VDraw.chain [19, 20] (go ?_)
    apply VQ.mk
    focus (refine go ?_; refine VNth.mk _ d1 (go ?_); exact ⟨rfl, rfl⟩)
    refine go ?_
    apply VQ.mk
    focus (refine go ?_; refine VNth.mk _ d2 (go ?_); exact ⟨rfl, rfl⟩)
    refine go ?_
    apply VQ.mk
    focus (refine go ?_; refine VNth.mk _ d3 (go ?_); exact ⟨rfl, rfl⟩)
    refine go ?_
    cases o with
    | none =>
      obtain rfl : k = 0 := ho rfl
      refine go ?_
      refine VAll.mk (fun b2 => go ?_)
      refine ⟨⟨1, some b2⟩, ⟨by dsimp only; omega, by simp⟩, by dsimp only; omega, rfl, .cons 0 ?_ .nil⟩
      dsimp only
      rw [hacc]; rfl
    | some bo =>
      refine go ?_
      refine VGd.mk ⟨rfl, Nat.zero_le _, by rw [mulN_eq, hlen]; exact Nat.le_refl _, by dsimp only; omega⟩ (go ?_)
      refine VAll.mk (fun b2 => go ?_)
      refine ⟨⟨k + 1, some b2⟩, ⟨by dsimp only; omega, by simp⟩, by dsimp only; omega, rfl, .cons 0 ?_ .nil⟩
      dsimp only
      rw [hacc, mulN_eq, List.take_of_length_le (by rw [hlen]; exact Nat.le_refl _)]; rfl
  · obtain rfl : k = kl.length := by omega
    rw [List.take_length]
    cases o with
    | none =>
      have := ho rfl
      obtain rfl : kl = [] := List.length_eq_zero_iff.1 this
      refine go ?_
      refine VRet.mk [] .nil ?_
      exact ⟨rfl, rfl⟩
    | some bo =>
      have htk : (knC kl).take (kl.length * 3) = knC kl := List.take_of_length_le (by rw [knC_len]; exact Nat.le_refl _)
      refine go ?_
      refine VRet.mk [] .nil ?_
      refine ⟨?_, rfl⟩
      show AOut.ret (.fz ((knC kl).take (kl.length * 3)) kl.length false) = _
      rw [htk]
theorem f_EffectKeeps (l : List RV) (kl : KnL) (hl : l.length ≤ 2513169434916) (hi : inpAll l = true) (hkl : kl.length ≤ 4398046510976) :
    Av.Fn Tryd.prog 4 [.fz (rvsC l) l.length false, .fz (knC kl) kl.length false] (.bool true) := by
  have hI := f_ItemsOf hi hl
  have hK := f_known kl hkl
  have hcl : cleanAll (itemTs l) = true := inp_cleanI l hi
  have hT := f_ItemTrees hcl (by rw [itemTs_length]; exact hl)
  have hS := f_SameAll (a := itemRVs (itemTs l)) (b := itemRVs (itemTs l)) (clean_smallI _ hcl) (clean_smallI _ hcl) (by simp; omega) (by simp; omega) [] [] false false
  rw [sameVs_refl] at hS
  have hO := f_Of (itemTs l) kl (by simp only [Tree.clean, Bool.and_eq_true, decide_eq_true_eq]; exact ⟨by rw [itemTs_length]; exact hl, hcl⟩) (inp_nmSI l hi) (by omega)
  generalize ofR (itemTs l) kl = r at hO
  obtain ⟨ri, ru, re⟩ := r
  have hO : Av.Fn Tryd.prog 8 [.fz (itemAVs (itemTs l)) (itemTs l).length false, .fz (knC kl) kl.length false] (.tup [.agg [.int .i64 ri, .int .i64 ru], .int .i64 re]) := hO
  rw [itemTs_length] at hO hT
  refine ACalls.of_W tb_ok (fn := Tryd.f4) (n := 96) (by kernel_rfl) rfl (by kernel_rfl) rfl rfl (by simp) (go ?_)
  refine Fn.use (f_awake09) (go ?_)
  refine Fn.use (hI) (go ?_)
  refine Fn.use (hK) (go ?_)
  refine Fn.use (hO) (go ?_)
  refine VAll.mk (fun b7 => go ?_)
  refine Fn.use (hO) (go ?_)
  refine VAll.mk (fun b9 => go ?_)
  repeat (refine VIf.no (by simp) (go ?_))
  refine VLoop.mk [11] Nat (fun k => [.int .i64 k]) (fun _ => []) (fun k => k ≤ kl.length) (fun k => kl.length - k) 0 ?_ ?_
  · exact ⟨Nat.zero_le _, rfl, .nil⟩
  intro k hk
  dsimp only at hk ⊢
  refine go ?_
  refine fork (fun hlt => go ?_) (fun hlt => go ?_)
  · have hlt : k < kl.length := by omega
    obtain ⟨x, hx⟩ : ∃ x, kl[k]? = some x := ⟨kl[k], by simp [hlt]⟩
    obtain ⟨g1, g2, g3⟩ := knC_get hx
    have d1 : (List.drop (k * 3) (knC kl))[0]? = some (.str x.1) := by rw [List.getElem?_drop]; exact g1
    have d2 : (List.drop 1 (List.drop (k * 3) (knC kl)))[0]? = some (.int .i64 x.2.1) := by rw [List.drop_drop, List.getElem?_drop]; exact g2
    have d3 : (List.drop 2 (List.drop (k * 3) (knC kl)))[0]? = some (.int .i64 x.2.2) := by rw [List.drop_drop, List.getElem?_drop]; exact g3
    have d4 : (List.drop 1 (List.drop 1 (List.drop (k * 3) (knC kl))))[0]? = some (.int .i64 x.2.2) := by rw [List.drop_drop, List.drop_drop, List.getElem?_drop]; exact g3
    rw [← mulN_eq] at d1 d2 d3 d4
    apply VQ.mk
    focus (refine go ?_; refine VNth.mk _ d1 (go ?_); exact ⟨rfl, rfl⟩)
    refine go ?_
    apply VQ.mk
    focus (refine go ?_; refine VNth.mk _ d1 (go ?_); exact ⟨rfl, rfl⟩)
    refine go ?_
    refine VIf.no (by simp) (go ?_)
    apply VQ.mk
    focus (refine go ?_; refine VNth.mk _ d2 (go ?_); exact ⟨rfl, rfl⟩)
    refine go ?_
    apply VQ.mk
    focus (refine go ?_; refine VNth.mk _ d2 (go ?_); exact ⟨rfl, rfl⟩)
    refine go ?_
    refine VIf.no (by simp) (go ?_)
    apply VQ.mk
    focus (refine go ?_; refine VNth.mk _ d4 (go ?_); exact ⟨rfl, rfl⟩)
    refine go ?_
    apply VQ.mk
    focus (refine go ?_; refine VNth.mk _ d3 (go ?_); exact ⟨rfl, rfl⟩)
    refine go ?_
    refine VIf.no (by simp) (go ?_)
    exact ⟨k + 1, by omega, by omega, rfl, .nil⟩
  · refine Fn.use (hT) (go ?_)
    refine Fn.use (hI) (go ?_)
    refine Fn.use (hT) (go ?_)
    rw [itemRVs_length, itemTs_length, List.append_nil] at hS
    refine Fn.use (hS) (go ?_)
    refine VRet.mk [] .nil ?_
    exact ⟨rfl, rfl⟩
end Go.Proofs.YtliabblchkgclaaDoor

namespace Go.Proofs.YtliabblchkgclaaDoor
open Go Go.Av
theorem knC_flat : ∀ l : KnL, knC l = l.flatMap fun x => [.str x.1, .int .i64 x.2.1, .int .i64 x.2.2]
  | [] => rfl
  | x :: r => by rw [knC, knC_flat r]; rfl
def knBulk (l : KnL) : Nat := (l.map fun x => x.1.length + 1).sum + 1
section
variable {H : Type} {enc : TypeId × Value → H} {W : World}
theorem reads_Kn (fuel : Nat) : Reads enc Tryd.prog W 41 fuel (fun l : KnL => [.fz (knC l) l.length false]) (fun l => l.length ≤ 4398046510976) knBulk := by
  cases fuel with
  | zero => exact .zero
  | succ fuel =>
    cases fuel with
    | zero =>
      have h := reads_slice (Tryd.underlying41) (esz := 3) (by kernel_rfl) (by omega) (Reads.zero (C := fun x : List UInt8 × Int × Int => [.str x.1, .int .i64 x.2.1, .int .i64 x.2.2]) (B := fun _ => True) (m := fun x => x.1.length + 1)) (enc := enc) (W := W)
      refine h.map (fun l => l) (fun l => by rw [knC_flat]) (fun l hl => ?_) (fun l => Nat.le_refl _)
      have h1 := hl.1
      rw [show Tryd.prog.bytesOf 47 = 32 by kernel_rfl, show reachBytes = 140737488351232 by decide] at h1
      omega
    | succ fuel =>
      have hf : ReadsF enc Tryd.prog W fuel 0 [⟨"Name", 9, 0, false, "", "", 0⟩, ⟨"In", 3, 1, false, "", "", 16⟩, ⟨"Out", 3, 2, false, "", "", 24⟩] (1 + (1 + (1 + 0))) _ _ _ :=
        .cons rfl (by kernel_rfl) (reads_str (Tryd.underlying9) fuel) (.cons rfl (by kernel_rfl) (reads_int (Tryd.underlying3) fuel) (.cons rfl (by kernel_rfl) (reads_int (Tryd.underlying3) fuel) .nil))
      have h := reads_struct (Tryd.underlying47) (by kernel_rfl) hf
      have h2 := h.map (C' := fun x : List UInt8 × Int × Int => [.str x.1, .int .i64 x.2.1, .int .i64 x.2.2]) (B' := fun _ => True) (m' := fun x => x.1.length + 1) (fun x => (x.1, x.2.1, x.2.2.1)) (fun x => by simp) (fun x _ => trivial) (fun x => by dsimp only; omega)
      have h3 := reads_slice (Tryd.underlying41) (esz := 3) (by kernel_rfl) (by omega) h2 (enc := enc) (W := W)
      refine h3.map (fun l => l) (fun l => by rw [knC_flat]) (fun l hl => ?_) (fun l => Nat.le_refl _)
      have h1 := hl.1
      rw [show Tryd.prog.bytesOf 47 = 32 by kernel_rfl, show reachBytes = 140737488351232 by decide] at h1
      omega
end
theorem c_EffectKeeps (l : List RV) (kl : KnL) (h : l.length ≤ 2513169434916 ∧ inpAll l = true) (hkl : kl.length ≤ 4398046510976) :
    Av.Fn Tryd.prog 4 [.fz (rvsC l) l.length false, .fz (knC kl) kl.length false] (.bool true) := f_EffectKeeps l kl h.1 h.2 hkl
end Go.Proofs.YtliabblchkgclaaDoor
