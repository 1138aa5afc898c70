/- LinkKeeps: the walk. Conditions: what is handed in is what a row's argument may be. -/
import Derived.Test.YtonkeklageehbaaGreatDoorX13
set_option linter.all false
set_option maxRecDepth 20000
namespace Go.Proofs.YtonkeklageehbaaGreatDoor
open Go Go.Av

/-- Codes that may be written. -/
inductive RestC : List AV → St → Prop
  | nil : RestC [] []
  | empty (s : List UInt8) {cells : List AV} {ds : St} (r : RestC cells ds) : RestC (.str s :: .nils :: cells) ds
  | own (s : List UInt8) (b m : Nat) (c : List AV) (h : c.length = m * 3) (hm : m ≤ 2513169434916) {cells : List AV} {ds : St} (r : RestC cells ds) : RestC (.str s :: .own b m :: cells) (ds ++ [(b, .arr 3 c 0)])
theorem RestC.snoc {cells : List AV} {ds : St} (r : RestC cells ds) (s : List UInt8) (b m : Nat) (c : List AV) (h : c.length = m * 3) (hm : m ≤ 2513169434916) : RestC (cells ++ [.str s, .own b m]) ((b, .arr 3 c 0) :: ds) := by
  induction r with
  | nil => exact .own s b m c h hm .nil
  | empty s' r ih => exact .empty s' ih
  | own s' b' m' c' h' hm' r ih => exact .own s' b' m' c' h' hm' ih
theorem RestC.snocE {cells : List AV} {ds : St} (r : RestC cells ds) (s : List UInt8) : RestC (cells ++ [.str s, .nils]) ds := by
  induction r with
  | nil => exact .empty s .nil
  | empty s' r ih => exact .empty s' ih
  | own s' b' m' c' h' hm' r ih => exact .own s' b' m' c' h' hm' ih
theorem Done.rest {names : List (List UInt8)} {ws : List WordT} {pre : List AV} {ds : St} (h : Done names ws pre ds) : (∀ w ∈ ws, w.body.length ≤ 2513169434916) → RestC pre ds := by
  induction h with
  | nil => exact fun _ => .nil
  | empty w h k ih => exact fun hw => (ih fun x hx => hw x (List.mem_append_left _ hx)).snocE w.name
  | own w b k ih => exact fun hw => (ih fun x hx => hw x (List.mem_append_left _ hx)).snoc w.name b w.body.length _ (by rw [opsC_len, List.length_map]) (hw w (by simp))
theorem RestC.len {cells : List AV} {ds : St} (r : RestC cells ds) : ∃ n, cells.length = n * 2 := by
  induction r with
  | nil => exact ⟨0, rfl⟩
  | empty s r ih => obtain ⟨n, h⟩ := ih; exact ⟨n + 1, by simp only [List.length_cons, h]; omega⟩
  | own s b m c h hm r ih => obtain ⟨n, h⟩ := ih; exact ⟨n + 1, by simp only [List.length_cons, h]; omega⟩
theorem codeR_ops {c : CodeT} : (codeR c).ops = c.ops.map opR := rfl
theorem vRV_small {t : Tree} (h : t.clean = true) : (vRV t).small = true := by
  cases hs : isSome t with
  | true => rw [vRV_some hs]; exact clean_small _ h
  | false =>
    have : t = .none := by cases t <;> first | rfl | (cases hs; done)
    rw [this]; simp [vRV, RV.small, smallAll]
structure KpI where
  k : Nat
  J : List AV
  C : List AV
  ds : St
structure KpJ where
  k : Nat
  c : List AV
theorem put_len {c : List AV} {n : Nat} {x : List AV} (h : n + x.length ≤ c.length) : (c.take n ++ x ++ c.drop (n + x.length)).length = c.length := by
  simp only [List.length_append, List.length_take, List.length_drop]; omega
theorem set_hd {J : List AV} {k : Nat} (hJ : J.length = k * 2) (a g y : AV) (C : List AV) : (J ++ a :: y :: C).set (mulN k 2 + 0) g = (J ++ [g, y]) ++ C := by
  rw [mulN_eq, ← hJ, List.set_append_right _ _ (by omega)]; simp

theorem VSel.suf : ∀ (A S : St), VSel S (A ++ S)
  | [], S => VSel.refl S
  | x :: A, S => (VSel.suf A S).skip x
theorem at_two (J : List AV) (a b v : AV) (C : List AV) : (J ++ a :: b :: v :: C)[J.length + 2]? = some v := by
  rw [List.getElem?_append_right (by omega)]; simp
theorem set_three {J : List AV} {k : Nat} (hJ : J.length = k * 3) (a b v x y z : AV) (C : List AV) : List.take (mulN k 3) (J ++ a :: b :: v :: C) ++ [x, y, z] ++ List.drop (mulN k 3 + 3) (J ++ a :: b :: v :: C) = (J ++ [x, y, z]) ++ C := by
  rw [mulN_eq, ← hJ]; simp









set_option maxHeartbeats 4000000 in
theorem f_LinkKeeps (d : RDict) (l : List RV) (hs : DBig d) (hl : l.length ≤ 2513169434916 ∧ inpAll l = true) :
    Av.Fn Tryz.prog 4 [.agg (rdictC d), .fz (rvsC l) l.length false] (.bool true) := by
  have hws := dict_words hs
  have g1 := f_dApi d hs.toDIn
  have g2 := f_Link (dictT d) (Nat.le_trans hs.vocs (by omega)) (fun v hv => Nat.le_trans (hs.uses v hv) (by omega)) hs.vnames (fun w hw => (hws w hw).inn)
  have gx := f_LinkO (dictT d) (Nat.le_trans hs.vocs (by omega)) (fun v hv => Nat.le_trans (hs.uses v hv) (by omega)) hs.vnames (fun w hw => (hws w hw).inn)
  have hok := fun h => dict_ok (d := dictT d) h
  have hwl : (dictT d).words.length ≤ 1954687338211 := by show (d.words.map wordT).length ≤ _; rw [List.length_map]; exact hs.words
  obtain ⟨Y, e, g2, hcs, hcl, hYe⟩ : ∃ Y e, Av.Fn Tryz.prog 8 [.agg (dictC (dictT d))] (.tup [.fz (codesC Y) Y.length false, .int .i64 e]) ∧ (∀ c ∈ Y, CodeIn c) ∧ Y.length ≤ 1048576 ∧ (e = 0 ∨ Y = []) := by
    generalize dictOk (dictT d) = r at g2 hok
    cases r with
    | false => rw [if_neg (by simp)] at g2; exact ⟨[], 1, g2, fun c hc => (by cases hc), Nat.zero_le _, .inr rfl⟩
    | true =>
      rw [if_pos rfl] at g2
      have hD := hok rfl
      exact ⟨linkD (dictT d).words, 0, by rw [linkD_len]; exact g2, code_in hD (small_words hD hws), by rw [linkD_len]; have := hD.len; omega, .inl rfl⟩
  have icl := inp_cleanI l hl.2
  have qcl : (Tree.quot (itemTs l)).clean = true := by simp only [Tree.clean, Bool.and_eq_true, decide_eq_true_eq]; exact ⟨by rw [itemTs_length]; exact hl.1, icl⟩
  have qnm : (Tree.quot (itemTs l)).nmS = true := by rw [Tree.nmS]; exact inp_nmSI l hl.2
  have hT : TIn (dictT d) := ⟨hs.vocs, hs.uses, hwl, fun w hw => ⟨(hws w hw).clean, (hws w hw).len⟩⟩
  have g3 := f_dOf (dictT d) hT
  have hR : RIn14 (dictR (dictT d)) := ⟨hs.vocs, hs.uses, by show ((dictT d).words.map wordRf).length ≤ _; rw [List.length_map]; exact hwl, fun w hw => by
    obtain ⟨x, hx, rfl⟩ := List.mem_map.1 (show w ∈ (dictT d).words.map wordRf from hw)
    exact ⟨clean_smallI _ (hws x hx).clean, by show (itemRVs x.body).length ≤ _; rw [itemRVs_length]; exact (hws x hx).len⟩⟩
  have g4 := f_rdSame (dictR (dictT d)) hR
  have g5 := f_ItemsOf hl.2 hl.1
  have g6 := f_ItemTrees icl (by rw [itemTs_length]; exact hl.1)
  have g7 := f_SameAll (a := itemRVs (itemTs l)) (b := itemRVs (itemTs l)) (clean_smallI _ icl) (clean_smallI _ icl) (by simp; omega) (by simp; omega) [] [] false false
  rw [sameVs_refl, List.append_nil] at g7
  have g8 := f_Of18 Y hcl fun c hc => ⟨(hcs c hc).ops, fun o ho => ⟨((hcs c hc).inp o ho).clean, ((hcs c hc).inp o ho).val⟩⟩
  have g9 := f_rSame (Y.map codeR) (Y.map codeR) (by simpa using hcl) (by simpa using hcl) fun x hx y hy => by
    obtain ⟨cx, hcx, rfl⟩ := List.mem_map.1 hx
    obtain ⟨cy, hcy, rfl⟩ := List.mem_map.1 hy
    refine f_rSameOps _ _ (by rw [codeR_ops, List.length_map]; exact (hcs cx hcx).ops) (by rw [codeR_ops, List.length_map]; exact (hcs cy hcy).ops) fun o ho p hp => ?_
    obtain ⟨o', ho', rfl⟩ := List.mem_map.1 (show o ∈ cx.ops.map opR from ho)
    obtain ⟨p', hp', rfl⟩ := List.mem_map.1 (show p ∈ cy.ops.map opR from hp)
    exact f_Same (vRV_small ((hcs cx hcx).inp o' ho').clean) (vRV_small ((hcs cy hcy).inp p' hp').clean)
  rw [all2_refl (fun x => by unfold sameCodeR; rw [decide_eq_true rfl, all2_refl sameOpR_refl]; rfl)] at g9
  have gp := f_lOpsO hcl hcs qcl qnm
  have g10 := f_lOps hcl hcs qcl qnm
  have lk2 := (linkOps_in (codes := Y) icl).2
  have lk1 := linkOps_len (codes := Y) icl
  have g11 := f_OpTrees (linkOps Y (itemTs l)).1 (by omega) lk2
  have g12 := f_rSameOps ((linkOps Y (itemTs l)).1.map opR) ((linkOps Y (itemTs l)).1.map opR) (by simp; omega) (by simp; omega) fun x hx y hy => by
    obtain ⟨x', hx', rfl⟩ := List.mem_map.1 hx
    obtain ⟨y', hy', rfl⟩ := List.mem_map.1 hy
    exact f_Same (vRV_small (lk2 x' hx').1) (vRV_small (lk2 y' hy').1)
  rw [all2_refl sameOpR_refl] at g12
  have hYn : Y.length = 0 ∨ e = 0 := by
    rcases hYe with h | rfl
    · exact .inr h
    · exact .inl rfl
  have hwb : ∀ w ∈ (dictT d).words, w.body.length ≤ 2513169434916 := fun w hw => (hws w hw).len
  generalize linkOps Y (itemTs l) = A at *
  obtain ⟨A, ea⟩ := A
  unfold lopsV at g10
  dsimp only at g10 g11 g12
  simp only [itemTs_length, itemRVs_length, List.length_map] at g5 g6 g7 g8 g9 g10 g11 g12 gp
  generalize hYc : codesC Y = yc at *
  generalize rcodesC (Y.map codeR) = ry at *
  generalize Y.length = yn at *
  obtain ⟨ra, rb, hr⟩ : ∃ a b, rdictC d = [a, b] := ⟨_, _, rfl⟩
  obtain ⟨k0, k1, hk0⟩ : ∃ a b, dictC (dictT d) = [a, b] := ⟨_, _, rfl⟩
  obtain ⟨qa, qb, hq⟩ : ∃ a b, rdictC (dictR (dictT d)) = [a, b] := ⟨_, _, rfl⟩
  rw [hr] at g1 ⊢
  rw [hk0] at g1 g2 g3 gx
  rw [hq] at g3 g4
  generalize dictOk (dictT d) = ok at gx
  generalize (dictT d).words = ws at gx hwl hwb
  refine ACalls.of_W tb_ok (fn := Tryz.f4) (n := 155) (by kernel_rfl) rfl (by kernel_rfl) rfl rfl (by simp) (go ?_)
  refine VAll.mk (fun b2 => go ?_)
  refine Fn.use (f_awake18) (go ?_)
  refine Fn.use (g1) (go ?_)
  refine Fn.use (g5) (go ?_)
  refine VAll.mk (fun b5 => go ?_)
  refine Fn.use (g3) (go ?_)
  refine Fn.use (g6) (go ?_)
  refine VAll.mk (fun b7 => go ?_)
  refine ACalls.usep (R := [(b7, .box [qa, qb]), (b5, .box [k0, k1]), (b2, .box [ra, rb])]) gx (by exact List.Perm.refl _) ?_
  intro out sx hx
  cases hx with
  | bad =>
    refine go ?_
    refine Fn.use (g2) (go ?_)
    refine Fn.use (g8) (go ?_)
    refine ACalls.usep (R := [(b7, .box [qa, qb]), (b5, .box [k0, k1]), (b2, .box [ra, rb])]) gp (by exact List.Perm.refl _) ?_
    intro out sp hp
    cases hp with
    | none ep =>
      refine go ?_
      refine Fn.use (g10) (go ?_)
      refine Fn.use (g11) (go ?_)
      refine VLoop.mk [19] Nat (fun i => [.int .i64 i]) (fun _ => [(b7, .box [qa, qb]), (b5, .box [k0, k1]), (b2, .box [ra, rb])]) (fun i => i = 0) (fun _ => 0) 0 ?_ ?_
      · exact ⟨rfl, rfl, VSel.refl _⟩
      rintro k rfl
      refine go ?_
      refine VLoop.mk [21] Nat (fun i => [.int .i64 i]) (fun _ => [(b7, .box [qa, qb]), (b5, .box [k0, k1]), (b2, .box [ra, rb])]) (fun i => i = 0) (fun _ => 0) 0 ?_ ?_
      · exact ⟨rfl, rfl, VSel.refl _⟩
      rintro k rfl
      refine go ?_
      refine VQ.mk _ (by refine go ?_; refine Fn.use g3 (go ?_); exact ⟨rfl, rfl⟩) (go ?_)
      refine VQ.mk _ (by refine go ?_; refine Fn.use g4 (go ?_); exact ⟨rfl, rfl⟩) (go ?_)
      refine VQ.mk _ (by refine go ?_; refine Fn.use g6 (go ?_); exact ⟨rfl, rfl⟩) (go ?_)
      refine VQ.mk _ (by refine go ?_; refine Fn.use g7 (go ?_); exact ⟨rfl, rfl⟩) (go ?_)
      refine VQ.mk _ (by refine go ?_; refine Fn.use g8 (go ?_); exact ⟨rfl, rfl⟩) (go ?_)
      refine VQ.mk _ (by refine go ?_; refine Fn.use g9 (go ?_); exact ⟨rfl, rfl⟩) (go ?_)
      refine VQ.mk _ (by refine go ?_; refine Fn.use g11 (go ?_); exact ⟨rfl, rfl⟩) (go ?_)
      refine VQ.mk _ (by refine go ?_; refine Fn.use g12 (go ?_); exact ⟨rfl, rfl⟩) (go ?_)
      by_cases he : e = 0
      · refine VIf.yes (by simp [he]) (go ?_)
        refine VRet.mk [] .nil ?_
        exact ⟨by simp [he], rfl⟩
      · obtain rfl : yn = 0 := by
          rcases hYn with h | h
          · exact h
          · exact absurd h he
        refine VIf.no (by simp [he]) (go ?_)
        refine VRet.mk [] .nil ?_
        exact ⟨by simp, rfl⟩
    | some bp cells dsp ep hn hr0 =>
      refine go ?_
      refine Fn.use (g10) (go ?_)
      refine Fn.use (g11) (go ?_)
      refine VLoop.mk [19] Nat (fun i => [.int .i64 i]) (fun _ => (bp, .arr 3 cells 0) :: (dsp ++ [(b7, .box [qa, qb]), (b5, .box [k0, k1]), (b2, .box [ra, rb])])) (fun i => i = 0) (fun _ => 0) 0 ?_ ?_
      · exact ⟨rfl, rfl, VSel.of_perm (by have h := List.perm_append_comm (l₁ := [(b7, AObj.box [qa, qb]), (b5, AObj.box [k0, k1]), (b2, AObj.box [ra, rb])]) (l₂ := (bp, AObj.arr 3 cells 0) :: dsp); simpa using h.symm)⟩
      rintro k rfl
      refine go ?_
      refine VLoop.mk [21] KpI (fun i => [.int .i64 i.k]) (fun i => (bp, .arr 3 (i.J ++ i.C) 0) :: (i.ds ++ [(b7, .box [qa, qb]), (b5, .box [k0, k1]), (b2, .box [ra, rb])])) (fun i => i.k ≤ l.length ∧ i.J.length = i.k * 3 ∧ i.C.length = (l.length - i.k) * 3 ∧ RestO i.C i.ds) (fun i => l.length - i.k) ⟨0, [], cells, dsp⟩ ?_ ?_
      · exact ⟨⟨Nat.zero_le _, rfl, hn, hr0⟩, rfl, VSel.refl _⟩
      rintro ⟨k, J, C, ds⟩ ⟨hk, hJ, hC, hr⟩
      dsimp only at hk hJ hC hr ⊢
      refine go ?_
      refine fork (fun hlt => go ?_) (fun hlt => ?_)
      · have hlt : k < l.length := by omega
        generalize hO : [(b7, AObj.box [qa, qb]), (b5, AObj.box [k0, k1]), (b2, AObj.box [ra, rb])] = K at *
        cases hr with
        | nil => simp only [List.length_nil] at hC; omega
        | @cons kd n v s C ds hv r =>
          have hcell : (J ++ .int .i64 kd :: .int .i64 n :: v :: C)[mulN k 3 + 2]? = some v := by rw [mulN_eq, ← hJ]; exact at_two _ _ _ _ _
          refine VNth.mk _ hcell ?_
          cases hv with
          | leaf t hc hl =>
            rw [List.append_nil]
            cases t with
            | odd => simp [Tree.clean] at hc
            | none =>
              refine go ?_
              refine VAll.mk (fun b22 => go ?_)
              refine go ?_
              refine VLoop.mk [24] Nat (fun i => [.int .i64 i]) (fun _ => (b22, .box [.nils]) :: (bp, .arr 3 (J ++ .int .i64 kd :: .int .i64 n :: .nili :: C) 0) :: (ds ++ K)) (fun i => i = 0) (fun _ => 0) 0 ?_ ?_
              · exact ⟨rfl, rfl, VSel.refl _⟩
              rintro q rfl
              refine go ?_
              refine VGd.mk ⟨Nat.zero_le _, by show mulN k 3 + 3 ≤ _; rw [mulN_eq, ← hJ]; simp⟩ (go ?_)
              simp only [List.length_cons] at hC
              refine ⟨⟨k + 1, J ++ [.int .i64 9, .int .i64 0, .nili], C, ds⟩, ⟨by dsimp only; omega, by simp only [List.length_append, List.length_cons, List.length_nil, hJ]; omega, by dsimp only; omega, r⟩, by dsimp only; omega, rfl, .cons 1 (congrArg (fun c => some (bp, AObj.arr 3 c 0)) (set_three hJ _ _ _ _ _ _ _)) ?_⟩
              first | exact VSel.skip1 _ _ | exact VSel.skip1' _ _ _
            | int z =>
              refine go ?_
              refine VAll.mk (fun b22 => go ?_)
              refine go ?_
              refine VLoop.mk [24] Nat (fun i => [.int .i64 i]) (fun _ => (b22, .box [.nils]) :: (bp, .arr 3 (J ++ .int .i64 kd :: .int .i64 n :: valAV (.int z) :: C) 0) :: (ds ++ K)) (fun i => i = 0) (fun _ => 0) 0 ?_ ?_
              · exact ⟨rfl, rfl, VSel.refl _⟩
              rintro q rfl
              refine go ?_
              refine VGd.mk ⟨Nat.zero_le _, by show mulN k 3 + 3 ≤ _; rw [mulN_eq, ← hJ]; simp⟩ (go ?_)
              simp only [List.length_cons] at hC
              refine ⟨⟨k + 1, J ++ [.int .i64 9, .int .i64 0, .nili], C, ds⟩, ⟨by dsimp only; omega, by simp only [List.length_append, List.length_cons, List.length_nil, hJ]; omega, by dsimp only; omega, r⟩, by dsimp only; omega, rfl, .cons 1 (congrArg (fun c => some (bp, AObj.arr 3 c 0)) (set_three hJ _ _ _ _ _ _ _)) ?_⟩
              first | exact VSel.skip1 _ _ | exact VSel.skip1' _ _ _
            | str z =>
              refine go ?_
              refine VAll.mk (fun b22 => go ?_)
              refine go ?_
              refine VLoop.mk [24] Nat (fun i => [.int .i64 i]) (fun _ => (b22, .box [.nils]) :: (bp, .arr 3 (J ++ .int .i64 kd :: .int .i64 n :: valAV (.str z) :: C) 0) :: (ds ++ K)) (fun i => i = 0) (fun _ => 0) 0 ?_ ?_
              · exact ⟨rfl, rfl, VSel.refl _⟩
              rintro q rfl
              refine go ?_
              refine VGd.mk ⟨Nat.zero_le _, by show mulN k 3 + 3 ≤ _; rw [mulN_eq, ← hJ]; simp⟩ (go ?_)
              simp only [List.length_cons] at hC
              refine ⟨⟨k + 1, J ++ [.int .i64 9, .int .i64 0, .nili], C, ds⟩, ⟨by dsimp only; omega, by simp only [List.length_append, List.length_cons, List.length_nil, hJ]; omega, by dsimp only; omega, r⟩, by dsimp only; omega, rfl, .cons 1 (congrArg (fun c => some (bp, AObj.arr 3 c 0)) (set_three hJ _ _ _ _ _ _ _)) ?_⟩
              first | exact VSel.skip1 _ _ | exact VSel.skip1' _ _ _
            | bool z =>
              refine go ?_
              refine VAll.mk (fun b22 => go ?_)
              refine go ?_
              refine VLoop.mk [24] Nat (fun i => [.int .i64 i]) (fun _ => (b22, .box [.nils]) :: (bp, .arr 3 (J ++ .int .i64 kd :: .int .i64 n :: valAV (.bool z) :: C) 0) :: (ds ++ K)) (fun i => i = 0) (fun _ => 0) 0 ?_ ?_
              · exact ⟨rfl, rfl, VSel.refl _⟩
              rintro q rfl
              refine go ?_
              refine VGd.mk ⟨Nat.zero_le _, by show mulN k 3 + 3 ≤ _; rw [mulN_eq, ← hJ]; simp⟩ (go ?_)
              simp only [List.length_cons] at hC
              refine ⟨⟨k + 1, J ++ [.int .i64 9, .int .i64 0, .nili], C, ds⟩, ⟨by dsimp only; omega, by simp only [List.length_append, List.length_cons, List.length_nil, hJ]; omega, by dsimp only; omega, r⟩, by dsimp only; omega, rfl, .cons 1 (congrArg (fun c => some (bp, AObj.arr 3 c 0)) (set_three hJ _ _ _ _ _ _ _)) ?_⟩
              first | exact VSel.skip1 _ _ | exact VSel.skip1' _ _ _
            | quot z =>
              refine go ?_
              refine VAll.mk (fun b22 => go ?_)
              refine go ?_
              refine VLoop.mk [24] Nat (fun i => [.int .i64 i]) (fun _ => (b22, .box [.nils]) :: (bp, .arr 3 (J ++ .int .i64 kd :: .int .i64 n :: valAV (.quot z) :: C) 0) :: (ds ++ K)) (fun i => i = 0) (fun _ => 0) 0 ?_ ?_
              · exact ⟨rfl, rfl, VSel.refl _⟩
              rintro q rfl
              refine go ?_
              refine VGd.mk ⟨Nat.zero_le _, by show mulN k 3 + 3 ≤ _; rw [mulN_eq, ← hJ]; simp⟩ (go ?_)
              simp only [List.length_cons] at hC
              refine ⟨⟨k + 1, J ++ [.int .i64 9, .int .i64 0, .nili], C, ds⟩, ⟨by dsimp only; omega, by simp only [List.length_append, List.length_cons, List.length_nil, hJ]; omega, by dsimp only; omega, r⟩, by dsimp only; omega, rfl, .cons 1 (congrArg (fun c => some (bp, AObj.arr 3 c 0)) (set_three hJ _ _ _ _ _ _ _)) ?_⟩
              first | exact VSel.skip1 _ _ | exact VSel.skip1' _ _ _
            | box z =>
              refine go ?_
              refine VAll.mk (fun b22 => go ?_)
              refine go ?_
              refine VLoop.mk [24] Nat (fun i => [.int .i64 i]) (fun _ => (b22, .box [.nils]) :: (bp, .arr 3 (J ++ .int .i64 kd :: .int .i64 n :: valAV (.box z) :: C) 0) :: (ds ++ K)) (fun i => i = 0) (fun _ => 0) 0 ?_ ?_
              · exact ⟨rfl, rfl, VSel.refl _⟩
              rintro q rfl
              refine go ?_
              refine VGd.mk ⟨Nat.zero_le _, by show mulN k 3 + 3 ≤ _; rw [mulN_eq, ← hJ]; simp⟩ (go ?_)
              simp only [List.length_cons] at hC
              refine ⟨⟨k + 1, J ++ [.int .i64 9, .int .i64 0, .nili], C, ds⟩, ⟨by dsimp only; omega, by simp only [List.length_append, List.length_cons, List.length_nil, hJ]; omega, by dsimp only; omega, r⟩, by dsimp only; omega, rfl, .cons 1 (congrArg (fun c => some (bp, AObj.arr 3 c 0)) (set_three hJ _ _ _ _ _ _ _)) ?_⟩
              first | exact VSel.skip1 _ _ | exact VSel.skip1' _ _ _
            | call z =>
              refine go ?_
              refine VAll.mk (fun b22 => go ?_)
              refine go ?_
              refine VLoop.mk [24] Nat (fun i => [.int .i64 i]) (fun _ => (b22, .box [.nils]) :: (bp, .arr 3 (J ++ .int .i64 kd :: .int .i64 n :: valAV (.call z) :: C) 0) :: (ds ++ K)) (fun i => i = 0) (fun _ => 0) 0 ?_ ?_
              · exact ⟨rfl, rfl, VSel.refl _⟩
              rintro q rfl
              refine go ?_
              refine VGd.mk ⟨Nat.zero_le _, by show mulN k 3 + 3 ≤ _; rw [mulN_eq, ← hJ]; simp⟩ (go ?_)
              simp only [List.length_cons] at hC
              refine ⟨⟨k + 1, J ++ [.int .i64 9, .int .i64 0, .nili], C, ds⟩, ⟨by dsimp only; omega, by simp only [List.length_append, List.length_cons, List.length_nil, hJ]; omega, by dsimp only; omega, r⟩, by dsimp only; omega, rfl, .cons 1 (congrArg (fun c => some (bp, AObj.arr 3 c 0)) (set_three hJ _ _ _ _ _ _ _)) ?_⟩
              first | exact VSel.skip1 _ _ | exact VSel.skip1' _ _ _
            | list z =>
              obtain rfl : z = [] := hl z rfl
              refine go ?_
              refine VAll.mk (fun b22 => go ?_)
              refine go ?_
              refine VLoop.mk [24] Nat (fun i => [.int .i64 i]) (fun _ => (b22, .box [.fz (valAVs []) 0 false]) :: (bp, .arr 3 (J ++ .int .i64 kd :: .int .i64 n :: valAV (.list []) :: C) 0) :: (ds ++ K)) (fun i => i = 0) (fun _ => 0) 0 ?_ ?_
              · exact ⟨rfl, rfl, VSel.refl _⟩
              rintro q rfl
              refine go ?_
              refine VGd.mk ⟨Nat.zero_le _, by show mulN k 3 + 3 ≤ _; rw [mulN_eq, ← hJ]; simp⟩ (go ?_)
              simp only [List.length_cons] at hC
              refine ⟨⟨k + 1, J ++ [.int .i64 9, .int .i64 0, .nili], C, ds⟩, ⟨by dsimp only; omega, by simp only [List.length_append, List.length_cons, List.length_nil, hJ]; omega, by dsimp only; omega, r⟩, by dsimp only; omega, rfl, .cons 1 (congrArg (fun c => some (bp, AObj.arr 3 c 0)) (set_three hJ _ _ _ _ _ _ _)) ?_⟩
              first | exact VSel.skip1 _ _ | exact VSel.skip1' _ _ _
          | list b m c hcm hm =>
            refine go ?_
            refine VAll.mk (fun b22 => go ?_)
            refine go ?_
            refine VLoop.mk [24] KpJ (fun i => [.int .i64 i.k]) (fun i => (b22, .box [.own b m]) :: (bp, .arr 3 (J ++ .int .i64 kd :: .int .i64 n :: .iface 60 (.agg [.own b m]) :: C) 0) :: (b, .arr 1 i.c 0) :: (ds ++ K)) (fun i => i.k ≤ m ∧ i.c.length = m) (fun i => m - i.k) ⟨0, c⟩ ?_ ?_
            · exact ⟨⟨Nat.zero_le _, hcm⟩, rfl, .cons 0 rfl (.cons 0 rfl (VSel.of_perm (by rw [List.append_assoc]; exact List.perm_middle.symm)))⟩
            rintro ⟨q, c⟩ ⟨hq, hcm⟩
            dsimp only at hq hcm ⊢
            refine go ?_
            refine fork (fun hlq => go ?_) (fun hlq => go ?_)
            · have hlq : q < m := by omega
              refine VGd.mk ⟨Nat.zero_le _, by show mulN q 1 < _; rw [mulN_eq]; omega⟩ (go ?_)
              exact ⟨⟨q + 1, _⟩, ⟨by dsimp only; omega, (List.length_set ..).trans hcm⟩, by dsimp only; omega, rfl, VSel.refl _⟩
            · refine VGd.mk ⟨Nat.zero_le _, by show mulN k 3 + 3 ≤ _; rw [mulN_eq, ← hJ]; simp⟩ (go ?_)
              simp only [List.length_cons] at hC
              refine ⟨⟨k + 1, J ++ [.int .i64 9, .int .i64 0, .nili], C, ds⟩, ⟨by dsimp only; omega, by simp only [List.length_append, List.length_cons, List.length_nil, hJ]; omega, by dsimp only; omega, r⟩, by dsimp only; omega, rfl, .cons 1 (congrArg (fun c => some (bp, AObj.arr 3 c 0)) (set_three hJ _ _ _ _ _ _ _)) ?_⟩
              first | exact VSel.skip1 _ _ | exact VSel.skip1' _ _ _
      obtain rfl : k = l.length := by omega
      obtain rfl : C = [] := List.length_eq_zero_iff.1 (by omega)
      cases hr
      refine go ?_
      refine VQ.mk _ (by refine go ?_; refine Fn.use g3 (go ?_); exact ⟨rfl, rfl⟩) (go ?_)
      refine VQ.mk _ (by refine go ?_; refine Fn.use g4 (go ?_); exact ⟨rfl, rfl⟩) (go ?_)
      refine VQ.mk _ (by refine go ?_; refine Fn.use g6 (go ?_); exact ⟨rfl, rfl⟩) (go ?_)
      refine VQ.mk _ (by refine go ?_; refine Fn.use g7 (go ?_); exact ⟨rfl, rfl⟩) (go ?_)
      refine VQ.mk _ (by refine go ?_; refine Fn.use g8 (go ?_); exact ⟨rfl, rfl⟩) (go ?_)
      refine VQ.mk _ (by refine go ?_; refine Fn.use g9 (go ?_); exact ⟨rfl, rfl⟩) (go ?_)
      refine VQ.mk _ (by refine go ?_; refine Fn.use g11 (go ?_); exact ⟨rfl, rfl⟩) (go ?_)
      refine VQ.mk _ (by refine go ?_; refine Fn.use g12 (go ?_); exact ⟨rfl, rfl⟩) (go ?_)
      by_cases he : e = 0
      · refine VIf.yes (by simp [he]) (go ?_)
        refine VRet.mk [] .nil ?_
        exact ⟨by simp [he], rfl⟩
      · obtain rfl : yn = 0 := by
          rcases hYn with h | h
          · exact h
          · exact absurd h he
        refine VIf.no (by simp [he]) (go ?_)
        refine VRet.mk [] .nil ?_
        exact ⟨by simp, rfl⟩
  | none hw =>
    refine go ?_
    refine Fn.use (g2) (go ?_)
    refine Fn.use (g8) (go ?_)
    refine ACalls.usep (R := [(b7, .box [qa, qb]), (b5, .box [k0, k1]), (b2, .box [ra, rb])]) gp (by exact List.Perm.refl _) ?_
    intro out sp hp
    cases hp with
    | none ep =>
      refine go ?_
      refine Fn.use (g10) (go ?_)
      refine Fn.use (g11) (go ?_)
      refine VLoop.mk [19] Nat (fun i => [.int .i64 i]) (fun _ => [(b7, .box [qa, qb]), (b5, .box [k0, k1]), (b2, .box [ra, rb])]) (fun i => i = 0) (fun _ => 0) 0 ?_ ?_
      · exact ⟨rfl, rfl, VSel.refl _⟩
      rintro k rfl
      refine go ?_
      refine VLoop.mk [21] Nat (fun i => [.int .i64 i]) (fun _ => [(b7, .box [qa, qb]), (b5, .box [k0, k1]), (b2, .box [ra, rb])]) (fun i => i = 0) (fun _ => 0) 0 ?_ ?_
      · exact ⟨rfl, rfl, VSel.refl _⟩
      rintro k rfl
      refine go ?_
      refine VQ.mk _ (by refine go ?_; refine Fn.use g3 (go ?_); exact ⟨rfl, rfl⟩) (go ?_)
      refine VQ.mk _ (by refine go ?_; refine Fn.use g4 (go ?_); exact ⟨rfl, rfl⟩) (go ?_)
      refine VQ.mk _ (by refine go ?_; refine Fn.use g6 (go ?_); exact ⟨rfl, rfl⟩) (go ?_)
      refine VQ.mk _ (by refine go ?_; refine Fn.use g7 (go ?_); exact ⟨rfl, rfl⟩) (go ?_)
      refine VQ.mk _ (by refine go ?_; refine Fn.use g8 (go ?_); exact ⟨rfl, rfl⟩) (go ?_)
      refine VQ.mk _ (by refine go ?_; refine Fn.use g9 (go ?_); exact ⟨rfl, rfl⟩) (go ?_)
      refine VQ.mk _ (by refine go ?_; refine Fn.use g11 (go ?_); exact ⟨rfl, rfl⟩) (go ?_)
      refine VQ.mk _ (by refine go ?_; refine Fn.use g12 (go ?_); exact ⟨rfl, rfl⟩) (go ?_)
      by_cases he : e = 0
      · refine VIf.yes (by simp [he]) (go ?_)
        refine VRet.mk [] .nil ?_
        exact ⟨by simp [he], rfl⟩
      · obtain rfl : yn = 0 := by
          rcases hYn with h | h
          · exact h
          · exact absurd h he
        refine VIf.no (by simp [he]) (go ?_)
        refine VRet.mk [] .nil ?_
        exact ⟨by simp, rfl⟩
    | some bp cells dsp ep hn hr0 =>
      refine go ?_
      refine Fn.use (g10) (go ?_)
      refine Fn.use (g11) (go ?_)
      refine VLoop.mk [19] Nat (fun i => [.int .i64 i]) (fun _ => (bp, .arr 3 cells 0) :: (dsp ++ [(b7, .box [qa, qb]), (b5, .box [k0, k1]), (b2, .box [ra, rb])])) (fun i => i = 0) (fun _ => 0) 0 ?_ ?_
      · exact ⟨rfl, rfl, VSel.of_perm (by have h := List.perm_append_comm (l₁ := [(b7, AObj.box [qa, qb]), (b5, AObj.box [k0, k1]), (b2, AObj.box [ra, rb])]) (l₂ := (bp, AObj.arr 3 cells 0) :: dsp); simpa using h.symm)⟩
      rintro k rfl
      refine go ?_
      refine VLoop.mk [21] KpI (fun i => [.int .i64 i.k]) (fun i => (bp, .arr 3 (i.J ++ i.C) 0) :: (i.ds ++ [(b7, .box [qa, qb]), (b5, .box [k0, k1]), (b2, .box [ra, rb])])) (fun i => i.k ≤ l.length ∧ i.J.length = i.k * 3 ∧ i.C.length = (l.length - i.k) * 3 ∧ RestO i.C i.ds) (fun i => l.length - i.k) ⟨0, [], cells, dsp⟩ ?_ ?_
      · exact ⟨⟨Nat.zero_le _, rfl, hn, hr0⟩, rfl, VSel.refl _⟩
      rintro ⟨k, J, C, ds⟩ ⟨hk, hJ, hC, hr⟩
      dsimp only at hk hJ hC hr ⊢
      refine go ?_
      refine fork (fun hlt => go ?_) (fun hlt => ?_)
      · have hlt : k < l.length := by omega
        generalize hO : [(b7, AObj.box [qa, qb]), (b5, AObj.box [k0, k1]), (b2, AObj.box [ra, rb])] = K at *
        cases hr with
        | nil => simp only [List.length_nil] at hC; omega
        | @cons kd n v s C ds hv r =>
          have hcell : (J ++ .int .i64 kd :: .int .i64 n :: v :: C)[mulN k 3 + 2]? = some v := by rw [mulN_eq, ← hJ]; exact at_two _ _ _ _ _
          refine VNth.mk _ hcell ?_
          cases hv with
          | leaf t hc hl =>
            rw [List.append_nil]
            cases t with
            | odd => simp [Tree.clean] at hc
            | none =>
              refine go ?_
              refine VAll.mk (fun b22 => go ?_)
              refine go ?_
              refine VLoop.mk [24] Nat (fun i => [.int .i64 i]) (fun _ => (b22, .box [.nils]) :: (bp, .arr 3 (J ++ .int .i64 kd :: .int .i64 n :: .nili :: C) 0) :: (ds ++ K)) (fun i => i = 0) (fun _ => 0) 0 ?_ ?_
              · exact ⟨rfl, rfl, VSel.refl _⟩
              rintro q rfl
              refine go ?_
              refine VGd.mk ⟨Nat.zero_le _, by show mulN k 3 + 3 ≤ _; rw [mulN_eq, ← hJ]; simp⟩ (go ?_)
              simp only [List.length_cons] at hC
              refine ⟨⟨k + 1, J ++ [.int .i64 9, .int .i64 0, .nili], C, ds⟩, ⟨by dsimp only; omega, by simp only [List.length_append, List.length_cons, List.length_nil, hJ]; omega, by dsimp only; omega, r⟩, by dsimp only; omega, rfl, .cons 1 (congrArg (fun c => some (bp, AObj.arr 3 c 0)) (set_three hJ _ _ _ _ _ _ _)) ?_⟩
              first | exact VSel.skip1 _ _ | exact VSel.skip1' _ _ _
            | int z =>
              refine go ?_
              refine VAll.mk (fun b22 => go ?_)
              refine go ?_
              refine VLoop.mk [24] Nat (fun i => [.int .i64 i]) (fun _ => (b22, .box [.nils]) :: (bp, .arr 3 (J ++ .int .i64 kd :: .int .i64 n :: valAV (.int z) :: C) 0) :: (ds ++ K)) (fun i => i = 0) (fun _ => 0) 0 ?_ ?_
              · exact ⟨rfl, rfl, VSel.refl _⟩
              rintro q rfl
              refine go ?_
              refine VGd.mk ⟨Nat.zero_le _, by show mulN k 3 + 3 ≤ _; rw [mulN_eq, ← hJ]; simp⟩ (go ?_)
              simp only [List.length_cons] at hC
              refine ⟨⟨k + 1, J ++ [.int .i64 9, .int .i64 0, .nili], C, ds⟩, ⟨by dsimp only; omega, by simp only [List.length_append, List.length_cons, List.length_nil, hJ]; omega, by dsimp only; omega, r⟩, by dsimp only; omega, rfl, .cons 1 (congrArg (fun c => some (bp, AObj.arr 3 c 0)) (set_three hJ _ _ _ _ _ _ _)) ?_⟩
              first | exact VSel.skip1 _ _ | exact VSel.skip1' _ _ _
            | str z =>
              refine go ?_
              refine VAll.mk (fun b22 => go ?_)
              refine go ?_
              refine VLoop.mk [24] Nat (fun i => [.int .i64 i]) (fun _ => (b22, .box [.nils]) :: (bp, .arr 3 (J ++ .int .i64 kd :: .int .i64 n :: valAV (.str z) :: C) 0) :: (ds ++ K)) (fun i => i = 0) (fun _ => 0) 0 ?_ ?_
              · exact ⟨rfl, rfl, VSel.refl _⟩
              rintro q rfl
              refine go ?_
              refine VGd.mk ⟨Nat.zero_le _, by show mulN k 3 + 3 ≤ _; rw [mulN_eq, ← hJ]; simp⟩ (go ?_)
              simp only [List.length_cons] at hC
              refine ⟨⟨k + 1, J ++ [.int .i64 9, .int .i64 0, .nili], C, ds⟩, ⟨by dsimp only; omega, by simp only [List.length_append, List.length_cons, List.length_nil, hJ]; omega, by dsimp only; omega, r⟩, by dsimp only; omega, rfl, .cons 1 (congrArg (fun c => some (bp, AObj.arr 3 c 0)) (set_three hJ _ _ _ _ _ _ _)) ?_⟩
              first | exact VSel.skip1 _ _ | exact VSel.skip1' _ _ _
            | bool z =>
              refine go ?_
              refine VAll.mk (fun b22 => go ?_)
              refine go ?_
              refine VLoop.mk [24] Nat (fun i => [.int .i64 i]) (fun _ => (b22, .box [.nils]) :: (bp, .arr 3 (J ++ .int .i64 kd :: .int .i64 n :: valAV (.bool z) :: C) 0) :: (ds ++ K)) (fun i => i = 0) (fun _ => 0) 0 ?_ ?_
              · exact ⟨rfl, rfl, VSel.refl _⟩
              rintro q rfl
              refine go ?_
              refine VGd.mk ⟨Nat.zero_le _, by show mulN k 3 + 3 ≤ _; rw [mulN_eq, ← hJ]; simp⟩ (go ?_)
              simp only [List.length_cons] at hC
              refine ⟨⟨k + 1, J ++ [.int .i64 9, .int .i64 0, .nili], C, ds⟩, ⟨by dsimp only; omega, by simp only [List.length_append, List.length_cons, List.length_nil, hJ]; omega, by dsimp only; omega, r⟩, by dsimp only; omega, rfl, .cons 1 (congrArg (fun c => some (bp, AObj.arr 3 c 0)) (set_three hJ _ _ _ _ _ _ _)) ?_⟩
              first | exact VSel.skip1 _ _ | exact VSel.skip1' _ _ _
            | quot z =>
              refine go ?_
              refine VAll.mk (fun b22 => go ?_)
              refine go ?_
              refine VLoop.mk [24] Nat (fun i => [.int .i64 i]) (fun _ => (b22, .box [.nils]) :: (bp, .arr 3 (J ++ .int .i64 kd :: .int .i64 n :: valAV (.quot z) :: C) 0) :: (ds ++ K)) (fun i => i = 0) (fun _ => 0) 0 ?_ ?_
              · exact ⟨rfl, rfl, VSel.refl _⟩
              rintro q rfl
              refine go ?_
              refine VGd.mk ⟨Nat.zero_le _, by show mulN k 3 + 3 ≤ _; rw [mulN_eq, ← hJ]; simp⟩ (go ?_)
              simp only [List.length_cons] at hC
              refine ⟨⟨k + 1, J ++ [.int .i64 9, .int .i64 0, .nili], C, ds⟩, ⟨by dsimp only; omega, by simp only [List.length_append, List.length_cons, List.length_nil, hJ]; omega, by dsimp only; omega, r⟩, by dsimp only; omega, rfl, .cons 1 (congrArg (fun c => some (bp, AObj.arr 3 c 0)) (set_three hJ _ _ _ _ _ _ _)) ?_⟩
              first | exact VSel.skip1 _ _ | exact VSel.skip1' _ _ _
            | box z =>
              refine go ?_
              refine VAll.mk (fun b22 => go ?_)
              refine go ?_
              refine VLoop.mk [24] Nat (fun i => [.int .i64 i]) (fun _ => (b22, .box [.nils]) :: (bp, .arr 3 (J ++ .int .i64 kd :: .int .i64 n :: valAV (.box z) :: C) 0) :: (ds ++ K)) (fun i => i = 0) (fun _ => 0) 0 ?_ ?_
              · exact ⟨rfl, rfl, VSel.refl _⟩
              rintro q rfl
              refine go ?_
              refine VGd.mk ⟨Nat.zero_le _, by show mulN k 3 + 3 ≤ _; rw [mulN_eq, ← hJ]; simp⟩ (go ?_)
              simp only [List.length_cons] at hC
              refine ⟨⟨k + 1, J ++ [.int .i64 9, .int .i64 0, .nili], C, ds⟩, ⟨by dsimp only; omega, by simp only [List.length_append, List.length_cons, List.length_nil, hJ]; omega, by dsimp only; omega, r⟩, by dsimp only; omega, rfl, .cons 1 (congrArg (fun c => some (bp, AObj.arr 3 c 0)) (set_three hJ _ _ _ _ _ _ _)) ?_⟩
              first | exact VSel.skip1 _ _ | exact VSel.skip1' _ _ _
            | call z =>
              refine go ?_
              refine VAll.mk (fun b22 => go ?_)
              refine go ?_
              refine VLoop.mk [24] Nat (fun i => [.int .i64 i]) (fun _ => (b22, .box [.nils]) :: (bp, .arr 3 (J ++ .int .i64 kd :: .int .i64 n :: valAV (.call z) :: C) 0) :: (ds ++ K)) (fun i => i = 0) (fun _ => 0) 0 ?_ ?_
              · exact ⟨rfl, rfl, VSel.refl _⟩
              rintro q rfl
              refine go ?_
              refine VGd.mk ⟨Nat.zero_le _, by show mulN k 3 + 3 ≤ _; rw [mulN_eq, ← hJ]; simp⟩ (go ?_)
              simp only [List.length_cons] at hC
              refine ⟨⟨k + 1, J ++ [.int .i64 9, .int .i64 0, .nili], C, ds⟩, ⟨by dsimp only; omega, by simp only [List.length_append, List.length_cons, List.length_nil, hJ]; omega, by dsimp only; omega, r⟩, by dsimp only; omega, rfl, .cons 1 (congrArg (fun c => some (bp, AObj.arr 3 c 0)) (set_three hJ _ _ _ _ _ _ _)) ?_⟩
              first | exact VSel.skip1 _ _ | exact VSel.skip1' _ _ _
            | list z =>
              obtain rfl : z = [] := hl z rfl
              refine go ?_
              refine VAll.mk (fun b22 => go ?_)
              refine go ?_
              refine VLoop.mk [24] Nat (fun i => [.int .i64 i]) (fun _ => (b22, .box [.fz (valAVs []) 0 false]) :: (bp, .arr 3 (J ++ .int .i64 kd :: .int .i64 n :: valAV (.list []) :: C) 0) :: (ds ++ K)) (fun i => i = 0) (fun _ => 0) 0 ?_ ?_
              · exact ⟨rfl, rfl, VSel.refl _⟩
              rintro q rfl
              refine go ?_
              refine VGd.mk ⟨Nat.zero_le _, by show mulN k 3 + 3 ≤ _; rw [mulN_eq, ← hJ]; simp⟩ (go ?_)
              simp only [List.length_cons] at hC
              refine ⟨⟨k + 1, J ++ [.int .i64 9, .int .i64 0, .nili], C, ds⟩, ⟨by dsimp only; omega, by simp only [List.length_append, List.length_cons, List.length_nil, hJ]; omega, by dsimp only; omega, r⟩, by dsimp only; omega, rfl, .cons 1 (congrArg (fun c => some (bp, AObj.arr 3 c 0)) (set_three hJ _ _ _ _ _ _ _)) ?_⟩
              first | exact VSel.skip1 _ _ | exact VSel.skip1' _ _ _
          | list b m c hcm hm =>
            refine go ?_
            refine VAll.mk (fun b22 => go ?_)
            refine go ?_
            refine VLoop.mk [24] KpJ (fun i => [.int .i64 i.k]) (fun i => (b22, .box [.own b m]) :: (bp, .arr 3 (J ++ .int .i64 kd :: .int .i64 n :: .iface 60 (.agg [.own b m]) :: C) 0) :: (b, .arr 1 i.c 0) :: (ds ++ K)) (fun i => i.k ≤ m ∧ i.c.length = m) (fun i => m - i.k) ⟨0, c⟩ ?_ ?_
            · exact ⟨⟨Nat.zero_le _, hcm⟩, rfl, .cons 0 rfl (.cons 0 rfl (VSel.of_perm (by rw [List.append_assoc]; exact List.perm_middle.symm)))⟩
            rintro ⟨q, c⟩ ⟨hq, hcm⟩
            dsimp only at hq hcm ⊢
            refine go ?_
            refine fork (fun hlq => go ?_) (fun hlq => go ?_)
            · have hlq : q < m := by omega
              refine VGd.mk ⟨Nat.zero_le _, by show mulN q 1 < _; rw [mulN_eq]; omega⟩ (go ?_)
              exact ⟨⟨q + 1, _⟩, ⟨by dsimp only; omega, (List.length_set ..).trans hcm⟩, by dsimp only; omega, rfl, VSel.refl _⟩
            · refine VGd.mk ⟨Nat.zero_le _, by show mulN k 3 + 3 ≤ _; rw [mulN_eq, ← hJ]; simp⟩ (go ?_)
              simp only [List.length_cons] at hC
              refine ⟨⟨k + 1, J ++ [.int .i64 9, .int .i64 0, .nili], C, ds⟩, ⟨by dsimp only; omega, by simp only [List.length_append, List.length_cons, List.length_nil, hJ]; omega, by dsimp only; omega, r⟩, by dsimp only; omega, rfl, .cons 1 (congrArg (fun c => some (bp, AObj.arr 3 c 0)) (set_three hJ _ _ _ _ _ _ _)) ?_⟩
              first | exact VSel.skip1 _ _ | exact VSel.skip1' _ _ _
      obtain rfl : k = l.length := by omega
      obtain rfl : C = [] := List.length_eq_zero_iff.1 (by omega)
      cases hr
      refine go ?_
      refine VQ.mk _ (by refine go ?_; refine Fn.use g3 (go ?_); exact ⟨rfl, rfl⟩) (go ?_)
      refine VQ.mk _ (by refine go ?_; refine Fn.use g4 (go ?_); exact ⟨rfl, rfl⟩) (go ?_)
      refine VQ.mk _ (by refine go ?_; refine Fn.use g6 (go ?_); exact ⟨rfl, rfl⟩) (go ?_)
      refine VQ.mk _ (by refine go ?_; refine Fn.use g7 (go ?_); exact ⟨rfl, rfl⟩) (go ?_)
      refine VQ.mk _ (by refine go ?_; refine Fn.use g8 (go ?_); exact ⟨rfl, rfl⟩) (go ?_)
      refine VQ.mk _ (by refine go ?_; refine Fn.use g9 (go ?_); exact ⟨rfl, rfl⟩) (go ?_)
      refine VQ.mk _ (by refine go ?_; refine Fn.use g11 (go ?_); exact ⟨rfl, rfl⟩) (go ?_)
      refine VQ.mk _ (by refine go ?_; refine Fn.use g12 (go ?_); exact ⟨rfl, rfl⟩) (go ?_)
      by_cases he : e = 0
      · refine VIf.yes (by simp [he]) (go ?_)
        refine VRet.mk [] .nil ?_
        exact ⟨by simp [he], rfl⟩
      · obtain rfl : yn = 0 := by
          rcases hYn with h | h
          · exact h
          · exact absurd h he
        refine VIf.no (by simp [he]) (go ?_)
        refine VRet.mk [] .nil ?_
        exact ⟨by simp, rfl⟩
  | some bx pre dsx hdn =>
    refine go ?_
    refine Fn.use (g2) (go ?_)
    refine Fn.use (g8) (go ?_)
    refine ACalls.usep (R := [(b7, .box [qa, qb]), (b5, .box [k0, k1]), (b2, .box [ra, rb])] ++ (bx, .arr 2 pre 0) :: dsx) gp (by exact List.Perm.refl _) ?_
    intro out sp hp
    cases hp with
    | none ep =>
      refine go ?_
      refine Fn.use (g10) (go ?_)
      refine Fn.use (g11) (go ?_)
      refine VLoop.mk [19] KpI (fun i => [.int .i64 i.k]) (fun i => (bx, .arr 2 (i.J ++ i.C) 0) :: (i.ds ++ [(b7, AObj.box [qa, qb]), (b5, AObj.box [k0, k1]), (b2, AObj.box [ra, rb])])) (fun i => i.k ≤ ws.length ∧ i.J.length = i.k * 2 ∧ i.C.length = (ws.length - i.k) * 2 ∧ RestC i.C i.ds) (fun i => ws.length - i.k) ⟨0, [], pre, dsx⟩ ?_ ?_
      · exact ⟨⟨Nat.zero_le _, rfl, by rw [hdn.len]; rfl, hdn.rest hwb⟩, rfl, VSel.of_perm (by have h := List.perm_append_comm (l₁ := [(b7, AObj.box [qa, qb]), (b5, AObj.box [k0, k1]), (b2, AObj.box [ra, rb])]) (l₂ := (bx, AObj.arr 2 pre 0) :: dsx); simpa using h.symm)⟩
      rintro ⟨k, J, C, ds⟩ ⟨hk, hJ, hC, hr⟩
      dsimp only at hk hJ hC hr ⊢
      refine go ?_
      refine fork (fun hlt => go ?_) (fun hlt => ?_)
      · have hlt : k < ws.length := by omega
        generalize hO : [(b7, AObj.box [qa, qb]), (b5, AObj.box [k0, k1]), (b2, AObj.box [ra, rb])] = O at *
        cases hr with
        | nil => simp only [List.length_nil] at hC; omega
        | @empty s C ds r =>
          have hcell : (J ++ .str s :: .nils :: C)[mulN k 2 + 1]? = some .nils := by have := at_mid J (.str s) .nils C; rw [List.append_assoc] at this; rw [mulN_eq, ← hJ]; exact this
          refine VLoop.mk [20] Nat (fun i => [.int .i64 i]) (fun _ => (bx, .arr 2 (J ++ .str s :: .nils :: C) 0) :: (ds ++ O)) (fun i => i = 0) (fun _ => 0) 0 ?_ ?_
          · exact ⟨rfl, rfl, VSel.refl _⟩
          rintro q rfl
          refine go ?_
          refine VNth.mk _ hcell (go ?_)
          refine VGd.mk ⟨Nat.zero_le _, by show mulN k 2 + 0 < _; rw [mulN_eq, ← hJ]; simp⟩ (go ?_)
          simp only [List.length_cons] at hC
          refine ⟨⟨k + 1, J ++ [.str [103, 111, 110, 101], .nils], C, ds⟩, ⟨by dsimp only; omega, by simp only [List.length_append, List.length_cons, List.length_nil, hJ]; omega, by dsimp only; omega, r⟩, by dsimp only; omega, rfl, .cons 0 (congrArg (fun c => some (bx, AObj.arr 2 c 0)) (set_hd hJ _ _ _ _)) ?_⟩
          first | exact VSel.refl _ | exact VSel.skip1 _ _
        | @own s b m c hc hm C ds r =>
          refine VLoop.mk [20] KpJ (fun i => [.int .i64 i.k]) (fun i => (bx, .arr 2 (J ++ .str s :: .own b m :: C) 0) :: (b, .arr 3 i.c 0) :: (ds ++ O)) (fun i => i.k ≤ m ∧ i.c.length = m * 3) (fun i => m - i.k) ⟨0, c⟩ ?_ ?_
          · exact ⟨⟨Nat.zero_le _, hc⟩, rfl, .cons 0 rfl (VSel.of_perm (by rw [List.append_assoc]; exact List.perm_middle.symm))⟩
          rintro ⟨q, c⟩ ⟨hq, hc⟩
          dsimp only at hq hc ⊢
          have hcell : (J ++ .str s :: .own b m :: C)[mulN k 2 + 1]? = some (.own b m) := by have := at_mid J (.str s) (.own b m) C; rw [List.append_assoc] at this; rw [mulN_eq, ← hJ]; exact this
          refine go ?_
          refine VNth.mk _ hcell (go ?_)
          refine fork (fun hlq => go ?_) (fun hlq => go ?_)
          · have hlq : q < m := by omega
            refine VNth.mk _ hcell (go ?_)
            refine VGd.mk ⟨Nat.zero_le _, by show mulN q 3 + 3 ≤ _; rw [mulN_eq, hc]; omega⟩ (go ?_)
            exact ⟨⟨q + 1, _⟩, ⟨by dsimp only; omega, (put_len (by show mulN q 3 + 3 ≤ _; rw [mulN_eq, hc]; omega)).trans hc⟩, by dsimp only; omega, rfl, VSel.refl _⟩
          · refine VGd.mk ⟨Nat.zero_le _, by show mulN k 2 + 0 < _; rw [mulN_eq, ← hJ]; simp⟩ (go ?_)
            simp only [List.length_cons] at hC
            refine ⟨⟨k + 1, J ++ [.str [103, 111, 110, 101], .own b m], C, ds⟩, ⟨by dsimp only; omega, by simp only [List.length_append, List.length_cons, List.length_nil, hJ]; omega, by dsimp only; omega, r⟩, by dsimp only; omega, rfl, .cons 0 (congrArg (fun c => some (bx, AObj.arr 2 c 0)) (set_hd hJ _ _ _ _)) ?_⟩
            first | exact VSel.refl _ | exact VSel.skip1 _ _
      obtain rfl : k = ws.length := by omega
      refine go ?_
      refine VLoop.mk [21] Nat (fun i => [.int .i64 i]) (fun _ => [(b7, .box [qa, qb]), (b5, .box [k0, k1]), (b2, .box [ra, rb])]) (fun i => i = 0) (fun _ => 0) 0 ?_ ?_
      · exact ⟨rfl, rfl, (VSel.suf ds _).skip _⟩
      rintro k rfl
      refine go ?_
      refine VQ.mk _ (by refine go ?_; refine Fn.use g3 (go ?_); exact ⟨rfl, rfl⟩) (go ?_)
      refine VQ.mk _ (by refine go ?_; refine Fn.use g4 (go ?_); exact ⟨rfl, rfl⟩) (go ?_)
      refine VQ.mk _ (by refine go ?_; refine Fn.use g6 (go ?_); exact ⟨rfl, rfl⟩) (go ?_)
      refine VQ.mk _ (by refine go ?_; refine Fn.use g7 (go ?_); exact ⟨rfl, rfl⟩) (go ?_)
      refine VQ.mk _ (by refine go ?_; refine Fn.use g8 (go ?_); exact ⟨rfl, rfl⟩) (go ?_)
      refine VQ.mk _ (by refine go ?_; refine Fn.use g9 (go ?_); exact ⟨rfl, rfl⟩) (go ?_)
      refine VQ.mk _ (by refine go ?_; refine Fn.use g11 (go ?_); exact ⟨rfl, rfl⟩) (go ?_)
      refine VQ.mk _ (by refine go ?_; refine Fn.use g12 (go ?_); exact ⟨rfl, rfl⟩) (go ?_)
      by_cases he : e = 0
      · refine VIf.yes (by simp [he]) (go ?_)
        refine VRet.mk [] .nil ?_
        exact ⟨by simp [he], rfl⟩
      · obtain rfl : yn = 0 := by
          rcases hYn with h | h
          · exact h
          · exact absurd h he
        refine VIf.no (by simp [he]) (go ?_)
        refine VRet.mk [] .nil ?_
        exact ⟨by simp, rfl⟩
    | some bp cells dsp ep hn hr0 =>
      refine go ?_
      refine Fn.use (g10) (go ?_)
      refine Fn.use (g11) (go ?_)
      refine VLoop.mk [19] KpI (fun i => [.int .i64 i.k]) (fun i => (bx, .arr 2 (i.J ++ i.C) 0) :: (i.ds ++ ((bp, .arr 3 cells 0) :: (dsp ++ [(b7, .box [qa, qb]), (b5, .box [k0, k1]), (b2, .box [ra, rb])])))) (fun i => i.k ≤ ws.length ∧ i.J.length = i.k * 2 ∧ i.C.length = (ws.length - i.k) * 2 ∧ RestC i.C i.ds) (fun i => ws.length - i.k) ⟨0, [], pre, dsx⟩ ?_ ?_
      · exact ⟨⟨Nat.zero_le _, rfl, by rw [hdn.len]; rfl, hdn.rest hwb⟩, rfl, VSel.of_perm (by have h := List.perm_append_comm (l₁ := [(b7, AObj.box [qa, qb]), (b5, AObj.box [k0, k1]), (b2, AObj.box [ra, rb])]) (l₂ := (bx, AObj.arr 2 pre 0) :: (dsx ++ (bp, AObj.arr 3 cells 0) :: dsp)); simpa using h.symm)⟩
      rintro ⟨k, J, C, ds⟩ ⟨hk, hJ, hC, hr⟩
      dsimp only at hk hJ hC hr ⊢
      refine go ?_
      refine fork (fun hlt => go ?_) (fun hlt => ?_)
      · have hlt : k < ws.length := by omega
        generalize hO : ((bp, .arr 3 cells 0) :: (dsp ++ [(b7, .box [qa, qb]), (b5, .box [k0, k1]), (b2, .box [ra, rb])])) = O at *
        cases hr with
        | nil => simp only [List.length_nil] at hC; omega
        | @empty s C ds r =>
          have hcell : (J ++ .str s :: .nils :: C)[mulN k 2 + 1]? = some .nils := by have := at_mid J (.str s) .nils C; rw [List.append_assoc] at this; rw [mulN_eq, ← hJ]; exact this
          refine VLoop.mk [20] Nat (fun i => [.int .i64 i]) (fun _ => (bx, .arr 2 (J ++ .str s :: .nils :: C) 0) :: (ds ++ O)) (fun i => i = 0) (fun _ => 0) 0 ?_ ?_
          · exact ⟨rfl, rfl, VSel.refl _⟩
          rintro q rfl
          refine go ?_
          refine VNth.mk _ hcell (go ?_)
          refine VGd.mk ⟨Nat.zero_le _, by show mulN k 2 + 0 < _; rw [mulN_eq, ← hJ]; simp⟩ (go ?_)
          simp only [List.length_cons] at hC
          refine ⟨⟨k + 1, J ++ [.str [103, 111, 110, 101], .nils], C, ds⟩, ⟨by dsimp only; omega, by simp only [List.length_append, List.length_cons, List.length_nil, hJ]; omega, by dsimp only; omega, r⟩, by dsimp only; omega, rfl, .cons 0 (congrArg (fun c => some (bx, AObj.arr 2 c 0)) (set_hd hJ _ _ _ _)) ?_⟩
          first | exact VSel.refl _ | exact VSel.skip1 _ _
        | @own s b m c hc hm C ds r =>
          refine VLoop.mk [20] KpJ (fun i => [.int .i64 i.k]) (fun i => (bx, .arr 2 (J ++ .str s :: .own b m :: C) 0) :: (b, .arr 3 i.c 0) :: (ds ++ O)) (fun i => i.k ≤ m ∧ i.c.length = m * 3) (fun i => m - i.k) ⟨0, c⟩ ?_ ?_
          · exact ⟨⟨Nat.zero_le _, hc⟩, rfl, .cons 0 rfl (VSel.of_perm (by rw [List.append_assoc]; exact List.perm_middle.symm))⟩
          rintro ⟨q, c⟩ ⟨hq, hc⟩
          dsimp only at hq hc ⊢
          have hcell : (J ++ .str s :: .own b m :: C)[mulN k 2 + 1]? = some (.own b m) := by have := at_mid J (.str s) (.own b m) C; rw [List.append_assoc] at this; rw [mulN_eq, ← hJ]; exact this
          refine go ?_
          refine VNth.mk _ hcell (go ?_)
          refine fork (fun hlq => go ?_) (fun hlq => go ?_)
          · have hlq : q < m := by omega
            refine VNth.mk _ hcell (go ?_)
            refine VGd.mk ⟨Nat.zero_le _, by show mulN q 3 + 3 ≤ _; rw [mulN_eq, hc]; omega⟩ (go ?_)
            exact ⟨⟨q + 1, _⟩, ⟨by dsimp only; omega, (put_len (by show mulN q 3 + 3 ≤ _; rw [mulN_eq, hc]; omega)).trans hc⟩, by dsimp only; omega, rfl, VSel.refl _⟩
          · refine VGd.mk ⟨Nat.zero_le _, by show mulN k 2 + 0 < _; rw [mulN_eq, ← hJ]; simp⟩ (go ?_)
            simp only [List.length_cons] at hC
            refine ⟨⟨k + 1, J ++ [.str [103, 111, 110, 101], .own b m], C, ds⟩, ⟨by dsimp only; omega, by simp only [List.length_append, List.length_cons, List.length_nil, hJ]; omega, by dsimp only; omega, r⟩, by dsimp only; omega, rfl, .cons 0 (congrArg (fun c => some (bx, AObj.arr 2 c 0)) (set_hd hJ _ _ _ _)) ?_⟩
            first | exact VSel.refl _ | exact VSel.skip1 _ _
      obtain rfl : k = ws.length := by omega
      refine go ?_
      refine VLoop.mk [21] KpI (fun i => [.int .i64 i.k]) (fun i => (bp, .arr 3 (i.J ++ i.C) 0) :: (i.ds ++ [(b7, .box [qa, qb]), (b5, .box [k0, k1]), (b2, .box [ra, rb])])) (fun i => i.k ≤ l.length ∧ i.J.length = i.k * 3 ∧ i.C.length = (l.length - i.k) * 3 ∧ RestO i.C i.ds) (fun i => l.length - i.k) ⟨0, [], cells, dsp⟩ ?_ ?_
      · exact ⟨⟨Nat.zero_le _, rfl, hn, hr0⟩, rfl, (VSel.suf ds _).skip _⟩
      rintro ⟨k, J, C, ds⟩ ⟨hk, hJ, hC, hr⟩
      dsimp only at hk hJ hC hr ⊢
      refine go ?_
      refine fork (fun hlt => go ?_) (fun hlt => ?_)
      · have hlt : k < l.length := by omega
        generalize hO : [(b7, AObj.box [qa, qb]), (b5, AObj.box [k0, k1]), (b2, AObj.box [ra, rb])] = K at *
        cases hr with
        | nil => simp only [List.length_nil] at hC; omega
        | @cons kd n v s C ds hv r =>
          have hcell : (J ++ .int .i64 kd :: .int .i64 n :: v :: C)[mulN k 3 + 2]? = some v := by rw [mulN_eq, ← hJ]; exact at_two _ _ _ _ _
          refine VNth.mk _ hcell ?_
          cases hv with
          | leaf t hc hl =>
            rw [List.append_nil]
            cases t with
            | odd => simp [Tree.clean] at hc
            | none =>
              refine go ?_
              refine VAll.mk (fun b22 => go ?_)
              refine go ?_
              refine VLoop.mk [24] Nat (fun i => [.int .i64 i]) (fun _ => (b22, .box [.nils]) :: (bp, .arr 3 (J ++ .int .i64 kd :: .int .i64 n :: .nili :: C) 0) :: (ds ++ K)) (fun i => i = 0) (fun _ => 0) 0 ?_ ?_
              · exact ⟨rfl, rfl, VSel.refl _⟩
              rintro q rfl
              refine go ?_
              refine VGd.mk ⟨Nat.zero_le _, by show mulN k 3 + 3 ≤ _; rw [mulN_eq, ← hJ]; simp⟩ (go ?_)
              simp only [List.length_cons] at hC
              refine ⟨⟨k + 1, J ++ [.int .i64 9, .int .i64 0, .nili], C, ds⟩, ⟨by dsimp only; omega, by simp only [List.length_append, List.length_cons, List.length_nil, hJ]; omega, by dsimp only; omega, r⟩, by dsimp only; omega, rfl, .cons 1 (congrArg (fun c => some (bp, AObj.arr 3 c 0)) (set_three hJ _ _ _ _ _ _ _)) ?_⟩
              first | exact VSel.skip1 _ _ | exact VSel.skip1' _ _ _
            | int z =>
              refine go ?_
              refine VAll.mk (fun b22 => go ?_)
              refine go ?_
              refine VLoop.mk [24] Nat (fun i => [.int .i64 i]) (fun _ => (b22, .box [.nils]) :: (bp, .arr 3 (J ++ .int .i64 kd :: .int .i64 n :: valAV (.int z) :: C) 0) :: (ds ++ K)) (fun i => i = 0) (fun _ => 0) 0 ?_ ?_
              · exact ⟨rfl, rfl, VSel.refl _⟩
              rintro q rfl
              refine go ?_
              refine VGd.mk ⟨Nat.zero_le _, by show mulN k 3 + 3 ≤ _; rw [mulN_eq, ← hJ]; simp⟩ (go ?_)
              simp only [List.length_cons] at hC
              refine ⟨⟨k + 1, J ++ [.int .i64 9, .int .i64 0, .nili], C, ds⟩, ⟨by dsimp only; omega, by simp only [List.length_append, List.length_cons, List.length_nil, hJ]; omega, by dsimp only; omega, r⟩, by dsimp only; omega, rfl, .cons 1 (congrArg (fun c => some (bp, AObj.arr 3 c 0)) (set_three hJ _ _ _ _ _ _ _)) ?_⟩
              first | exact VSel.skip1 _ _ | exact VSel.skip1' _ _ _
            | str z =>
              refine go ?_
              refine VAll.mk (fun b22 => go ?_)
              refine go ?_
              refine VLoop.mk [24] Nat (fun i => [.int .i64 i]) (fun _ => (b22, .box [.nils]) :: (bp, .arr 3 (J ++ .int .i64 kd :: .int .i64 n :: valAV (.str z) :: C) 0) :: (ds ++ K)) (fun i => i = 0) (fun _ => 0) 0 ?_ ?_
              · exact ⟨rfl, rfl, VSel.refl _⟩
              rintro q rfl
              refine go ?_
              refine VGd.mk ⟨Nat.zero_le _, by show mulN k 3 + 3 ≤ _; rw [mulN_eq, ← hJ]; simp⟩ (go ?_)
              simp only [List.length_cons] at hC
              refine ⟨⟨k + 1, J ++ [.int .i64 9, .int .i64 0, .nili], C, ds⟩, ⟨by dsimp only; omega, by simp only [List.length_append, List.length_cons, List.length_nil, hJ]; omega, by dsimp only; omega, r⟩, by dsimp only; omega, rfl, .cons 1 (congrArg (fun c => some (bp, AObj.arr 3 c 0)) (set_three hJ _ _ _ _ _ _ _)) ?_⟩
              first | exact VSel.skip1 _ _ | exact VSel.skip1' _ _ _
            | bool z =>
              refine go ?_
              refine VAll.mk (fun b22 => go ?_)
              refine go ?_
              refine VLoop.mk [24] Nat (fun i => [.int .i64 i]) (fun _ => (b22, .box [.nils]) :: (bp, .arr 3 (J ++ .int .i64 kd :: .int .i64 n :: valAV (.bool z) :: C) 0) :: (ds ++ K)) (fun i => i = 0) (fun _ => 0) 0 ?_ ?_
              · exact ⟨rfl, rfl, VSel.refl _⟩
              rintro q rfl
              refine go ?_
              refine VGd.mk ⟨Nat.zero_le _, by show mulN k 3 + 3 ≤ _; rw [mulN_eq, ← hJ]; simp⟩ (go ?_)
              simp only [List.length_cons] at hC
              refine ⟨⟨k + 1, J ++ [.int .i64 9, .int .i64 0, .nili], C, ds⟩, ⟨by dsimp only; omega, by simp only [List.length_append, List.length_cons, List.length_nil, hJ]; omega, by dsimp only; omega, r⟩, by dsimp only; omega, rfl, .cons 1 (congrArg (fun c => some (bp, AObj.arr 3 c 0)) (set_three hJ _ _ _ _ _ _ _)) ?_⟩
              first | exact VSel.skip1 _ _ | exact VSel.skip1' _ _ _
            | quot z =>
              refine go ?_
              refine VAll.mk (fun b22 => go ?_)
              refine go ?_
              refine VLoop.mk [24] Nat (fun i => [.int .i64 i]) (fun _ => (b22, .box [.nils]) :: (bp, .arr 3 (J ++ .int .i64 kd :: .int .i64 n :: valAV (.quot z) :: C) 0) :: (ds ++ K)) (fun i => i = 0) (fun _ => 0) 0 ?_ ?_
              · exact ⟨rfl, rfl, VSel.refl _⟩
              rintro q rfl
              refine go ?_
              refine VGd.mk ⟨Nat.zero_le _, by show mulN k 3 + 3 ≤ _; rw [mulN_eq, ← hJ]; simp⟩ (go ?_)
              simp only [List.length_cons] at hC
              refine ⟨⟨k + 1, J ++ [.int .i64 9, .int .i64 0, .nili], C, ds⟩, ⟨by dsimp only; omega, by simp only [List.length_append, List.length_cons, List.length_nil, hJ]; omega, by dsimp only; omega, r⟩, by dsimp only; omega, rfl, .cons 1 (congrArg (fun c => some (bp, AObj.arr 3 c 0)) (set_three hJ _ _ _ _ _ _ _)) ?_⟩
              first | exact VSel.skip1 _ _ | exact VSel.skip1' _ _ _
            | box z =>
              refine go ?_
              refine VAll.mk (fun b22 => go ?_)
              refine go ?_
              refine VLoop.mk [24] Nat (fun i => [.int .i64 i]) (fun _ => (b22, .box [.nils]) :: (bp, .arr 3 (J ++ .int .i64 kd :: .int .i64 n :: valAV (.box z) :: C) 0) :: (ds ++ K)) (fun i => i = 0) (fun _ => 0) 0 ?_ ?_
              · exact ⟨rfl, rfl, VSel.refl _⟩
              rintro q rfl
              refine go ?_
              refine VGd.mk ⟨Nat.zero_le _, by show mulN k 3 + 3 ≤ _; rw [mulN_eq, ← hJ]; simp⟩ (go ?_)
              simp only [List.length_cons] at hC
              refine ⟨⟨k + 1, J ++ [.int .i64 9, .int .i64 0, .nili], C, ds⟩, ⟨by dsimp only; omega, by simp only [List.length_append, List.length_cons, List.length_nil, hJ]; omega, by dsimp only; omega, r⟩, by dsimp only; omega, rfl, .cons 1 (congrArg (fun c => some (bp, AObj.arr 3 c 0)) (set_three hJ _ _ _ _ _ _ _)) ?_⟩
              first | exact VSel.skip1 _ _ | exact VSel.skip1' _ _ _
            | call z =>
              refine go ?_
              refine VAll.mk (fun b22 => go ?_)
              refine go ?_
              refine VLoop.mk [24] Nat (fun i => [.int .i64 i]) (fun _ => (b22, .box [.nils]) :: (bp, .arr 3 (J ++ .int .i64 kd :: .int .i64 n :: valAV (.call z) :: C) 0) :: (ds ++ K)) (fun i => i = 0) (fun _ => 0) 0 ?_ ?_
              · exact ⟨rfl, rfl, VSel.refl _⟩
              rintro q rfl
              refine go ?_
              refine VGd.mk ⟨Nat.zero_le _, by show mulN k 3 + 3 ≤ _; rw [mulN_eq, ← hJ]; simp⟩ (go ?_)
              simp only [List.length_cons] at hC
              refine ⟨⟨k + 1, J ++ [.int .i64 9, .int .i64 0, .nili], C, ds⟩, ⟨by dsimp only; omega, by simp only [List.length_append, List.length_cons, List.length_nil, hJ]; omega, by dsimp only; omega, r⟩, by dsimp only; omega, rfl, .cons 1 (congrArg (fun c => some (bp, AObj.arr 3 c 0)) (set_three hJ _ _ _ _ _ _ _)) ?_⟩
              first | exact VSel.skip1 _ _ | exact VSel.skip1' _ _ _
            | list z =>
              obtain rfl : z = [] := hl z rfl
              refine go ?_
              refine VAll.mk (fun b22 => go ?_)
              refine go ?_
              refine VLoop.mk [24] Nat (fun i => [.int .i64 i]) (fun _ => (b22, .box [.fz (valAVs []) 0 false]) :: (bp, .arr 3 (J ++ .int .i64 kd :: .int .i64 n :: valAV (.list []) :: C) 0) :: (ds ++ K)) (fun i => i = 0) (fun _ => 0) 0 ?_ ?_
              · exact ⟨rfl, rfl, VSel.refl _⟩
              rintro q rfl
              refine go ?_
              refine VGd.mk ⟨Nat.zero_le _, by show mulN k 3 + 3 ≤ _; rw [mulN_eq, ← hJ]; simp⟩ (go ?_)
              simp only [List.length_cons] at hC
              refine ⟨⟨k + 1, J ++ [.int .i64 9, .int .i64 0, .nili], C, ds⟩, ⟨by dsimp only; omega, by simp only [List.length_append, List.length_cons, List.length_nil, hJ]; omega, by dsimp only; omega, r⟩, by dsimp only; omega, rfl, .cons 1 (congrArg (fun c => some (bp, AObj.arr 3 c 0)) (set_three hJ _ _ _ _ _ _ _)) ?_⟩
              first | exact VSel.skip1 _ _ | exact VSel.skip1' _ _ _
          | list b m c hcm hm =>
            refine go ?_
            refine VAll.mk (fun b22 => go ?_)
            refine go ?_
            refine VLoop.mk [24] KpJ (fun i => [.int .i64 i.k]) (fun i => (b22, .box [.own b m]) :: (bp, .arr 3 (J ++ .int .i64 kd :: .int .i64 n :: .iface 60 (.agg [.own b m]) :: C) 0) :: (b, .arr 1 i.c 0) :: (ds ++ K)) (fun i => i.k ≤ m ∧ i.c.length = m) (fun i => m - i.k) ⟨0, c⟩ ?_ ?_
            · exact ⟨⟨Nat.zero_le _, hcm⟩, rfl, .cons 0 rfl (.cons 0 rfl (VSel.of_perm (by rw [List.append_assoc]; exact List.perm_middle.symm)))⟩
            rintro ⟨q, c⟩ ⟨hq, hcm⟩
            dsimp only at hq hcm ⊢
            refine go ?_
            refine fork (fun hlq => go ?_) (fun hlq => go ?_)
            · have hlq : q < m := by omega
              refine VGd.mk ⟨Nat.zero_le _, by show mulN q 1 < _; rw [mulN_eq]; omega⟩ (go ?_)
              exact ⟨⟨q + 1, _⟩, ⟨by dsimp only; omega, (List.length_set ..).trans hcm⟩, by dsimp only; omega, rfl, VSel.refl _⟩
            · refine VGd.mk ⟨Nat.zero_le _, by show mulN k 3 + 3 ≤ _; rw [mulN_eq, ← hJ]; simp⟩ (go ?_)
              simp only [List.length_cons] at hC
              refine ⟨⟨k + 1, J ++ [.int .i64 9, .int .i64 0, .nili], C, ds⟩, ⟨by dsimp only; omega, by simp only [List.length_append, List.length_cons, List.length_nil, hJ]; omega, by dsimp only; omega, r⟩, by dsimp only; omega, rfl, .cons 1 (congrArg (fun c => some (bp, AObj.arr 3 c 0)) (set_three hJ _ _ _ _ _ _ _)) ?_⟩
              first | exact VSel.skip1 _ _ | exact VSel.skip1' _ _ _
      obtain rfl : k = l.length := by omega
      obtain rfl : C = [] := List.length_eq_zero_iff.1 (by omega)
      cases hr
      refine go ?_
      refine VQ.mk _ (by refine go ?_; refine Fn.use g3 (go ?_); exact ⟨rfl, rfl⟩) (go ?_)
      refine VQ.mk _ (by refine go ?_; refine Fn.use g4 (go ?_); exact ⟨rfl, rfl⟩) (go ?_)
      refine VQ.mk _ (by refine go ?_; refine Fn.use g6 (go ?_); exact ⟨rfl, rfl⟩) (go ?_)
      refine VQ.mk _ (by refine go ?_; refine Fn.use g7 (go ?_); exact ⟨rfl, rfl⟩) (go ?_)
      refine VQ.mk _ (by refine go ?_; refine Fn.use g8 (go ?_); exact ⟨rfl, rfl⟩) (go ?_)
      refine VQ.mk _ (by refine go ?_; refine Fn.use g9 (go ?_); exact ⟨rfl, rfl⟩) (go ?_)
      refine VQ.mk _ (by refine go ?_; refine Fn.use g11 (go ?_); exact ⟨rfl, rfl⟩) (go ?_)
      refine VQ.mk _ (by refine go ?_; refine Fn.use g12 (go ?_); exact ⟨rfl, rfl⟩) (go ?_)
      by_cases he : e = 0
      · refine VIf.yes (by simp [he]) (go ?_)
        refine VRet.mk [] .nil ?_
        exact ⟨by simp [he], rfl⟩
      · obtain rfl : yn = 0 := by
          rcases hYn with h | h
          · exact h
          · exact absurd h he
        refine VIf.no (by simp [he]) (go ?_)
        refine VRet.mk [] .nil ?_
        exact ⟨by simp, rfl⟩
end Go.Proofs.YtonkeklageehbaaGreatDoor
