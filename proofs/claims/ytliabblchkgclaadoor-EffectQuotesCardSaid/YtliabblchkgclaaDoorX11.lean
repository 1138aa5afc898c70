/- Effects: the law EffectQuotes. Conditions: the slices are no longer than memory can hold. -/
import Derived.Test.YtliabblchkgclaaDoorX10
set_option linter.all false
set_option maxRecDepth 20000
namespace Go.Proofs.YtliabblchkgclaaDoor
open Go Go.Av
theorem run_at0 {L : List Tree} {n : Nat} {t : EfS} (h : runL K0 L ⟨n, 0, []⟩ = .ok t) (m : Nat) (c : Int) : runL K0 L ⟨m, c, []⟩ = atL (n - t.left) m (t.inn + c) t.stk := by
  have := runL_at hk0 h m c
  rwa [show (0 : Int) + c = c by omega] at this
theorem q_1 {L : List Tree} (h : (of0 L).2.2 ≠ 0) : (of0 [.quot L, callW]).2.2 ≠ 0 := by
  intro hc
  obtain ⟨h1, t, h2, h3⟩ := (of0_code _).1 hc
  rw [show callW = .call [99, 97, 108, 108] from rfl, run_call] at h2
  have hl := (runL_gr hk0 h2).left
  have e := run_at0 h2 4096 0
  rw [show atL (4094 - t.left) 4096 (t.inn + 0) t.stk = .ok ⟨4096 - (4094 - t.left), t.inn + 0, t.stk⟩ from if_pos (by omega)] at e
  refine h ((of0_code _).2 ⟨check_own h1, _, e, ?_⟩)
  dsimp only
  rw [show t.inn + 0 = t.inn by omega]; exact h3
theorem q_2 {L : List Tree} (h : (of0 L).2.2 = 0) (hc : (of0 [.quot L, callW]).2.2 ≠ 0) : (checkR [.quot L, callW] = false ∧ (of0 [.quot L, callW]).2.2 = 1) ∨ (of0 [.quot L, callW]).2.2 = 11 := by
  obtain ⟨h1, t, h2, h3⟩ := (of0_code _).1 h
  cases hk : checkR [.quot L, callW] with
  | false => exact .inl ⟨rfl, by unfold of0; rw [if_pos hk]⟩
  | true =>
    have e := run_at0 h2 4094 0
    refine .inr ?_
    by_cases hu : 4096 - t.left ≤ 4094
    · exfalso
      refine hc ((of0_code _).2 ⟨hk, ⟨4094 - (4096 - t.left), t.inn + 0, t.stk⟩, ?_, ?_⟩)
      · rw [show callW = .call [99, 97, 108, 108] from rfl, run_call, e]; exact if_pos hu
      · dsimp only
        rw [show t.inn + 0 = t.inn by omega]; exact h3
    · unfold of0
      rw [if_neg (by rw [hk]; simp), show callW = .call [99, 97, 108, 108] from rfl, run_call, e]
      rw [show atL (4096 - t.left) 4094 (t.inn + 0) t.stk = .error 11 from if_neg hu]
      rfl
theorem q_3 {L : List Tree} (h : (of0 L).2.2 = 0) (hc : (of0 [.quot L, callW]).2.2 = 0) : (of0 [.quot L, callW]).1 = (of0 L).1 ∧ (of0 [.quot L, callW]).2.1 = (of0 L).2.1 := by
  obtain ⟨h1, t, h2, h3⟩ := (of0_code _).1 h
  obtain ⟨c1, u, c2, c3⟩ := (of0_code _).1 hc
  rw [of0_ok h1 h2 h3, of0_ok c1 c2 c3]
  rw [show callW = .call [99, 97, 108, 108] from rfl, run_call, run_at0 h2 4094 0] at c2
  unfold atL at c2
  split at c2
  · cases c2
    exact ⟨by dsimp only; omega, rfl⟩
  · cases c2
theorem q_4 {L : List Tree} (h : (of0 L).2.2 = 0) (hc : (of0 [.quot L, callW]).2.2 = 0) :
    ((of0 [.quot L, dipW]).2.2 = 0 → (of0 [.quot L, dipW]).1 = (of0 L).1 + 1 ∧ (of0 [.quot L, dipW]).2.1 = (of0 L).2.1 + 1) ∧ ((of0 [.quot L, dipW]).2.2 ≠ 0 → (of0 [.quot L, dipW]).2.2 = 11) := by
  obtain ⟨h1, t, h2, h3⟩ := (of0_code _).1 h
  obtain ⟨c1, u, c2, c3⟩ := (of0_code _).1 hc
  have hd : checkR [.quot L, dipW] = true := by
    rw [← c1]; exact check_word nm_dip nm_call
  rw [show callW = .call [99, 97, 108, 108] from rfl, run_call, run_at0 h2 4094 0] at c2
  have hu : 4096 - t.left ≤ 4094 := by
    unfold atL at c2
    split at c2
    · assumption
    · cases c2
  have e : runL K0 [.quot L, dipW] ⟨4096, 0, []⟩ = .ok (pushS ⟨4094 - (4096 - t.left), t.inn + 1, t.stk⟩ none) := by
    rw [show dipW = .call [100, 105, 112] from rfl, run_dip, run_at0 h2 4094 1, show atL (4096 - t.left) 4094 (t.inn + 1) t.stk = .ok ⟨4094 - (4096 - t.left), t.inn + 1, t.stk⟩ from if_pos hu]
  rw [of0_ok h1 h2 h3]
  by_cases hf : fitsR (t.inn + 1) ((t.stk.length + 1 : Nat) : Int) = true
  · rw [of0_ok hd e hf]
    refine ⟨fun _ => ⟨rfl, ?_⟩, fun h => absurd rfl h⟩
    dsimp only [pushS]
    rw [List.length_cons]; omega
  · have e2 : of0 [.quot L, dipW] = (0, 0, 11) := by
      unfold of0
      rw [if_neg (by rw [hd]; simp), e]
      unfold fin0
      exact if_neg hf
    rw [e2]
    exact ⟨(fun h => by cases h), fun _ => rfl⟩
theorem q_5 (A B : List Tree) : ((of0 [.quot A, .quot B, ifW]).2.2 = 0 ↔ (of0 [.quot B, .quot A, ifW]).2.2 = 0) ∧ (of0 [.quot A, .quot B, ifW]).1 = (of0 [.quot B, .quot A, ifW]).1 ∧ (of0 [.quot A, .quot B, ifW]).2.1 = (of0 [.quot B, .quot A, ifW]).2.1 := by
  have half : ∀ A B : List Tree, (of0 [.quot A, .quot B, ifW]).2.2 = 0 → of0 [.quot B, .quot A, ifW] = of0 [.quot A, .quot B, ifW] := by
    intro A B h
    obtain ⟨h1, t, h2, h3⟩ := (of0_code _).1 h
    rw [of0_ok h1 h2 h3]
    rw [show ifW = .call [105, 102] from rfl, run_if] at h2
    exact of0_ok ((check_swap A B).symm.trans h1) (by rw [show ifW = .call [105, 102] from rfl, run_if]; exact ifE_swap h2) h3
  by_cases h : (of0 [.quot A, .quot B, ifW]).2.2 = 0
  · rw [half A B h]; exact ⟨Iff.rfl, rfl, rfl⟩
  · by_cases h2 : (of0 [.quot B, .quot A, ifW]).2.2 = 0
    · rw [half B A h2]; exact ⟨Iff.rfl, rfl, rfl⟩
    · obtain ⟨a1, a2⟩ := of0_bad h
      obtain ⟨b1, b2⟩ := of0_bad h2
      exact ⟨⟨fun e => absurd e h, fun e => absurd e h2⟩, by rw [a1, b1], by rw [a2, b2]⟩
theorem own_range {L : List Tree} (h : (of0 L).2.2 = 0) : 0 ≤ (of0 L).1 ∧ (of0 L).1 ≤ 16 ∧ 0 ≤ (of0 L).2.1 ∧ (of0 L).2.1 ≤ 16 := by
  obtain ⟨h1, t, h2, h3⟩ := (of0_code _).1 h
  rw [of0_ok h1 h2 h3]
  exact fitsR_iff.1 h3
theorem meas_called (l : List RV) : (measR (.mk 5 0 [] [.mk 5 0 [] l, .mk 7 0 [99, 97, 108, 108] []]) 1024 0).2.2 = checkR [.quot (itemTs l), callW] := by
  rw [meas_norm false _ _ _ (fun _ => by simp [RV.kind])]
  show (measR (valRV (valT _)) 1024 0).2.2 = _
  rw [← meas_top]
  have e : valT (.mk 5 0 [] [.mk 5 0 [] l, .mk 7 0 [99, 97, 108, 108] []]) = .quot [.quot (itemTs l), callW] := by
    rw [valT, if_neg (by omega), if_neg (by omega), if_neg (by omega), if_neg (by omega), if_pos rfl, itemTs_cons, itemTs_cons, itemTs]
    congr 1
  rw [e]; rfl
theorem ACalls.argw {P : Program} {f : FuncId} {args args' : List AV} {st : St} {Post : AOut → St → Prop} (h : ACalls P f args' st Post) (hw : ∀ g us, RelL g false args us → RelL g false args' us) : ACalls P f args st Post :=
  ⟨h.ent, fun W F g w us hl hr inv => h.run W F g w us hl (hw g us hr) inv⟩
theorem rel_full {g : Gh} {cells : List AV} {n : Nat} {u : Value} (h : Rel g (.fz cells n true) u) : Rel g (.fz cells n false) u := by
  obtain ⟨a, cap, e, h1, _, h3⟩ := h
  exact ⟨a, cap, e, h1, (fun h => by cases h), h3⟩
theorem argw_meas {a b c x y : AV} {cells : List AV} {n : Nat} (g : Gh) (us : List Value) (h : RelL g false [.agg [a, b, c, .fz cells n true], x, y] us) : RelL g false [.agg [a, b, c, .fz cells n false], x, y] us := by
  obtain ⟨u, ws, rfl, ⟨⟨vs, rfl, h1⟩, h2⟩, h3⟩ := h
  obtain ⟨u1, w1, rfl, k1, u2, w2, rfl, k2, u3, w3, rfl, k3, u4, w4, rfl, ⟨k4, k5⟩, k6⟩ := h1
  exact ⟨_, _, rfl, ⟨⟨_, rfl, _, _, rfl, k1, _, _, rfl, k2, _, _, rfl, k3, _, _, rfl, ⟨rel_full k4, k5⟩, k6⟩, h2⟩, h3⟩
theorem inp_quot {l : List RV} (hl : l.length ≤ 2513169434916) (hi : inpAll l = true) : (RV.mk 5 0 [] l).inp = true := by
  simp only [RV.inp, hi, Bool.and_true, Bool.and_eq_true, decide_eq_true_eq, List.length_nil]; omega
theorem itemT_quot (l : List RV) : itemT (.mk 5 0 [] l) = .quot (itemTs l) := by
  rw [itemT, if_neg (by simp [RV.knd]), valT, if_neg (by omega), if_neg (by omega), if_neg (by omega), if_neg (by omega), if_pos rfl]

set_option maxHeartbeats 4000000 in
theorem f_EffectQuotes (l m : List RV) (hl : l.length ≤ 2513169434916 ∧ inpAll l = true) (hm : m.length ≤ 2513169434916 ∧ inpAll m = true) :
    Av.Fn Tryd.prog 3 [.fz (rvsC l) l.length false, .fz (rvsC m) m.length false] (.bool true) := by
  obtain ⟨hl1, hl2⟩ := hl
  obtain ⟨hm1, hm2⟩ := hm
  have hI := f_ItemsOf hl2 hl1
  have hq := f_ItemOf (inp_quot hl1 hl2)
  have hr := f_ItemOf (inp_quot hm1 hm2)
  rw [itemT_quot, rvAV] at hq hr
  have hcl : cleanAll (itemTs l) = true := inp_cleanI l hl2
  have hcm : cleanAll (itemTs m) = true := inp_cleanI m hm2
  have hnl : nmSAll (itemTs l) = true := inp_nmSI l hl2
  have hnm : nmSAll (itemTs m) = true := inp_nmSI m hm2
  have cq : (Tree.quot (itemTs l)).clean = true := by simp only [Tree.clean, Bool.and_eq_true, decide_eq_true_eq]; exact ⟨by rw [itemTs_length]; exact hl1, hcl⟩
  have cr : (Tree.quot (itemTs m)).clean = true := by simp only [Tree.clean, Bool.and_eq_true, decide_eq_true_eq]; exact ⟨by rw [itemTs_length]; exact hm1, hcm⟩
  have nq : (Tree.quot (itemTs l)).nmS = true := by simp only [Tree.nmS]; exact hnl
  have nr : (Tree.quot (itemTs m)).nmS = true := by simp only [Tree.nmS]; exact hnm
  have cw : ∀ t : List Tree, (∀ x ∈ t, x = .quot (itemTs l) ∨ x = .quot (itemTs m) ∨ x = callW ∨ x = dipW ∨ x = ifW) → t.length ≤ 3 → (Tree.quot t).clean = true ∧ (Tree.quot t).nmS = true := by
    intro t ht h3
    simp only [Tree.clean, Tree.nmS, Bool.and_eq_true, decide_eq_true_eq]
    have : ∀ t : List Tree, (∀ x ∈ t, x = .quot (itemTs l) ∨ x = .quot (itemTs m) ∨ x = callW ∨ x = dipW ∨ x = ifW) → cleanAll t = true ∧ nmSAll t = true := by
      intro t
      induction t with
      | nil => intro _; exact ⟨rfl, rfl⟩
      | cons x r ih =>
        intro h
        obtain ⟨i1, i2⟩ := ih fun y hy => h y (List.mem_cons_of_mem _ hy)
        simp only [cleanAll, nmSAll, i1, i2, Bool.and_true]
        rcases h x (List.mem_cons_self ..) with rfl | rfl | rfl | rfl | rfl
        · exact ⟨cq, nq⟩
        · exact ⟨cr, nr⟩
        · exact ⟨rfl, rfl⟩
        · exact ⟨rfl, rfl⟩
        · exact ⟨rfl, rfl⟩
    exact ⟨⟨by omega, (this t ht).1⟩, (this t ht).2⟩
  have ofs : ∀ t : List Tree, (∀ x ∈ t, x = .quot (itemTs l) ∨ x = .quot (itemTs m) ∨ x = callW ∨ x = dipW ∨ x = ifW) → t.length ≤ 3 →
      Av.Fn Tryd.prog 8 [.fz (t.map itemAV) t.length false, .fz [] 0 false] (ofV (of0 t)) := by
    intro t ht h3
    obtain ⟨h1, h2⟩ := cw t ht h3
    have := f_Of t [] h1 h2 (by simp)
    rw [ofR_nil, itemAVs_map] at this
    exact this
  have hO1 := f_Of (itemTs l) [] cq nq (by simp)
  rw [ofR_nil, itemTs_length] at hO1
  have hO2 := ofs [.quot (itemTs l), callW] (by simp) (by simp)
  have hO3 := ofs [.quot (itemTs l), dipW] (by simp) (by simp)
  have hO4 := ofs [.quot (itemTs l), .quot (itemTs m), ifW] (by simp) (by simp)
  have hO5 := ofs [.quot (itemTs m), .quot (itemTs l), ifW] (by simp) (by simp)
  have k1 := q_1 (L := itemTs l)
  have k2 := q_2 (L := itemTs l)
  have k3 := q_3 (L := itemTs l)
  have k4 := q_4 (L := itemTs l)
  have k5 := q_5 (itemTs l) (itemTs m)
  have k6 := own_range (L := itemTs l)
  have hM := meas_called l
  have hfit : (of0 (itemTs l)).2.2 = 0 → fitAll l = true := by
    intro h
    have h1 := ((of0_code _).1 h).1
    unfold checkR at h1
    rw [measT, if_neg (by omega)] at h1
    exact fits_of true l _ _ _ hl2 h1
  generalize of0 (itemTs l) = w1 at hO1 k1 k2 k3 k4 k6 hfit
  generalize of0 [.quot (itemTs l), callW] = w2 at hO2 k1 k2 k3 k4
  generalize of0 [.quot (itemTs l), dipW] = w3 at hO3 k4
  generalize of0 [.quot (itemTs l), .quot (itemTs m), ifW] = w4 at hO4 k5
  generalize of0 [.quot (itemTs m), .quot (itemTs l), ifW] = w5 at hO5 k5
  obtain ⟨i1, u1, e1⟩ := w1
  obtain ⟨i2, u2, e2⟩ := w2
  obtain ⟨i3, u3, e3⟩ := w3
  obtain ⟨i4, u4, e4⟩ := w4
  obtain ⟨i5, u5, e5⟩ := w5
  dsimp only at k1 k2 k3 k4 k5 k6 hfit
  dsimp only [List.map, List.length, Nat.zero_add, Nat.reduceAdd] at hO2 hO3 hO4 hO5
  refine ACalls.of_W tb_ok (fn := Tryd.f3) (n := 132) (by kernel_rfl) rfl (by kernel_rfl) rfl rfl (by simp) (go ?_)
  refine Fn.use (f_awake09) (go ?_)
  refine Fn.use (hq) (go ?_)
  refine Fn.use (hr) (go ?_)
  refine Fn.use (hI) (go ?_)
  refine Fn.use (hO1) (go ?_)
  refine VAll.mk (fun b7 => go ?_)
  refine Fn.use (hO2) (go ?_)
  refine VAll.mk (fun b9 => go ?_)
  refine fork (fun h1 => go ?_) (fun h1 => go ?_)
  · have h1 : e1 ≠ 0 := by simpa using h1
    refine VRet.mk [] .nil ?_
    have := k1 h1
    refine ⟨?_, rfl⟩
    simp [this]
  have h1 : e1 = 0 := by simpa using h1
  refine fork (fun h2 => go ?_) (fun h2 => go ?_)
  · have h2 : e2 ≠ 0 := by simpa using h2
    have hfa := hfit h1
    have hMs := f_Measure (RV.deep (.mk 5 0 [] [.mk 5 0 [] l, .mk 7 0 [99, 97, 108, 108] []])) (.mk 5 0 [] [.mk 5 0 [] l, .mk 7 0 [99, 97, 108, 108] []]) 1024 0 (Nat.le_refl _) (by simp [RV.fit, fitAll, hfa, hl1]) (by omega) (by omega)
    have hre : rvAV (.mk 5 0 [] [.mk 5 0 [] l, .mk 7 0 [99, 97, 108, 108] []]) = [.int .i64 5, .int .i64 0, .str [], .fz [.int .i64 5, .int .i64 0, .str [], .fz (rvsC l) l.length false, .int .i64 7, .int .i64 0, .str [99, 97, 108, 108], .fz [] 0 false] 2 false] := by
      simp [rvAV, rvsC]
    rw [hre] at hMs
    have hk2 := k2 h1 h2
    rw [← hM] at hk2
    generalize measR (.mk 5 0 [] [.mk 5 0 [] l, .mk 7 0 [99, 97, 108, 108] []]) 1024 0 = mr at hMs hk2
    refine ACalls.argw ?_ argw_meas
    refine Fn.use (hMs) (go ?_)
    obtain ⟨ms, md, mo⟩ := mr
    dsimp only at hk2
    cases mo with
    | true =>
      have h11 : e2 = 11 := by
        rcases hk2 with ⟨h, _⟩ | h
        · cases h
        · exact h
      refine go ?_
      refine VRet.mk [] .nil ?_
      exact ⟨by simp [h11], rfl⟩
    | false =>
      refine go ?_
      refine fork (fun h10 => go ?_) (fun h10 => go ?_)
      · refine VRet.mk [] .nil ?_
        exact ⟨rfl, rfl⟩
      · have h10 : e2 ≠ 1 := by simpa using h10
        have h11 : e2 = 11 := by
          rcases hk2 with ⟨_, h⟩ | h
          · exact absurd h h10
          · exact h
        refine VRet.mk [] .nil ?_
        exact ⟨by simp [h11], rfl⟩
  have h2 : e2 = 0 := by simpa using h2
  obtain ⟨k3a, k3b⟩ := k3 h1 h2
  obtain ⟨k4a, k4b⟩ := k4 h1 h2
  obtain ⟨r1, r2, r3, r4⟩ := k6 h1
  subst k3a
  subst k3b
  refine VIf.no (by simp) (go ?_)
  refine Fn.use (hO3) (go ?_)
  refine VAll.mk (fun b14 => go ?_)
  refine fork (fun h3 => go ?_) (fun h3 => go ?_)
  · have h3 : e3 = 0 := by simpa using h3
    obtain ⟨k4c, k4d⟩ := k4a h3
    subst k4c
    subst k4d
    refine go ?_
    refine VIf.no (by simp) (go ?_)
    refine VInt.fit (by dsimp only; omega) (by dsimp only; omega) (go ?_)
    refine VIf.no (by simp) (go ?_)
    refine VIf.no (by show (!decide (e3 = 0)) = false; rw [decide_eq_true h3]; rfl) (go ?_)
    refine Fn.use (hO4) (go ?_)
    refine VAll.mk (fun b15 => go ?_)
    refine Fn.use (hO5) (go ?_)
    refine VAll.mk (fun b17 => go ?_)
    obtain ⟨z1, z2, z3⟩ := k5
    have z1 : decide (e4 = 0) = decide (e5 = 0) := by
      by_cases he : e4 = 0
      · rw [decide_eq_true he, decide_eq_true (z1.1 he)]
      · rw [decide_eq_false he, decide_eq_false (fun h => he (z1.2 h))]
    refine VIf.yes (by dsimp only; rw [z1]; simp) (go ?_)
    refine VRet.mk [] .nil ?_
    refine ⟨?_, rfl⟩
    simp [z2, z3]
  · have h3 : e3 ≠ 0 := by simpa using h3
    have h11 := k4b h3
    refine VIf.yes (by simp [h11]) (go ?_)
    refine VIf.no (by simp [h11]) (go ?_)
    refine Fn.use (hO4) (go ?_)
    refine VAll.mk (fun b15 => go ?_)
    refine Fn.use (hO5) (go ?_)
    refine VAll.mk (fun b17 => go ?_)
    obtain ⟨z1, z2, z3⟩ := k5
    have z1 : decide (e4 = 0) = decide (e5 = 0) := by
      by_cases he : e4 = 0
      · rw [decide_eq_true he, decide_eq_true (z1.1 he)]
      · rw [decide_eq_false he, decide_eq_false (fun h => he (z1.2 h))]
    refine VIf.yes (by dsimp only; rw [z1]; simp) (go ?_)
    refine VRet.mk [] .nil ?_
    refine ⟨?_, rfl⟩
    simp [z2, z3]
end Go.Proofs.YtliabblchkgclaaDoor
