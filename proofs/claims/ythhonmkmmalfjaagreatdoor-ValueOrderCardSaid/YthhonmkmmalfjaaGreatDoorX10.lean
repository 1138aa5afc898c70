/- Package value: Check, Equal, Copy, Text, Size: the walks. Conditions: as each says. ValueOrder: the walk. Conditions: as it says. -/
import Derived.Test.YthhonmkmmalfjaaGreatDoorX9
set_option linter.all false
set_option maxRecDepth 20000
namespace Go.Proofs.YthhonmkmmalfjaaGreatDoor
open Go Go.Av
theorem f_vCheck {t : Tree} (hc : t.clean = true) (hs : t.nmS = true) : Av.Fn Tryz.prog 6 [valAV t] (.int .i64 (if (measT false t 1024 0).isSome = true then 0 else 1)) := by
  have h := f_tCheck hc hs
  refine ACalls.of_W tb_ok (fn := Tryz.f6) (n := 5) (by kernel_rfl) rfl (by kernel_rfl) rfl rfl (by simp) (go ?_)
  refine Fn.use (h) (go ?_)
  refine VRet.mk [] .nil ?_
  exact ⟨rfl, rfl⟩
def equalV (t u : Tree) : AV := if (measT false t 1024 0).isSome = true ∧ (measT false u 1024 0).isSome = true then .tup [.bool (sameV (valRV t) (valRV u)), .int .i64 0] else .tup [.bool false, .int .i64 1]
theorem f_Equal {t u : Tree} (hct : t.clean = true) (hcu : u.clean = true) (hst : t.nmS = true) (hsu : u.nmS = true) : Av.Fn Tryz.prog 7 [valAV t, valAV u] (equalV t u) := by
  have h1 := f_vCheck hct hst
  have h2 := f_vCheck hcu hsu
  have h3 := fun ht hu => f_tSame hct hcu (meas_full false t 1024 0 ht) (meas_full false u 1024 0 hu)
  unfold equalV
  generalize (measT false t 1024 0).isSome = p at h1 h3 ⊢
  generalize (measT false u 1024 0).isSome = q at h2 h3 ⊢
  refine ACalls.of_W tb_ok (fn := Tryz.f7) (n := 17) (by kernel_rfl) rfl (by kernel_rfl) rfl rfl (by simp) (go ?_)
  refine Fn.use (h1) (go ?_)
  cases p with
  | false =>
    refine go ?_
    refine VRet.mk [] .nil ?_
    exact ⟨rfl, rfl⟩
  | true =>
    refine go ?_
    refine Fn.use (h2) (go ?_)
    cases q with
    | false =>
      refine go ?_
      refine VRet.mk [] .nil ?_
      exact ⟨rfl, rfl⟩
    | true =>
      refine go ?_
      refine Fn.use (h3 rfl rfl) (go ?_)
      refine VRet.mk [] .nil ?_
      exact ⟨rfl, rfl⟩
theorem f_Copy {t : Tree} (hc : t.clean = true) (hs : t.nmS = true) (hm : (measT false t 1024 0).isSome = true) : Av.Fn Tryz.prog 8 [valAV t] (.tup [valAV t, .int .i64 0]) := by
  have h1 := f_vCheck hc hs
  have h2 := f_Clone hc
  rw [if_pos hm] at h1
  generalize valAV t = v at h1 h2
  refine ACalls.of_W tb_ok (fn := Tryz.f8) (n := 12) (by kernel_rfl) rfl (by kernel_rfl) rfl rfl (by simp) (go ?_)
  refine Fn.use (h1) (go ?_)
  refine Fn.use (h2) (go ?_)
  refine VRet.mk [] .nil ?_
  exact ⟨rfl, rfl⟩
theorem f_VText {t : Tree} (hc : t.clean = true) (hs : t.nmS = true) (hm : (measT false t 1024 0).isSome = true) (hn : t.nums = true) (hl : tlen t ≤ 1000000000) : Av.Fn Tryz.prog 9 [valAV t] (.tup [.str (textT t), .int .i64 0]) := by
  have h1 := f_vCheck hc hs
  have h2 := f_Text (meas_full false t 1024 0 hm) hn hl
  rw [if_pos hm] at h1
  generalize textT t = s at h2 ⊢
  generalize valAV t = v at h1 h2 ⊢
  refine ACalls.of_W tb_ok (fn := Tryz.f9) (n := 12) (by kernel_rfl) rfl (by kernel_rfl) rfl rfl (by simp) (go ?_)
  refine Fn.use (h1) (go ?_)
  refine Fn.use (h2) (go ?_)
  refine VRet.mk [] .nil ?_
  exact ⟨rfl, rfl⟩
def sizeV (m : Option (Int × Int)) : AV := match m with
  | some p => .tup [.int .i64 (IntKind.i64.wrap (1024 - p.2)), .int .i64 0]
  | none => .tup [.int .i64 0, .int .i64 1]
theorem f_Size {t : Tree} (hc : t.clean = true) (hs : t.nmS = true) : Av.Fn Tryz.prog 17 [valAV t] (sizeV (measT false t 1024 0)) := by
  have h := (f_meas t.depth t (Nat.le_refl _) hc hs 1024 0 (by omega) (by omega)).1
  generalize measT false t 1024 0 = m at h
  refine ACalls.of_W tb_ok (fn := Tryz.f17) (n := 16) (by kernel_rfl) rfl (by kernel_rfl) rfl rfl (by simp) (go ?_)
  refine VAll.mk (fun b => go ?_)
  refine ACalls.use (R := []) (h b) (.refl _) ?_
  rintro _ _ ⟨d, l', rfl, rfl, hm⟩
  cases m with
  | some p =>
    obtain rfl : p = (d, l') := by
      rcases hm with hm | hm
      · cases hm
      · exact Option.some.inj hm
    refine go ?_
    refine VInt.wrap (go ?_)
    refine VRet.mk [] .nil ?_
    exact ⟨rfl, rfl⟩
  | none =>
    refine go ?_
    refine VRet.mk [] .nil ?_
    exact ⟨rfl, rfl⟩
theorem f_VSize {t : Tree} (hc : t.clean = true) (hs : t.nmS = true) : Av.Fn Tryz.prog 10 [valAV t] (sizeV (measT false t 1024 0)) := by
  have h := f_Size hc hs
  cases hm : measT false t 1024 0 with
  | some p =>
    rw [hm] at h
    have h : Av.Fn Tryz.prog 17 [valAV t] (.tup [.int .i64 (IntKind.i64.wrap (1024 - p.2)), .int .i64 0]) := h
    show Av.Fn Tryz.prog 10 [valAV t] (.tup [.int .i64 (IntKind.i64.wrap (1024 - p.2)), .int .i64 0])
    generalize IntKind.i64.wrap (1024 - p.2) = x at h
    refine ACalls.of_W tb_ok (fn := Tryz.f10) (n := 8) (by kernel_rfl) rfl (by kernel_rfl) rfl rfl (by simp) (go ?_)
    refine Fn.use (h) (go ?_)
    refine VRet.mk [] .nil ?_
    exact ⟨rfl, rfl⟩
  | none =>
    rw [hm] at h
    have h : Av.Fn Tryz.prog 17 [valAV t] (.tup [.int .i64 0, .int .i64 1]) := h
    show Av.Fn Tryz.prog 10 [valAV t] (.tup [.int .i64 0, .int .i64 1])
    refine ACalls.of_W tb_ok (fn := Tryz.f10) (n := 8) (by kernel_rfl) rfl (by kernel_rfl) rfl rfl (by simp) (go ?_)
    refine Fn.use (h) (go ?_)
    refine VRet.mk [] .nil ?_
    exact ⟨rfl, rfl⟩
theorem f_awake8 : Av.Fn Tryz.prog 4 [] (.bool true) := by
  have h := f_VText (t := .int 7) rfl (by simp [Tree.nmS]) (by simp [measT, inR]) (by rw [Tree.nums]; rfl) (by rw [tlen]; decide)
  rw [show textT (.int 7) = [55] by rw [textT]; decide +kernel] at h
  have h : Av.Fn Tryz.prog 9 [.iface 41 (.agg [.int .i64 7])] (.tup [.str [55], .int .i64 0]) := by rw [valAV] at h; exact h
  refine ACalls.of_W tb_ok (fn := Tryz.f4) (n := 15) (by kernel_rfl) rfl (by kernel_rfl) rfl rfl (by simp) (go ?_)
  refine Fn.use (h) (go ?_)
  refine VRet.mk [] .nil ?_
  exact ⟨rfl, rfl⟩
end Go.Proofs.YthhonmkmmalfjaaGreatDoor

namespace Go.Proofs.YthhonmkmmalfjaaGreatDoor
open Go Go.Av


set_option maxHeartbeats 4000000 in
theorem f_ValueOrder (a b c : RV) (ha : a.inp = true) (hb : b.inp = true) (hc : c.inp = true) :
    Av.Fn Tryz.prog 3 [.agg (rvAV a), .agg (rvAV b), .agg (rvAV c)] (.bool true) := by
  have hx := inp_clean a ha
  have hy := inp_clean b hb
  have hz := inp_clean c hc
  have nx := inp_nmS a ha
  have ny := inp_nmS b hb
  have nz := inp_nmS c hc
  have ux := inp_nums a ha
  have uy := inp_nums b hb
  have g1 := f_Value ha
  have g2 := f_Value hb
  have g3 := f_Value hc
  obtain ⟨k, n, s, l⟩ := a
  obtain ⟨k', n', s', l'⟩ := b
  obtain ⟨k'', n'', s'', l''⟩ := c
  rw [rvAV] at g1 g2 g3 ⊢
  rw [rvAV, rvAV]
  clear ha hb hc
  generalize valT (.mk k n s l) = x at *
  generalize valT (.mk k' n' s' l') = y at *
  generalize valT (.mk k'' n'' s'' l'') = z at *
  have c1 := f_vCheck hx nx
  have c2 := f_vCheck hy ny
  have c3 := f_vCheck hz nz
  have e12 := f_Equal hx hy nx ny
  by_cases p1 : (measT false x 1024 0).isSome = true
  rotate_left
  · unfold equalV at e12
    rw [if_neg (fun h => p1 h.1)] at e12
    rw [if_neg p1] at c1
    refine ACalls.of_W tb_ok (fn := Tryz.f3) (n := 147) (by kernel_rfl) rfl (by kernel_rfl) rfl rfl (by simp) (go ?_)
    refine VAll.mk (fun b1 => go ?_)
    refine VAll.mk (fun b2 => go ?_)
    refine VAll.mk (fun b3 => go ?_)
    refine Fn.use (f_awake8) (go ?_)
    refine VQ.mk ((valAV x)) (by refine go ?_; refine Fn.use (g1) (go ?_); exact ⟨congrArg _ (rfl), rfl⟩) (go ?_)
    refine VQ.mk ((valAV y)) (by refine go ?_; refine Fn.use (g2) (go ?_); exact ⟨congrArg _ (rfl), rfl⟩) (go ?_)
    refine VQ.mk ((valAV z)) (by refine go ?_; refine Fn.use (g3) (go ?_); exact ⟨congrArg _ (rfl), rfl⟩) (go ?_)
    refine Fn.use (c1) (go ?_)
    refine Fn.use (e12) (go ?_)
    refine VRet.mk [] .nil ?_
    exact ⟨rfl, rfl⟩
  by_cases p2 : (measT false y 1024 0).isSome = true
  rotate_left
  · unfold equalV at e12
    rw [if_neg (fun h => p2 h.2)] at e12
    rw [if_pos p1] at c1
    rw [if_neg p2] at c2
    refine ACalls.of_W tb_ok (fn := Tryz.f3) (n := 147) (by kernel_rfl) rfl (by kernel_rfl) rfl rfl (by simp) (go ?_)
    refine VAll.mk (fun b1 => go ?_)
    refine VAll.mk (fun b2 => go ?_)
    refine VAll.mk (fun b3 => go ?_)
    refine Fn.use (f_awake8) (go ?_)
    refine VQ.mk ((valAV x)) (by refine go ?_; refine Fn.use (g1) (go ?_); exact ⟨congrArg _ (rfl), rfl⟩) (go ?_)
    refine VQ.mk ((valAV y)) (by refine go ?_; refine Fn.use (g2) (go ?_); exact ⟨congrArg _ (rfl), rfl⟩) (go ?_)
    refine VQ.mk ((valAV z)) (by refine go ?_; refine Fn.use (g3) (go ?_); exact ⟨congrArg _ (rfl), rfl⟩) (go ?_)
    refine Fn.use (c1) (go ?_)
    refine Fn.use (c2) (go ?_)
    refine Fn.use (e12) (go ?_)
    refine VRet.mk [] .nil ?_
    exact ⟨rfl, rfl⟩
  have eq : ∀ {t u : Tree}, (measT false t 1024 0).isSome = true → (measT false u 1024 0).isSome = true → equalV t u = .tup [.bool (sameV (valRV t) (valRV u)), .int .i64 0] := fun h k => by unfold equalV; rw [if_pos ⟨h, k⟩]
  rw [eq p1 p2] at e12
  by_cases p3 : (measT false z 1024 0).isSome = true
  rotate_left
  · rw [if_pos p1] at c1
    rw [if_pos p2] at c2
    rw [if_neg p3] at c3
    refine ACalls.of_W tb_ok (fn := Tryz.f3) (n := 147) (by kernel_rfl) rfl (by kernel_rfl) rfl rfl (by simp) (go ?_)
    refine VAll.mk (fun b1 => go ?_)
    refine VAll.mk (fun b2 => go ?_)
    refine VAll.mk (fun b3 => go ?_)
    refine Fn.use (f_awake8) (go ?_)
    refine VQ.mk ((valAV x)) (by refine go ?_; refine Fn.use (g1) (go ?_); exact ⟨congrArg _ (rfl), rfl⟩) (go ?_)
    refine VQ.mk ((valAV y)) (by refine go ?_; refine Fn.use (g2) (go ?_); exact ⟨congrArg _ (rfl), rfl⟩) (go ?_)
    refine VQ.mk ((valAV z)) (by refine go ?_; refine Fn.use (g3) (go ?_); exact ⟨congrArg _ (rfl), rfl⟩) (go ?_)
    refine Fn.use (c1) (go ?_)
    refine Fn.use (c2) (go ?_)
    refine Fn.use (c3) (go ?_)
    refine Fn.use (e12) (go ?_)
    refine VRet.mk [] .nil ?_
    exact ⟨rfl, rfl⟩
  have cp := f_Copy hx nx p1
  have e11 := f_Equal hx hx nx nx
  have e21 := f_Equal hy hx ny nx
  have e23 := f_Equal hy hz ny nz
  have e13 := f_Equal hx hz nx nz
  rw [eq p1 p1, sameV_refl] at e11
  rw [eq p2 p1] at e21
  rw [eq p2 p3] at e23
  rw [eq p1 p3] at e13
  rw [if_pos p1] at c1
  rw [if_pos p2] at c2
  rw [if_pos p3] at c3
  have t1 := f_VText hx nx p1 ux (meas_len p1)
  have t2 := f_VText hy ny p2 uy (meas_len p2)
  have s1 := f_VSize hx nx
  have s2 := f_VSize hy ny
  have inj := same_tree x y (meas_full false x 1024 0 p1) (meas_full false y 1024 0 p2)
  have inj2 := same_tree y x (meas_full false y 1024 0 p2) (meas_full false x 1024 0 p1)
  cases h12 : sameV (valRV x) (valRV y) with
  | true =>
    obtain rfl := inj h12
    rw [h12] at e12 e21
    obtain ⟨p, hp⟩ : ∃ p, measT false x 1024 0 = some p := Option.isSome_iff_exists.1 p1
    rw [hp] at s1
    have s1 : Av.Fn Tryz.prog 10 [valAV x] (.tup [.int .i64 (IntKind.i64.wrap (1024 - p.2)), .int .i64 0]) := s1
    generalize IntKind.i64.wrap (1024 - p.2) = sz at s1
    generalize textT x = tx at t1
    cases h13 : sameV (valRV x) (valRV z) with
    | true =>
      rw [h13] at e13
      refine ACalls.of_W tb_ok (fn := Tryz.f3) (n := 147) (by kernel_rfl) rfl (by kernel_rfl) rfl rfl (by simp) (go ?_)
      refine VAll.mk (fun b1 => go ?_)
      refine VAll.mk (fun b2 => go ?_)
      refine VAll.mk (fun b3 => go ?_)
      refine Fn.use (f_awake8) (go ?_)
      refine VQ.mk ((valAV x)) (by refine go ?_; refine Fn.use (g1) (go ?_); exact ⟨congrArg _ (rfl), rfl⟩) (go ?_)
      refine VQ.mk ((valAV x)) (by refine go ?_; refine Fn.use (g2) (go ?_); exact ⟨congrArg _ (rfl), rfl⟩) (go ?_)
      refine VQ.mk ((valAV z)) (by refine go ?_; refine Fn.use (g3) (go ?_); exact ⟨congrArg _ (rfl), rfl⟩) (go ?_)
      refine Fn.use (c1) (go ?_)
      refine Fn.use (c1) (go ?_)
      refine Fn.use (c3) (go ?_)
      refine Fn.use (cp) (go ?_)
      refine Fn.use (e11) (go ?_)
      refine Fn.use (e12) (go ?_)
      refine Fn.use (e21) (go ?_)
      refine Fn.use (e13) (go ?_)
      refine Fn.use (e13) (go ?_)
      refine Fn.use (t1) (go ?_)
      refine Fn.use (t1) (go ?_)
      refine Fn.use (s1) (go ?_)
      refine Fn.use (s1) (go ?_)
      refine VIf.yes (by simp) (go ?_)
      refine VRet.mk [] .nil ?_
      exact ⟨congrArg (fun b => AOut.ret (.bool b)) (by simp), rfl⟩
    | false =>
      rw [h13] at e13
      refine ACalls.of_W tb_ok (fn := Tryz.f3) (n := 147) (by kernel_rfl) rfl (by kernel_rfl) rfl rfl (by simp) (go ?_)
      refine VAll.mk (fun b1 => go ?_)
      refine VAll.mk (fun b2 => go ?_)
      refine VAll.mk (fun b3 => go ?_)
      refine Fn.use (f_awake8) (go ?_)
      refine VQ.mk ((valAV x)) (by refine go ?_; refine Fn.use (g1) (go ?_); exact ⟨congrArg _ (rfl), rfl⟩) (go ?_)
      refine VQ.mk ((valAV x)) (by refine go ?_; refine Fn.use (g2) (go ?_); exact ⟨congrArg _ (rfl), rfl⟩) (go ?_)
      refine VQ.mk ((valAV z)) (by refine go ?_; refine Fn.use (g3) (go ?_); exact ⟨congrArg _ (rfl), rfl⟩) (go ?_)
      refine Fn.use (c1) (go ?_)
      refine Fn.use (c1) (go ?_)
      refine Fn.use (c3) (go ?_)
      refine Fn.use (cp) (go ?_)
      refine Fn.use (e11) (go ?_)
      refine Fn.use (e12) (go ?_)
      refine Fn.use (e21) (go ?_)
      refine Fn.use (e13) (go ?_)
      refine Fn.use (e13) (go ?_)
      refine Fn.use (t1) (go ?_)
      refine Fn.use (t1) (go ?_)
      refine Fn.use (s1) (go ?_)
      refine Fn.use (s1) (go ?_)
      refine VIf.yes (by simp) (go ?_)
      refine VRet.mk [] .nil ?_
      exact ⟨congrArg (fun b => AOut.ret (.bool b)) (by simp), rfl⟩
  | false =>
    have h21 : sameV (valRV y) (valRV x) = false := by
      cases h : sameV (valRV y) (valRV x) with
      | false => rfl
      | true =>
        obtain rfl := inj2 h
        rw [h] at h12; cases h12
    rw [h12] at e12
    rw [h21] at e21
    refine ACalls.of_W tb_ok (fn := Tryz.f3) (n := 147) (by kernel_rfl) rfl (by kernel_rfl) rfl rfl (by simp) (go ?_)
    refine VAll.mk (fun b1 => go ?_)
    refine VAll.mk (fun b2 => go ?_)
    refine VAll.mk (fun b3 => go ?_)
    refine Fn.use (f_awake8) (go ?_)
    refine VQ.mk ((valAV x)) (by refine go ?_; refine Fn.use (g1) (go ?_); exact ⟨congrArg _ (rfl), rfl⟩) (go ?_)
    refine VQ.mk ((valAV y)) (by refine go ?_; refine Fn.use (g2) (go ?_); exact ⟨congrArg _ (rfl), rfl⟩) (go ?_)
    refine VQ.mk ((valAV z)) (by refine go ?_; refine Fn.use (g3) (go ?_); exact ⟨congrArg _ (rfl), rfl⟩) (go ?_)
    refine Fn.use (c1) (go ?_)
    refine Fn.use (c2) (go ?_)
    refine Fn.use (c3) (go ?_)
    refine Fn.use (cp) (go ?_)
    refine Fn.use (e11) (go ?_)
    refine Fn.use (e12) (go ?_)
    refine Fn.use (e21) (go ?_)
    refine Fn.use (e23) (go ?_)
    refine Fn.use (e13) (go ?_)
    refine VRet.mk [] .nil ?_
    exact ⟨rfl, rfl⟩
end Go.Proofs.YthhonmkmmalfjaaGreatDoor
