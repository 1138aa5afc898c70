/- Trees that are clean have small trees of the reference. Conditions: as each says. ValueMusts: the walk. Conditions: as each says. -/
import Derived.Test.YtbmplclnondfnaaGreatDoorX4
import Derived.Test.YtbmplclnondfnaaGreatDoorX6
set_option linter.all false
set_option maxRecDepth 20000
namespace Go.Proofs.YtbmplclnondfnaaGreatDoor
open Go Go.Av
def Tree.isCall : Tree → Bool
  | .call _ => true
  | _ => false
theorem item_val {t : Tree} (h : t.isCall = false) : itemRV t = valRV t := by
  cases t <;> first | rfl | (simp [Tree.isCall] at h)
mutual
theorem clean_small : ∀ (t : Tree), t.clean = true → (valRV t).small = true
  | .int _, _ => by simp [valRV, RV.small, smallAll]
  | .str _, _ => by simp [valRV, RV.small, smallAll]
  | .bool _, _ => by simp [valRV, RV.small, smallAll]
  | .call _, _ => by simp [valRV, RV.small, smallAll]
  | .none, _ => by simp [valRV, RV.small, smallAll]
  | .box _, _ => by simp [valRV, RV.small, smallAll]
  | .odd _ _, h => by simp [Tree.clean] at h
  | .list l, h => by
    simp only [Tree.clean, Bool.and_eq_true, decide_eq_true_eq] at h
    simp only [valRV, RV.small, Bool.and_eq_true, decide_eq_true_eq, valRVs_length]
    exact ⟨h.1, clean_smallV l h.2⟩
  | .quot l, h => by
    simp only [Tree.clean, Bool.and_eq_true, decide_eq_true_eq] at h
    simp only [valRV, RV.small, Bool.and_eq_true, decide_eq_true_eq, itemRVs_length]
    exact ⟨h.1, clean_smallI l h.2⟩
theorem clean_smallV : ∀ (l : List Tree), cleanAll l = true → smallAll (valRVs l) = true
  | [], _ => by simp [valRVs, smallAll]
  | t :: r, h => by
    simp only [cleanAll, Bool.and_eq_true] at h
    simp only [valRVs, smallAll, Bool.and_eq_true]
    exact ⟨clean_small t h.1, clean_smallV r h.2⟩
theorem clean_smallI : ∀ (l : List Tree), cleanAll l = true → smallAll (itemRVs l) = true
  | [], _ => by simp [itemRVs, smallAll]
  | t :: r, h => by
    simp only [cleanAll, Bool.and_eq_true] at h
    rw [itemRVs_cons]
    simp only [smallAll, Bool.and_eq_true]
    refine ⟨?_, clean_smallI r h.2⟩
    cases hc : t.isCall with
    | false => rw [item_val hc]; exact clean_small t h.1
    | true => cases t <;> first | (simp [itemRV, RV.small, smallAll]; done) | (simp [Tree.isCall] at hc)
end
theorem small_item {t : Tree} (h : t.clean = true) : (itemRV t).small = true := by
  cases hc : t.isCall with
  | false => rw [item_val hc]; exact clean_small t h
  | true => cases t <;> first | (simp [itemRV, RV.small, smallAll]; done) | (simp [Tree.isCall] at hc)
end Go.Proofs.YtbmplclnondfnaaGreatDoor

namespace Go.Proofs.YtbmplclnondfnaaGreatDoor
open Go Go.Av
theorem fn_Format (i : Nat) (hi : i < 100) : Av.Fn Tryz.prog 117 [.int .i64 i, .int .i64 10] (.str (Lib.decDigits i)) := by
  refine Fn.of_calls (fn := Tryz.f117) (by kernel_rfl) rfl (by kernel_rfl) ?_
  intro W w g us hl hr hb
  obtain ⟨u1, _, rfl, ⟨h1, _⟩, u2, _, rfl, ⟨h2, _⟩, h3⟩ := hr
  have h1 : u1 = _ := h1; have h2 : u2 = _ := h2; have h3 : _ = [] := h3
  subst h1; subst h2; subst h3
  refine (Tryz.internal_strconv_FormatInt_10_small i hi w).mono fun e w' ⟨h1, h2⟩ => ?_
  subst h2
  exact ⟨_, h1, rfl, RowKit.Below.refl _ _⟩
theorem f_Format7 : Av.Fn Tryz.prog 85 [.int .i64 7, .int .i64 10] (.str [55]) := by
  have h := fn_Format 7 (by omega)
  rw [show Lib.decDigits 7 = [55] by decide +kernel] at h
  refine ACalls.of_W tb_ok (fn := Tryz.f85) (n := 8) (by kernel_rfl) rfl (by kernel_rfl) rfl rfl (by simp) (go ?_)
  refine Fn.use (h) (go ?_)
  refine VRet.mk [] .nil ?_
  exact ⟨rfl, rfl⟩
theorem f_measInt (b : Nat) (n left : Int) (hn : inR n = true) (hl : 1 ≤ left ∧ left ≤ 1000000) : ACalls Tryz.prog 82 [.iface 24 (.agg [.int .i64 n]), .ptr b 0, .int .i64 0] [(b, .box [.int .i64 left])] (fun out st => out = .ret (.tup [.int .i64 0, .bool true]) ∧ st = [(b, .box [.int .i64 (left - 1)])]) := by
  simp only [inR, Bool.and_eq_true, decide_eq_true_eq] at hn
  refine ACalls.of_W tb_ok (fn := Tryz.f82) (n := 129) (by kernel_rfl) rfl (by kernel_rfl) rfl rfl (by simp) (go ?_)
  refine VIf.no (by simp; omega) (go ?_)
  refine VAll.mk (fun b2 => go ?_)
  refine VIf.yes (by simp; omega) (go ?_)
  refine VRet.mk [(b, .box [.int .i64 (left - 1)])] (.cons 1 rfl .nil) ?_
  simp; omega
theorem f_Check7 : Av.Fn Tryz.prog 44 [.iface 24 (.agg [.int .i64 7])] (.int .i64 0) := by
  refine ACalls.of_W tb_ok (fn := Tryz.f44) (n := 13) (by kernel_rfl) rfl (by kernel_rfl) rfl rfl (by simp) (go ?_)
  refine VAll.mk (fun b => go ?_)
  refine ACalls.use (R := []) (f_measInt b 7 1024 (by decide) (by omega)) (.refl _) ?_
  rintro _ _ ⟨rfl, rfl⟩
  refine go ?_
  refine VRet.mk [] .nil ?_
  exact ⟨rfl, rfl⟩
theorem f_Text7 : Av.Fn Tryz.prog 53 [.iface 24 (.agg [.int .i64 7])] (.str [55]) := by
  refine ACalls.of_W tb_ok (fn := Tryz.f53) (n := 48) (by kernel_rfl) rfl (by kernel_rfl) rfl rfl (by simp) (go ?_)
  refine VAll.mk (fun b => go ?_)
  refine Fn.use (f_Format7) (go ?_)
  refine VRet.mk [] .nil ?_
  exact ⟨rfl, rfl⟩
theorem f_awake08 : Av.Fn Tryz.prog 11 [] (.bool true) := by
  have h1 : Av.Fn Tryz.prog 10 [.iface 24 (.agg [.int .i64 7])] (.int .i64 0) := by
    refine ACalls.of_W tb_ok (fn := Tryz.f10) (n := 5) (by kernel_rfl) rfl (by kernel_rfl) rfl rfl (by simp) (go ?_)
    refine Fn.use (f_Check7) (go ?_)
    refine VRet.mk [] .nil ?_
    exact ⟨rfl, rfl⟩
  have h2 : Av.Fn Tryz.prog 25 [.iface 24 (.agg [.int .i64 7])] (.tup [.str [55], .int .i64 0]) := by
    refine ACalls.of_W tb_ok (fn := Tryz.f25) (n := 12) (by kernel_rfl) rfl (by kernel_rfl) rfl rfl (by simp) (go ?_)
    refine Fn.use (h1) (go ?_)
    refine Fn.use (f_Text7) (go ?_)
    refine VRet.mk [] .nil ?_
    exact ⟨rfl, rfl⟩
  refine ACalls.of_W tb_ok (fn := Tryz.f11) (n := 15) (by kernel_rfl) rfl (by kernel_rfl) rfl rfl (by simp) (go ?_)
  refine Fn.use (h2) (go ?_)
  refine VRet.mk [] .nil ?_
  exact ⟨rfl, rfl⟩
noncomputable def taeAV (b : Nat) : AV := .iface Tryz.prog.rt.typeAssertionError (.ptr b 0)
theorem f_mi1_ok (b2 b3 : Nat) (st : St) {K : St → Prop} (k : K st) : DCalls Tryz.prog 46 [.ptr b2 0, .ptr b3 0] st none K := by
  refine DCalls.use (s := []) (R := st) (K := fun st' => st' = []) ?_ (.refl _) (fun s' h => by rw [h]; exact k)
  refine DCalls.of_Ws tb_ok (fn := Tryz.f46) (n := 4) (by kernel_rfl) rfl (by kernel_rfl) rfl rfl (by simp) (go ?_)
  refine VRet.mk [] .nil ?_
  rfl
theorem f_mi1_panic (b2 b3 b : Nat) (x y : AV) : DCalls Tryz.prog 46 [.ptr b2 0, .ptr b3 0] [(b2, .box [x]), (b3, .box [y])] (some (taeAV b)) fun st' => st' = [(b2, .box [.int .i64 0]), (b3, .box [.bool false])] := by
  refine DCalls.of_Ws tb_ok (fn := Tryz.f46) (n := 4) (by kernel_rfl) rfl (by kernel_rfl) rfl rfl (by simp) (go ?_)
  exact VRet.mk _ (VSel.refl _) rfl
theorem f_ml1_ok (b2 b3 : Nat) (st : St) {K : St → Prop} (k : K st) : DCalls Tryz.prog 48 [.ptr b2 0, .ptr b3 0] st none K := by
  refine DCalls.use (s := []) (R := st) (K := fun st' => st' = []) ?_ (.refl _) (fun s' h => by rw [h]; exact k)
  refine DCalls.of_Ws tb_ok (fn := Tryz.f48) (n := 4) (by kernel_rfl) rfl (by kernel_rfl) rfl rfl (by simp) (go ?_)
  refine VRet.mk [] .nil ?_
  rfl
theorem f_ml1_panic (b2 b3 b : Nat) (x y : AV) : DCalls Tryz.prog 48 [.ptr b2 0, .ptr b3 0] [(b2, .box [x]), (b3, .box [y])] (some (taeAV b)) fun st' => st' = [(b2, .box [.nils]), (b3, .box [.bool false])] := by
  refine DCalls.of_Ws tb_ok (fn := Tryz.f48) (n := 4) (by kernel_rfl) rfl (by kernel_rfl) rfl rfl (by simp) (go ?_)
  exact VRet.mk _ (VSel.refl _) rfl
theorem f_MustIntOk (n : Int) : Av.Fn Tryz.prog 47 [.iface 24 (.agg [.int .i64 n])] (.int .i64 n) := by
  refine ACalls.of_W tb_ok (fn := Tryz.f47) (n := 6) (by kernel_rfl) rfl (by kernel_rfl) rfl rfl (by simp) (go ?_)
  refine VRet.mk [] .nil ?_
  exact ⟨rfl, rfl⟩
theorem f_mustIntOk (n : Int) : Av.Fn Tryz.prog 14 [.iface 24 (.agg [.int .i64 n])] (.tup [.int .i64 n, .bool true]) := by
  refine ACalls.of_Wd tb_ok (fn := Tryz.f14) (n := 7) (by kernel_rfl) rfl (by kernel_rfl) rfl rfl (by simp) (go ?_)
  refine VAll.mk (fun b2 => go ?_)
  refine VAll.mk (fun b3 => go ?_)
  refine Fn.use (f_MustIntOk n) (go ?_)
  refine f_mi1_ok b2 b3 _ (go ?_)
  refine VRet.mk [] .nil ?_
  exact ⟨rfl, rfl⟩
theorem f_mustIntBad {x : AV} (h : ACalls Tryz.prog 47 [x] [] (fun out st => ∃ b, out = .panic (taeAV b) ∧ st = [])) : Av.Fn Tryz.prog 14 [x] (.tup [.int .i64 0, .bool false]) := by
  refine ACalls.of_Wd tb_ok (fn := Tryz.f14) (n := 7) (by kernel_rfl) rfl (by kernel_rfl) rfl rfl (by simp) (go ?_)
  refine VAll.mk (fun b2 => go ?_)
  refine VAll.mk (fun b3 => go ?_)
  refine ACalls.use (R := [(b3, .box [.bool false]), (b2, .box [.int .i64 0])]) h (.refl _) ?_
  rintro _ _ ⟨b, rfl, rfl⟩
  refine go ?_
  refine DCalls.use (R := []) (f_mi1_panic b2 b3 b (.int .i64 0) (.bool false)) (.swap _ _ _) ?_
  rintro _ rfl
  refine go ?_
  refine VRet.mk [] .nil ?_
  exact ⟨rfl, rfl⟩
theorem f_mustListBad {x : AV} (h : ACalls Tryz.prog 49 [x] [] (fun out st => ∃ b, out = .panic (taeAV b) ∧ st = [])) : Av.Fn Tryz.prog 15 [x] (.tup [.fz [] 0 false, .bool false]) := by
  refine ACalls.of_Wd tb_ok (fn := Tryz.f15) (n := 7) (by kernel_rfl) rfl (by kernel_rfl) rfl rfl (by simp) (go ?_)
  refine VAll.mk (fun b2 => go ?_)
  refine VAll.mk (fun b3 => go ?_)
  refine ACalls.use (R := [(b3, .box [.bool false]), (b2, .box [.nils])]) h (.refl _) ?_
  rintro _ _ ⟨b, rfl, rfl⟩
  refine go ?_
  refine DCalls.use (R := []) (f_ml1_panic b2 b3 b (.nils) (.bool false)) (.swap _ _ _) ?_
  rintro _ rfl
  refine go ?_
  refine VRet.mk [] .nil ?_
  exact ⟨rfl, rfl⟩
theorem f_MustListOk {l : List Tree} (hc : (Tree.list l).clean = true) : Av.Fn Tryz.prog 49 [valAV (.list l)] (.fz (valAVs l) l.length false) := by
  have h := f_Clone hc
  simp only [valAV] at h ⊢
  refine ACalls.of_W tb_ok (fn := Tryz.f49) (n := 9) (by kernel_rfl) rfl (by kernel_rfl) rfl rfl (by simp) (go ?_)
  refine Fn.use (h) (go ?_)
  refine VRet.mk [] .nil ?_
  exact ⟨rfl, rfl⟩
theorem f_mustListOk {l : List Tree} (hc : (Tree.list l).clean = true) : Av.Fn Tryz.prog 15 [valAV (.list l)] (.tup [.fz (valAVs l) l.length false, .bool true]) := by
  have h := f_MustListOk hc
  simp only [valAV] at h ⊢
  refine ACalls.of_Wd tb_ok (fn := Tryz.f15) (n := 7) (by kernel_rfl) rfl (by kernel_rfl) rfl rfl (by simp) (go ?_)
  refine VAll.mk (fun b2 => go ?_)
  refine VAll.mk (fun b3 => go ?_)
  refine Fn.use (h) (go ?_)
  refine f_ml1_ok b2 b3 _ (go ?_)
  refine VRet.mk [] .nil ?_
  exact ⟨rfl, rfl⟩

def miR : Tree → AV
  | .int n => .tup [.int .i64 n, .bool true]
  | _ => .tup [.int .i64 0, .bool false]
def mlR : Tree → AV
  | .list l => .tup [.fz (valAVs l) l.length false, .bool true]
  | _ => .tup [.fz [] 0 false, .bool false]
theorem f_mi {t : Tree} (hc : t.clean = true) : Av.Fn Tryz.prog 14 [valAV t] (miR t) := by
  cases t with
  | int n => exact f_mustIntOk n
  | odd u v => simp [Tree.clean] at hc
  | _ =>
    simp only [valAV]
    refine f_mustIntBad ?_
    refine ACalls.of_W tb_ok (fn := Tryz.f47) (n := 6) (by kernel_rfl) rfl (by kernel_rfl) rfl rfl (by simp) (go ?_)
    refine VAll.mk (fun b => go ?_)
    exact VRet.mk [] .nil ⟨b, rfl, rfl⟩
theorem f_ml {t : Tree} (hc : t.clean = true) : Av.Fn Tryz.prog 15 [valAV t] (mlR t) := by
  cases t with
  | list l => exact f_mustListOk hc
  | odd u v => simp [Tree.clean] at hc
  | _ =>
    simp only [valAV]
    refine f_mustListBad ?_
    refine ACalls.of_W tb_ok (fn := Tryz.f49) (n := 9) (by kernel_rfl) rfl (by kernel_rfl) rfl rfl (by simp) (go ?_)
    refine VAll.mk (fun b => go ?_)
    exact VRet.mk [] .nil ⟨b, rfl, rfl⟩
theorem f_miP (b0 : Nat) : Av.Fn Tryz.prog 14 [.iface 22 (.ptr b0 0)] (.tup [.int .i64 0, .bool false]) := by
  refine f_mustIntBad ?_
  refine ACalls.of_W tb_ok (fn := Tryz.f47) (n := 6) (by kernel_rfl) rfl (by kernel_rfl) rfl rfl (by simp) (go ?_)
  refine VAll.mk (fun b => go ?_)
  exact VRet.mk [] .nil ⟨b, rfl, rfl⟩
theorem f_mlP (b0 : Nat) : Av.Fn Tryz.prog 15 [.iface 22 (.ptr b0 0)] (.tup [.fz [] 0 false, .bool false]) := by
  refine f_mustListBad ?_
  refine ACalls.of_W tb_ok (fn := Tryz.f49) (n := 9) (by kernel_rfl) rfl (by kernel_rfl) rfl rfl (by simp) (go ?_)
  refine VAll.mk (fun b => go ?_)
  exact VRet.mk [] .nil ⟨b, rfl, rfl⟩
theorem f_ValueMusts (v : RV) (p : Bool) (hv : v.inp = true) : Av.Fn Tryz.prog 4 [.agg (rvAV v), .bool p] (.bool true) := by
  have hc := inp_clean v hv
  have h1 := f_Value hv
  have h2 := f_mi hc
  have h3 := f_ml hc
  obtain ⟨k, n, s, l⟩ := v
  have hv' := hv
  simp only [RV.inp, Bool.and_eq_true, decide_eq_true_eq] at hv'
  rw [rvAV] at h1 ⊢
  have hval : valT (.mk k n s l) = if k = 1 then .int n else if k = 2 then .str s else if k = 3 then .bool (decide (n ≠ 0)) else if k = 4 then .list (valTs l) else if k = 5 then .quot (itemTs l) else if k = 6 then .box n else .none := by rw [valT]
  generalize valT (.mk k n s l) = t at h1 h2 h3 hc hval
  refine ACalls.of_W tb_ok (fn := Tryz.f4) (n := 79) (by kernel_rfl) rfl (by kernel_rfl) rfl rfl (by simp) (go ?_)
  refine VAll.mk (fun b => go ?_)
  refine Fn.use (f_awake08) (go ?_)
  refine Fn.use (h1) (go ?_)
  cases p with
  | true =>
    refine go ?_
    refine VAll.mk (fun b4 => go ?_)
    refine Fn.use (f_miP b4) (go ?_)
    refine Fn.use (f_mlP b4) (go ?_)
    refine VRet.mk [] .nil ?_
    exact ⟨rfl, rfl⟩
  | false =>
    refine go ?_
    refine Fn.use (h2) (go ?_)
    by_cases k1 : k = 1
    · rw [if_pos k1] at hval
      subst hval k1
      refine go ?_
      refine Fn.use (h3) (go ?_)
      refine VIf.no (by simp) (go ?_)
      refine VRet.mk [] .nil ?_
      exact ⟨rfl, rfl⟩
    rw [if_neg k1] at hval
    have hmi : miR t = .tup [.int .i64 0, .bool false] := by
      rw [hval]
      repeat' split
      all_goals rfl
    rw [hmi]
    by_cases k4 : k = 4
    · subst k4
      simp only [show ¬ (4 : Int) = 2 by omega, show ¬ (4 : Int) = 3 by omega, if_false, if_true] at hval
      subst hval
      have hc4 := hc
      simp only [Tree.clean, Bool.and_eq_true, decide_eq_true_eq] at hc4
      have g1 := f_Trees hc4.2 hc4.1
      have g2 := f_Values hv'.2 hv'.1.2
      have hsm := clean_smallV (valTs l) hc4.2
      have g3 := f_SameAll hsm hsm (by simpa using hc4.1) (by simpa using hc4.1) [] [] false false
      rw [List.append_nil, sameVs_refl, valRVs_length] at g3
      rw [valTs_length] at g1 g3
      rw [show mlR (.list (valTs l)) = .tup [.fz (valAVs (valTs l)) l.length false, .bool true] by simp [mlR]] at h3
      refine go ?_
      refine Fn.use (h3) (go ?_)
      refine VQ.mk (.fz (rvsC (valRVs (valTs l))) l.length false) (by refine go ?_; refine Fn.use (g1) (go ?_); exact ⟨congrArg _ (rfl), rfl⟩) (go ?_)
      refine VQ.mk (.fz (valAVs (valTs l)) l.length false) (by refine go ?_; refine Fn.use (g2) (go ?_); exact ⟨congrArg _ (rfl), rfl⟩) (go ?_)
      refine VQ.mk (.fz (rvsC (valRVs (valTs l))) l.length false) (by refine go ?_; refine Fn.use (g1) (go ?_); exact ⟨congrArg _ (rfl), rfl⟩) (go ?_)
      refine VQ.mk (.bool true) (by refine go ?_; refine Fn.use (g3) (go ?_); exact ⟨congrArg _ (rfl), rfl⟩) (go ?_)
      refine VRet.mk [] .nil ?_
      exact ⟨rfl, rfl⟩
    · have hml : mlR t = .tup [.fz [] 0 false, .bool false] := by
        rw [hval, if_neg k4]
        repeat' split
        all_goals rfl
      rw [hml] at h3
      refine go ?_
      refine Fn.use (h3) (go ?_)
      refine VIf.yes (by simp [k1]) (go ?_)
      refine VIf.no (by simp [k1]) (go ?_)
      refine VIf.no (by simp [k4]) (go ?_)
      refine VRet.mk [] .nil ?_
      exact ⟨rfl, rfl⟩
end Go.Proofs.YtbmplclnondfnaaGreatDoor
