/- Trees that are clean have small trees of the reference. Conditions: as each says. ValueMusts: the walk. Conditions: as each says. ValuePointers: the walk. Conditions: as each says. -/
import Derived.Test.YtbmplclnondfnaaGreatDoorX4
import Derived.Test.YtbmplclnondfnaaGreatDoorX6
set_option linter.all false
set_option maxRecDepth 20000
namespace Go.Proofs.YtbmplclnondfnaaGreatDoor
open Go Go.Av
def Tree.isCall : Tree → Bool
  | .call _ => true
  | _ => false
theorem item_val {t : Tree} (h : t.isCall = false) : itemRV t = valRV t := by
  cases t <;> first | rfl | (simp [Tree.isCall] at h)
mutual
theorem clean_small : ∀ (t : Tree), t.clean = true → (valRV t).small = true
  | .int _, _ => by simp [valRV, RV.small, smallAll]
  | .str _, _ => by simp [valRV, RV.small, smallAll]
  | .bool _, _ => by simp [valRV, RV.small, smallAll]
  | .call _, _ => by simp [valRV, RV.small, smallAll]
  | .none, _ => by simp [valRV, RV.small, smallAll]
  | .box _, _ => by simp [valRV, RV.small, smallAll]
  | .odd _ _, h => by simp [Tree.clean] at h
  | .list l, h => by
    simp only [Tree.clean, Bool.and_eq_true, decide_eq_true_eq] at h
    simp only [valRV, RV.small, Bool.and_eq_true, decide_eq_true_eq, valRVs_length]
    exact ⟨h.1, clean_smallV l h.2⟩
  | .quot l, h => by
    simp only [Tree.clean, Bool.and_eq_true, decide_eq_true_eq] at h
    simp only [valRV, RV.small, Bool.and_eq_true, decide_eq_true_eq, itemRVs_length]
    exact ⟨h.1, clean_smallI l h.2⟩
theorem clean_smallV : ∀ (l : List Tree), cleanAll l = true → smallAll (valRVs l) = true
  | [], _ => by simp [valRVs, smallAll]
  | t :: r, h => by
    simp only [cleanAll, Bool.and_eq_true] at h
    simp only [valRVs, smallAll, Bool.and_eq_true]
    exact ⟨clean_small t h.1, clean_smallV r h.2⟩
theorem clean_smallI : ∀ (l : List Tree), cleanAll l = true → smallAll (itemRVs l) = true
  | [], _ => by simp [itemRVs, smallAll]
  | t :: r, h => by
    simp only [cleanAll, Bool.and_eq_true] at h
    rw [itemRVs_cons]
    simp only [smallAll, Bool.and_eq_true]
    refine ⟨?_, clean_smallI r h.2⟩
    cases hc : t.isCall with
    | false => rw [item_val hc]; exact clean_small t h.1
    | true => cases t <;> first | (simp [itemRV, RV.small, smallAll]; done) | (simp [Tree.isCall] at hc)
end
theorem small_item {t : Tree} (h : t.clean = true) : (itemRV t).small = true := by
  cases hc : t.isCall with
  | false => rw [item_val hc]; exact clean_small t h
  | true => cases t <;> first | (simp [itemRV, RV.small, smallAll]; done) | (simp [Tree.isCall] at hc)
end Go.Proofs.YtbmplclnondfnaaGreatDoor

namespace Go.Proofs.YtbmplclnondfnaaGreatDoor
open Go Go.Av
theorem fn_Format (i : Nat) (hi : i < 100) : Av.Fn Tryz.prog 117 [.int .i64 i, .int .i64 10] (.str (Lib.decDigits i)) := by
  refine Fn.of_calls (fn := Tryz.f117) (by kernel_rfl) rfl (by kernel_rfl) ?_
  intro W w g us hl hr hb
  obtain ⟨u1, _, rfl, ⟨h1, _⟩, u2, _, rfl, ⟨h2, _⟩, h3⟩ := hr
  have h1 : u1 = _ := h1; have h2 : u2 = _ := h2; have h3 : _ = [] := h3
  subst h1; subst h2; subst h3
  refine (Tryz.internal_strconv_FormatInt_10_small i hi w).mono fun e w' ⟨h1, h2⟩ => ?_
  subst h2
  exact ⟨_, h1, rfl, RowKit.Below.refl _ _⟩
theorem f_Format7 : Av.Fn Tryz.prog 85 [.int .i64 7, .int .i64 10] (.str [55]) := by
  have h := fn_Format 7 (by omega)
  rw [show Lib.decDigits 7 = [55] by decide +kernel] at h
  refine ACalls.of_W tb_ok (fn := Tryz.f85) (n := 8) (by kernel_rfl) rfl (by kernel_rfl) rfl rfl (by simp) (go ?_)
  refine Fn.use (h) (go ?_)
  refine VRet.mk [] .nil ?_
  exact ⟨rfl, rfl⟩
theorem f_measInt (b : Nat) (n left : Int) (hn : inR n = true) (hl : 1 ≤ left ∧ left ≤ 1000000) : ACalls Tryz.prog 82 [.iface 24 (.agg [.int .i64 n]), .ptr b 0, .int .i64 0] [(b, .box [.int .i64 left])] (fun out st => out = .ret (.tup [.int .i64 0, .bool true]) ∧ st = [(b, .box [.int .i64 (left - 1)])]) := by
  simp only [inR, Bool.and_eq_true, decide_eq_true_eq] at hn
  refine ACalls.of_W tb_ok (fn := Tryz.f82) (n := 129) (by kernel_rfl) rfl (by kernel_rfl) rfl rfl (by simp) (go ?_)
  refine VIf.no (by simp; omega) (go ?_)
  refine VAll.mk (fun b2 => go ?_)
  refine VIf.yes (by simp; omega) (go ?_)
  refine VRet.mk [(b, .box [.int .i64 (left - 1)])] (.cons 1 rfl .nil) ?_
  simp; omega
theorem f_Check7 : Av.Fn Tryz.prog 44 [.iface 24 (.agg [.int .i64 7])] (.int .i64 0) := by
  refine ACalls.of_W tb_ok (fn := Tryz.f44) (n := 13) (by kernel_rfl) rfl (by kernel_rfl) rfl rfl (by simp) (go ?_)
  refine VAll.mk (fun b => go ?_)
  refine ACalls.use (R := []) (f_measInt b 7 1024 (by decide) (by omega)) (.refl _) ?_
  rintro _ _ ⟨rfl, rfl⟩
  refine go ?_
  refine VRet.mk [] .nil ?_
  exact ⟨rfl, rfl⟩
theorem f_Text7 : Av.Fn Tryz.prog 53 [.iface 24 (.agg [.int .i64 7])] (.str [55]) := by
  refine ACalls.of_W tb_ok (fn := Tryz.f53) (n := 48) (by kernel_rfl) rfl (by kernel_rfl) rfl rfl (by simp) (go ?_)
  refine VAll.mk (fun b => go ?_)
  refine Fn.use (f_Format7) (go ?_)
  refine VRet.mk [] .nil ?_
  exact ⟨rfl, rfl⟩
theorem f_awake08 : Av.Fn Tryz.prog 11 [] (.bool true) := by
  have h1 : Av.Fn Tryz.prog 10 [.iface 24 (.agg [.int .i64 7])] (.int .i64 0) := by
    refine ACalls.of_W tb_ok (fn := Tryz.f10) (n := 5) (by kernel_rfl) rfl (by kernel_rfl) rfl rfl (by simp) (go ?_)
    refine Fn.use (f_Check7) (go ?_)
    refine VRet.mk [] .nil ?_
    exact ⟨rfl, rfl⟩
  have h2 : Av.Fn Tryz.prog 25 [.iface 24 (.agg [.int .i64 7])] (.tup [.str [55], .int .i64 0]) := by
    refine ACalls.of_W tb_ok (fn := Tryz.f25) (n := 12) (by kernel_rfl) rfl (by kernel_rfl) rfl rfl (by simp) (go ?_)
    refine Fn.use (h1) (go ?_)
    refine Fn.use (f_Text7) (go ?_)
    refine VRet.mk [] .nil ?_
    exact ⟨rfl, rfl⟩
  refine ACalls.of_W tb_ok (fn := Tryz.f11) (n := 15) (by kernel_rfl) rfl (by kernel_rfl) rfl rfl (by simp) (go ?_)
  refine Fn.use (h2) (go ?_)
  refine VRet.mk [] .nil ?_
  exact ⟨rfl, rfl⟩
noncomputable def taeAV (b : Nat) : AV := .iface Tryz.prog.rt.typeAssertionError (.ptr b 0)
theorem f_mi1_ok (b2 b3 : Nat) (st : St) {K : St → Prop} (k : K st) : DCalls Tryz.prog 46 [.ptr b2 0, .ptr b3 0] st none K := by
  refine DCalls.use (s := []) (R := st) (K := fun st' => st' = []) ?_ (.refl _) (fun s' h => by rw [h]; exact k)
  refine DCalls.of_Ws tb_ok (fn := Tryz.f46) (n := 4) (by kernel_rfl) rfl (by kernel_rfl) rfl rfl (by simp) (go ?_)
  refine VRet.mk [] .nil ?_
  rfl
theorem f_mi1_panic (b2 b3 b : Nat) (x y : AV) : DCalls Tryz.prog 46 [.ptr b2 0, .ptr b3 0] [(b2, .box [x]), (b3, .box [y])] (some (taeAV b)) fun st' => st' = [(b2, .box [.int .i64 0]), (b3, .box [.bool false])] := by
  refine DCalls.of_Ws tb_ok (fn := Tryz.f46) (n := 4) (by kernel_rfl) rfl (by kernel_rfl) rfl rfl (by simp) (go ?_)
  exact VRet.mk _ (VSel.refl _) rfl
theorem f_ml1_ok (b2 b3 : Nat) (st : St) {K : St → Prop} (k : K st) : DCalls Tryz.prog 48 [.ptr b2 0, .ptr b3 0] st none K := by
  refine DCalls.use (s := []) (R := st) (K := fun st' => st' = []) ?_ (.refl _) (fun s' h => by rw [h]; exact k)
  refine DCalls.of_Ws tb_ok (fn := Tryz.f48) (n := 4) (by kernel_rfl) rfl (by kernel_rfl) rfl rfl (by simp) (go ?_)
  refine VRet.mk [] .nil ?_
  rfl
theorem f_ml1_panic (b2 b3 b : Nat) (x y : AV) : DCalls Tryz.prog 48 [.ptr b2 0, .ptr b3 0] [(b2, .box [x]), (b3, .box [y])] (some (taeAV b)) fun st' => st' = [(b2, .box [.nils]), (b3, .box [.bool false])] := by
  refine DCalls.of_Ws tb_ok (fn := Tryz.f48) (n := 4) (by kernel_rfl) rfl (by kernel_rfl) rfl rfl (by simp) (go ?_)
  exact VRet.mk _ (VSel.refl _) rfl
theorem f_MustIntOk (n : Int) : Av.Fn Tryz.prog 47 [.iface 24 (.agg [.int .i64 n])] (.int .i64 n) := by
  refine ACalls.of_W tb_ok (fn := Tryz.f47) (n := 6) (by kernel_rfl) rfl (by kernel_rfl) rfl rfl (by simp) (go ?_)
  refine VRet.mk [] .nil ?_
  exact ⟨rfl, rfl⟩
theorem f_mustIntOk (n : Int) : Av.Fn Tryz.prog 14 [.iface 24 (.agg [.int .i64 n])] (.tup [.int .i64 n, .bool true]) := by
  refine ACalls.of_Wd tb_ok (fn := Tryz.f14) (n := 7) (by kernel_rfl) rfl (by kernel_rfl) rfl rfl (by simp) (go ?_)
  refine VAll.mk (fun b2 => go ?_)
  refine VAll.mk (fun b3 => go ?_)
  refine Fn.use (f_MustIntOk n) (go ?_)
  refine f_mi1_ok b2 b3 _ (go ?_)
  refine VRet.mk [] .nil ?_
  exact ⟨rfl, rfl⟩
theorem f_mustIntBad {x : AV} (h : ACalls Tryz.prog 47 [x] [] (fun out st => ∃ b, out = .panic (taeAV b) ∧ st = [])) : Av.Fn Tryz.prog 14 [x] (.tup [.int .i64 0, .bool false]) := by
  refine ACalls.of_Wd tb_ok (fn := Tryz.f14) (n := 7) (by kernel_rfl) rfl (by kernel_rfl) rfl rfl (by simp) (go ?_)
  refine VAll.mk (fun b2 => go ?_)
  refine VAll.mk (fun b3 => go ?_)
  refine ACalls.use (R := [(b3, .box [.bool false]), (b2, .box [.int .i64 0])]) h (.refl _) ?_
  rintro _ _ ⟨b, rfl, rfl⟩
  refine go ?_
  refine DCalls.use (R := []) (f_mi1_panic b2 b3 b (.int .i64 0) (.bool false)) (.swap _ _ _) ?_
  rintro _ rfl
  refine go ?_
  refine VRet.mk [] .nil ?_
  exact ⟨rfl, rfl⟩
theorem f_mustListBad {x : AV} (h : ACalls Tryz.prog 49 [x] [] (fun out st => ∃ b, out = .panic (taeAV b) ∧ st = [])) : Av.Fn Tryz.prog 15 [x] (.tup [.fz [] 0 false, .bool false]) := by
  refine ACalls.of_Wd tb_ok (fn := Tryz.f15) (n := 7) (by kernel_rfl) rfl (by kernel_rfl) rfl rfl (by simp) (go ?_)
  refine VAll.mk (fun b2 => go ?_)
  refine VAll.mk (fun b3 => go ?_)
  refine ACalls.use (R := [(b3, .box [.bool false]), (b2, .box [.nils])]) h (.refl _) ?_
  rintro _ _ ⟨b, rfl, rfl⟩
  refine go ?_
  refine DCalls.use (R := []) (f_ml1_panic b2 b3 b (.nils) (.bool false)) (.swap _ _ _) ?_
  rintro _ rfl
  refine go ?_
  refine VRet.mk [] .nil ?_
  exact ⟨rfl, rfl⟩
theorem f_MustListOk {l : List Tree} (hc : (Tree.list l).clean = true) : Av.Fn Tryz.prog 49 [valAV (.list l)] (.fz (valAVs l) l.length false) := by
  have h := f_Clone hc
  simp only [valAV] at h ⊢
  refine ACalls.of_W tb_ok (fn := Tryz.f49) (n := 9) (by kernel_rfl) rfl (by kernel_rfl) rfl rfl (by simp) (go ?_)
  refine Fn.use (h) (go ?_)
  refine VRet.mk [] .nil ?_
  exact ⟨rfl, rfl⟩
theorem f_mustListOk {l : List Tree} (hc : (Tree.list l).clean = true) : Av.Fn Tryz.prog 15 [valAV (.list l)] (.tup [.fz (valAVs l) l.length false, .bool true]) := by
  have h := f_MustListOk hc
  simp only [valAV] at h ⊢
  refine ACalls.of_Wd tb_ok (fn := Tryz.f15) (n := 7) (by kernel_rfl) rfl (by kernel_rfl) rfl rfl (by simp) (go ?_)
  refine VAll.mk (fun b2 => go ?_)
  refine VAll.mk (fun b3 => go ?_)
  refine Fn.use (h) (go ?_)
  refine f_ml1_ok b2 b3 _ (go ?_)
  refine VRet.mk [] .nil ?_
  exact ⟨rfl, rfl⟩

def miR : Tree → AV
  | .int n => .tup [.int .i64 n, .bool true]
  | _ => .tup [.int .i64 0, .bool false]
def mlR : Tree → AV
  | .list l => .tup [.fz (valAVs l) l.length false, .bool true]
  | _ => .tup [.fz [] 0 false, .bool false]
theorem f_mi {t : Tree} (hc : t.clean = true) : Av.Fn Tryz.prog 14 [valAV t] (miR t) := by
  cases t with
  | int n => exact f_mustIntOk n
  | odd u v => simp [Tree.clean] at hc
  | _ =>
    simp only [valAV]
    refine f_mustIntBad ?_
    refine ACalls.of_W tb_ok (fn := Tryz.f47) (n := 6) (by kernel_rfl) rfl (by kernel_rfl) rfl rfl (by simp) (go ?_)
    refine VAll.mk (fun b => go ?_)
    exact VRet.mk [] .nil ⟨b, rfl, rfl⟩
theorem f_ml {t : Tree} (hc : t.clean = true) : Av.Fn Tryz.prog 15 [valAV t] (mlR t) := by
  cases t with
  | list l => exact f_mustListOk hc
  | odd u v => simp [Tree.clean] at hc
  | _ =>
    simp only [valAV]
    refine f_mustListBad ?_
    refine ACalls.of_W tb_ok (fn := Tryz.f49) (n := 9) (by kernel_rfl) rfl (by kernel_rfl) rfl rfl (by simp) (go ?_)
    refine VAll.mk (fun b => go ?_)
    exact VRet.mk [] .nil ⟨b, rfl, rfl⟩
theorem f_miP (b0 : Nat) : Av.Fn Tryz.prog 14 [.iface 22 (.ptr b0 0)] (.tup [.int .i64 0, .bool false]) := by
  refine f_mustIntBad ?_
  refine ACalls.of_W tb_ok (fn := Tryz.f47) (n := 6) (by kernel_rfl) rfl (by kernel_rfl) rfl rfl (by simp) (go ?_)
  refine VAll.mk (fun b => go ?_)
  exact VRet.mk [] .nil ⟨b, rfl, rfl⟩
theorem f_mlP (b0 : Nat) : Av.Fn Tryz.prog 15 [.iface 22 (.ptr b0 0)] (.tup [.fz [] 0 false, .bool false]) := by
  refine f_mustListBad ?_
  refine ACalls.of_W tb_ok (fn := Tryz.f49) (n := 9) (by kernel_rfl) rfl (by kernel_rfl) rfl rfl (by simp) (go ?_)
  refine VAll.mk (fun b => go ?_)
  exact VRet.mk [] .nil ⟨b, rfl, rfl⟩
theorem f_ValueMusts (v : RV) (p : Bool) (hv : v.inp = true) : Av.Fn Tryz.prog 4 [.agg (rvAV v), .bool p] (.bool true) := by
  have hc := inp_clean v hv
  have h1 := f_Value hv
  have h2 := f_mi hc
  have h3 := f_ml hc
  obtain ⟨k, n, s, l⟩ := v
  have hv' := hv
  simp only [RV.inp, Bool.and_eq_true, decide_eq_true_eq] at hv'
  rw [rvAV] at h1 ⊢
  have hval : valT (.mk k n s l) = if k = 1 then .int n else if k = 2 then .str s else if k = 3 then .bool (decide (n ≠ 0)) else if k = 4 then .list (valTs l) else if k = 5 then .quot (itemTs l) else if k = 6 then .box n else .none := by rw [valT]
  generalize valT (.mk k n s l) = t at h1 h2 h3 hc hval
  refine ACalls.of_W tb_ok (fn := Tryz.f4) (n := 79) (by kernel_rfl) rfl (by kernel_rfl) rfl rfl (by simp) (go ?_)
  refine VAll.mk (fun b => go ?_)
  refine Fn.use (f_awake08) (go ?_)
  refine Fn.use (h1) (go ?_)
  cases p with
  | true =>
    refine go ?_
    refine VAll.mk (fun b4 => go ?_)
    refine Fn.use (f_miP b4) (go ?_)
    refine Fn.use (f_mlP b4) (go ?_)
    refine VRet.mk [] .nil ?_
    exact ⟨rfl, rfl⟩
  | false =>
    refine go ?_
    refine Fn.use (h2) (go ?_)
    by_cases k1 : k = 1
    · rw [if_pos k1] at hval
      subst hval k1
      refine go ?_
      refine Fn.use (h3) (go ?_)
      refine VIf.no (by simp) (go ?_)
      refine VRet.mk [] .nil ?_
      exact ⟨rfl, rfl⟩
    rw [if_neg k1] at hval
    have hmi : miR t = .tup [.int .i64 0, .bool false] := by
      rw [hval]
      repeat' split
      all_goals rfl
    rw [hmi]
    by_cases k4 : k = 4
    · subst k4
      simp only [show ¬ (4 : Int) = 2 by omega, show ¬ (4 : Int) = 3 by omega, if_false, if_true] at hval
      subst hval
      have hc4 := hc
      simp only [Tree.clean, Bool.and_eq_true, decide_eq_true_eq] at hc4
      have g1 := f_Trees hc4.2 hc4.1
      have g2 := f_Values hv'.2 hv'.1.2
      have hsm := clean_smallV (valTs l) hc4.2
      have g3 := f_SameAll hsm hsm (by simpa using hc4.1) (by simpa using hc4.1) [] [] false false
      rw [List.append_nil, sameVs_refl, valRVs_length] at g3
      rw [valTs_length] at g1 g3
      rw [show mlR (.list (valTs l)) = .tup [.fz (valAVs (valTs l)) l.length false, .bool true] by simp [mlR]] at h3
      refine go ?_
      refine Fn.use (h3) (go ?_)
      refine VQ.mk (.fz (rvsC (valRVs (valTs l))) l.length false) (by refine go ?_; refine Fn.use (g1) (go ?_); exact ⟨congrArg _ (rfl), rfl⟩) (go ?_)
      refine VQ.mk (.fz (valAVs (valTs l)) l.length false) (by refine go ?_; refine Fn.use (g2) (go ?_); exact ⟨congrArg _ (rfl), rfl⟩) (go ?_)
      refine VQ.mk (.fz (rvsC (valRVs (valTs l))) l.length false) (by refine go ?_; refine Fn.use (g1) (go ?_); exact ⟨congrArg _ (rfl), rfl⟩) (go ?_)
      refine VQ.mk (.bool true) (by refine go ?_; refine Fn.use (g3) (go ?_); exact ⟨congrArg _ (rfl), rfl⟩) (go ?_)
      refine VRet.mk [] .nil ?_
      exact ⟨rfl, rfl⟩
    · have hml : mlR t = .tup [.fz [] 0 false, .bool false] := by
        rw [hval, if_neg k4]
        repeat' split
        all_goals rfl
      rw [hml] at h3
      refine go ?_
      refine Fn.use (h3) (go ?_)
      refine VIf.yes (by simp [k1]) (go ?_)
      refine VIf.no (by simp [k1]) (go ?_)
      refine VIf.no (by simp [k4]) (go ?_)
      refine VRet.mk [] .nil ?_
      exact ⟨rfl, rfl⟩
end Go.Proofs.YtbmplclnondfnaaGreatDoor

namespace Go.Proofs.YtbmplclnondfnaaGreatDoor
open Go Go.Av
def Bad (x : AV) : Prop := x = .nili ∨ ∃ b, x = .iface 22 (.ptr b 0) ∨ x = .iface 25 (.ptr b 0) ∨ x = .iface 28 (.ptr b 0) ∨ x = .iface 31 (.ptr b 0) ∨ x = .iface 35 (.ptr b 0) ∨ x = .iface 39 (.ptr b 0)
def MeasTo (x : AV) (left nest : Int) (d : Int) (ok : Bool) (left' : Int) : Prop := ∀ b, ACalls Tryz.prog 82 [x, .ptr b 0, .int .i64 nest] [(b, .box [.int .i64 left])] (fun out st => out = .ret (.tup [.int .i64 d, .bool ok]) ∧ st = [(b, .box [.int .i64 left'])])
theorem m_bad {x : AV} (h : Bad x) {left nest : Int} (hl : 1 ≤ left ∧ left ≤ 1000000) (hn : 0 ≤ nest ∧ nest ≤ 32) : MeasTo x left nest 0 false (left - 1) := by
  unfold Bad at h
  intro b
  rcases h with rfl | ⟨p, rfl | rfl | rfl | rfl | rfl | rfl⟩
  all_goals
    refine ACalls.of_W tb_ok (fn := Tryz.f82) (n := 129) (by kernel_rfl) rfl (by kernel_rfl) rfl rfl (by simp) (go ?_)
    refine VIf.no (by simp; omega) (go ?_)
    refine VIf.no (by simp; omega) (go ?_)
    exact VRet.mk _ (.cons 0 rfl .nil) ⟨rfl, rfl⟩
theorem m_int {n left nest : Int} (hn : inR n = true) (hl : 1 ≤ left ∧ left ≤ 1000000) (hne : 0 ≤ nest ∧ nest ≤ 32) : MeasTo (.iface 24 (.agg [.int .i64 n])) left nest 0 true (left - 1) := by
  intro b
  simp only [inR, Bool.and_eq_true, decide_eq_true_eq] at hn
  refine ACalls.of_W tb_ok (fn := Tryz.f82) (n := 129) (by kernel_rfl) rfl (by kernel_rfl) rfl rfl (by simp) (go ?_)
  refine VIf.no (by simp; omega) (go ?_)
  refine VIf.no (by simp; omega) (go ?_)
  refine VAll.mk (fun b2 => go ?_)
  refine VIf.yes (by simp; omega) (go ?_)
  refine VRet.mk [(b, .box [.int .i64 (left - 1)])] (.cons 1 rfl .nil) ?_
  simp; omega
theorem m_listBad {x : AV} (h : Bad x) (ho : x.one = true) : MeasTo (.iface 34 (.agg [.fz [.iface 24 (.agg [.int .i64 1]), x] 2 false])) 1024 0 0 false 1021 := by
  intro b
  have h1 := m_int (n := 1) (left := 1023) (nest := 1) (by decide) (by omega) (by omega) b
  have h2 := m_bad h (left := 1022) (nest := 1) (by omega) (by omega) b
  refine ACalls.of_W tb_ok (fn := Tryz.f82) (n := 129) (by kernel_rfl) rfl (by kernel_rfl) rfl rfl (by simp) (go ?_)
  refine VAll.mk (fun b2 => go ?_)
  refine VLoop.un 3 [79, 6] (go ?_)
  refine ACalls.use (R := [(b2, .box [.fz [.iface 24 (.agg [.int .i64 1]), x] 2 false])]) h1 (.swap _ _ _) ?_
  rintro _ _ ⟨rfl, rfl⟩
  refine go ?_
  refine ACalls.use (R := [(b2, .box [.fz [.iface 24 (.agg [.int .i64 1]), x] 2 false])]) h2 (.refl _) ?_
  rintro _ _ ⟨rfl, rfl⟩
  refine go ?_
  exact VRet.mk _ (.cons 0 rfl .nil) ⟨rfl, rfl⟩
/-- Likewise, of items. -/
def ItemTo (x : AV) (left nest : Int) (d : Int) (ok : Bool) (left' : Int) : Prop := ∀ b, ACalls Tryz.prog 114 [x, .ptr b 0, .int .i64 nest] [(b, .box [.int .i64 left])] (fun out st => out = .ret (.tup [.int .i64 d, .bool ok]) ∧ st = [(b, .box [.int .i64 left'])])
theorem i_push {x : AV} {left nest d left' : Int} {ok : Bool} (h : MeasTo x left nest d ok left') (ho : x.one = true) : ItemTo (.iface 45 (.agg [x])) left nest d ok left' := by
  intro b
  refine ACalls.of_W tb_ok (fn := Tryz.f114) (n := 47) (by kernel_rfl) rfl (by kernel_rfl) rfl rfl (by simp) (go ?_)
  refine VAll.mk (fun b2 => go ?_)
  refine ACalls.use (R := [(b2, .box [x])]) (h b) (.swap _ _ _) ?_
  rintro _ _ ⟨rfl, rfl⟩
  refine go ?_
  exact VRet.mk _ (.cons 0 rfl .nil) ⟨rfl, rfl⟩
theorem i_bad {x : AV} (h : x = .nili ∨ ∃ b, x = .iface 50 (.ptr b 0)) {left nest : Int} (hl : -1000 ≤ left ∧ left ≤ 1000000) : ItemTo x left nest 0 false (left - 1) := by
  intro b
  rcases h with rfl | ⟨p, rfl⟩
  all_goals
    refine ACalls.of_W tb_ok (fn := Tryz.f114) (n := 47) (by kernel_rfl) rfl (by kernel_rfl) rfl rfl (by simp) (go ?_)
    refine VAll.mk (fun b2 => go ?_)
    refine VAll.mk (fun b3 => go ?_)
    exact VRet.mk [(b, .box [.int .i64 (left - 1)])] (.cons 2 rfl .nil) ⟨rfl, rfl⟩
theorem m_quot1 {x : AV} {d left' : Int} (h : ItemTo x 1023 1 d false left') (ho : x.one = true) : MeasTo (.iface 38 (.agg [.fz [x] 1 false])) 1024 0 0 false left' := by
  intro b
  refine ACalls.of_W tb_ok (fn := Tryz.f82) (n := 129) (by kernel_rfl) rfl (by kernel_rfl) rfl rfl (by simp) (go ?_)
  refine VAll.mk (fun b2 => go ?_)
  refine VLoop.un 2 [107, 6] (go ?_)
  refine ACalls.use (R := [(b2, .box [.fz [x] 1 false])]) (h b) (.swap _ _ _) ?_
  rintro _ _ ⟨rfl, rfl⟩
  refine go ?_
  exact VRet.mk _ (.cons 0 rfl .nil) ⟨rfl, rfl⟩
theorem f_CheckTo {x : AV} {d left' : Int} {ok : Bool} (h : MeasTo x 1024 0 d ok left') : Av.Fn Tryz.prog 44 [x] (.int .i64 (if ok then 0 else 1)) := by
  refine ACalls.of_W tb_ok (fn := Tryz.f44) (n := 13) (by kernel_rfl) rfl (by kernel_rfl) rfl rfl (by simp) (go ?_)
  refine VAll.mk (fun b => go ?_)
  refine ACalls.use (R := []) (h b) (.refl _) ?_
  rintro _ _ ⟨rfl, rfl⟩
  cases ok with
  | true =>
    refine go ?_
    refine VRet.mk [] .nil ?_
    exact ⟨rfl, rfl⟩
  | false =>
    refine go ?_
    refine VRet.mk [] .nil ?_
    exact ⟨rfl, rfl⟩
theorem f_vCheckTo {x : AV} {d left' : Int} {ok : Bool} (h : MeasTo x 1024 0 d ok left') : Av.Fn Tryz.prog 10 [x] (.int .i64 (if ok then 0 else 1)) := by
  have h := f_CheckTo h
  refine ACalls.of_W tb_ok (fn := Tryz.f10) (n := 5) (by kernel_rfl) rfl (by kernel_rfl) rfl rfl (by simp) (go ?_)
  refine Fn.use (h) (go ?_)
  refine VRet.mk [] .nil ?_
  exact ⟨rfl, rfl⟩
theorem f_vItemsTo {x : AV} {d left' : Int} (h : ItemTo x 1023 1 d false left') (ho : x.one = true) : Av.Fn Tryz.prog 12 [.fz [x] 1 false] (.int .i64 1) := by
  have h := f_CheckTo (m_quot1 h ho)
  have h' : Av.Fn Tryz.prog 45 [.fz [x] 1 false] (.int .i64 1) := by
    refine ACalls.of_W tb_ok (fn := Tryz.f45) (n := 7) (by kernel_rfl) rfl (by kernel_rfl) rfl rfl (by simp) (go ?_)
    refine Fn.use (h) (go ?_)
    refine VRet.mk [] .nil ?_
    exact ⟨rfl, rfl⟩
  refine ACalls.of_W tb_ok (fn := Tryz.f12) (n := 5) (by kernel_rfl) rfl (by kernel_rfl) rfl rfl (by simp) (go ?_)
  refine Fn.use (h') (go ?_)
  refine VRet.mk [] .nil ?_
  exact ⟨rfl, rfl⟩
theorem f_ValuePointers (n : Int) (hn : -9223372036854775808 ≤ n ∧ n ≤ 9223372036854775807) : Av.Fn Tryz.prog 3 [.int .i64 n] (.bool true) := by
  refine ACalls.of_W tb_ok (fn := Tryz.f3) (n := 81) (by kernel_rfl) rfl (by kernel_rfl) rfl rfl (by simp) (go ?_)
  refine VAll.mk (fun b1 => go ?_)
  refine VAll.mk (fun b2 => go ?_)
  refine VAll.mk (fun b3 => go ?_)
  refine VAll.mk (fun b4 => go ?_)
  refine VAll.mk (fun b5 => go ?_)
  refine VAll.mk (fun b6 => go ?_)
  have hb : ∀ x ∈ [AV.nili, .iface 22 (.ptr b1 0), .iface 25 (.ptr b2 0), .iface 28 (.ptr b3 0), .iface 31 (.ptr b4 0), .iface 35 (.ptr b5 0), .iface 39 (.ptr b6 0)], Bad x ∧ x.one = true := by
    intro x hx
    simp only [List.mem_cons, List.not_mem_nil, or_false] at hx
    unfold Bad
    rcases hx with rfl | rfl | rfl | rfl | rfl | rfl | rfl <;> simp [AV.one]
  refine VLoop.mk [4] Nat (fun i => [.int .i64 i]) (fun _ => []) (fun i => i ≤ 7) (fun i => 7 - i) 0 ?_ ?_
  · exact ⟨by omega, rfl, .nil⟩
  rintro i hi
  refine go ?_
  refine fork (fun hlt => go ?_) (fun hlt => go ?_)
  · have hlt : i < 7 := by omega
    obtain ⟨x, hx⟩ : ∃ x, [AV.nili, .iface 22 (.ptr b1 0), .iface 25 (.ptr b2 0), .iface 28 (.ptr b3 0), .iface 31 (.ptr b4 0), .iface 35 (.ptr b5 0), .iface 39 (.ptr b6 0)][i]? = some x := ⟨_, List.getElem?_eq_getElem (by simpa using hlt)⟩
    obtain ⟨hbx, ho⟩ := hb x (List.mem_of_getElem? hx)
    have c1 := f_vCheckTo (m_bad hbx (left := 1024) (nest := 0) (by omega) (by omega))
    have c2 := f_vCheckTo (m_listBad hbx ho)
    have c3 := f_vCheckTo (m_quot1 (i_push (m_bad hbx (left := 1023) (nest := 1) (by omega) (by omega)) ho) rfl)
    have hx' := hx
    rw [← Nat.mul_one i, ← mulN_eq] at hx'
    refine VNth.mk x (by simpa [mulN_eq] using hx) (go ?_)
    refine VOne.mk ho (go ?_)
    refine VAll.mk (fun c => go ?_)
    refine VNth.mk x (by simpa [mulN_eq] using hx) (go ?_)
    refine VOne.mk ho (go ?_)
    refine VAll.mk (fun c' => go ?_)
    refine VNth.mk x (by simpa [mulN_eq] using hx) (go ?_)
    refine Fn.use (c1) (go ?_)
    refine Fn.use (c2) (go ?_)
    refine Fn.use (c3) (go ?_)
    exact ⟨i + 1, by omega, by omega, rfl, .nil⟩
  · have d1 := f_vItemsTo (i_bad (x := .nili) (.inl rfl) (left := 1023) (nest := 1) (by omega)) rfl
    refine Fn.use (f_awake08) (go ?_)
    refine VAll.mk (fun b7 => go ?_)
    have d2 := f_vItemsTo (i_bad (x := .iface 50 (.ptr b7 0)) (.inr ⟨b7, rfl⟩) (left := 1023) (nest := 1) (by omega)) rfl
    refine Fn.use (d2) (go ?_)
    refine Fn.use (d1) (go ?_)
    refine VRet.mk [] .nil ?_
    exact ⟨rfl, rfl⟩
end Go.Proofs.YtbmplclnondfnaaGreatDoor
