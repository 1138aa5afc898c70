/- link.places over a slice of one's own. Conditions: as it says. link.Link: the walk. Conditions: as each says. How long names and bodies are that are sound. Conditions: none. Dictionaries of package api out of the reference's: the walk. Conditions: as each says. The reference's dictionaries as a row's argument. Conditions: as each says. LinkBack: the walk. Conditions: what is handed in is what a row's argument may be. -/
import Derived.Test.YtonkeklageehbaaGreatDoorX11
import Derived.Test.YtonkeklageehbaaGreatDoorX12
import Derived.Test.YtonkeklageehbaaGreatDoorX8
import Derived.Test.YtonkeklageehbaaGreatDoorX9
import Derived.Test.YtonkeklageehbaaGreatDoorX7
import Derived.Test.YtonkeklageehbaaGreatDoorX10
set_option linter.all false
set_option maxRecDepth 20000
namespace Go.Proofs.YtonkeklageehbaaGreatDoor
open Go Go.Av
def nilC (n : List UInt8) : List AV := [.str n, .nils]
theorem nilC_len (n : List UInt8) : (nilC n).length = 2 := rfl
set_option maxHeartbeats 1000000 in
theorem f_placesO (b : Nat) (names : List (List UInt8)) (hl : names.length ≤ 1048576) (hup : ∀ k m, names[k]? = some m → m ∉ names.take k) :
    ACalls Tryz.prog 25 [.own b names.length] [(b, .arr 2 (names.flatMap nilC) 0)] fun out st' => ∃ bw bp, out = .ret (.tup [.mapr bw, .mapr bp]) ∧ st' = [(bw, .map (entsN names 0)), (bp, .map (entsN namesL 0)), (b, .arr 2 (names.flatMap nilC) 0)] := by
  have hlen : (names.flatMap nilC).length = names.length * 2 := flat_len nilC 2 nilC_len names
  refine ACalls.of_W tb_ok (fn := Tryz.f25) (n := 35) (by kernel_rfl) rfl (by kernel_rfl) rfl rfl (by simp) (go ?_)
  refine VAll.mk (fun bw => go ?_)
  refine VAll.mk (fun bp => go ?_)
  refine VLoop.mk [12] Nat (fun k => [.int .i64 k]) (fun k => [(bw, .map (entsN (names.take k) 0)), (bp, .map []), (b, .arr 2 (names.flatMap nilC) 0)]) (fun k => k ≤ names.length) (fun k => names.length - k) 0 ?_ ?_
  · exact ⟨Nat.zero_le _, rfl, .cons 1 rfl (.cons 0 rfl (.cons 0 rfl .nil))⟩
  rintro k hk
  dsimp only at hk ⊢
  refine go ?_
  refine fork (fun hlt => go ?_) (fun hlt => ?_)
  · have hlt : k < names.length := by omega
    obtain ⟨nm, hnk⟩ : ∃ x, names[k]? = some x := ⟨names[k], by simp [hlt]⟩
    have hd := flat_drop nilC 2 nilC_len hnk
    have hni := hup k _ hnk
    have hf := mapFind_N nm (names.take k) 0
    rw [placeL_none _ _ _ hni] at hf
    have hsn : entsN (names.take (k + 1)) 0 = entsN (names.take k) 0 ++ [(.str nm, .int .i64 (k : Nat))] := by
      rw [take_succ_at hnk, entsN_snoc, List.length_take, Nat.zero_add, Nat.min_eq_left hk]
    have d0 : (List.drop (mulN k 2) (names.flatMap nilC)).take 2 = [.str nm, .nils] := by rw [hd]; rfl
    refine VTake.mk _ d0 rfl (go ?_)
    refine VAll.mk (fun b5 => go ?_)
    refine VMap.mk none hf (go ?_)
    exact ⟨k + 1, by omega, by omega, rfl, .cons 1 (congrArg (fun c => some (bw, AObj.map c)) hsn.symm) (.cons 1 rfl (.cons 1 rfl .nil))⟩
  obtain rfl : k = names.length := by omega
  rw [List.take_of_length_le (Nat.le_refl _)]
  generalize entsN names 0 = ew
  generalize names.flatMap nilC = cs at *
  refine go ?_
  refine Fn.use (f_pNames) (go ?_)
  refine VLoop.mk [24] Nat (fun k => [.int .i64 k]) (fun k => [(bw, .map ew), (bp, .map (entsN (namesL.take k) 0)), (b, .arr 2 cs 0)]) (fun k => k ≤ 52) (fun k => 52 - k) 0 ?_ ?_
  · exact ⟨Nat.zero_le _, rfl, .cons 0 rfl (.cons 0 rfl (.cons 0 rfl .nil))⟩
  rintro k hk
  dsimp only at hk ⊢
  refine go ?_
  refine fork (fun hlt => go ?_) (fun hlt => ?_)
  · have hlt : k < 52 := by omega
    obtain ⟨w, hw⟩ : ∃ w, namesL[k]? = some w := ⟨_, List.getElem?_eq_getElem (show k < namesL.length from hlt)⟩
    have hf := mapFind_N w (namesL.take k) 0
    rw [placeL_none _ _ _ (names_notin hw)] at hf
    have hsn : entsN (namesL.take (k + 1)) 0 = entsN (namesL.take k) 0 ++ [(.str w, .int .i64 (k : Nat))] := by
      rw [take_succ_at hw, entsN_snoc, List.length_take, Nat.zero_add, Nat.min_eq_left (show k ≤ namesL.length from hk)]
    refine VNth.mk (.str w) (by rw [mulN_eq]; simp [hw]) (go ?_)
    refine VMap.mk none hf (go ?_)
    exact ⟨k + 1, by omega, by omega, rfl, .cons 0 rfl (.cons 0 (congrArg (fun c => some (bp, AObj.map c)) hsn.symm) (.cons 0 rfl .nil))⟩
  obtain rfl : k = 52 := by omega
  rw [show namesL.take 52 = namesL from rfl]
  generalize entsN namesL 0 = ep
  refine go ?_
  exact VRet.mk _ (.cons 0 rfl (.cons 0 rfl (.cons 0 rfl .nil))) ⟨bw, bp, rfl, rfl⟩
end Go.Proofs.YtonkeklageehbaaGreatDoor

namespace Go.Proofs.YtonkeklageehbaaGreatDoor
open Go Go.Av
/-- The codes that are done: in the codes' own memory, and the operations' own. -/
inductive Done (names : List (List UInt8)) : List WordT → List AV → St → Prop
  | nil : Done names [] [] []
  | empty {ws : List WordT} {pre : List AV} {ds : St} (w : WordT) (h : w.body = []) (k : Done names ws pre ds) : Done names (ws ++ [w]) (pre ++ [.str w.name, .nils]) ds
  | own {ws : List WordT} {pre : List AV} {ds : St} (w : WordT) (b : Nat) (k : Done names ws pre ds) : Done names (ws ++ [w]) (pre ++ [.str w.name, .own b w.body.length]) ((b, .arr 3 (opsC (w.body.map (opD names))) 0) :: ds)
theorem Done.len {names : List (List UInt8)} {ws : List WordT} {pre : List AV} {ds : St} (h : Done names ws pre ds) : pre.length = ws.length * 2 := by
  induction h with
  | nil => rfl
  | empty w h k ih => simp only [List.length_append, List.length_cons, List.length_nil, ih]; omega
  | own w b k ih => simp only [List.length_append, List.length_cons, List.length_nil, ih]; omega
theorem set_mid (pre : List AV) (a x y : AV) (post : List AV) : (pre ++ [a, x] ++ post).set (pre.length + 1) y = pre ++ ([a, y] ++ post) := by
  rw [List.append_assoc, List.set_append_right _ _ (by omega)]; simp
theorem at_mid (pre : List AV) (a x : AV) (post : List AV) : (pre ++ [a, x] ++ post)[pre.length + 1]? = some x := by
  rw [List.append_assoc, List.getElem?_append_right (by omega)]; simp
theorem at_mid' (L : St) (x : Nat × AObj) (ds : St) (y : Nat × AObj) : (y :: (L ++ x :: ds))[L.length + 1]? = some x := by
  rw [List.getElem?_cons_succ, List.getElem?_append_right (Nat.le_refl _)]; simp
theorem set_mid' (L : St) (x x' : Nat × AObj) (ds : St) (y y' : Nat × AObj) : ((y :: (L ++ x :: ds)).set (L.length + 1) x').set 0 y' = y' :: ((L ++ [x']) ++ ds) := by
  rw [List.set_cons_succ, List.set_append_right _ _ (Nat.le_refl _)]; simp
theorem codeC_D (names : List (List UInt8)) (w : WordT) : codeC (codeD names w) = [.str w.name, .fz (opsC (w.body.map (opD names))) w.body.length false] := by unfold codeC codeD; dsimp only; rw [List.length_map]
theorem Done.frz {names : List (List UInt8)} {ws : List WordT} {pre : List AV} {ds : St} (h : Done names ws pre ds) : ∀ (b z : Nat) (post : List AV) (L : St),
    ∃ ds', FzC ((b, .arr 2 (pre ++ post) z) :: (L ++ ds)) ((b, .arr 2 (codesC (ws.map (codeD names)) ++ post) z) :: (L ++ ds')) := by
  induction h with
  | nil => exact fun b z post L => ⟨[], .refl _⟩
  | @empty ws pre ds w h k ih =>
    intro b z post L
    obtain ⟨ds', hh⟩ := ih b z ([.str w.name, .fz [] 0 false] ++ post) L
    refine ⟨ds', .nils 0 (pre.length + 1) rfl (at_mid _ _ _ _) ?_⟩
    rw [List.set_cons_zero, set_mid]
    have e : codesC ((ws ++ [w]).map (codeD names)) ++ post = codesC (ws.map (codeD names)) ++ ([.str w.name, .fz [] 0 false] ++ post) := by
      unfold codesC
      rw [List.map_append, List.flatMap_append, List.map_singleton, List.flatMap_singleton, codeC_D, h, List.append_assoc]; rfl
    rw [e]; exact hh
  | @own ws pre ds w bo k ih =>
    intro b z post L
    obtain ⟨ds', hh⟩ := ih b z ([.str w.name, .fz (opsC (w.body.map (opD names))) w.body.length false] ++ post) (L ++ [(bo, .arr 3 (opsC (w.body.map (opD names))) (max 0 (w.body.length * 3)))])
    have hl : (opsC (w.body.map (opD names))).length = w.body.length * 3 := by rw [opsC_len, List.length_map]
    refine ⟨(bo, .arr 3 (opsC (w.body.map (opD names))) (max 0 (w.body.length * 3))) :: ds', .step 0 (L.length + 1) (pre.length + 1) rfl (at_mid _ _ _ _) (by omega) (at_mid' _ _ _ _) (by rw [hl]; exact Nat.le_refl _) ?_⟩
    rw [set_mid', set_mid, List.take_of_length_le (by rw [hl]; exact Nat.le_refl _)]
    have e : codesC ((ws ++ [w]).map (codeD names)) ++ post = codesC (ws.map (codeD names)) ++ ([.str w.name, .fz (opsC (w.body.map (opD names))) w.body.length false] ++ post) := by
      unfold codesC
      rw [List.map_append, List.flatMap_append, List.map_singleton, List.flatMap_singleton, codeC_D, List.append_assoc]
    rw [e]
    rw [List.append_assoc L _ ds'] at hh
    exact hh
theorem opV_D (names : List (List UInt8)) (t : Tree) : ∃ ok, opV (opOf names t) = .tup [.agg (opC (opD names t)), .bool ok] := by
  unfold opD
  cases opOf names t with
  | none => exact ⟨false, rfl⟩
  | some o => exact ⟨true, rfl⟩
theorem VSel.pre : ∀ (ds X : St), VSel ds (ds ++ X)
  | [], _ => .nil
  | _ :: r, X => .cons 0 rfl (VSel.pre r X)
/-- What link.Link answers, in memory of its own. -/
inductive LinkP (ws : List WordT) : Bool → AOut → St → Prop
  | bad : LinkP ws false (.ret (.tup [.fz [] 0 false, .int .i64 1])) []
  | none (h : ws = []) : LinkP ws true (.ret (.tup [.fz [] 0 false, .int .i64 0])) []
  | some (b : Nat) (pre : List AV) (ds : St) (h : Done (ws.map (·.name)) ws pre ds) : LinkP ws true (.ret (.tup [.own b ws.length, .int .i64 0])) ((b, .arr 2 pre 0) :: ds)
structure LnkI where
  k : Nat
  pre : List AV
  ds : St
structure LnkJ where
  j : Nat
  o : Option Nat

set_option maxHeartbeats 4000000 in
theorem f_LinkO (d : DictT) (hv : d.vocs.length ≤ 4000000000000) (hu : ∀ v ∈ d.vocs, v.uses.length ≤ 1000000000000000) (hn : ∀ v ∈ d.vocs, v.name.length ≤ 140737488351232) (hwi : ∀ w ∈ d.words, WordIn w) :
    ACalls Tryz.prog 8 [.agg (dictC d)] [] fun out st => LinkP d.words (dictOk d) out st := by
  have fc := f_dCheck d hv hu hn hwi
  have hok := fun h => dict_ok (d := d) h
  generalize dictOk d = r at fc hok ⊢
  obtain ⟨vs, ws⟩ := d
  dsimp only at hv hu hn hwi fc hok ⊢
  have hdc : dictC ⟨vs, ws⟩ = [.fz (vs.flatMap vocC) vs.length false, .fz (ws.flatMap wordC) ws.length false] := rfl
  rw [hdc] at fc ⊢
  generalize AV.fz (vs.flatMap vocC) vs.length false = k0 at fc ⊢
  cases r with
  | false =>
    rw [if_neg (by simp)] at fc
    refine ACalls.of_W tb_ok (fn := Tryz.f8) (n := 79) (by kernel_rfl) rfl (by kernel_rfl) rfl rfl (by simp) (go ?_)
    refine VAll.mk (fun b1 => go ?_)
    refine ACalls.usep (R := [(b1, .box [k0, .fz (ws.flatMap wordC) ws.length false])]) fc (by exact List.Perm.refl _) ?_
    rintro out s' ⟨rfl, rfl⟩
    refine go ?_
    exact VRet.mk [] .nil .bad
  | true =>
    have hD := hok rfl
    have hlen := hD.len
    rw [if_pos rfl] at fc
    refine ACalls.of_W tb_ok (fn := Tryz.f8) (n := 79) (by kernel_rfl) rfl (by kernel_rfl) rfl rfl (by simp) (go ?_)
    refine VAll.mk (fun b1 => go ?_)
    refine ACalls.usep (R := [(b1, .box [k0, .fz (ws.flatMap wordC) ws.length false])]) fc (by exact List.Perm.refl _) ?_
    rintro out s' ⟨rfl, rfl⟩
    refine go ?_
    refine VLoop.mk [5, 24] AccI (fun i => [accV i.o i.k, .int .i64 i.k]) (fun i => (b1, .box [k0, .fz (ws.flatMap wordC) ws.length false]) :: accS i.o 2 (((ws.map (·.name)).take i.k).flatMap nilC)) (fun i => i.k ≤ ws.length ∧ (i.o = none → i.k = 0)) (fun i => ws.length - i.k) ⟨0, none⟩ ?_ ?_
    · exact ⟨⟨Nat.zero_le _, fun _ => rfl⟩, rfl, .cons 0 rfl .nil⟩
    rintro ⟨k, o⟩ ⟨hk, ho⟩
    dsimp only at hk ho ⊢
    refine go ?_
    refine fork (fun hlt => go ?_) (fun hlt => ?_)
    · have hlt : k < ws.length := by omega
      obtain ⟨x, hx⟩ : ∃ x, ws[k]? = some x := ⟨ws[k], by simp [hlt]⟩
      have hdp := flat_drop wordC 5 wordC_len hx
      have hnk : (ws.map (·.name))[k]? = some x.name := by rw [List.getElem?_map, hx]; rfl
      have hacc : ((ws.map (·.name)).take (k + 1)).flatMap nilC = ((ws.map (·.name)).take k).flatMap nilC ++ nilC x.name := by
        rw [take_succ_at hnk, List.flatMap_append]; simp
      have hln : (((ws.map (·.name)).take k).flatMap nilC).length = k * 2 := by rw [flat_len nilC 2 nilC_len, List.length_take, List.length_map]; congr 1; omega
      have d0 : (List.drop (mulN k 5) (ws.flatMap wordC)).take 5 = wordC x := by rw [hdp]; rfl
      refine VTake.mk _ d0 rfl (go ?_)
      refine VAll.mk (fun b7 => ?_)
      repeat' ((conv => whnf); first | refine VAnd.mk ?_ ?_ | refine VGd.mk rfl ?_ | refine VGd.mk (by decide) ?_ | refine VOne.mk rfl ?_ | refine VFz.nil ?_ | refine VFz.keep ?_ | refine VObj.mk 0 _ rfl ?_ | refine VObj.mk 1 _ rfl ?_ | refine VObj.mk 2 _ rfl ?_ | refine VObj.mk 3 _ rfl ?_ | refine VObj.mk 4 _ rfl ?_ | refine VTake.mk _ rfl rfl ?_ | refine VNth.mk _ rfl ?_ | refine VIf.tt ?_ | refine VIf.ff ?_)
      all_goals (conv => whnf)
      cases o with
      | none =>
        obtain rfl : k = 0 := ho rfl
        refine go ?_
        refine VAll.mk (fun b8 => go ?_)
        refine ⟨⟨1, some b8⟩, ⟨by dsimp only; omega, by simp⟩, by dsimp only; omega, rfl, .cons 2 rfl (.cons 0 (congrArg (fun c => some (b8, AObj.arr 2 c 0)) ?_) .nil)⟩
        exact hacc.symm
      | some bo =>
        refine go ?_
        refine VGd.mk ⟨rfl, Nat.zero_le _, by rw [mulN_eq, hln]; exact Nat.le_refl _, by dsimp only; omega⟩ (go ?_)
        refine VAll.mk (fun b8 => go ?_)
        refine ⟨⟨k + 1, some b8⟩, ⟨by dsimp only; omega, by simp⟩, by dsimp only; omega, rfl, .cons 2 rfl (.cons 0 (congrArg (fun c => some (b8, AObj.arr 2 c 0)) ?_) .nil)⟩
        rw [mulN_eq, List.take_of_length_le (by rw [hln]; exact Nat.le_refl _)]
        exact hacc.symm
    · obtain rfl : k = ws.length := by omega
      have etk : (ws.map (·.name)).take ws.length = ws.map (·.name) := List.take_of_length_le (by rw [List.length_map]; exact Nat.le_refl _)
      rw [etk]
      have hup := names_uniq hD
      cases o with
      | none =>
        have h0 : ws.length = 0 := ho rfl
        obtain rfl : ws = [] := List.length_eq_zero_iff.1 h0
        have hp := f_places [] (by simp) (by intro k m h; cases h)
        refine go ?_
        refine ACalls.usep (R := [(b1, .box [k0, .fz [] 0 false])]) hp (by exact List.Perm.refl _) ?_
        rintro out s' ⟨bw, bp, rfl, rfl⟩
        refine go ?_
        refine VLoop.mk [44] Nat (fun k => [.int .i64 k]) (fun _ => []) (fun k => k = 0) (fun _ => 0) 0 ?_ ?_
        · exact ⟨rfl, rfl, .nil⟩
        rintro k rfl
        refine go ?_
        exact VRet.mk [] .nil (.none rfl)
      | some b =>
        have hp := f_placesO b (ws.map (·.name)) (by rw [List.length_map]; omega) hup
        rw [List.length_map] at hp
        repeat' ((conv => whnf); first | refine VAnd.mk ?_ ?_ | refine VGd.mk rfl ?_ | refine VGd.mk (by decide) ?_ | refine VOne.mk rfl ?_ | refine VFz.nil ?_ | refine VFz.keep ?_ | refine VObj.mk 0 _ rfl ?_ | refine VObj.mk 1 _ rfl ?_ | refine VObj.mk 2 _ rfl ?_ | refine VObj.mk 3 _ rfl ?_ | refine VObj.mk 4 _ rfl ?_ | refine VTake.mk _ rfl rfl ?_ | refine VNth.mk _ rfl ?_ | refine VIf.tt ?_ | refine VIf.ff ?_)
        all_goals (conv => whnf)
        refine ACalls.usep (R := [(b1, .box [k0, .fz (ws.flatMap wordC) ws.length false])]) hp (by exact List.Perm.swap _ _ _) ?_
        rintro out s' ⟨bw, bp, rfl, rfl⟩
        obtain ⟨names, hnm⟩ : ∃ n, n = ws.map (·.name) := ⟨_, rfl⟩
        rw [← hnm]
        refine go ?_
        refine VLoop.mk [44] LnkI (fun i => [.int .i64 i.k]) (fun i => (b, .arr 2 (i.pre ++ ((names.drop i.k).flatMap nilC)) 0) :: (i.ds ++ [(bw, .map (entsN names 0)), (bp, .map (entsN namesL 0))])) (fun i => i.k ≤ ws.length ∧ Done names (ws.take i.k) i.pre i.ds) (fun i => ws.length - i.k) ⟨0, [], []⟩ ?_ ?_
        · exact ⟨⟨Nat.zero_le _, .nil⟩, rfl, .cons 3 rfl (.cons 1 rfl (.cons 1 rfl .nil))⟩
        rintro ⟨k, pre, ds⟩ ⟨hk, hdn⟩
        dsimp only at hk hdn ⊢
        refine go ?_
        refine fork (fun hlt => go ?_) (fun hlt => ?_)
        · have hlt : k < ws.length := by omega
          obtain ⟨x, hx⟩ : ∃ x, ws[k]? = some x := ⟨ws[k], by simp [hlt]⟩
          have hxm := List.mem_of_getElem? hx
          have hdp := flat_drop wordC 5 wordC_len hx
          have hnk : names[k]? = some x.name := by rw [hnm, List.getElem?_map, hx]; rfl
          have hnd : (names.drop k).flatMap nilC = [.str x.name, .nils] ++ (names.drop (k + 1)).flatMap nilC := by
            have hlt' := (List.getElem?_eq_some_iff.1 hnk).1
            rw [List.drop_eq_getElem_cons hlt', List.flatMap_cons]
            rw [List.getElem?_eq_getElem hlt'] at hnk
            rw [Option.some.inj hnk]; rfl
          have hpl := hdn.len
          rw [List.length_take, Nat.min_eq_left hk] at hpl
          have d0 : (List.drop (mulN k 5) (ws.flatMap wordC)).take 5 = wordC x := by rw [hdp]; rfl
          have htk := take_succ_at hx
          have hW := hwi x hxm
          have hcl := hW.clean
          simp only [Tree.clean, Bool.and_eq_true, decide_eq_true_eq] at hcl
          have hfl := check_full (hD.check x hxm).1
          rw [hnd]
          generalize hpo : (names.drop (k + 1)).flatMap nilC = post
          refine VTake.mk _ d0 rfl (go ?_)
          refine VAll.mk (fun b11 => go ?_)
          have hsuc := fun (l : List AV) (z : St) (h : Done names (ws.take k ++ [x]) l z) => (htk ▸ h : Done names (ws.take (k + 1)) l z)
          clear htk d0 hdp hnd hnk hx
          obtain ⟨vb, nm, inn, outn, body⟩ := x
          dsimp only at hcl hfl hsuc ⊢
          refine VLoop.mk [53] LnkJ (fun i => [.int .i64 i.j]) (fun i => (b, .arr 2 (pre ++ [.str nm, accV i.o i.j] ++ post) 0) :: ((accS i.o 3 (opsC ((body.take i.j).map (opD names))) ++ ds) ++ [(bw, .map (entsN names 0)), (bp, .map (entsN namesL 0))])) (fun i => i.j ≤ body.length ∧ (i.o = none → i.j = 0)) (fun i => body.length - i.j) ⟨0, none⟩ ?_ ?_
          · exact ⟨⟨Nat.zero_le _, fun _ => rfl⟩, rfl, .cons 1 (by simp [accV]) (VSel.skip1 _ _)⟩
          rintro ⟨j, o⟩ ⟨hj, hoj⟩
          dsimp only at hj hoj ⊢
          refine go ?_
          refine fork (fun hlt => go ?_) (fun hlt => ?_)
          · have hlt : j < body.length := by omega
            obtain ⟨t, ht⟩ : ∃ t, body[j]? = some t := ⟨body[j], by simp [hlt]⟩
            have hop := f_op (names := names) (bw := bw) (bp := bp) (cleanAll_at hcl.2 ht) (fullAll_at hfl ht)
            obtain ⟨ok, hv⟩ := opV_D names t
            rw [hv] at hop
            have hacc : opsC ((body.take (j + 1)).map (opD names)) = opsC ((body.take j).map (opD names)) ++ opC (opD names t) := by
              unfold opsC
              rw [take_succ_at ht, List.map_append, List.flatMap_append]; simp
            have hln : (opsC ((body.take j).map (opD names))).length = j * 3 := by rw [opsC_len, List.length_map, List.length_take]; congr 1; omega
            refine VNth.mk (itemAV t) (by rw [mulN_eq]; simp [itemAVs_map, ht]) (go ?_)
            refine ACalls.usep (R := (b, .arr 2 (pre ++ [.str nm, accV o j] ++ post) 0) :: (accS o 3 (opsC ((body.take j).map (opD names))) ++ ds)) hop (by exact List.perm_append_comm) ?_
            rintro out s' ⟨rfl, rfl⟩
            generalize opD names t = op at hacc ⊢
            refine go ?_
            refine VAll.mk (fun b14 => ?_)
            repeat' ((conv => whnf); first | refine VAnd.mk ?_ ?_ | refine VGd.mk rfl ?_ | refine VGd.mk (by decide) ?_ | refine VOne.mk rfl ?_ | refine VFz.nil ?_ | refine VFz.keep ?_ | refine VObj.mk 0 _ rfl ?_ | refine VObj.mk 1 _ rfl ?_ | refine VObj.mk 2 _ rfl ?_ | refine VObj.mk 3 _ rfl ?_ | refine VObj.mk 4 _ rfl ?_ | refine VTake.mk _ rfl rfl ?_ | refine VNth.mk _ rfl ?_ | refine VIf.tt ?_ | refine VIf.ff ?_)
            all_goals (conv => whnf)
            refine VDraw.chain [9, 12] (go ?_)
            have dcell : (pre ++ [.str nm, accV o j] ++ post)[mulN k 2 + 1]? = some (accV o j) := by rw [mulN_eq, ← hpl]; exact at_mid _ _ _ _
            apply VQ.mk
            focus (refine go ?_; refine VNth.mk _ dcell (go ?_); exact ⟨rfl, rfl⟩)
            have hset : ∀ y, (pre ++ [.str nm, accV o j] ++ post).set (mulN k 2 + 1) y = pre ++ [.str nm, y] ++ post := fun y => by rw [mulN_eq, ← hpl, set_mid, List.append_assoc]
            cases o with
            | none =>
              obtain rfl : j = 0 := hoj rfl
              refine go ?_
              refine VAll.mk (fun b15 => ?_)
              repeat' ((conv => whnf); first | refine VAnd.mk ?_ ?_ | refine VGd.mk rfl ?_ | refine VGd.mk (by decide) ?_ | refine VOne.mk rfl ?_ | refine VFz.nil ?_ | refine VFz.keep ?_ | refine VObj.mk 0 _ rfl ?_ | refine VObj.mk 1 _ rfl ?_ | refine VObj.mk 2 _ rfl ?_ | refine VObj.mk 3 _ rfl ?_ | refine VObj.mk 4 _ rfl ?_ | refine VTake.mk _ rfl rfl ?_ | refine VNth.mk _ rfl ?_ | refine VIf.tt ?_ | refine VIf.ff ?_)
              all_goals (conv => whnf)
              refine VGd.mk ⟨Nat.zero_le _, by show mulN k 2 + 1 < _; rw [mulN_eq]; simp only [List.length_append, List.length_cons, List.length_nil]; omega⟩ ?_
              repeat' ((conv => whnf); first | refine VAnd.mk ?_ ?_ | refine VGd.mk rfl ?_ | refine VGd.mk (by decide) ?_ | refine VOne.mk rfl ?_ | refine VFz.nil ?_ | refine VFz.keep ?_ | refine VObj.mk 0 _ rfl ?_ | refine VObj.mk 1 _ rfl ?_ | refine VObj.mk 2 _ rfl ?_ | refine VObj.mk 3 _ rfl ?_ | refine VObj.mk 4 _ rfl ?_ | refine VTake.mk _ rfl rfl ?_ | refine VNth.mk _ rfl ?_ | refine VIf.tt ?_ | refine VIf.ff ?_)
              all_goals (conv => whnf)
              refine go ?_
              refine ⟨⟨1, some b15⟩, ⟨by dsimp only; omega, by simp⟩, by dsimp only; omega, rfl, .cons 2 (congrArg (fun c => some (b, AObj.arr 2 c 0)) (hset _)) (.cons 0 (congrArg (fun c => some (b15, AObj.arr 3 c 0)) ?_) (VSel.skip1 _ _))⟩
              exact hacc.symm
            | some bo =>
              refine go ?_
              refine VGd.mk ⟨rfl, Nat.zero_le _, by rw [mulN_eq, hln]; exact Nat.le_refl _, by dsimp only; omega⟩ (go ?_)
              refine VAll.mk (fun b15 => ?_)
              repeat' ((conv => whnf); first | refine VAnd.mk ?_ ?_ | refine VGd.mk rfl ?_ | refine VGd.mk (by decide) ?_ | refine VOne.mk rfl ?_ | refine VFz.nil ?_ | refine VFz.keep ?_ | refine VObj.mk 0 _ rfl ?_ | refine VObj.mk 1 _ rfl ?_ | refine VObj.mk 2 _ rfl ?_ | refine VObj.mk 3 _ rfl ?_ | refine VObj.mk 4 _ rfl ?_ | refine VTake.mk _ rfl rfl ?_ | refine VNth.mk _ rfl ?_ | refine VIf.tt ?_ | refine VIf.ff ?_)
              all_goals (conv => whnf)
              refine VGd.mk ⟨Nat.zero_le _, by show mulN k 2 + 1 < _; rw [mulN_eq]; simp only [List.length_append, List.length_cons, List.length_nil]; omega⟩ ?_
              repeat' ((conv => whnf); first | refine VAnd.mk ?_ ?_ | refine VGd.mk rfl ?_ | refine VGd.mk (by decide) ?_ | refine VOne.mk rfl ?_ | refine VFz.nil ?_ | refine VFz.keep ?_ | refine VObj.mk 0 _ rfl ?_ | refine VObj.mk 1 _ rfl ?_ | refine VObj.mk 2 _ rfl ?_ | refine VObj.mk 3 _ rfl ?_ | refine VObj.mk 4 _ rfl ?_ | refine VTake.mk _ rfl rfl ?_ | refine VNth.mk _ rfl ?_ | refine VIf.tt ?_ | refine VIf.ff ?_)
              all_goals (conv => whnf)
              refine go ?_
              refine ⟨⟨j + 1, some b15⟩, ⟨by dsimp only; omega, by simp⟩, by dsimp only; omega, rfl, .cons 2 (congrArg (fun c => some (b, AObj.arr 2 c 0)) (hset _)) (.cons 0 (congrArg (fun c => some (b15, AObj.arr 3 c 0)) ?_) (VSel.skip1 _ _))⟩
              rw [mulN_eq, List.take_of_length_le (by rw [hln]; exact Nat.le_refl _)]
              exact hacc.symm
          · obtain rfl : j = body.length := by omega
            rw [List.take_of_length_le (Nat.le_refl _)]
            cases o with
            | none =>
              have h0 : body = [] := List.length_eq_zero_iff.1 (hoj rfl)
              subst h0
              refine go ?_
              refine ⟨⟨k + 1, pre ++ [.str nm, .nils], ds⟩, ⟨by dsimp only; omega, hsuc _ _ (.empty ⟨vb, nm, inn, outn, []⟩ rfl hdn)⟩, by dsimp only; omega, rfl, .cons 0 (congrArg (fun c => some (b, AObj.arr 2 c 0)) (by show _ = (pre ++ [.str nm, .nils]) ++ List.flatMap nilC (names.drop (k + 1)); rw [hpo]; rfl)) (VSel.refl _)⟩
            | some bo =>
              refine go ?_
              refine ⟨⟨k + 1, pre ++ [.str nm, .own bo body.length], (bo, .arr 3 (opsC (body.map (opD names))) 0) :: ds⟩, ⟨by dsimp only; omega, hsuc _ _ (.own ⟨vb, nm, inn, outn, body⟩ bo hdn)⟩, by dsimp only; omega, rfl, .cons 0 (congrArg (fun c => some (b, AObj.arr 2 c 0)) (by show _ = (pre ++ [.str nm, .own bo body.length]) ++ List.flatMap nilC (names.drop (k + 1)); rw [hpo]; rfl)) (VSel.refl _)⟩
        · obtain rfl : k = ws.length := by omega
          rw [List.take_length] at hdn
          have e0 : names.drop ws.length = [] := List.drop_eq_nil_of_le (by rw [hnm, List.length_map]; exact Nat.le_refl _)
          rw [e0, List.flatMap_nil, List.append_nil]
          repeat' ((conv => whnf); first | refine VAnd.mk ?_ ?_ | refine VGd.mk rfl ?_ | refine VGd.mk (by decide) ?_ | refine VOne.mk rfl ?_ | refine VFz.nil ?_ | refine VFz.keep ?_ | refine VObj.mk 0 _ rfl ?_ | refine VObj.mk 1 _ rfl ?_ | refine VObj.mk 2 _ rfl ?_ | refine VObj.mk 3 _ rfl ?_ | refine VObj.mk 4 _ rfl ?_ | refine VTake.mk _ rfl rfl ?_ | refine VNth.mk _ rfl ?_ | refine VIf.tt ?_ | refine VIf.ff ?_)
          all_goals (conv => whnf)
          rw [hnm] at hdn
          exact VRet.mk _ (.cons 0 rfl (VSel.pre _ _)) (.some b _ ds hdn)
set_option maxHeartbeats 1000000 in
theorem f_Link (d : DictT) (hv : d.vocs.length ≤ 4000000000000) (hu : ∀ v ∈ d.vocs, v.uses.length ≤ 1000000000000000) (hn : ∀ v ∈ d.vocs, v.name.length ≤ 140737488351232) (hwi : ∀ w ∈ d.words, WordIn w) :
    Av.Fn Tryz.prog 8 [.agg (dictC d)] (if dictOk d = true then .tup [.fz (codesC (linkD d.words)) d.words.length false, .int .i64 0] else .tup [.fz [] 0 false, .int .i64 1]) := by
  have h := f_LinkO d hv hu hn hwi
  generalize dictOk d = r at h ⊢
  refine ACalls.thaw (ACalls.thawS (h.mono ?_))
  intro out st hp
  cases hp with
  | bad => exact ⟨_, .refl _, _, _, .ret (.tup (.cons (.keep _ _) (.cons (.keep _ _) (.nil _)))) .nil, rfl, rfl⟩
  | none hw =>
    have e : d.words = [] := hw
    rw [e]
    exact ⟨_, .refl _, _, _, .ret (.tup (.cons (.keep _ _) (.cons (.keep _ _) (.nil _)))) .nil, rfl, rfl⟩
  | some b pre ds hd =>
    obtain ⟨ds', hf⟩ := hd.frz b 0 [] []
    rw [List.append_nil, List.append_nil] at hf
    have hl : (codesC (linkD d.words)).length = d.words.length * 2 := by
      have := flat_len codeC 2 codeC_len (linkD d.words)
      rw [linkD_len] at this; exact this
    refine ⟨_, hf, _, _, .ret (.tup (.cons (.own 0 2 (codesC (linkD d.words)) 0 rfl (by rw [hl]; exact Nat.le_refl _)) (.cons (.keep _ _) (.nil _)))) .nil, ?_, rfl⟩
    rw [List.take_of_length_le (by rw [hl]; exact Nat.le_refl _)]; rfl
end Go.Proofs.YtonkeklageehbaaGreatDoor

namespace Go.Proofs.YtonkeklageehbaaGreatDoor
open Go Go.Av
theorem len_runes4 (l : List UInt8) : l.length ≤ 4 * (runes l).length := by
  induction l using runes_ind with
  | h0 => simp
  | h1 l hl ih =>
    obtain ⟨h1, h2, h3, _⟩ := dec_pos l hl
    rw [runes_cons hl, List.length_cons]
    rw [List.length_drop] at ih
    omega
theorem nm_len {s : List UInt8} (h : nmR s = true) : s.length ≤ 128 := by
  unfold nmR nameR at h
  simp only [Bool.and_eq_true, decide_eq_true_eq] at h
  have h2 : (chars s).length ≤ 32 := h.1.2.1.1.2
  have h1 := len_runes4 s
  simp only [chars, List.length_map] at h2
  omega
theorem measTs_cnt : ∀ (it : Bool) (l : List Tree) (left nest depth d l' : Int), measTs it l left nest depth = some (d, l') → (l.length : Int) + l' ≤ left
  | it, [], left, nest, depth, d, l', h => by
    rw [measTs] at h
    split at h
    · simp only [Option.some.injEq, Prod.mk.injEq] at h
      simp only [List.length_nil]; omega
    · cases h
  | it, t :: r, left, nest, depth, d, l', h => by
    rw [measTs] at h
    split at h
    · rename_i d1 l1 e
      have h1 := measT_le it t left (nest + 1) d1 l1 e
      have h2 := measTs_cnt it r l1 nest _ d l' h
      simp only [List.length_cons]; omega
    · cases h
theorem check_len {l : List Tree} (h : checkR l = true) : l.length ≤ 1024 := by
  unfold checkR at h
  obtain ⟨x, hx⟩ := Option.isSome_iff_exists.1 h
  obtain ⟨d, l'⟩ := x
  have h0 := (measT_le false (.quot l) 1024 0 d l' hx).2.1
  rw [measT] at hx
  split at hx
  · cases hx
  · have := measTs_cnt true l (1024 - 1) 0 0 d l' hx
    omega
end Go.Proofs.YtonkeklageehbaaGreatDoor

namespace Go.Proofs.YtonkeklageehbaaGreatDoor
open Go Go.Av
structure RWord where
  vocab : List UInt8
  name : List UInt8
  inn : Int
  out : Int
  body : List RV
structure RDict where
  vocs : List VocT
  words : List RWord
def rwordC (w : RWord) : List AV := [.str w.vocab, .str w.name, .int .i64 w.inn, .int .i64 w.out, .fz (rvsC w.body) w.body.length false]
theorem rwordC_len (w : RWord) : (rwordC w).length = 5 := rfl
def rdictC (d : RDict) : List AV := [.fz (d.vocs.flatMap vocC) d.vocs.length false, .fz (d.words.flatMap rwordC) d.words.length false]
def wordT (w : RWord) : WordT := ⟨w.vocab, w.name, w.inn, w.out, itemTs w.body⟩
def dictT (d : RDict) : DictT := ⟨d.vocs, d.words.map wordT⟩
theorem f_DefOf (nm : List UInt8) (i o : Int) (l : List RV) (hi : inpAll l = true) (hl : l.length ≤ 2513169434916) :
    Av.Fn Tryz.prog 23 [.agg [.str nm, .int .i64 i, .int .i64 o, .fz (rvsC l) l.length false]] (.agg [.str nm, .int .i64 i, .int .i64 o, .fz (itemAVs (itemTs l)) l.length false]) := by
  have h := f_ItemsOf hi hl
  refine ACalls.of_W tb_ok (fn := Tryz.f23) (n := 14) (by kernel_rfl) rfl (by kernel_rfl) rfl rfl (by simp) (go ?_)
  refine VAll.mk (fun b1 => go ?_)
  refine VAll.mk (fun b2 => go ?_)
  refine VDraw.chain [11] (go ?_)
  apply VQ.mk
  focus (refine go ?_; refine Fn.use h (go ?_); exact ⟨rfl, rfl⟩)
  refine go ?_
  refine VRet.mk [] .nil ?_
  exact ⟨rfl, rfl⟩
structure DIn (d : RDict) : Prop where
  vocs : d.vocs.length ≤ 3518437208780
  uses : ∀ v ∈ d.vocs, v.uses.length ≤ 8796093021952
  words : d.words.length ≤ 1954687338211
  bodies : ∀ w ∈ d.words, inpAll w.body = true ∧ w.body.length ≤ 2513169434916
theorem take_voc {l : List VocT} {k : Nat} {x : VocT} (h : l[k]? = some x) : (l.take (k + 1)).flatMap vocC = (l.take k).flatMap vocC ++ vocC x := by
  rw [take_succ_at h, List.flatMap_append]; simp
theorem take_word {l : List RWord} {k : Nat} {x : RWord} (h : l[k]? = some x) : ((l.take (k + 1)).map wordT).flatMap wordC = ((l.take k).map wordT).flatMap wordC ++ wordC (wordT x) := by
  rw [take_succ_at h, List.map_append, List.flatMap_append]; simp


set_option maxHeartbeats 4000000 in
theorem f_dApi (d : RDict) (hd : DIn d) : Av.Fn Tryz.prog 7 [.agg (rdictC d)] (.agg (dictC (dictT d))) := by
  obtain ⟨h1, h2, h3, h4⟩ := hd
  obtain ⟨vs, ws⟩ := d
  dsimp only at h1 h2 h3 h4
  show Av.Fn Tryz.prog _ [.agg [.fz (vs.flatMap vocC) vs.length false, .fz (ws.flatMap rwordC) ws.length false]] _
  refine ACalls.thaw (ACalls.of_W tb_ok (fn := Tryz.f7) (n := 60) (by kernel_rfl) rfl (by kernel_rfl) rfl rfl (by simp) (go ?_))
  refine VAll.mk (fun b1 => go ?_)
  refine VAll.mk (fun b2 => go ?_)
  refine VAll.mk (fun b3 => go ?_)
  refine VLoop.mk [4] AccI (fun i => [.int .i64 i.k]) (fun i => (b3, .box [accV i.o i.k, .nils]) :: (b2, .box [.nils, .nils]) :: (b1, .box [.fz (vs.flatMap vocC) vs.length false, .fz (ws.flatMap rwordC) ws.length false]) :: accS i.o 2 ((vs.take i.k).flatMap vocC)) (fun i => i.k ≤ vs.length ∧ (i.o = none → i.k = 0)) (fun i => vs.length - i.k) ⟨0, none⟩ ?_ ?_
  · exact ⟨⟨Nat.zero_le _, fun _ => rfl⟩, rfl, .cons 0 rfl (.cons 0 rfl (.cons 0 rfl .nil))⟩
  rintro ⟨k, o⟩ ⟨hk, ho⟩
  dsimp only at hk ho ⊢
  refine go ?_
  refine fork (fun hlt => go ?_) (fun hlt => ?_)
  · have hlt : k < vs.length := by omega
    obtain ⟨x, hx⟩ : ∃ x, vs[k]? = some x := ⟨vs[k], by simp [hlt]⟩
    have hu := h2 x (List.mem_of_getElem? hx)
    have hdp := flat_drop vocC 2 vocC_len hx
    have hacc := take_voc hx
    have hlen : ((vs.take k).flatMap vocC).length = k * 2 := by rw [flat_len vocC 2 vocC_len, List.length_take]; congr 1; omega
    obtain ⟨nm, us⟩ := x
    have d0 : (List.drop (mulN k 2) (vs.flatMap vocC))[0]? = some (.str nm) := by rw [hdp]; rfl
    have d1 : (List.drop 1 (List.drop (mulN k 2) (vs.flatMap vocC)))[0]? = some (.fz (us.map .str) us.length false) := by rw [hdp]; rfl
    dsimp only at hu
    refine VDraw.chainL [15, 16, 17, 18, 20] [15, 16, 17] (go ?_)
    apply VQ.mk
    focus (refine go ?_; refine VNth.mk _ d0 (go ?_); exact ⟨rfl, rfl⟩)
    refine go ?_
    apply VQ.mk
    focus (refine go ?_; refine VNth.mk _ d1 (go ?_); exact ⟨rfl, rfl⟩)
    refine go ?_
    cases us with
    | nil =>
      refine VApp0.zero (go ?_)
      refine VGd.mk ⟨[], rfl⟩ (go ?_)
      refine VGd.mk ⟨[], rfl⟩ (go ?_)
      refine VGd.mk ⟨[], rfl⟩ (go ?_)
      cases o with
      | none =>
        obtain rfl : k = 0 := ho rfl
        refine go ?_
        refine VApp0.app (go ?_)
        refine VAll.mk (fun b6 => go ?_)
        refine ⟨⟨1, some b6⟩, ⟨by dsimp only; omega, by simp⟩, by dsimp only; omega, rfl, .cons 1 rfl (.cons 1 rfl (.cons 1 rfl (.cons 0 (congrArg (fun c => some (b6, AObj.arr 2 c 0)) ?_) .nil)))⟩
        refine Eq.trans ?_ hacc.symm
        simp [vocC, usV, List.take_of_length_le]
      | some bo =>
        refine go ?_
        refine VApp0.app (go ?_)
        refine VGd.mk ⟨rfl, Nat.zero_le _, by rw [mulN_eq, hlen]; exact Nat.le_refl _, by dsimp only; omega⟩ (go ?_)
        refine VAll.mk (fun b6 => go ?_)
        refine ⟨⟨k + 1, some b6⟩, ⟨by dsimp only; omega, by simp⟩, by dsimp only; omega, rfl, .cons 1 rfl (.cons 1 rfl (.cons 1 rfl (.cons 0 (congrArg (fun c => some (b6, AObj.arr 2 c 0)) ?_) .nil)))⟩
        rw [mulN_eq, List.take_of_length_le (by rw [hlen]; exact Nat.le_refl _)]
        refine Eq.trans ?_ hacc.symm
        simp [vocC, usV, List.take_of_length_le]
    | cons u us =>
      refine VApp0.app (go ?_)
      refine VGd.mk (by rw [mulN_eq]; simp) (go ?_)
      refine VGd.mk ⟨rfl, by simp, rfl, by simp only [List.length_cons] at hu ⊢; omega⟩ (go ?_)
      refine VAll.mk (fun b5 => go ?_)
      refine VGd.mk ⟨[_], rfl⟩ (go ?_)
      refine VGd.mk ⟨[_], rfl⟩ (go ?_)
      refine VGd.mk ⟨[_], rfl⟩ (go ?_)
      cases o with
      | none =>
        obtain rfl : k = 0 := ho rfl
        refine go ?_
        refine VApp0.app (go ?_)
        refine VAll.mk (fun b6 => go ?_)
        refine ⟨⟨1, some b6⟩, ⟨by dsimp only; omega, by simp⟩, by dsimp only; omega, rfl, .cons 2 rfl (.cons 2 rfl (.cons 2 rfl (.cons 0 (congrArg (fun c => some (b6, AObj.arr 2 c 0)) ?_) .nil)))⟩
        refine Eq.trans ?_ hacc.symm
        simp [vocC, usV, List.take_of_length_le]
      | some bo =>
        refine go ?_
        refine VApp0.app (go ?_)
        refine VGd.mk ⟨rfl, Nat.zero_le _, by rw [mulN_eq, hlen]; exact Nat.le_refl _, by dsimp only; omega⟩ (go ?_)
        refine VAll.mk (fun b6 => go ?_)
        refine ⟨⟨k + 1, some b6⟩, ⟨by dsimp only; omega, by simp⟩, by dsimp only; omega, rfl, .cons 2 rfl (.cons 2 rfl (.cons 2 rfl (.cons 0 (congrArg (fun c => some (b6, AObj.arr 2 c 0)) ?_) .nil)))⟩
        rw [mulN_eq, List.take_of_length_le (by rw [hlen]; exact Nat.le_refl _)]
        refine Eq.trans ?_ hacc.symm
        simp [vocC, usV, List.take_of_length_le]
  · obtain rfl : k = vs.length := by omega
    rw [List.take_length]
    generalize hwv : vs.flatMap vocC = cv
    have hcv : cv.length = vs.length * 2 := by rw [← hwv, flat_len vocC 2 vocC_len]
    generalize hnv : vs.length = nv at *
    refine go ?_
    refine VLoop.mk [5] AccI (fun i => [.int .i64 i.k]) (fun i => (b3, .box [accV o nv, accV i.o i.k]) :: (b2, .box [.nils, .nils]) :: (b1, .box [.fz cv nv false, .fz (ws.flatMap rwordC) ws.length false]) :: (accS i.o 5 (((ws.take i.k).map wordT).flatMap wordC) ++ accS o 2 cv)) (fun i => i.k ≤ ws.length ∧ (i.o = none → i.k = 0)) (fun i => ws.length - i.k) ⟨0, none⟩ ?_ ?_
    · exact ⟨⟨Nat.zero_le _, fun _ => rfl⟩, rfl, .cons 0 rfl (.cons 0 rfl (.cons 0 rfl (VSel.refl _)))⟩
    rintro ⟨k, i2⟩ ⟨hk2, ho2⟩
    dsimp only at hk2 ho2 ⊢
    refine go ?_
    refine fork (fun hlt => go ?_) (fun hlt => ?_)
    · have hlt : k < ws.length := by omega
      obtain ⟨x, hx⟩ : ∃ x, ws[k]? = some x := ⟨ws[k], by simp [hlt]⟩
      obtain ⟨hi, hb⟩ := h4 x (List.mem_of_getElem? hx)
      have hD := f_DefOf x.name x.inn x.out x.body hi (by omega)
      have hdp := flat_drop rwordC 5 rwordC_len hx
      have hacc := take_word hx
      have hlen : (((ws.take k).map wordT).flatMap wordC).length = k * 5 := by rw [flat_len wordC 5 wordC_len, List.length_map, List.length_take]; congr 1; omega
      obtain ⟨vb, nm, inn, out, body⟩ := x
      have hacc : ((ws.take (k + 1)).map wordT).flatMap wordC = ((ws.take k).map wordT).flatMap wordC ++ [.str vb, .str nm, .int .i64 inn, .int .i64 out, .fz (itemAVs (itemTs body)) body.length false] := by
        rw [hacc]; simp [wordC, wordT, itemTs_length]
      have d0 : (List.drop (mulN k 5) (ws.flatMap rwordC))[0]? = some (.str vb) := by rw [hdp]; rfl
      have d1 : (List.drop 1 (List.drop (mulN k 5) (ws.flatMap rwordC))).take 4 = [.str nm, .int .i64 inn, .int .i64 out, .fz (rvsC body) body.length false] := by rw [hdp]; rfl
      refine VDraw.chain [17, 19] (go ?_)
      apply VQ.mk
      focus (refine go ?_; refine VNth.mk _ d0 (go ?_); exact ⟨rfl, rfl⟩)
      refine go ?_
      apply VQ.mk
      focus (refine go ?_; refine VTake.mk _ d1 rfl (go ?_); exact ⟨rfl, rfl⟩)
      refine go ?_
      apply VQ.mk
      focus (refine go ?_; refine Fn.use hD (go ?_); exact ⟨rfl, rfl⟩)
      cases i2 with
      | none =>
        obtain rfl : k = 0 := ho2 rfl
        refine go ?_
        refine VAll.mk (fun b6 => go ?_)
        refine ⟨⟨1, some b6⟩, ⟨by dsimp only; omega, by simp⟩, by dsimp only; omega, rfl, .cons 1 rfl (.cons 1 rfl (.cons 1 rfl (.cons 0 (congrArg (fun c => some (b6, AObj.arr 5 c 0)) ?_) (VSel.refl _))))⟩
        exact hacc.symm
      | some bo2 =>
        refine go ?_
        refine VGd.mk ⟨rfl, Nat.zero_le _, by rw [mulN_eq, hlen]; exact Nat.le_refl _, by dsimp only; omega⟩ (go ?_)
        refine VAll.mk (fun b6 => go ?_)
        refine ⟨⟨k + 1, some b6⟩, ⟨by dsimp only; omega, by simp⟩, by dsimp only; omega, rfl, .cons 1 rfl (.cons 1 rfl (.cons 1 rfl (.cons 0 (congrArg (fun c => some (b6, AObj.arr 5 c 0)) ?_) (VSel.refl _))))⟩
        rw [mulN_eq, List.take_of_length_le (by rw [hlen]; exact Nat.le_refl _)]
        exact hacc.symm
    · obtain rfl : k = ws.length := by omega
      rw [List.take_length]
      have hW : ((ws.map wordT).flatMap wordC).length = ws.length * 5 := by rw [flat_len wordC 5 wordC_len, List.length_map]
      have hres : dictC (dictT ⟨vs, ws⟩) = [.fz cv nv false, .fz ((ws.map wordT).flatMap wordC) ws.length false] := by
        unfold dictC dictT
        dsimp only
        rw [hwv, hnv, List.length_map]
      rw [hres]
      have hcv0 : o = none → cv = [] ∧ nv = 0 := fun h => by
        have := ho h
        exact ⟨List.length_eq_zero_iff.1 (by omega), this⟩
      have hcw0 : i2 = none → (ws.map wordT).flatMap wordC = [] ∧ ws.length = 0 := fun h => by
        have := ho2 h
        exact ⟨List.length_eq_zero_iff.1 (by omega), this⟩
      generalize (ws.map wordT).flatMap wordC = cw at *
      generalize ws.length = nw at *
      cases o with
      | none =>
        obtain ⟨rfl, rfl⟩ := hcv0 rfl
        cases i2 with
        | none =>
          obtain ⟨rfl, rfl⟩ := hcw0 rfl
          refine go ?_
          exact VRet.mk [] .nil ⟨_, _, .ret (.agg (.cons (.nils _) (.cons (.nils _) (.nil _)))) .nil, rfl, rfl⟩
        | some bo2 =>
          refine go ?_
          refine VRet.mk _ (.cons 3 rfl .nil) ⟨_, _, .ret (.agg (.cons (.nils _) (.cons (.own 0 5 cw 0 rfl (by omega)) (.nil _)))) .nil, ?_, rfl⟩
          rw [List.take_of_length_le (by omega)]
      | some bo =>
        cases i2 with
        | none =>
          obtain ⟨rfl, rfl⟩ := hcw0 rfl
          refine go ?_
          refine VRet.mk _ (.cons 3 rfl .nil) ⟨_, _, .ret (.agg (.cons (.own 0 2 cv 0 rfl (by omega)) (.cons (.nils _) (.nil _)))) .nil, ?_, rfl⟩
          rw [List.take_of_length_le (by omega)]
        | some bo2 =>
          refine go ?_
          refine VRet.mk _ (.cons 3 rfl (.cons 3 rfl .nil)) ⟨_, _, .ret (.agg (.cons (.own 1 2 cv 0 rfl (by omega)) (.cons (.own 0 5 cw 0 rfl (by omega)) (.nil _)))) .nil, ?_, rfl⟩
          rw [List.take_of_length_le (by omega), List.take_of_length_le (by omega)]
end Go.Proofs.YtonkeklageehbaaGreatDoor

namespace Go.Proofs.YtonkeklageehbaaGreatDoor
open Go Go.Av
def usesBulk (u : List (List UInt8)) : Nat := (u.map fun s => s.length + 1).sum + 1
def vocBulk (v : VocT) : Nat := v.name.length + usesBulk v.uses
def wordBulk (w : RWord) : Nat := w.vocab.length + w.name.length + bulkAll w.body + 1
def dictBulk (d : RDict) : Nat := (d.vocs.map vocBulk).sum + (d.words.map wordBulk).sum + 2
theorem strs_flat (l : List (List UInt8)) : l.flatMap (fun s => [AV.str s]) = l.map AV.str := by
  induction l with
  | nil => rfl
  | cons x l ih => rw [List.flatMap_cons, ih]; rfl
section
variable {H : Type} {enc : TypeId × Value → H} {W : World}
theorem reads_Strs (fuel : Nat) : Reads enc Tryz.prog W 80 fuel (fun u : List (List UInt8) => [usV u]) (fun u => u.length ≤ 8796093021952) usesBulk := by
  cases fuel with
  | zero => exact .zero
  | succ fuel =>
    have h := reads_slice (Tryz.underlying80) (esz := 1) (by kernel_rfl) (by omega) (reads_str (Tryz.underlying9) fuel) (enc := enc) (W := W)
    refine h.map (fun l => l) (fun l => by rw [strs_flat]; rfl) (fun l hl => ?_) (fun l => Nat.le_refl _)
    have h1 := hl.1
    rw [show Tryz.prog.bytesOf 9 = 16 by kernel_rfl, show reachBytes = 140737488351232 by decide] at h1
    omega
def VocB (v : VocT) : Prop := v.name.length ≤ 140737488351232 ∧ v.uses.length ≤ 8796093021952
def WordB (w : RWord) : Prop := w.name.length ≤ 140737488351232 ∧ w.body.length ≤ 2513169434916 ∧ inpAll w.body = true
theorem reads_Voc (fuel : Nat) : Reads enc Tryz.prog W 82 fuel vocC VocB vocBulk := by
  cases fuel with
  | zero => exact .zero
  | succ fuel =>
    have hf : ReadsF enc Tryz.prog W fuel 0 [⟨"Name", 9, 0, false, "", "", 0⟩, ⟨"Uses", 80, 1, false, "", "", 16⟩] (1 + (1 + 0)) _ _ _ :=
      .cons rfl (by kernel_rfl) (reads_str (Tryz.underlying9) fuel) (.cons rfl (by kernel_rfl) (reads_Strs fuel) .nil)
    have h := reads_struct (Tryz.underlying82) (by kernel_rfl) hf
    exact h.map (fun x => ⟨x.1, x.2.1⟩) (fun x => by simp [vocC]) (fun x hx => ⟨hx.1, hx.2.1⟩) (fun x => by unfold vocBulk; dsimp only; omega)
theorem reads_Vocs (fuel : Nat) : Reads enc Tryz.prog W 22 fuel (fun l : List VocT => [.fz (l.flatMap vocC) l.length false]) (fun l => l.length ≤ 3518437208780 ∧ ∀ v ∈ l, VocB v) (fun l => (l.map vocBulk).sum + 1) := by
  cases fuel with
  | zero => exact .zero
  | succ fuel =>
    have h := reads_slice (Tryz.underlying22) (esz := 2) (by kernel_rfl) (by omega) (reads_Voc fuel) (enc := enc) (W := W)
    refine h.map (fun l => l) (fun l => rfl) (fun l hl => ⟨?_, hl.2⟩) (fun l => Nat.le_refl _)
    have h1 := hl.1
    rw [show Tryz.prog.bytesOf 82 = 40 by kernel_rfl, show reachBytes = 140737488351232 by decide] at h1
    omega
theorem reads_Def (fuel : Nat) : Reads enc Tryz.prog W 85 fuel (fun x : RWord => [.str x.name, .int .i64 x.inn, .int .i64 x.out, .fz (rvsC x.body) x.body.length false]) WordB (fun x => x.name.length + bulkAll x.body + 1) := by
  cases fuel with
  | zero => exact .zero
  | succ fuel =>
    have hf : ReadsF enc Tryz.prog W fuel 0 [⟨"Name", 9, 0, false, "", "", 0⟩, ⟨"In", 3, 1, false, "", "", 16⟩, ⟨"Out", 3, 2, false, "", "", 24⟩, ⟨"Body", 43, 3, false, "", "", 32⟩] (1 + (1 + (1 + (1 + 0)))) _ _ _ :=
      .cons rfl (by kernel_rfl) (reads_str (Tryz.underlying9) fuel) (.cons rfl (by kernel_rfl) (reads_int (Tryz.underlying3) fuel) (.cons rfl (by kernel_rfl) (reads_int (Tryz.underlying3) fuel) (.cons rfl (by kernel_rfl) (reads_VL fuel).2 .nil)))
    have h := reads_struct (Tryz.underlying85) (by kernel_rfl) hf
    exact h.map (fun x => ⟨[], x.1, x.2.1, x.2.2.1, x.2.2.2.1⟩) (fun x => by simp) (fun x hx => ⟨hx.1, hx.2.2.2.1.1, hx.2.2.2.1.2⟩) (fun x => by dsimp only; omega)
theorem reads_Word (fuel : Nat) : Reads enc Tryz.prog W 87 fuel rwordC WordB wordBulk := by
  cases fuel with
  | zero => exact .zero
  | succ fuel =>
    have hf : ReadsF enc Tryz.prog W fuel 0 [⟨"Vocab", 9, 0, false, "", "", 0⟩, ⟨"Def", 85, 1, false, "", "", 16⟩] (1 + (4 + 0)) _ _ _ :=
      .cons rfl (by kernel_rfl) (reads_str (Tryz.underlying9) fuel) (.cons rfl (by kernel_rfl) (reads_Def fuel) .nil)
    have h := reads_struct (Tryz.underlying87) (by kernel_rfl) hf
    exact h.map (fun x => ⟨x.1, x.2.1.name, x.2.1.inn, x.2.1.out, x.2.1.body⟩) (fun x => by simp [rwordC]) (fun x hx => hx.2.1) (fun x => by unfold wordBulk; dsimp only; omega)
theorem reads_Words (fuel : Nat) : Reads enc Tryz.prog W 23 fuel (fun l : List RWord => [.fz (l.flatMap rwordC) l.length false]) (fun l => l.length ≤ 1954687338211 ∧ ∀ w ∈ l, WordB w) (fun l => (l.map wordBulk).sum + 1) := by
  cases fuel with
  | zero => exact .zero
  | succ fuel =>
    have h := reads_slice (Tryz.underlying23) (esz := 5) (by kernel_rfl) (by omega) (reads_Word fuel) (enc := enc) (W := W)
    refine h.map (fun l => l) (fun l => rfl) (fun l hl => ⟨?_, hl.2⟩) (fun l => Nat.le_refl _)
    have h1 := hl.1
    rw [show Tryz.prog.bytesOf 87 = 72 by kernel_rfl, show reachBytes = 140737488351232 by decide] at h1
    omega
structure DBig (d : RDict) : Prop extends DIn d where
  vnames : ∀ v ∈ d.vocs, v.name.length ≤ 140737488351232
  wnames : ∀ w ∈ d.words, w.name.length ≤ 140737488351232
theorem reads_Dict (fuel : Nat) : Reads enc Tryz.prog W 25 fuel rdictC DBig dictBulk := by
  cases fuel with
  | zero => exact .zero
  | succ fuel =>
    have hf : ReadsF enc Tryz.prog W fuel 0 [⟨"Vocabs", 22, 0, false, "", "", 0⟩, ⟨"Words", 23, 1, false, "", "", 24⟩] (1 + (1 + 0)) _ _ _ :=
      .cons rfl (by kernel_rfl) (reads_Vocs fuel) (.cons rfl (by kernel_rfl) (reads_Words fuel) .nil)
    have h := reads_struct (Tryz.underlying25) (by kernel_rfl) hf
    exact h.map (fun x => ⟨x.1, x.2.1⟩) (fun x => by simp [rdictC]) (fun x hx => ⟨⟨hx.1.1, fun v hv => (hx.1.2 v hv).2, hx.2.1.1, fun w hw => ⟨(hx.2.1.2 w hw).2.2, (hx.2.1.2 w hw).2.1⟩⟩, fun v hv => (hx.1.2 v hv).1, fun w hw => (hx.2.1.2 w hw).1⟩) (fun x => by unfold dictBulk; dsimp only; omega)
end
end Go.Proofs.YtonkeklageehbaaGreatDoor

namespace Go.Proofs.YtonkeklageehbaaGreatDoor
open Go Go.Av
theorem opD_in {names : List (List UInt8)} {t : Tree} (hc : t.clean = true) (hs : t.nmS = true) (hf : t.full true = true) : OpIn (opD names t) := by
  cases hct : t.isCall with
  | true =>
    obtain ⟨s, rfl⟩ : ∃ s, t = .call s := by cases t <;> first | exact ⟨_, rfl⟩ | (cases hct; done)
    have e2 : opOf names (.call s) = match placeL namesL s 0 with
      | some j => some ⟨2, (j : Int), .none⟩
      | none => (placeL names s 0).map fun (j : Nat) => ⟨3, (j : Int), .none⟩ := rfl
    unfold opD
    rw [e2]
    cases placeL namesL s 0 with
    | some j => exact ⟨rfl, rfl, rfl⟩
    | none =>
      cases placeL names s 0 with
      | some j => exact ⟨rfl, rfl, rfl⟩
      | none => exact ⟨rfl, rfl, rfl⟩
  | false =>
    have e2 : opOf names t = some ⟨1, 0, t⟩ := by cases t <;> first | rfl | (cases hct; done)
    unfold opD
    rw [e2]
    exact ⟨hc, by cases t <;> first | rfl | (cases hct; done) | (cases hf; done), hs⟩
/-- A word that is no larger than the second form lets in. -/
structure WordS (w : WordT) : Prop where
  name : w.name.length ≤ 1048576
  len : w.body.length ≤ 1048576
  clean : cleanAll w.body = true
  nms : nmSAll w.body = true
theorem code_in {ws : List WordT} (h : DictOk ws) (hs : ∀ w ∈ ws, WordS w) : ∀ c ∈ linkD ws, CodeIn c := by
  intro c hc
  obtain ⟨i, hi⟩ := List.mem_iff_getElem?.1 hc
  obtain ⟨w, hw, rfl⟩ := link_at hi
  have hm := List.mem_of_getElem? hw
  have q := hs w hm
  refine ⟨by show (w.body.map _).length ≤ _; rw [List.length_map]; exact q.len, q.name, fun o ho => ?_⟩
  obtain ⟨t, ht, rfl⟩ := List.mem_map.1 (show o ∈ w.body.map (opD (ws.map (·.name))) from ho)
  obtain ⟨j, hj⟩ := List.mem_iff_getElem?.1 ht
  exact opD_in (cleanAll_at q.clean hj) (nmSAll_at q.nms hj) (fullAll_at (check_full (h.check w hm).1) hj)
theorem sameOp_refl (x : OpT) : sameOp x x = true := by
  unfold sameOp
  rw [decide_eq_true rfl, decide_eq_true rfl, decide_eq_true rfl, sameV_refl]
  cases isSome x.v <;> rfl
theorem sameCode_refl (x : CodeT) : sameCode x x = true := by
  unfold sameCode
  rw [decide_eq_true rfl, all2_refl sameOp_refl]; rfl
theorem link_back {ws : List WordT} (h : DictOk ws) {w : WordT} (hw : w ∈ ws) : linkBack (linkD ws) (codeD (ws.map (·.name)) w).ops = (w.body, 0) := by
  unfold linkBack backOk
  rw [link_sound h, if_pos rfl, back_word h hw]
  dsimp only
  rw [(h.check w hw).1, (h.check w hw).2]; rfl
theorem ops_back {codes : List CodeT} {l : List Tree} (h : (linkOps codes l).2 = 0) : linkBack codes (linkOps codes l).1 = (l, 0) := by
  unfold linkOps at h ⊢
  split at h
  · rename_i hs
    rw [if_pos hs] 
    have hs2 := hs
    simp only [Bool.and_eq_true] at hs2
    cases ho : opsOf (codes.map (·.name)) l with
    | none => rw [ho] at h; cases h
    | some ops =>
      dsimp only
      unfold linkBack backOk
      rw [hs2.1, if_pos rfl, back_ofs (check_full hs2.2.1) ho]
      dsimp only
      rw [hs2.2.1, hs2.2.2]; rfl
  · cases h
theorem ops_none {codes : List CodeT} {l : List Tree} (h : (linkOps codes l).2 ≠ 0) : (linkOps codes l).1 = [] := by
  unfold linkOps at h ⊢
  split at h
  · rename_i hs
    rw [if_pos hs]
    cases ho : opsOf (codes.map (·.name)) l with
    | none => rfl
    | some ops => rw [ho] at h; exact absurd rfl h
  · rename_i hs; rw [if_neg hs]
theorem opsOf_mem {names : List (List UInt8)} : ∀ {l : List Tree} {r : List OpT}, opsOf names l = some r → ∀ o ∈ r, ∃ t ∈ l, opOf names t = some o
  | [], r, h, o, ho => by cases h; cases ho
  | t :: l, r, h, o, ho => by
    rw [opsOf] at h
    cases h1 : opOf names t with
    | none => rw [h1] at h; cases h
    | some p =>
      rw [h1] at h
      dsimp only at h
      cases h2 : opsOf names l with
      | none => rw [h2] at h; cases h
      | some q =>
        rw [h2] at h
        obtain rfl : p :: q = r := Option.some.inj h
        rcases List.mem_cons.1 ho with rfl | ho
        · exact ⟨t, List.mem_cons_self .., h1⟩
        · obtain ⟨u, hu, e⟩ := opsOf_mem h2 o ho
          exact ⟨u, List.mem_cons_of_mem _ hu, e⟩
theorem linkOps_in2 {codes : List CodeT} {l : List Tree} (hc : cleanAll l = true) (hs : nmSAll l = true) : ∀ o ∈ (linkOps codes l).1, OpIn o := by
  intro o ho
  unfold linkOps at ho
  split at ho
  · rename_i h
    simp only [Bool.and_eq_true] at h
    cases hb : opsOf (codes.map (·.name)) l with
    | none => rw [hb] at ho; cases ho
    | some q =>
      rw [hb] at ho
      obtain ⟨t, ht, e⟩ := opsOf_mem hb o ho
      obtain ⟨j, hj⟩ := List.mem_iff_getElem?.1 ht
      have := opD_in (names := codes.map (·.name)) (cleanAll_at hc hj) (nmSAll_at hs hj) (fullAll_at (check_full h.2.1) hj)
      unfold opD at this
      rwa [e] at this
  · cases ho
theorem linkOps_len {codes : List CodeT} {l : List Tree} (hc : cleanAll l = true) : (linkOps codes l).1.length ≤ 1024 := by
  unfold linkOps
  split
  · rename_i h
    simp only [Bool.and_eq_true] at h
    cases hb : opsOf (codes.map (·.name)) l with
    | none => exact Nat.zero_le _
    | some q =>
      obtain ⟨h1, _⟩ := opsOf_in hc (check_full h.2.1) hb
      have := check_len h.2.1
      dsimp only
      omega
  · exact Nat.zero_le _
/-- A word as it comes of what is handed in. -/
structure WordL (w : WordT) : Prop where
  name : w.name.length ≤ 140737488351232
  len : w.body.length ≤ 2513169434916
  clean : cleanAll w.body = true
  nms : nmSAll w.body = true
theorem WordL.inn {w : WordT} (h : WordL w) : WordIn w := by
  obtain ⟨h1, h2, h3, h4⟩ := h
  exact ⟨h1, by simp only [Tree.clean, Bool.and_eq_true, decide_eq_true_eq]; exact ⟨h2, h3⟩, by rw [Tree.nmS]; exact h4⟩
theorem dict_words {d : RDict} (hs : DBig d) : ∀ w ∈ (dictT d).words, WordL w := by
  intro w hw
  obtain ⟨r, hr, rfl⟩ := List.mem_map.1 (show w ∈ d.words.map wordT from hw)
  obtain ⟨hi, hl⟩ := hs.bodies r hr
  exact ⟨hs.wnames r hr, by show (itemTs r.body).length ≤ _; rw [itemTs_length]; exact hl, inp_cleanI _ hi, inp_nmSI _ hi⟩
theorem small_words {ws : List WordT} (h : DictOk ws) (hl : ∀ w ∈ ws, WordL w) : ∀ w ∈ ws, WordS w := fun w hw =>
  ⟨by have := nm_len (h.name w hw).1; omega, by have := check_len (h.check w hw).1; omega, (hl w hw).clean, (hl w hw).nms⟩
theorem take_two {L : List AV} {x y : AV} (h : L.take 2 = [x, y]) : L[0]? = some x ∧ (L.drop 1)[0]? = some y := by
  match L, h with
  | [], h => cases h
  | [_], h => cases h
  | a :: b :: r, h =>
    simp only [List.take, List.cons.injEq, and_true] at h
    obtain ⟨rfl, rfl⟩ := h
    exact ⟨rfl, rfl⟩
set_option maxHeartbeats 4000000 in
theorem f_LinkBack (d : RDict) (l : List RV) (hs : DBig d) (hl : l.length ≤ 2513169434916 ∧ inpAll l = true) :
    Av.Fn Tryz.prog 5 [.agg (rdictC d), .fz (rvsC l) l.length false] (.bool true) := by
  have hwl := dict_words hs
  have g1 := f_dApi d hs.toDIn
  have g2 := f_Link (dictT d) (Nat.le_trans hs.vocs (by omega)) (fun v hv => Nat.le_trans (hs.uses v hv) (by omega)) hs.vnames (fun w hw => (hwl w hw).inn)
  have hok := fun h => dict_ok (d := dictT d) h
  generalize dictOk (dictT d) = r at g2 hok
  obtain ⟨ra, rb, hr⟩ : ∃ a b, rdictC d = [a, b] := ⟨_, _, rfl⟩
  obtain ⟨k0, hk0⟩ : ∃ a, dictC (dictT d) = [a, .fz ((dictT d).words.flatMap wordC) (dictT d).words.length false] := ⟨_, rfl⟩
  rw [hr] at g1 ⊢
  rw [hk0] at g1 g2
  cases r with
  | false =>
    rw [if_neg (by simp)] at g2
    refine ACalls.of_W tb_ok (fn := Tryz.f5) (n := 126) (by kernel_rfl) rfl (by kernel_rfl) rfl rfl (by simp) (go ?_)
    refine VAll.mk (fun b2 => go ?_)
    refine Fn.use (f_awake18) (go ?_)
    refine Fn.use (g1) (go ?_)
    refine VAll.mk (fun b5 => go ?_)
    refine Fn.use (g2) (go ?_)
    refine VRet.mk [] .nil ?_
    exact ⟨rfl, rfl⟩
  | true =>
    rw [if_pos rfl] at g2
    have hD := hok rfl
    have hws := small_words hD hwl
    have hcs := code_in hD hws
    have hcl : (linkD (dictT d).words).length ≤ 1048576 := by rw [linkD_len]; have := hD.len; omega
    have g3 := f_Check _ hcl hcs
    rw [link_sound hD, if_pos rfl] at g3
    have g4 := f_LSame hcl hcl hcs hcs
    rw [show sameL (linkD (dictT d).words) (linkD (dictT d).words) = true by unfold sameL; rw [link_sound hD, all2_refl sameCode_refl]; rfl] at g4
    have icl := inp_cleanI l hl.2
    have qcl : (Tree.quot (itemTs l)).clean = true := by simp only [Tree.clean, Bool.and_eq_true, decide_eq_true_eq]; exact ⟨by rw [itemTs_length]; exact hl.1, icl⟩
    have qnm : (Tree.quot (itemTs l)).nmS = true := by rw [Tree.nmS]; exact inp_nmSI l hl.2
    have g5 := f_ItemsOf hl.2 hl.1
    have g6 := f_lOps hcl hcs qcl qnm
    have lk2 := linkOps_in2 (codes := linkD (dictT d).words) icl (inp_nmSI l hl.2)
    have lk1 := linkOps_len (codes := linkD (dictT d).words) icl
    have g7 := f_lBack (ops := (linkOps (linkD (dictT d).words) (itemTs l)).1) hcl hcs (by omega) lk2
    have hob := @ops_back (linkD (dictT d).words) (itemTs l)
    have hon := @ops_none (linkD (dictT d).words) (itemTs l)
    have g8 := f_ItemTrees icl (by rw [itemTs_length]; exact hl.1)
    have g9 := f_SameAll (a := itemRVs (itemTs l)) (b := itemRVs (itemTs l)) (clean_smallI _ icl) (clean_smallI _ icl) (by simp; omega) (by simp; omega) [] [] false false
    rw [sameVs_refl, List.append_nil] at g9
    have hE : ∀ (i : Nat) w, (dictT d).words[i]? = some w → Av.Fn Tryz.prog 22 [.fz (codesC (linkD (dictT d).words)) (linkD (dictT d).words).length false, .fz (opsC (w.body.map (opD ((dictT d).words.map (·.name))))) w.body.length false] (.tup [.fz (itemAVs w.body) w.body.length false, .int .i64 0]) ∧
        Av.Fn Tryz.prog 14 [.fz (itemAVs w.body) w.body.length false] (.fz (rvsC (itemRVs w.body)) w.body.length false) ∧
        Av.Fn Tryz.prog 18 [.fz (rvsC (itemRVs w.body)) w.body.length false, .fz (rvsC (itemRVs w.body)) w.body.length false] (.bool true) ∧
        (List.drop (mulN i 2) (codesC (linkD (dictT d).words))).take 2 = [.str w.name, .fz (opsC (w.body.map (opD ((dictT d).words.map (·.name))))) w.body.length false] := by
      intro i w hw
      have hm := List.mem_of_getElem? hw
      have q := hws w hm
      have hlk : (linkD (dictT d).words)[i]? = some (codeD ((dictT d).words.map (·.name)) w) := by unfold linkD; rw [List.getElem?_map, hw]; rfl
      have hci := hcs _ (List.mem_of_getElem? hlk)
      have h1 := f_lBack (ops := (codeD ((dictT d).words.map (·.name)) w).ops) hcl hcs hci.ops hci.inp
      rw [link_back hD hm] at h1
      have h3 := f_SameAll (a := itemRVs w.body) (b := itemRVs w.body) (clean_smallI _ q.clean) (clean_smallI _ q.clean) (by rw [itemRVs_length]; have := q.len; omega) (by rw [itemRVs_length]; have := q.len; omega) [] [] false false
      rw [sameVs_refl, List.append_nil, itemRVs_length] at h3
      have e1 : (codeD ((dictT d).words.map (·.name)) w).ops.length = w.body.length := List.length_map _
      rw [e1] at h1
      refine ⟨h1, f_ItemTrees q.clean (by have := q.len; omega), h3, ?_⟩
      have hdp := flat_drop codeC 2 codeC_len hlk
      rw [show codesC (linkD (dictT d).words) = (linkD (dictT d).words).flatMap codeC from rfl, hdp, codeC_D]; rfl
    rw [linkD_len] at g3 g4 g6 g7
    simp only [linkD_len] at hE
    have hlen := hD.len
    generalize codesC (linkD (dictT d).words) = cs at *
    generalize linkOps (linkD (dictT d).words) (itemTs l) = A at *
    generalize linkBack (linkD (dictT d).words) A.1 = B at *
    generalize (dictT d).words.map (·.name) = names at *
    generalize (dictT d).words = ws at *
    obtain ⟨A, e⟩ := A
    obtain ⟨B, f⟩ := B
    unfold lopsV at g6
    dsimp only at g6 g7 hob hon hE
    simp only [itemTs_length, itemRVs_length] at g5 g6 g7 g8 g9
    refine ACalls.of_W tb_ok (fn := Tryz.f5) (n := 126) (by kernel_rfl) rfl (by kernel_rfl) rfl rfl (by simp) (go ?_)
    refine VAll.mk (fun b2 => go ?_)
    refine Fn.use (f_awake18) (go ?_)
    refine Fn.use (g1) (go ?_)
    refine VAll.mk (fun b5 => go ?_)
    refine Fn.use (g2) (go ?_)
    refine Fn.use (g3) (go ?_)
    refine VIf.no (by simp) (go ?_)
    refine Fn.use (g4) (go ?_)
    refine VLoop.mk [8] Nat (fun i => [.int .i64 i]) (fun _ => [(b5, .box [k0, .fz (ws.flatMap wordC) ws.length false])]) (fun i => i ≤ ws.length) (fun i => ws.length - i) 0 ?_ ?_
    · exact ⟨Nat.zero_le _, rfl, .cons 0 rfl .nil⟩
    intro i hi
    refine go ?_
    refine fork (fun hlt => go ?_) (fun hlt => go ?_)
    · have hlt : i < ws.length := by omega
      obtain ⟨w, hw⟩ : ∃ x, ws[i]? = some x := ⟨ws[i], by simp [hlt]⟩
      obtain ⟨c1, c2, c3, c4⟩ := hE i w hw
      obtain ⟨d0, d1⟩ := take_two c4
      have hdp := flat_drop wordC 5 wordC_len hw
      have w1 : (List.drop 1 (List.drop (mulN i 5) (ws.flatMap wordC)))[0]? = some (.str w.name) := by rw [hdp]; rfl
      have w4 : (List.drop 3 (List.drop 1 (List.drop (mulN i 5) (ws.flatMap wordC))))[0]? = some (.fz (itemAVs w.body) w.body.length false) := by rw [hdp]; rfl
      refine VNth.mk _ d1 (go ?_)
      refine Fn.use (c1) (go ?_)
      refine VQ.mk _ (by refine go ?_; refine VNth.mk _ d0 (go ?_); exact ⟨rfl, rfl⟩) (go ?_)
      refine VQ.mk _ (by refine go ?_; refine VNth.mk _ w1 (go ?_); exact ⟨rfl, rfl⟩) (go ?_)
      refine VIf.no (by simp) (go ?_)
      refine VQ.mk _ (by refine go ?_; refine Fn.use c2 (go ?_); exact ⟨rfl, rfl⟩) (go ?_)
      refine VQ.mk _ (by refine go ?_; refine VNth.mk _ w4 (go ?_); exact ⟨rfl, rfl⟩) (go ?_)
      refine VQ.mk _ (by refine go ?_; refine Fn.use c2 (go ?_); exact ⟨rfl, rfl⟩) (go ?_)
      refine VQ.mk _ (by refine go ?_; refine Fn.use c3 (go ?_); exact ⟨rfl, rfl⟩) (go ?_)
      exact ⟨i + 1, by omega, by omega, rfl, .cons 0 rfl .nil⟩
    · refine Fn.use (g5) (go ?_)
      refine Fn.use (g6) (go ?_)
      by_cases he : e = 0
      · obtain ⟨rfl, rfl⟩ : B = itemTs l ∧ f = 0 := by have := hob he; simpa using this
        rw [itemTs_length] at g7
        refine VIf.no (by simp [he]) (go ?_)
        refine Fn.use (g7) (go ?_)
        refine Fn.use (g8) (go ?_)
        refine Fn.use (g8) (go ?_)
        refine Fn.use (g9) (go ?_)
        refine VRet.mk [] .nil ?_
        exact ⟨rfl, rfl⟩
      · obtain rfl : A = [] := hon he
        refine VIf.yes (by simp [he]) (go ?_)
        refine VRet.mk [] .nil ?_
        exact ⟨rfl, rfl⟩
end Go.Proofs.YtonkeklageehbaaGreatDoor
