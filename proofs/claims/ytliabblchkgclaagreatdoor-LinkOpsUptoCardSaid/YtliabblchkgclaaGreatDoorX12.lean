/- Links, the document's answer: Sound, Same. Conditions: as each says. link.places, op, Ops. Conditions: as each says. The reference's Copy. Conditions: no list of more than 2^41. Links, the document's answer: place, ops, Ops, Back; link.Back. Conditions: as each says. The reference's codes as a row's argument. Conditions: as each says. Trees of a bounded bulk are not too large for the document's answer. Conditions: as each says. LinkSame: the walk. Conditions: what is handed in is no larger than the second form lets in. LinkOps: the walk. Conditions: what is handed in is no larger than the second form lets in. The second form's bound, and how much a reading holds. Conditions: none. -/
import Derived.Test.YtliabblchkgclaaGreatDoorX11
import Derived.Test.YtliabblchkgclaaGreatDoorX7
import Derived.Test.YtliabblchkgclaaGreatDoorX8
import Derived.Test.YtliabblchkgclaaGreatDoorX10
import Derived.Test.YtliabblchkgclaaGreatDoorX9
import Derived.Test.YtliabblchkgclaaGreatDoorX4
import Derived.Test.YtliabblchkgclaaGreatDoorRows
set_option linter.all false
set_option maxRecDepth 20000
namespace Go.Proofs.YtliabblchkgclaaGreatDoor
open Go Go.Av
def rbodyOk (names : List (List UInt8)) (ops : List ROp) : Bool := match refBackL names ops with
  | some l => refOk l
  | none => false
theorem refCodeOk_eq (names : List (List UInt8)) (i : Nat) (c : RCode) : refCodeOk names i c = (rbodyOk names c.ops && (callR (names.getD i []) && (i == 0 || !(Op.bytesLess (names.getD i []) (names.getD (i - 1) []) || decide (names.getD i [] = names.getD (i - 1) []))))) := rfl
theorem rsound_false {l : List RCode} {i : Nat} {c : RCode} (h : l[i]? = some c) (hc : refCodeOk (l.map (·.name)) i c = false) : soundR l = false := by
  unfold soundR
  rw [List.all_eq_false]
  refine ⟨i, List.mem_range.2 (List.getElem?_eq_some_iff.1 h).1, ?_⟩
  rw [h]; simp [hc]
theorem rsound_true {l : List RCode} (h : ∀ i c, l[i]? = some c → refCodeOk (l.map (·.name)) i c = true) : soundR l = true := by
  unfold soundR
  rw [List.all_eq_true]
  intro i hi
  cases hc : l[i]? with
  | none => rfl
  | some c => exact h i c hc
set_option maxHeartbeats 2000000 in
theorem f_rSound (l : List RCode) (hl : l.length ≤ 1048576) (hc : ∀ c ∈ l, RIn c) : Av.Fn Tryz.prog 20 [.fz (rcodesC l) l.length false] (.bool (soundR l)) := by
  have hN := f_namesOf l hl
  have hnl : ∀ n ∈ l.map (·.name), n.length ≤ 1048576 := fun n hn => by
    obtain ⟨c, hc', rfl⟩ := List.mem_map.1 hn
    exact (hc c hc').name
  refine ACalls.of_W tb_ok (fn := Tryz.f20) (n := 51) (by kernel_rfl) rfl (by kernel_rfl) rfl rfl (by simp) (go ?_)
  refine Fn.use (hN) (go ?_)
  refine VLoop.mk [4] Nat (fun k => [.int .i64 k]) (fun _ => []) (fun k => k ≤ l.length ∧ ∀ i c, i < k → l[i]? = some c → refCodeOk (l.map (·.name)) i c = true) (fun k => l.length - k) 0 ?_ ?_
  · exact ⟨⟨Nat.zero_le _, fun i c h => absurd h (Nat.not_lt_zero _)⟩, rfl, .nil⟩
  rintro k ⟨hk, hI⟩
  dsimp only at hk hI ⊢
  refine go ?_
  refine fork (fun hlt => go ?_) (fun hlt => go ?_)
  · have hlt : k < l.length := by omega
    obtain ⟨x, hx⟩ : ∃ x, l[k]? = some x := ⟨l[k], by simp [hlt]⟩
    have hin := hc x (List.mem_of_getElem? hx)
    have hB := f_ritems (l.map (·.name)) x.ops (by simpa using hl) hin.ops hnl hin.inp
    have hP := f_callable x.name (by have := hin.name; omega)
    have hd := flat_drop rcodeC 2 rcodeC_len hx
    have hbad : refCodeOk (l.map (·.name)) k x = false → soundR l = false := rsound_false hx
    have hgood : refCodeOk (l.map (·.name)) k x = true → k + 1 ≤ l.length ∧ ∀ i c, i < k + 1 → l[i]? = some c → refCodeOk (l.map (·.name)) i c = true := by
      intro h
      refine ⟨by omega, fun i c hi hic => ?_⟩
      by_cases e : i = k
      · subst e; rw [hx] at hic; cases hic; exact h
      · exact hI i c (by omega) hic
    have hnk : (l.map (·.name))[k]? = some x.name := by rw [List.getElem?_map, hx]; rfl
    have hg : (l.map (·.name)).getD k [] = x.name := by rw [List.getD_eq_getElem?_getD, hnk]; rfl
    rw [refCodeOk_eq, hg] at hbad hgood
    obtain ⟨nm, ops⟩ := x
    have hd : List.drop (mulN k 2) (rcodesC l) = [.str nm, .fz (ropsC ops) ops.length false] ++ rcodesC (l.drop (k + 1)) := hd
    have d1 : (List.drop 1 (List.drop (mulN k 2) (rcodesC l)))[0]? = some (.fz (ropsC ops) ops.length false) := by rw [hd]; rfl
    dsimp only at hB hP hbad hgood hnk
    rw [List.length_map] at hB
    refine VNth.mk _ d1 (go ?_)
    have hq : ((l.map (·.name)).map AV.str)[k]? = some (.str nm) := by rw [List.getElem?_map, hnk]; rfl
    generalize hns : l.map (·.name) = names at *
    have hnlen : names.length = l.length := by rw [← hns, List.length_map]
    cases hbl : refBackL names ops with
    | none =>
      have hbo : rbodyOk names ops = false := by unfold rbodyOk; rw [hbl]
      have hB : Av.Fn Tryz.prog 44 [.fz (names.map .str) l.length false, .fz (ropsC ops) ops.length false] (.tup [.fz [] 0 false, .bool false]) := by rw [hbl] at hB; exact hB
      refine Fn.use hB (go ?_)
      refine VRet.mk [] .nil ?_
      rw [hbad (by rw [hbo]; rfl)]
      exact ⟨rfl, rfl⟩
    | some bl =>
      have hbo : rbodyOk names ops = refOk bl := by unfold rbodyOk; rw [hbl]
      have hB : Av.Fn Tryz.prog 44 [.fz (names.map .str) l.length false, .fz (ropsC ops) ops.length false] (.tup [.fz (rvsC bl) bl.length false, .bool (refOk bl)]) := by rw [hbl] at hB; exact hB
      cases hro : refOk bl with
      | false =>
        rw [hro] at hB hbo
        refine Fn.use hB (go ?_)
        refine VRet.mk [] .nil ?_
        rw [hbad (by rw [hbo]; rfl)]
        exact ⟨rfl, rfl⟩
      | true =>
        rw [hro] at hB hbo
        rw [hbo] at hbad hgood
        refine Fn.use hB (go ?_)
        have q0 : (List.drop (mulN k 1) (names.map AV.str))[0]? = some (.str nm) := by rw [mulN_eq, Nat.mul_one, List.getElem?_drop]; exact hq
        refine VQ.mk (.str nm) (by refine go ?_; refine VNth.mk _ q0 (go ?_); exact ⟨rfl, rfl⟩) (go ?_)
        cases hn : callR nm with
        | false =>
          rw [hn] at hP hbad
          refine VQ.mk (.bool false) (by refine go ?_; refine Fn.use hP (go ?_); exact ⟨rfl, rfl⟩) (go ?_)
          refine VRet.mk [] .nil ?_
          rw [hbad rfl]
          exact ⟨rfl, rfl⟩
        | true =>
          rw [hn] at hP hbad hgood
          refine VQ.mk (.bool true) (by refine go ?_; refine Fn.use hP (go ?_); exact ⟨rfl, rfl⟩) (go ?_)
          by_cases hk0 : k = 0
          · subst hk0
            refine VIf.no (by simp) (go ?_)
            exact ⟨0 + 1, hgood rfl, by omega, rfl, .nil⟩
          · obtain ⟨y, hy⟩ : ∃ y, names[k - 1]? = some y := ⟨_, List.getElem?_eq_getElem (show k - 1 < names.length by omega)⟩
            have hg1 : names.getD (k - 1) [] = y := by rw [List.getD_eq_getElem?_getD, hy]; rfl
            have hy' : (names.map AV.str)[k - 1]? = some (.str y) := by rw [List.getElem?_map, hy]; rfl
            have q1 : (List.drop (mulN (k - 1) 1) (names.map AV.str))[0]? = some (.str y) := by rw [mulN_eq, Nat.mul_one, List.getElem?_drop]; exact hy'
            rw [hg1, show (k == 0) = false by simp [hk0]] at hbad hgood
            refine VIf.yes (by simp; omega) (go ?_)
            refine VQ.mk (.str nm) (by refine go ?_; refine VNth.mk _ q0 (go ?_); exact ⟨rfl, rfl⟩) (go ?_)
            refine VQ.mk (.fzp (List.drop (mulN (k - 1) 1) (names.map AV.str))) (by refine go ?_; exact VIdx.at (k - 1) (by omega) (by omega) ⟨rfl, rfl⟩) (go ?_)
            refine VQ.mk (.str y) (by refine go ?_; refine VNth.mk _ q1 (go ?_); exact ⟨rfl, rfl⟩) (go ?_)
            cases hlt2 : (Op.bytesLess nm y || decide (nm = y)) with
            | true =>
              rw [hlt2] at hbad
              refine VIf.yes rfl (go ?_)
              refine VRet.mk [] .nil ?_
              rw [hbad rfl]
              exact ⟨rfl, rfl⟩
            | false =>
              rw [hlt2] at hgood
              refine VIf.no rfl (go ?_)
              exact ⟨k + 1, hgood rfl, by omega, rfl, .nil⟩
  · have : k = l.length := by omega
    subst this
    have hs : soundR l = true := rsound_true fun i c h => hI i c (List.getElem?_eq_some_iff.1 h).1 h
    refine VRet.mk [] .nil ?_
    rw [hs]
    exact ⟨rfl, rfl⟩



set_option maxHeartbeats 1000000 in
theorem f_rSameOps (a b : List ROp) (ha : a.length ≤ 1048576) (hb : b.length ≤ 1048576) (h : ∀ x ∈ a, ∀ y ∈ b, Av.Fn Tryz.prog 48 [.agg (rvAV x.v), .agg (rvAV y.v)] (.bool (sameV x.v y.v))) :
    Av.Fn Tryz.prog 21 [.fz (ropsC a) a.length false, .fz (ropsC b) b.length false] (.bool (all2 sameOpR a b)) := by
  refine ACalls.of_W tb_ok (fn := Tryz.f21) (n := 55) (by kernel_rfl) rfl (by kernel_rfl) rfl rfl (by simp) (go ?_)
  refine fork (fun hne => go ?_) (fun hne => go ?_)
  · refine VRet.mk [] .nil ?_
    refine ⟨?_, rfl⟩
    cases e : all2 sameOpR a b with
    | true => exact absurd (by rw [all2_len e]) hne
    | false => rfl
  have hne : a.length = b.length := by omega
  refine VLoop.mk [5] Nat (fun i => [.int .i64 i]) (fun _ => []) (fun i => i ≤ a.length ∧ all2 sameOpR a b = all2 sameOpR (a.drop i) (b.drop i)) (fun i => a.length - i) 0 ?_ ?_
  · exact ⟨⟨by omega, by simp⟩, rfl, .nil⟩
  intro i ⟨hi, hI⟩
  refine go ?_
  refine fork (fun hlt => go ?_) (fun hlt => ?_)
  rotate_left
  · rw [List.drop_eq_nil_of_le (by omega), List.drop_eq_nil_of_le (by omega)] at hI
    refine go ?_
    refine VRet.mk [] .nil ?_
    rw [hI]; exact ⟨by simp [all2], rfl⟩
  have hlt : i < a.length := by omega
  obtain ⟨x, hx⟩ : ∃ x, a[i]? = some x := ⟨a[i], by simp [hlt]⟩
  obtain ⟨y, hy⟩ : ∃ y, b[i]? = some y := ⟨b[i]'(by omega), by simp [hne ▸ hlt]⟩
  have hda : a.drop i = x :: a.drop (i + 1) := by rw [List.drop_eq_getElem_cons hlt]; congr 1; rw [List.getElem?_eq_getElem hlt] at hx; exact Option.some.inj hx
  have hdb : b.drop i = y :: b.drop (i + 1) := by rw [List.drop_eq_getElem_cons (hne ▸ hlt)]; congr 1; rw [List.getElem?_eq_getElem (hne ▸ hlt)] at hy; exact Option.some.inj hy
  rw [hda, hdb, all2] at hI
  have hxy := h x (List.mem_of_getElem? hx) y (List.mem_of_getElem? hy)
  have da := flat_drop ropC 6 ropC_len hx
  have db := flat_drop ropC 6 ropC_len hy
  have hno : sameOpR x y = false → all2 sameOpR a b = false := fun h => by rw [hI, h]; rfl
  have hyes : sameOpR x y = true → i + 1 ≤ a.length ∧ all2 sameOpR a b = all2 sameOpR (a.drop (i + 1)) (b.drop (i + 1)) := fun h => ⟨by omega, by rw [hI, h, Bool.true_and]⟩
  obtain ⟨kd, n, v⟩ := x
  obtain ⟨kd', n', v'⟩ := y
  obtain ⟨k1, n1, s1, q1⟩ := v
  obtain ⟨k2, n2, s2, q2⟩ := v'
  have e : sameOpR ⟨kd, n, .mk k1 n1 s1 q1⟩ ⟨kd', n', .mk k2 n2 s2 q2⟩ = (decide (kd = kd') && (decide (n = n') && sameV (.mk k1 n1 s1 q1) (.mk k2 n2 s2 q2))) := rfl
  rw [e] at hno hyes
  dsimp only at hxy
  generalize sameV (.mk k1 n1 s1 q1) (.mk k2 n2 s2 q2) = z at hxy hno hyes
  rw [rvAV, rvAV] at hxy
  have da : List.drop (mulN i 6) (ropsC a) = [.int .i64 kd, .int .i64 n, .int .i64 k1, .int .i64 n1, .str s1, .fz (rvsC q1) q1.length false] ++ ropsC (a.drop (i + 1)) := by
    rw [show ropsC a = a.flatMap ropC from rfl, da]; simp [ropC, rvAV, ropsC]
  have db : List.drop (mulN i 6) (ropsC b) = [.int .i64 kd', .int .i64 n', .int .i64 k2, .int .i64 n2, .str s2, .fz (rvsC q2) q2.length false] ++ ropsC (b.drop (i + 1)) := by
    rw [show ropsC b = b.flatMap ropC from rfl, db]; simp [ropC, rvAV, ropsC]
  have a0 : (List.drop 0 (List.drop (mulN i 6) (ropsC a)))[0]? = some (.int .i64 kd) := by rw [da]; rfl
  have a1 : (List.drop 1 (List.drop (mulN i 6) (ropsC a)))[0]? = some (.int .i64 n) := by rw [da]; rfl
  have a2 : (List.drop 2 (List.drop (mulN i 6) (ropsC a))).take 4 = [.int .i64 k1, .int .i64 n1, .str s1, .fz (rvsC q1) q1.length false] := by rw [da]; rfl
  have b0 : (List.drop 0 (List.drop (mulN i 6) (ropsC b)))[0]? = some (.int .i64 kd') := by rw [db]; rfl
  have b1 : (List.drop 1 (List.drop (mulN i 6) (ropsC b)))[0]? = some (.int .i64 n') := by rw [db]; rfl
  have b2 : (List.drop 2 (List.drop (mulN i 6) (ropsC b))).take 4 = [.int .i64 k2, .int .i64 n2, .str s2, .fz (rvsC q2) q2.length false] := by rw [db]; rfl
  refine VQ.mk (.int .i64 kd) (by refine go ?_; refine VNth.mk _ a0 (go ?_); exact ⟨rfl, rfl⟩) (go ?_)
  refine VQ.mk (.int .i64 kd') (by refine go ?_; refine VNth.mk _ b0 (go ?_); exact ⟨rfl, rfl⟩) (go ?_)
  by_cases hk : kd = kd'
  · subst hk
    rw [decide_eq_true rfl, Bool.true_and] at hno hyes
    refine VIf.no (by simp) (go ?_)
    refine VQ.mk (.int .i64 n) (by refine go ?_; refine VNth.mk _ a1 (go ?_); exact ⟨rfl, rfl⟩) (go ?_)
    refine VQ.mk (.int .i64 n') (by refine go ?_; refine VNth.mk _ b1 (go ?_); exact ⟨rfl, rfl⟩) (go ?_)
    by_cases hn : n = n'
    · subst hn
      rw [decide_eq_true rfl, Bool.true_and] at hno hyes
      refine VIf.no (by simp) (go ?_)
      refine VQ.mk (.agg ([.int .i64 k1, .int .i64 n1, .str s1, .fz (rvsC q1) q1.length false])) (by refine go ?_; refine VTake.mk _ a2 rfl (go ?_); exact ⟨rfl, rfl⟩) (go ?_)
      refine VQ.mk (.agg ([.int .i64 k2, .int .i64 n2, .str s2, .fz (rvsC q2) q2.length false])) (by refine go ?_; refine VTake.mk _ b2 rfl (go ?_); exact ⟨rfl, rfl⟩) (go ?_)
      cases z with
      | true =>
        refine VQ.mk _ (by refine go ?_; refine Fn.use hxy (go ?_); exact ⟨rfl, rfl⟩) (go ?_)
        exact ⟨i + 1, hyes rfl, by omega, rfl, .nil⟩
      | false =>
        refine VQ.mk _ (by refine go ?_; refine Fn.use hxy (go ?_); exact ⟨rfl, rfl⟩) (go ?_)
        refine VRet.mk [] .nil ?_
        rw [hno rfl]
        exact ⟨rfl, rfl⟩
    · rw [decide_eq_false hn] at hno
      refine VIf.yes (by simpa using hn) (go ?_)
      refine VRet.mk [] .nil ?_
      rw [hno rfl]
      exact ⟨rfl, rfl⟩
  · rw [decide_eq_false hk] at hno
    refine VIf.yes (by simpa using hk) (go ?_)
    refine VRet.mk [] .nil ?_
    rw [hno rfl]
    exact ⟨rfl, rfl⟩
set_option maxHeartbeats 1000000 in
theorem f_rSame (a b : List RCode) (ha : a.length ≤ 1048576) (hb : b.length ≤ 1048576) (h : ∀ x ∈ a, ∀ y ∈ b, Av.Fn Tryz.prog 21 [.fz (ropsC x.ops) x.ops.length false, .fz (ropsC y.ops) y.ops.length false] (.bool (all2 sameOpR x.ops y.ops))) :
    Av.Fn Tryz.prog 23 [.fz (rcodesC a) a.length false, .fz (rcodesC b) b.length false] (.bool (all2 sameCodeR a b)) := by
  refine ACalls.of_W tb_ok (fn := Tryz.f23) (n := 42) (by kernel_rfl) rfl (by kernel_rfl) rfl rfl (by simp) (go ?_)
  refine fork (fun hne => go ?_) (fun hne => go ?_)
  · refine VRet.mk [] .nil ?_
    refine ⟨?_, rfl⟩
    cases e : all2 sameCodeR a b with
    | true => exact absurd (by rw [all2_len e]) hne
    | false => rfl
  have hne : a.length = b.length := by omega
  refine VLoop.mk [5] Nat (fun i => [.int .i64 i]) (fun _ => []) (fun i => i ≤ a.length ∧ all2 sameCodeR a b = all2 sameCodeR (a.drop i) (b.drop i)) (fun i => a.length - i) 0 ?_ ?_
  · exact ⟨⟨by omega, by simp⟩, rfl, .nil⟩
  intro i ⟨hi, hI⟩
  refine go ?_
  refine fork (fun hlt => go ?_) (fun hlt => ?_)
  rotate_left
  · rw [List.drop_eq_nil_of_le (by omega), List.drop_eq_nil_of_le (by omega)] at hI
    refine go ?_
    refine VRet.mk [] .nil ?_
    rw [hI]; exact ⟨by simp [all2], rfl⟩
  have hlt : i < a.length := by omega
  obtain ⟨x, hx⟩ : ∃ x, a[i]? = some x := ⟨a[i], by simp [hlt]⟩
  obtain ⟨y, hy⟩ : ∃ y, b[i]? = some y := ⟨b[i]'(by omega), by simp [hne ▸ hlt]⟩
  have hda : a.drop i = x :: a.drop (i + 1) := by rw [List.drop_eq_getElem_cons hlt]; congr 1; rw [List.getElem?_eq_getElem hlt] at hx; exact Option.some.inj hx
  have hdb : b.drop i = y :: b.drop (i + 1) := by rw [List.drop_eq_getElem_cons (hne ▸ hlt)]; congr 1; rw [List.getElem?_eq_getElem (hne ▸ hlt)] at hy; exact Option.some.inj hy
  rw [hda, hdb, all2] at hI
  have hxy := h x (List.mem_of_getElem? hx) y (List.mem_of_getElem? hy)
  have da := flat_drop rcodeC 2 rcodeC_len hx
  have db := flat_drop rcodeC 2 rcodeC_len hy
  have hno : sameCodeR x y = false → all2 sameCodeR a b = false := fun h => by rw [hI, h]; rfl
  have hyes : sameCodeR x y = true → i + 1 ≤ a.length ∧ all2 sameCodeR a b = all2 sameCodeR (a.drop (i + 1)) (b.drop (i + 1)) := fun h => ⟨by omega, by rw [hI, h, Bool.true_and]⟩
  obtain ⟨nm, ops⟩ := x
  obtain ⟨nm', ops'⟩ := y
  have e : sameCodeR ⟨nm, ops⟩ ⟨nm', ops'⟩ = (decide (nm = nm') && all2 sameOpR ops ops') := rfl
  rw [e] at hno hyes
  dsimp only at hxy
  generalize all2 sameOpR ops ops' = z at hxy hno hyes
  have da : List.drop (mulN i 2) (rcodesC a) = [.str nm, .fz (ropsC ops) ops.length false] ++ rcodesC (a.drop (i + 1)) := da
  have db : List.drop (mulN i 2) (rcodesC b) = [.str nm', .fz (ropsC ops') ops'.length false] ++ rcodesC (b.drop (i + 1)) := db
  have a0 : (List.drop 0 (List.drop (mulN i 2) (rcodesC a)))[0]? = some (.str nm) := by rw [da]; rfl
  have a1 : (List.drop 1 (List.drop (mulN i 2) (rcodesC a)))[0]? = some (.fz (ropsC ops) ops.length false) := by rw [da]; rfl
  have b0 : (List.drop 0 (List.drop (mulN i 2) (rcodesC b)))[0]? = some (.str nm') := by rw [db]; rfl
  have b1 : (List.drop 1 (List.drop (mulN i 2) (rcodesC b)))[0]? = some (.fz (ropsC ops') ops'.length false) := by rw [db]; rfl
  refine VQ.mk (.str nm) (by refine go ?_; refine VNth.mk _ a0 (go ?_); exact ⟨rfl, rfl⟩) (go ?_)
  refine VQ.mk (.str nm') (by refine go ?_; refine VNth.mk _ b0 (go ?_); exact ⟨rfl, rfl⟩) (go ?_)
  by_cases hk : nm = nm'
  · subst hk
    rw [decide_eq_true rfl, Bool.true_and] at hno hyes
    refine VIf.no (by simp) (go ?_)
    refine VQ.mk (.fz (ropsC ops) ops.length false) (by refine go ?_; refine VNth.mk _ a1 (go ?_); exact ⟨rfl, rfl⟩) (go ?_)
    refine VQ.mk (.fz (ropsC ops') ops'.length false) (by refine go ?_; refine VNth.mk _ b1 (go ?_); exact ⟨rfl, rfl⟩) (go ?_)
    cases z with
    | true =>
      refine VQ.mk _ (by refine go ?_; refine Fn.use hxy (go ?_); exact ⟨rfl, rfl⟩) (go ?_)
      exact ⟨i + 1, hyes rfl, by omega, rfl, .nil⟩
    | false =>
      refine VQ.mk _ (by refine go ?_; refine Fn.use hxy (go ?_); exact ⟨rfl, rfl⟩) (go ?_)
      refine VRet.mk [] .nil ?_
      rw [hno rfl]
      exact ⟨rfl, rfl⟩
  · rw [decide_eq_false hk] at hno
    refine VIf.yes (by simpa using hk) (go ?_)
    refine VRet.mk [] .nil ?_
    rw [hno rfl]
    exact ⟨rfl, rfl⟩
end Go.Proofs.YtliabblchkgclaaGreatDoor

namespace Go.Proofs.YtliabblchkgclaaGreatDoor
open Go Go.Av
/-! ### The order of texts -/
theorem bl_irrefl : ∀ x : List UInt8, Op.bytesLess x x = false
  | [] => rfl
  | a :: x => by
    rw [Op.bytesLess, bl_irrefl x]
    simp
theorem bl_trans : ∀ {x y z : List UInt8}, Op.bytesLess x y = true → Op.bytesLess y z = true → Op.bytesLess x z = true
  | [], y, [], _, h => by cases y <;> simp [Op.bytesLess] at h
  | [], _, c :: z, _, _ => rfl
  | a :: x, [], z, h, _ => by simp [Op.bytesLess] at h
  | a :: x, b :: y, [], _, h => by simp [Op.bytesLess] at h
  | a :: x, b :: y, c :: z, h1, h2 => by
    rw [Op.bytesLess] at h1 h2 ⊢
    simp only [Bool.or_eq_true, Bool.and_eq_true, decide_eq_true_eq, beq_iff_eq, UInt8.lt_iff_toNat_lt] at h1 h2 ⊢
    rcases h1 with h1 | ⟨rfl, h1⟩
    · rcases h2 with h2 | ⟨rfl, h2⟩
      · exact .inl (by omega)
      · exact .inl h1
    · rcases h2 with h2 | ⟨rfl, h2⟩
      · exact .inl h2
      · exact .inr ⟨rfl, bl_trans h1 h2⟩
theorem bl_tri : ∀ {x y : List UInt8}, Op.bytesLess x y = false → x ≠ y → Op.bytesLess y x = true
  | [], [], _, h => absurd rfl h
  | [], _ :: _, h, _ => by simp [Op.bytesLess] at h
  | _ :: _, [], _, _ => rfl
  | a :: x, b :: y, h, hn => by
    rw [Op.bytesLess] at h ⊢
    simp only [Bool.or_eq_false_iff, Bool.and_eq_false_iff, decide_eq_false_iff_not, UInt8.lt_iff_toNat_lt] at h
    simp only [Bool.or_eq_true, Bool.and_eq_true, decide_eq_true_eq, beq_iff_eq, UInt8.lt_iff_toNat_lt]
    by_cases e : a = b
    · subst e
      rcases h.2 with h2 | h2
      · simp at h2
      · exact .inr ⟨rfl, bl_tri h2 (fun e => hn (by rw [e]))⟩
    · refine .inl ?_
      have : a.toNat ≠ b.toNat := fun h' => e (UInt8.toNat_inj.1 h')
      omega
/-- Names that go up differ. -/
theorem up_lt {l : List (List UInt8)} (h : ∀ i n m, l[i]? = some n → l[i + 1]? = some m → Op.bytesLess n m = true) : ∀ (d i : Nat) (n m : List UInt8), l[i]? = some n → l[i + d + 1]? = some m → Op.bytesLess n m = true
  | 0, i, n, m, h1, h2 => h i n m h1 h2
  | d + 1, i, n, m, h1, h2 => by
    have hlt := (List.getElem?_eq_some_iff.1 h2).1
    obtain ⟨k, hk⟩ : ∃ k, l[i + d + 1]? = some k := ⟨_, List.getElem?_eq_getElem (by omega)⟩
    exact bl_trans (up_lt h d i n k h1 hk) (h (i + d + 1) k m hk h2)
theorem up_notin {l : List (List UInt8)} (h : ∀ i n m, l[i]? = some n → l[i + 1]? = some m → Op.bytesLess n m = true) {k : Nat} {m : List UInt8} (hm : l[k]? = some m) : m ∉ l.take k := by
  intro hc
  obtain ⟨i, hi⟩ := List.mem_iff_getElem?.1 hc
  have hik : i < k := by have := (List.getElem?_eq_some_iff.1 hi).1; rw [List.length_take] at this; omega
  rw [List.getElem?_take_of_lt hik] at hi
  have := up_lt h (k - i - 1) i m m hi (by rw [show i + (k - i - 1) + 1 = k by omega]; exact hm)
  rw [bl_irrefl] at this; cases this
theorem sound_up {codes : List CodeT} (h : soundC codes = true) : ∀ i n m, (codes.map (·.name))[i]? = some n → (codes.map (·.name))[i + 1]? = some m → Op.bytesLess n m = true := by
  intro i n m h1 h2
  rw [List.getElem?_map] at h2
  cases hc : codes[i + 1]? with
  | none => rw [hc] at h2; cases h2
  | some c =>
    rw [hc] at h2
    obtain rfl : c.name = m := Option.some.inj h2
    unfold soundC at h
    rw [List.all_eq_true] at h
    have := h (i + 1) (List.mem_range.2 (List.getElem?_eq_some_iff.1 hc).1)
    rw [hc] at this
    dsimp only at this
    rw [codeOk_eq, Bool.and_eq_true, Bool.and_eq_true] at this
    have h3 := this.1.2
    rw [show (codes.map (·.name)).getD (i + 1 - 1) [] = n by rw [List.getD_eq_getElem?_getD, Nat.add_sub_cancel, h1]; rfl] at h3
    simp only [Bool.or_eq_true, beq_iff_eq, Bool.not_eq_true', Bool.or_eq_false_iff, decide_eq_false_iff_not] at h3
    rcases h3 with h3 | h3
    · omega
    · exact bl_tri h3.1 h3.2
/-! ### Places -/
def placeL : List (List UInt8) → List UInt8 → Nat → Option Nat
  | [], _, _ => none
  | n :: r, s, i => if s = n then some i else placeL r s (i + 1)
def entsN : List (List UInt8) → Nat → List (AV × AV)
  | [], _ => []
  | n :: r, i => (.str n, .int .i64 i) :: entsN r (i + 1)
theorem mapFind_N (s : List UInt8) : ∀ (l : List (List UInt8)) (i : Nat), mapFind (entsN l i) (.str s) i = some ((placeL l s i).map fun j => (j, .int .i64 j))
  | [], i => rfl
  | n :: r, i => by
    show (match some (decide (s = n)) with
      | some true => some (some (i, AV.int .i64 i))
      | some false => mapFind (entsN r (i + 1)) (.str s) (i + 1)
      | none => none) = _
    rw [placeL]
    by_cases e : s = n
    · rw [decide_eq_true e, if_pos e]; rfl
    · rw [decide_eq_false e, if_neg e]; exact mapFind_N s r (i + 1)
theorem entsN_snoc (n : List UInt8) : ∀ (l : List (List UInt8)) (i : Nat), entsN (l ++ [n]) i = entsN l i ++ [(.str n, .int .i64 ((i + l.length : Nat) : Int))]
  | [], i => rfl
  | m :: r, i => by
    rw [List.cons_append, entsN, entsN, entsN_snoc n r (i + 1), List.length_cons, List.cons_append, show i + 1 + r.length = i + (r.length + 1) by omega]
theorem placeL_none (s : List UInt8) : ∀ (l : List (List UInt8)) (i : Nat), s ∉ l → placeL l s i = none
  | [], _, _ => rfl
  | n :: r, i, h => by
    rw [placeL, if_neg (fun e => h (by rw [e]; exact List.mem_cons_self ..)), placeL_none s r (i + 1) (fun hm => h (List.mem_cons_of_mem _ hm))]
theorem names_notin {k : Nat} {m : List UInt8} (hm : namesL[k]? = some m) : m ∉ namesL.take k := by
  have key : ((List.range 52).all fun k => !((namesL.take k).contains (namesL.getD k []))) = true := by decide +kernel
  have hk : k < 52 := (List.getElem?_eq_some_iff.1 hm).1
  have := List.all_eq_true.1 key k (List.mem_range.2 hk)
  rw [List.getD_eq_getElem?_getD, hm] at this
  simpa using this
set_option maxHeartbeats 1000000 in
theorem f_places (codes : List CodeT) (hl : codes.length ≤ 1048576) (hup : ∀ k m, (codes.map (·.name))[k]? = some m → m ∉ (codes.map (·.name)).take k) :
    ACalls Tryz.prog 36 [.fz (codesC codes) codes.length false] [] fun out st' => ∃ bw bp, out = .ret (.tup [.mapr bw, .mapr bp]) ∧ st' = [(bw, .map (entsN (codes.map (·.name)) 0)), (bp, .map (entsN namesL 0))] := by
  refine ACalls.of_W tb_ok (fn := Tryz.f36) (n := 35) (by kernel_rfl) rfl (by kernel_rfl) rfl rfl (by simp) (go ?_)
  refine VAll.mk (fun bw => go ?_)
  refine VAll.mk (fun bp => go ?_)
  refine VLoop.mk [12] Nat (fun k => [.int .i64 k]) (fun k => [(bw, .map (entsN ((codes.map (·.name)).take k) 0)), (bp, .map [])]) (fun k => k ≤ codes.length) (fun k => codes.length - k) 0 ?_ ?_
  · exact ⟨Nat.zero_le _, rfl, .cons 1 rfl (.cons 0 rfl .nil)⟩
  rintro k hk
  dsimp only at hk ⊢
  refine go ?_
  refine fork (fun hlt => go ?_) (fun hlt => ?_)
  · have hlt : k < codes.length := by omega
    obtain ⟨x, hx⟩ : ∃ x, codes[k]? = some x := ⟨codes[k], by simp [hlt]⟩
    have hd := flat_drop codeC 2 codeC_len hx
    have hnk : (codes.map (·.name))[k]? = some x.name := by rw [List.getElem?_map, hx]; rfl
    have hni := hup k _ hnk
    have hf := mapFind_N x.name ((codes.map (·.name)).take k) 0
    rw [placeL_none _ _ _ hni] at hf
    have hsn : entsN ((codes.map (·.name)).take (k + 1)) 0 = entsN ((codes.map (·.name)).take k) 0 ++ [(.str x.name, .int .i64 (k : Nat))] := by
      rw [take_succ_at hnk, entsN_snoc, List.length_take, List.length_map, Nat.zero_add, Nat.min_eq_left hk]
    obtain ⟨nm, ops⟩ := x
    have d0 : (List.drop (mulN k 2) (codesC codes)).take 2 = [.str nm, .fz (opsC ops) ops.length false] := by rw [show codesC codes = codes.flatMap codeC from rfl, hd]; rfl
    refine VTake.mk _ d0 rfl (go ?_)
    refine VAll.mk (fun b5 => go ?_)
    refine VMap.mk none hf (go ?_)
    exact ⟨k + 1, by omega, by omega, rfl, .cons 1 (congrArg (fun c => some (bw, AObj.map c)) hsn.symm) (.cons 1 rfl .nil)⟩
  obtain rfl : k = codes.length := by omega
  rw [List.take_of_length_le (by rw [List.length_map]; exact Nat.le_refl _)]
  generalize entsN (codes.map (·.name)) 0 = ew
  refine go ?_
  refine Fn.use (f_pNames) (go ?_)
  refine VLoop.mk [24] Nat (fun k => [.int .i64 k]) (fun k => [(bw, .map ew), (bp, .map (entsN (namesL.take k) 0))]) (fun k => k ≤ 52) (fun k => 52 - k) 0 ?_ ?_
  · exact ⟨Nat.zero_le _, rfl, .cons 0 rfl (.cons 0 rfl .nil)⟩
  rintro k hk
  dsimp only at hk ⊢
  refine go ?_
  refine fork (fun hlt => go ?_) (fun hlt => ?_)
  · have hlt : k < 52 := by omega
    obtain ⟨w, hw⟩ : ∃ w, namesL[k]? = some w := ⟨_, List.getElem?_eq_getElem (show k < namesL.length from hlt)⟩
    have hf := mapFind_N w (namesL.take k) 0
    rw [placeL_none _ _ _ (names_notin hw)] at hf
    have hsn : entsN (namesL.take (k + 1)) 0 = entsN (namesL.take k) 0 ++ [(.str w, .int .i64 (k : Nat))] := by
      rw [take_succ_at hw, entsN_snoc, List.length_take, Nat.zero_add, Nat.min_eq_left (show k ≤ namesL.length from hk)]
    refine VNth.mk (.str w) (by rw [mulN_eq]; simp [hw]) (go ?_)
    refine VMap.mk none hf (go ?_)
    exact ⟨k + 1, by omega, by omega, rfl, .cons 0 rfl (.cons 0 (congrArg (fun c => some (bp, AObj.map c)) hsn.symm) .nil)⟩
  obtain rfl : k = 52 := by omega
  rw [show namesL.take 52 = namesL from rfl]
  generalize entsN namesL 0 = ep
  refine go ?_
  exact VRet.mk _ (.cons 0 rfl (.cons 0 rfl .nil)) ⟨bw, bp, rfl, rfl⟩
/-- The operation of an item. -/
def opOf (names : List (List UInt8)) : Tree → Option OpT
  | .call s => match placeL namesL s 0 with
    | some j => some ⟨2, (j : Int), .none⟩
    | none => (placeL names s 0).map fun (j : Nat) => ⟨3, (j : Int), .none⟩
  | t => some ⟨1, 0, t⟩
def opV (r : Option OpT) : AV := match r with
  | some o => .tup [.agg (opC o), .bool true]
  | none => .tup [.agg [.int .i64 3, .int .i64 0, .nili], .bool false]
theorem f_op {names : List (List UInt8)} {bw bp : Nat} {t : Tree} (hc : t.clean = true) (hf : t.full true = true) :
    ACalls Tryz.prog 37 [.mapr bw, .mapr bp, itemAV t] [(bw, .map (entsN names 0)), (bp, .map (entsN namesL 0))] fun out st' => out = .ret (opV (opOf names t)) ∧ st' = [(bw, .map (entsN names 0)), (bp, .map (entsN namesL 0))] := by
  cases hct : t.isCall with
  | true =>
    obtain ⟨s, rfl⟩ : ∃ s, t = .call s := by cases t <;> first | exact ⟨_, rfl⟩ | (cases hct; done)
    have m1 := mapFind_N s namesL 0
    have m2 := mapFind_N s names 0
    have hop : opOf names (.call s) = match placeL namesL s 0 with
      | some j => some ⟨2, (j : Int), .none⟩
      | none => (placeL names s 0).map fun (j : Nat) => ⟨3, (j : Int), .none⟩ := rfl
    rw [itemAV, hop]
    generalize entsN namesL 0 = ep at m1 ⊢
    generalize entsN names 0 = ew at m2 ⊢
    cases h1 : placeL namesL s 0 with
    | some j =>
      rw [h1] at m1
      show ACalls _ _ _ _ fun out st' => out = .ret (.tup [.agg [.int .i64 2, .int .i64 (j : Int), valAV .none], .bool true]) ∧ _
      rw [valAV]
      refine ACalls.of_W tb_ok (fn := Tryz.f37) (n := 46) (by kernel_rfl) rfl (by kernel_rfl) rfl rfl (by simp) (go ?_)
      refine VAll.mk (fun b6 => go ?_)
      refine VAll.mk (fun b8 => go ?_)
      refine VMap.mk _ m1 (go ?_)
      exact VRet.mk _ (.cons 2 rfl (.cons 2 rfl .nil)) ⟨rfl, rfl⟩
    | none =>
      rw [h1] at m1
      cases h2 : placeL names s 0 with
      | some j =>
        rw [h2] at m2
        show ACalls _ _ _ _ fun out st' => out = .ret (.tup [.agg [.int .i64 3, .int .i64 (j : Int), valAV .none], .bool true]) ∧ _
        rw [valAV]
        refine ACalls.of_W tb_ok (fn := Tryz.f37) (n := 46) (by kernel_rfl) rfl (by kernel_rfl) rfl rfl (by simp) (go ?_)
        refine VAll.mk (fun b6 => go ?_)
        refine VAll.mk (fun b8 => go ?_)
        refine VMap.mk _ m1 (go ?_)
        refine VMap.mk _ m2 (go ?_)
        exact VRet.mk _ (.cons 2 rfl (.cons 2 rfl .nil)) ⟨rfl, rfl⟩
      | none =>
        rw [h2] at m2
        show ACalls _ _ _ _ fun out st' => out = .ret (.tup [.agg [.int .i64 3, .int .i64 0, .nili], .bool false]) ∧ _
        refine ACalls.of_W tb_ok (fn := Tryz.f37) (n := 46) (by kernel_rfl) rfl (by kernel_rfl) rfl rfl (by simp) (go ?_)
        refine VAll.mk (fun b6 => go ?_)
        refine VAll.mk (fun b8 => go ?_)
        refine VMap.mk _ m1 (go ?_)
        refine VMap.mk _ m2 (go ?_)
        exact VRet.mk _ (.cons 2 rfl (.cons 2 rfl .nil)) ⟨rfl, rfl⟩
  | false =>
    have hp := item_push hct hf
    have hcl := f_Clone hc
    have ho := valAV_one' t
    have hop : opOf names t = some ⟨1, 0, t⟩ := by cases t <;> first | rfl | (cases hct; done)
    rw [hp, hop]
    unfold opV opC
    dsimp only
    generalize valAV t = v at hcl ho ⊢
    generalize entsN namesL 0 = ep
    generalize entsN names 0 = ew
    refine ACalls.of_W tb_ok (fn := Tryz.f37) (n := 46) (by kernel_rfl) rfl (by kernel_rfl) rfl rfl (by simp) (go ?_)
    refine VAll.mk (fun b6 => go ?_)
    refine VAll.mk (fun b8 => go ?_)
    refine Fn.use hcl (go ?_)
    refine VOne.mk ho (go ?_)
    exact VRet.mk _ (.cons 2 rfl (.cons 2 rfl .nil)) ⟨rfl, rfl⟩
def opsOf (names : List (List UInt8)) : List Tree → Option (List OpT)
  | [] => some []
  | t :: r => match opOf names t with
    | none => none
    | some o => (opsOf names r).map (o :: ·)
theorem opsOf_next {names : List (List UInt8)} {l : List Tree} {k : Nat} {t : Tree} (h : l[k]? = some t) (A : List OpT) : (opsOf names (l.drop k)).map (A ++ ·) = match opOf names t with
    | none => none
    | some o => (opsOf names (l.drop (k + 1))).map ((A ++ [o]) ++ ·) := by
  have hlt := (List.getElem?_eq_some_iff.1 h).1
  have hd : l.drop k = t :: l.drop (k + 1) := by
    rw [List.drop_eq_getElem_cons hlt]
    congr 1
    rw [List.getElem?_eq_getElem hlt] at h
    exact Option.some.inj h
  rw [hd, opsOf]
  cases opOf names t with
  | none => rfl
  | some o =>
    dsimp only
    cases opsOf names (l.drop (k + 1)) with
    | none => rfl
    | some r => dsimp only [Option.map_some]; rw [List.append_assoc]; rfl
/-- The code of items. -/
def linkOps (codes : List CodeT) (l : List Tree) : List OpT × Int :=
  if (soundC codes && (checkR l && bareTs l)) = true then match opsOf (codes.map (·.name)) l with
    | some ops => (ops, 0)
    | none => ([], 10)
  else ([], 1)
def lopsV (r : List OpT × Int) : AV := .tup [.fz (opsC r.1) r.1.length false, .int .i64 r.2]
structure OpsI where
  k : Nat
  o : Option Nat
  A : List OpT
set_option maxHeartbeats 2000000 in
theorem f_lOps {codes : List CodeT} {l : List Tree} (hcl : codes.length ≤ 1048576) (hcs : ∀ c ∈ codes, CodeIn c) (hc : (Tree.quot l).clean = true) (hs : (Tree.quot l).nmS = true) :
    Av.Fn Tryz.prog 15 [.fz (codesC codes) codes.length false, .fz (itemAVs l) l.length false] (lopsV (linkOps codes l)) := by
  have hA := f_Check codes hcl hcs
  have hB := f_CheckItems hc hs
  have hD := f_tBare hc
  have hP := f_places codes hcl
  unfold linkOps
  cases hsd : soundC codes with
  | false =>
    rw [hsd, if_neg (by simp)] at hA
    refine ACalls.of_W tb_ok (fn := Tryz.f15) (n := 52) (by kernel_rfl) rfl (by kernel_rfl) rfl rfl (by simp) (go ?_)
    refine Fn.use (hA) (go ?_)
    refine VRet.mk [] .nil ?_
    exact ⟨rfl, rfl⟩
  | true =>
  rw [hsd, if_pos (by simp)] at hA
  have hup : ∀ k m, (codes.map (·.name))[k]? = some m → m ∉ (codes.map (·.name)).take k := fun k m h => up_notin (sound_up hsd) h
  have hP := hP hup
  cases hck : checkR l with
  | false =>
    rw [hck, if_neg (by simp)] at hB
    refine ACalls.of_W tb_ok (fn := Tryz.f15) (n := 52) (by kernel_rfl) rfl (by kernel_rfl) rfl rfl (by simp) (go ?_)
    refine Fn.use (hA) (go ?_)
    refine Fn.use (hB) (go ?_)
    refine VRet.mk [] .nil ?_
    exact ⟨rfl, rfl⟩
  | true =>
  rw [hck, if_pos (by simp)] at hB
  cases hbr : bareTs l with
  | false =>
    rw [hbr] at hD
    refine ACalls.of_W tb_ok (fn := Tryz.f15) (n := 52) (by kernel_rfl) rfl (by kernel_rfl) rfl rfl (by simp) (go ?_)
    refine Fn.use (hA) (go ?_)
    refine Fn.use (hB) (go ?_)
    refine Fn.use (hD) (go ?_)
    refine VRet.mk [] .nil ?_
    exact ⟨rfl, rfl⟩
  | true =>
  rw [hbr] at hD
  have hfull : fullAll true l = true := by
    have := meas_full false (.quot l) 1024 0 hck
    rwa [Tree.full] at this
  have hcln : cleanAll l = true := by
    simp only [Tree.clean, Bool.and_eq_true] at hc
    exact hc.2
  obtain ⟨hll, _⟩ := good_check hc hck
  rw [if_pos (by rfl)]
  refine ACalls.of_W tb_ok (fn := Tryz.f15) (n := 52) (by kernel_rfl) rfl (by kernel_rfl) rfl rfl (by simp) (go ?_)
  refine Fn.use (hA) (go ?_)
  refine Fn.use (hB) (go ?_)
  refine Fn.use (hD) (go ?_)
  refine ACalls.use hP (R := []) (List.Perm.refl _) fun out s' hq => ?_
  obtain ⟨bw, bp, rfl, rfl⟩ := hq
  generalize codes.map (·.name) = names at *
  refine go ?_
  refine VLoop.mk [8, 33] OpsI (fun i => [accV i.o i.A.length, .int .i64 i.k]) (fun i => accS i.o 3 (opsC i.A) ++ [(bw, .map (entsN names 0)), (bp, .map (entsN namesL 0))])
    (fun i => i.k ≤ l.length ∧ (i.o = none → i.A = []) ∧ i.A.length = i.k ∧ opsOf names l = (opsOf names (l.drop i.k)).map (i.A ++ ·)) (fun i => l.length - i.k) ⟨0, none, []⟩ ?_ ?_
  · exact ⟨⟨Nat.zero_le _, fun _ => rfl, rfl, by dsimp only; rw [List.drop_zero]; cases opsOf names l <;> rfl⟩, rfl, .cons 0 rfl (.cons 0 rfl .nil)⟩
  rintro ⟨k, o, A⟩ ⟨hk, ho, hA, hI⟩
  dsimp only at hk ho hA hI ⊢
  refine go ?_
  refine fork (fun hlt => go ?_) (fun hlt => ?_)
  · have hlt : k < l.length := by omega
    obtain ⟨t, ht⟩ : ∃ t, l[k]? = some t := ⟨l[k], by simp [hlt]⟩
    rw [opsOf_next ht] at hI
    have hO := f_op (names := names) (bw := bw) (bp := bp) (cleanAll_at hcln ht) (fullAll_at hfull ht)
    refine VNth.mk (itemAV t) (by rw [mulN_eq, itemAVs_map]; simp [ht]) (go ?_)
    refine ACalls.usep hO (R := accS o 3 (opsC A)) List.perm_append_comm fun out s' hq => ?_
    obtain ⟨rfl, rfl⟩ := hq
    cases hx : opOf names t with
    | none =>
      rw [hx] at hI
      unfold opV
      refine go ?_
      refine VAll.mk (fun b11 => go ?_)
      refine VRet.mk [] .nil ?_
      rw [hI]
      exact ⟨rfl, rfl⟩
    | some x =>
      rw [hx] at hI
      unfold opV opC
      obtain ⟨kd, n, v⟩ := x
      have ho1 := valAV_one' v
      dsimp only at hI ⊢
      have hacc : opsC (A ++ [⟨kd, n, v⟩]) = opsC A ++ [.int .i64 kd, .int .i64 n, valAV v] := by simp [opsC, opC]
      cases o with
      | none =>
        obtain rfl : A = [] := ho rfl
        have hk0 : k = 0 := by simpa using hA.symm
        refine go ?_
        refine VAll.mk (fun b11 => go ?_)
        refine VAll.mk (fun b2 => go ?_)
        refine ⟨⟨k + 1, some b2, [⟨kd, n, v⟩]⟩, ⟨by dsimp only; omega, (fun h => by cases h), by rw [hk0]; rfl, hI⟩, by dsimp only; omega, rfl, .cons 0 (congrArg (fun c => some (b2, AObj.arr 3 c 0)) ?_) (.cons 1 rfl (.cons 1 rfl .nil))⟩
        simp [opsC, opC]
      | some bo =>
        refine go ?_
        refine VAll.mk (fun b11 => go ?_)
        refine VGd.mk ⟨rfl, Nat.zero_le _, by rw [mulN_eq, opsC_len]; exact Nat.le_refl _, by show 32 * (A.length + 1) ≤ _; omega⟩ (go ?_)
        refine VAll.mk (fun b2 => go ?_)
        refine ⟨⟨k + 1, some b2, A ++ [⟨kd, n, v⟩]⟩, ⟨by dsimp only; omega, (fun h => by cases h), by rw [List.length_append]; show A.length + 1 = k + 1; omega, hI⟩, by dsimp only; omega, ?_, .cons 0 (congrArg (fun c => some (b2, AObj.arr 3 c 0)) ?_) (.cons 1 rfl (.cons 1 rfl .nil))⟩
        · simp [accV]
        · rw [mulN_eq, List.take_of_length_le (by rw [opsC_len]; exact Nat.le_refl _)]
          exact hacc.symm
  · obtain rfl : k = l.length := by omega
    rw [List.drop_length, opsOf, Option.map_some, List.append_nil] at hI
    rw [hI]
    dsimp only
    unfold lopsV
    cases o with
    | none =>
      obtain rfl : A = [] := ho rfl
      refine go ?_
      refine VRet.mk [] .nil ?_
      exact ⟨rfl, rfl⟩
    | some bo =>
      have htk : (opsC A).take (A.length * 3) = opsC A := List.take_of_length_le (by simp)
      refine go ?_
      refine VRet.mk [] .nil ?_
      rw [htk]
      exact ⟨rfl, rfl⟩
end Go.Proofs.YtliabblchkgclaaGreatDoor

namespace Go.Proofs.YtliabblchkgclaaGreatDoor
open Go Go.Av
theorem f_CopyAll' (l : List RV) (h : ∀ (i : Nat) v, l[i]? = some v → Av.Fn Tryz.prog 68 [.agg (rvAV v)] (.agg (rvAV v))) (hl : l.length ≤ 2513169434916) :
    Av.Fn Tryz.prog 90 [.fz (rvsC l) l.length false] (.fz (rvsC l) l.length false) := by
  refine ACalls.of_W tb_ok (fn := Tryz.f90) (n := 20) (by kernel_rfl) rfl (by kernel_rfl) rfl rfl (by simp) (go ?_)
  refine VLoop.mk [3, 4] AccI (fun i => [accV i.o i.k, .int .i64 i.k]) (fun i => accS i.o 4 (rvsC (l.take i.k))) (fun i => i.k ≤ l.length ∧ (i.o = none → i.k = 0)) (fun i => l.length - i.k) ⟨0, none⟩ ?_ ?_
  · exact ⟨⟨by simp, by simp⟩, rfl, .nil⟩
  rintro ⟨k, o⟩ ⟨hk, ho⟩
  dsimp only at hk ho ⊢
  refine go ?_
  refine fork (fun hlt => go ?_) (fun hlt => ?_)
  · have hlt : k < l.length := by omega
    obtain ⟨v, ht⟩ : ∃ t, l[k]? = some t := ⟨l[k], by simp [hlt]⟩
    have hv := h k v ht
    have hacc : rvsC (l.take (k + 1)) = rvsC (l.take k) ++ rvAV v := by
      rw [take_succ_at ht, rvsC_app]; simp [rvsC]
    have hcell : (List.drop (mulN k 4) (rvsC l)).take 4 = rvAV v := by
      have := rvsC_at (r := []) ht
      rwa [List.append_nil, ← mulN_eq] at this
    obtain ⟨v1, v2, v3, v4⟩ := v
    rw [rvAV] at hv hacc hcell
    have hlen : (rvsC (l.take k)).length = k * 4 := by rw [rvsC_length, List.length_take, Nat.min_eq_left hk]
    refine VTake.mk _ hcell rfl (go ?_)
    refine Fn.use (hv) (go ?_)
    cases o with
    | none =>
      obtain rfl : k = 0 := ho rfl
      refine go ?_
      refine VAll.mk (fun b2 => go ?_)
      refine ⟨⟨1, some b2⟩, ⟨by dsimp only; omega, by simp⟩, by dsimp only; omega, rfl, .cons 0 ?_ .nil⟩
      dsimp only
      rw [hacc]; simp [rvsC]
    | some bo =>
      refine go ?_
      refine VGd.mk ⟨rfl, by omega, by rw [mulN_eq, hlen]; exact Nat.le_refl _, by dsimp only; omega⟩ (go ?_)
      refine VAll.mk (fun b2 => go ?_)
      refine ⟨⟨k + 1, some b2⟩, ⟨by dsimp only; omega, by simp⟩, by dsimp only; omega, rfl, .cons 0 ?_ .nil⟩
      dsimp only
      rw [hacc, mulN_eq, List.take_of_length_le (by rw [hlen]; exact Nat.le_refl _)]; rfl
  · obtain rfl : k = l.length := by omega
    rw [List.take_length]
    cases o with
    | none =>
      have := ho rfl
      obtain rfl : l = [] := List.length_eq_zero_iff.1 this
      refine go ?_
      refine VRet.mk [] .nil ?_
      exact ⟨by simp [rvsC], rfl⟩
    | some bo =>
      refine go ?_
      refine VRet.mk [] .nil ?_
      exact ⟨by simp [List.take_of_length_le], rfl⟩
theorem f_Copy' (n : Nat) : ∀ v : RV, v.deep ≤ n → v.small = true → Av.Fn Tryz.prog 68 [.agg (rvAV v)] (.agg (rvAV v)) := by
  induction n with
  | zero =>
    intro v hd
    obtain ⟨k, n, s, l⟩ := v
    rw [RV.deep] at hd; omega
  | succ n ih =>
    intro v hd hs
    obtain ⟨k, m, s, l⟩ := v
    rw [RV.deep] at hd
    simp only [RV.small, Bool.and_eq_true, decide_eq_true_eq] at hs
    have hC := f_CopyAll' l (fun i v hv => ih v (by have := deepAll_at hv; omega) (smallAll_at hs.2 hv)) hs.1
    rw [rvAV]
    refine ACalls.of_W tb_ok (fn := Tryz.f68) (n := 8) (by kernel_rfl) rfl (by kernel_rfl) rfl rfl (by simp) (go ?_)
    refine VAll.mk (fun b1 => go ?_)
    refine VAll.mk (fun b2 => go ?_)
    refine Fn.use (hC) (go ?_)
    refine VRet.mk [] .nil ?_
    exact ⟨rfl, rfl⟩
theorem f_Copy {v : RV} (h : v.small = true) : Av.Fn Tryz.prog 68 [.agg (rvAV v)] (.agg (rvAV v)) := f_Copy' v.deep v (Nat.le_refl _) h
end Go.Proofs.YtliabblchkgclaaGreatDoor

namespace Go.Proofs.YtliabblchkgclaaGreatDoor
open Go Go.Av
def placeI (r : Option Nat) : Int := match r with
  | some j => (j : Int)
  | none => -1
theorem placeL_step {l : List (List UInt8)} {k : Nat} {n s : List UInt8} (h : l[k]? = some n) : placeL (l.drop k) s k = if s = n then some k else placeL (l.drop (k + 1)) s (k + 1) := by
  have hlt := (List.getElem?_eq_some_iff.1 h).1
  have hd : l.drop k = n :: l.drop (k + 1) := by
    rw [List.drop_eq_getElem_cons hlt]
    congr 1
    rw [List.getElem?_eq_getElem hlt] at h
    exact Option.some.inj h
  rw [hd, placeL]
theorem f_place (l : List (List UInt8)) (s : List UInt8) (hl : l.length ≤ 1048576) : Av.Fn Tryz.prog 69 [.fz (l.map .str) l.length false, .str s] (.int .i64 (placeI (placeL l s 0))) := by
  refine ACalls.of_W tb_ok (fn := Tryz.f69) (n := 19) (by kernel_rfl) rfl (by kernel_rfl) rfl rfl (by simp) (go ?_)
  refine VLoop.mk [5] Nat (fun k => [.int .i64 k]) (fun _ => []) (fun k => k ≤ l.length ∧ placeL l s 0 = placeL (l.drop k) s k) (fun k => l.length - k) 0 ?_ ?_
  · exact ⟨⟨Nat.zero_le _, rfl⟩, rfl, .nil⟩
  rintro k ⟨hk, hI⟩
  dsimp only at hk hI ⊢
  refine go ?_
  refine fork (fun hlt => go ?_) (fun hlt => ?_)
  · have hlt : k < l.length := by omega
    obtain ⟨n, hn⟩ : ∃ t, l[k]? = some t := ⟨l[k], by simp [hlt]⟩
    rw [placeL_step hn] at hI
    have q0 : (List.drop (mulN k 1) (l.map AV.str))[0]? = some (.str n) := by rw [mulN_eq, Nat.mul_one, List.getElem?_drop]; simp [hn]
    refine VNth.mk _ q0 (go ?_)
    by_cases e : s = n
    · rw [if_pos e] at hI
      subst e
      refine VIf.yes (decide_eq_true rfl) (go ?_)
      refine VRet.mk [] .nil ?_
      rw [hI]
      exact ⟨rfl, rfl⟩
    · rw [if_neg e] at hI
      refine VIf.no (decide_eq_false (fun h => e h.symm)) (go ?_)
      exact ⟨k + 1, ⟨by omega, hI⟩, by omega, rfl, .nil⟩
  · obtain rfl : k = l.length := by omega
    rw [List.drop_length, placeL] at hI
    refine go ?_
    refine VRet.mk [] .nil ?_
    rw [hI]
    exact ⟨rfl, rfl⟩
/-- The document's operation of an item. -/
def ropOf (names : List (List UInt8)) (v : RV) : Option ROp :=
  if v.kind ≠ 7 then some ⟨1, 0, v⟩
  else match placeL namesL v.txt 0 with
    | some j => some ⟨2, (j : Int), .mk 0 0 [] []⟩
    | none => (placeL names v.txt 0).map fun (j : Nat) => ⟨3, (j : Int), .mk 0 0 [] []⟩
def ropsOf (names : List (List UInt8)) : List RV → Option (List ROp)
  | [] => some []
  | t :: r => match ropOf names t with
    | none => none
    | some o => (ropsOf names r).map (o :: ·)
theorem ropsOf_next {names : List (List UInt8)} {l : List RV} {k : Nat} {t : RV} (h : l[k]? = some t) (A : List ROp) : (ropsOf names (l.drop k)).map (A ++ ·) = match ropOf names t with
    | none => none
    | some o => (ropsOf names (l.drop (k + 1))).map ((A ++ [o]) ++ ·) := by
  have hlt := (List.getElem?_eq_some_iff.1 h).1
  have hd : l.drop k = t :: l.drop (k + 1) := by
    rw [List.drop_eq_getElem_cons hlt]
    congr 1
    rw [List.getElem?_eq_getElem hlt] at h
    exact Option.some.inj h
  rw [hd, ropsOf]
  cases ropOf names t with
  | none => rfl
  | some o =>
    dsimp only
    cases ropsOf names (l.drop (k + 1)) with
    | none => rfl
    | some r => dsimp only [Option.map_some]; rw [List.append_assoc]; rfl
def ropsV (r : Option (List ROp)) : AV := match r with
  | none => .tup [.fz [] 0 false, .bool false]
  | some l => .tup [.fz (ropsC l) l.length false, .bool true]
structure OpsJ where
  k : Nat
  o : Option Nat
  A : List ROp

set_option maxHeartbeats 2000000 in
theorem f_rops (names : List (List UInt8)) (l : List RV) (hnl : names.length ≤ 1048576) (hll : l.length ≤ 1048576) (hl : smallAll l = true) :
    Av.Fn Tryz.prog 40 [.fz (names.map .str) names.length false, .fz (rvsC l) l.length false] (ropsV (ropsOf names l)) := by
  refine ACalls.of_W tb_ok (fn := Tryz.f40) (n := 64) (by kernel_rfl) rfl (by kernel_rfl) rfl rfl (by simp) (go ?_)
  refine VLoop.mk [6, 7] OpsJ (fun i => [accV i.o i.A.length, .int .i64 i.k]) (fun i => accS i.o 6 (ropsC i.A))
    (fun i => i.k ≤ l.length ∧ (i.o = none → i.A = []) ∧ i.A.length = i.k ∧ ropsOf names l = (ropsOf names (l.drop i.k)).map (i.A ++ ·)) (fun i => l.length - i.k) ⟨0, none, []⟩ ?_ ?_
  · exact ⟨⟨Nat.zero_le _, fun _ => rfl, rfl, by dsimp only; rw [List.drop_zero]; cases ropsOf names l <;> rfl⟩, rfl, .nil⟩
  rintro ⟨k, o, A⟩ ⟨hk, ho, hA, hI⟩
  dsimp only at hk ho hA hI ⊢
  refine go ?_
  refine fork (fun hlt => go ?_) (fun hlt => ?_)
  · have hlt : k < l.length := by omega
    obtain ⟨v, hx⟩ : ∃ x, l[k]? = some x := ⟨l[k], by simp [hlt]⟩
    have hC := f_Copy (smallAll_at hl hx)
    have hN := fun s => f_place namesL s (by decide)
    have hW := fun s => f_place names s hnl
    rw [ropsOf_next hx] at hI
    have hcell : (List.drop (mulN k 4) (rvsC l)).take 4 = rvAV v := by
      have := rvsC_at (r := []) hx
      rwa [List.append_nil, ← mulN_eq] at this
    obtain ⟨a, b, s, q⟩ := v
    rw [rvAV] at hcell hC
    have d0 : (List.drop 0 (List.drop (mulN k 4) (rvsC l)))[0]? = some (.int .i64 a) := by
      rw [List.drop_zero, ← List.getElem?_take_of_lt (show 0 < 4 by omega), hcell]; rfl
    have d2 : (List.drop 2 (List.drop (mulN k 4) (rvsC l)))[0]? = some (.str s) := by
      rw [List.getElem?_drop, ← List.getElem?_take_of_lt (show 2 + 0 < 4 by omega), hcell]; rfl
    refine VNth.mk _ d0 (go ?_)
    by_cases h7 : a = 7
    · subst h7
      refine VIf.no (by simp) (go ?_)
      have hop : ropOf names (.mk 7 b s q) = match placeL namesL s 0 with
          | some j => some ⟨2, (j : Int), .mk 0 0 [] []⟩
          | none => (placeL names s 0).map fun (j : Nat) => ⟨3, (j : Int), .mk 0 0 [] []⟩ := if_neg (fun h => h rfl)
      have hN := hN s
      have hW := hW s
      rw [show namesL.length = 52 from rfl] at hN
      refine VQ.mk _ (by refine go ?_; refine Fn.use f_names12 (go ?_); exact ⟨rfl, rfl⟩) (go ?_)
      refine VQ.mk (.str s) (by refine go ?_; refine VNth.mk _ d2 (go ?_); exact ⟨rfl, rfl⟩) (go ?_)
      refine VQ.mk _ (by refine go ?_; refine Fn.use hN (go ?_); exact ⟨rfl, rfl⟩) (go ?_)
      refine VNth.mk _ d2 (go ?_)
      refine Fn.use hW (go ?_)
      cases h1 : placeL namesL s 0 with
      | some j =>
        rw [hop, h1] at hI
        have p1 : decide (placeI (some j) < 0) = false := decide_eq_false (by show ¬ ((j : Int) < 0); omega)
        have p2 : decide (0 ≤ placeI (some j)) = true := decide_eq_true (by show 0 ≤ (j : Int); omega)
        first | refine VIf.no p1 (go ?_) | skip
        first | refine VIf.yes p2 (go ?_) | skip
        cases o with
        | none =>
          obtain rfl : A = [] := ho rfl
          have hk0 : k = 0 := by simpa using hA.symm
          refine go ?_
          refine VAll.mk (fun b2 => go ?_)
          refine ⟨⟨k + 1, some b2, [(⟨2, (j : Int), .mk 0 0 [] []⟩ : ROp)]⟩, ⟨by dsimp only; omega, (fun h => by cases h), by rw [hk0]; rfl, hI⟩, by dsimp only; omega, rfl, .cons 0 (congrArg (fun c => some (b2, AObj.arr 6 c 0)) ?_) .nil⟩
          simp [ropsC, ropC, rvAV, rvsC, placeI]
        | some bo =>
          refine go ?_
          refine VGd.mk ⟨rfl, Nat.zero_le _, by rw [mulN_eq, ropsC_len]; exact Nat.le_refl _, by show 72 * (A.length + 1) ≤ _; omega⟩ (go ?_)
          refine VAll.mk (fun b2 => go ?_)
          refine ⟨⟨k + 1, some b2, A ++ [(⟨2, (j : Int), .mk 0 0 [] []⟩ : ROp)]⟩, ⟨by dsimp only; omega, (fun h => by cases h), by rw [List.length_append]; show A.length + 1 = k + 1; omega, hI⟩, by dsimp only; omega, ?_, .cons 0 (congrArg (fun c => some (b2, AObj.arr 6 c 0)) ?_) .nil⟩
          · simp [accV]
          · rw [mulN_eq, List.take_of_length_le (by rw [ropsC_len]; exact Nat.le_refl _)]
            simp [ropsC, ropC, rvAV, rvsC, placeI]
      | none =>
        rw [h1] at hop
        cases h2 : placeL names s 0 with
        | some j =>
          rw [hop, h2] at hI
          have p0 : decide (placeI none < 0) = true := by decide
          have p1 : decide (placeI (some j) < 0) = false := decide_eq_false (by show ¬ ((j : Int) < 0); omega)
          have p2 : decide (0 ≤ placeI none) = false := by decide
          first | refine VIf.yes p0 (go ?_) | skip
          first | refine VIf.no p1 (go ?_) | skip
          first | refine VIf.no p2 (go ?_) | skip
          cases o with
          | none =>
            obtain rfl : A = [] := ho rfl
            have hk0 : k = 0 := by simpa using hA.symm
            refine go ?_
            refine VAll.mk (fun b2 => go ?_)
            refine ⟨⟨k + 1, some b2, [(⟨3, (j : Int), .mk 0 0 [] []⟩ : ROp)]⟩, ⟨by dsimp only; omega, (fun h => by cases h), by rw [hk0]; rfl, hI⟩, by dsimp only; omega, rfl, .cons 0 (congrArg (fun c => some (b2, AObj.arr 6 c 0)) ?_) .nil⟩
            simp [ropsC, ropC, rvAV, rvsC, placeI]
          | some bo =>
            refine go ?_
            refine VGd.mk ⟨rfl, Nat.zero_le _, by rw [mulN_eq, ropsC_len]; exact Nat.le_refl _, by show 72 * (A.length + 1) ≤ _; omega⟩ (go ?_)
            refine VAll.mk (fun b2 => go ?_)
            refine ⟨⟨k + 1, some b2, A ++ [(⟨3, (j : Int), .mk 0 0 [] []⟩ : ROp)]⟩, ⟨by dsimp only; omega, (fun h => by cases h), by rw [List.length_append]; show A.length + 1 = k + 1; omega, hI⟩, by dsimp only; omega, ?_, .cons 0 (congrArg (fun c => some (b2, AObj.arr 6 c 0)) ?_) .nil⟩
            · simp [accV]
            · rw [mulN_eq, List.take_of_length_le (by rw [ropsC_len]; exact Nat.le_refl _)]
              simp [ropsC, ropC, rvAV, rvsC, placeI]
        | none =>
          rw [hop, h2] at hI
          have p0 : decide (placeI none < 0) = true := by decide
          first | refine VIf.yes p0 (go ?_) | skip
          first | refine VIf.yes p0 (go ?_) | skip
          refine VRet.mk [] .nil ?_
          rw [hI]
          exact ⟨rfl, rfl⟩
    · have hop : ropOf names (.mk a b s q) = some ⟨1, 0, .mk a b s q⟩ := if_pos h7
      rw [hop] at hI
      refine VIf.yes (by simpa using h7) (go ?_)
      refine VTake.mk _ hcell rfl (go ?_)
      refine Fn.use hC (go ?_)
      cases o with
      | none =>
        obtain rfl : A = [] := ho rfl
        have hk0 : k = 0 := by simpa using hA.symm
        refine go ?_
        refine VAll.mk (fun b2 => go ?_)
        refine ⟨⟨k + 1, some b2, [(⟨1, 0, .mk a b s q⟩ : ROp)]⟩, ⟨by dsimp only; omega, (fun h => by cases h), by rw [hk0]; rfl, hI⟩, by dsimp only; omega, rfl, .cons 0 (congrArg (fun c => some (b2, AObj.arr 6 c 0)) ?_) .nil⟩
        simp [ropsC, ropC, rvAV, rvsC, placeI]
      | some bo =>
        refine go ?_
        refine VGd.mk ⟨rfl, Nat.zero_le _, by rw [mulN_eq, ropsC_len]; exact Nat.le_refl _, by show 72 * (A.length + 1) ≤ _; omega⟩ (go ?_)
        refine VAll.mk (fun b2 => go ?_)
        refine ⟨⟨k + 1, some b2, A ++ [(⟨1, 0, .mk a b s q⟩ : ROp)]⟩, ⟨by dsimp only; omega, (fun h => by cases h), by rw [List.length_append]; show A.length + 1 = k + 1; omega, hI⟩, by dsimp only; omega, ?_, .cons 0 (congrArg (fun c => some (b2, AObj.arr 6 c 0)) ?_) .nil⟩
        · simp [accV]
        · rw [mulN_eq, List.take_of_length_le (by rw [ropsC_len]; exact Nat.le_refl _)]
          simp [ropsC, ropC, rvAV, rvsC, placeI]
  · obtain rfl : k = l.length := by omega
    rw [List.drop_length, ropsOf, Option.map_some, List.append_nil] at hI
    rw [hI]
    unfold ropsV
    dsimp only
    cases o with
    | none =>
      obtain rfl : A = [] := ho rfl
      refine go ?_
      refine VRet.mk [] .nil ?_
      exact ⟨rfl, rfl⟩
    | some bo =>
      have htk : (ropsC A).take (A.length * 6) = ropsC A := List.take_of_length_le (by simp)
      refine go ?_
      refine VRet.mk [] .nil ?_
      rw [htk]
      exact ⟨rfl, rfl⟩
def refOps (codes : List RCode) (l : List RV) : List ROp × Int :=
  if (soundR codes && refOk l) = true then match ropsOf (codes.map (·.name)) l with
    | some o => (o, 0)
    | none => ([], 10)
  else ([], 1)
theorem f_rOps {codes : List RCode} {l : List RV} (hcl : codes.length ≤ 1048576) (hcs : ∀ c ∈ codes, RIn c) (hll : l.length ≤ 1048576) (hs : smallAll l = true) (hf : fitAll l = true) :
    Av.Fn Tryz.prog 16 [.fz (rcodesC codes) codes.length false, .fz (rvsC l) l.length false] (.tup [.fz (ropsC (refOps codes l).1) (refOps codes l).1.length false, .int .i64 (refOps codes l).2]) := by
  have hA := f_rSound codes hcl hcs
  have hS := f_SoundItems l (by omega) hf
  have hB := f_Bare _ (.mk 5 0 [] l) (Nat.le_refl _) (by simp only [RV.small, Bool.and_eq_true, decide_eq_true_eq]; exact ⟨by omega, hs⟩)
  have hN := f_namesOf codes hcl
  have hR := f_rops (codes.map (·.name)) l (by simpa using hcl) hll hs
  rw [List.length_map] at hR
  have hk : refOk l = ((measR (.mk 5 0 [] l) 1024 0).2.2 && bareR (.mk 5 0 [] l)) := by simp [refOk, RV.kind]
  unfold refOps
  rw [hk]
  rw [rvAV] at hB
  generalize (measR (.mk 5 0 [] l) 1024 0).2.2 = p at hS ⊢
  generalize bareR (.mk 5 0 [] l) = r at hB ⊢
  generalize soundR codes = q at hA ⊢
  cases q with
  | false =>
    refine ACalls.of_W tb_ok (fn := Tryz.f16) (n := 32) (by kernel_rfl) rfl (by kernel_rfl) rfl rfl (by simp) (go ?_)
    refine Fn.use (hA) (go ?_)
    refine VRet.mk [] .nil ?_
    exact ⟨rfl, rfl⟩
  | true =>
  cases p with
  | false =>
    refine ACalls.of_W tb_ok (fn := Tryz.f16) (n := 32) (by kernel_rfl) rfl (by kernel_rfl) rfl rfl (by simp) (go ?_)
    refine Fn.use (hA) (go ?_)
    refine Fn.use (hS) (go ?_)
    refine VRet.mk [] .nil ?_
    exact ⟨rfl, rfl⟩
  | true =>
  cases r with
  | false =>
    refine ACalls.of_W tb_ok (fn := Tryz.f16) (n := 32) (by kernel_rfl) rfl (by kernel_rfl) rfl rfl (by simp) (go ?_)
    refine Fn.use (hA) (go ?_)
    refine Fn.use (hS) (go ?_)
    refine Fn.use (hB) (go ?_)
    refine VRet.mk [] .nil ?_
    exact ⟨rfl, rfl⟩
  | true =>
  cases ho : ropsOf (codes.map (·.name)) l with
  | none =>
    rw [ho] at hR
    unfold ropsV at hR
    dsimp only at hR
    refine ACalls.of_W tb_ok (fn := Tryz.f16) (n := 32) (by kernel_rfl) rfl (by kernel_rfl) rfl rfl (by simp) (go ?_)
    refine Fn.use (hA) (go ?_)
    refine Fn.use (hS) (go ?_)
    refine Fn.use (hB) (go ?_)
    refine Fn.use (hN) (go ?_)
    refine Fn.use (hR) (go ?_)
    refine VRet.mk [] .nil ?_
    exact ⟨rfl, rfl⟩
  | some o =>
    rw [ho] at hR
    unfold ropsV at hR
    dsimp only at hR
    refine ACalls.of_W tb_ok (fn := Tryz.f16) (n := 32) (by kernel_rfl) rfl (by kernel_rfl) rfl rfl (by simp) (go ?_)
    refine Fn.use (hA) (go ?_)
    refine Fn.use (hS) (go ?_)
    refine Fn.use (hB) (go ?_)
    refine Fn.use (hN) (go ?_)
    refine Fn.use (hR) (go ?_)
    refine VRet.mk [] .nil ?_
    exact ⟨rfl, rfl⟩
def refBack (codes : List RCode) (ops : List ROp) : List RV × Int :=
  if soundR codes = true then match refBackL (codes.map (·.name)) ops with
    | some l => if refOk l = true then (l, 0) else ([], 1)
    | none => ([], 1)
  else ([], 1)
theorem f_rBack {codes : List RCode} {ops : List ROp} (hcl : codes.length ≤ 1048576) (hcs : ∀ c ∈ codes, RIn c) (hol : ops.length ≤ 1048576) (hos : ∀ o ∈ ops, o.v.small = true ∧ o.v.fit = true) :
    Av.Fn Tryz.prog 18 [.fz (rcodesC codes) codes.length false, .fz (ropsC ops) ops.length false] (.tup [.fz (rvsC (refBack codes ops).1) (refBack codes ops).1.length false, .int .i64 (refBack codes ops).2]) := by
  have hA := f_rSound codes hcl hcs
  have hN := f_namesOf codes hcl
  have hR := f_ritems (codes.map (·.name)) ops (by simpa using hcl) hol (fun n hn => by obtain ⟨c, hc, rfl⟩ := List.mem_map.1 hn; exact (hcs c hc).name) hos
  rw [List.length_map] at hR
  unfold refBack
  generalize soundR codes = q at hA ⊢
  cases q with
  | false =>
    refine ACalls.of_W tb_ok (fn := Tryz.f18) (n := 21) (by kernel_rfl) rfl (by kernel_rfl) rfl rfl (by simp) (go ?_)
    refine Fn.use (hA) (go ?_)
    refine VRet.mk [] .nil ?_
    exact ⟨rfl, rfl⟩
  | true =>
  cases ho : refBackL (codes.map (·.name)) ops with
  | none =>
    rw [ho] at hR
    unfold ritemsV at hR
    dsimp only at hR
    refine ACalls.of_W tb_ok (fn := Tryz.f18) (n := 21) (by kernel_rfl) rfl (by kernel_rfl) rfl rfl (by simp) (go ?_)
    refine Fn.use (hA) (go ?_)
    refine Fn.use (hN) (go ?_)
    refine Fn.use (hR) (go ?_)
    refine VRet.mk [] .nil ?_
    exact ⟨rfl, rfl⟩
  | some l =>
    rw [ho] at hR
    unfold ritemsV at hR
    dsimp only at hR
    rw [if_pos rfl]
    dsimp only
    generalize refOk l = z at hR ⊢
    cases z with
    | false =>
      refine ACalls.of_W tb_ok (fn := Tryz.f18) (n := 21) (by kernel_rfl) rfl (by kernel_rfl) rfl rfl (by simp) (go ?_)
      refine Fn.use (hA) (go ?_)
      refine Fn.use (hN) (go ?_)
      refine Fn.use (hR) (go ?_)
      refine VRet.mk [] .nil ?_
      exact ⟨rfl, rfl⟩
    | true =>
      refine ACalls.of_W tb_ok (fn := Tryz.f18) (n := 21) (by kernel_rfl) rfl (by kernel_rfl) rfl rfl (by simp) (go ?_)
      refine Fn.use (hA) (go ?_)
      refine Fn.use (hN) (go ?_)
      refine Fn.use (hR) (go ?_)
      refine VRet.mk [] .nil ?_
      exact ⟨rfl, rfl⟩
def linkBack (codes : List CodeT) (ops : List OpT) : List Tree × Int :=
  if soundC codes = true then match backL codes ops with
    | some l => if backOk l = true then (l, 0) else ([], 1)
    | none => ([], 1)
  else ([], 1)
theorem backL_in {codes : List CodeT} (hc : ∀ c ∈ codes, CodeIn c) : ∀ {l : List OpT} {r : List Tree}, (∀ o ∈ l, OpIn o) → backL codes l = some r → r.length = l.length ∧ cleanAll r = true ∧ nmSAll r = true
  | [], r, _, h => by cases h; exact ⟨rfl, rfl, rfl⟩
  | x :: l, r, hl, h => by
    rw [backL] at h
    cases hx : backO codes x with
    | none => rw [hx] at h; cases h
    | some t =>
      rw [hx] at h
      dsimp only at h
      cases hb : backL codes l with
      | none => rw [hb] at h; cases h
      | some q =>
        rw [hb] at h
        obtain rfl : t :: q = r := Option.some.inj h
        obtain ⟨h1, h2, h3⟩ := backL_in hc (fun o ho => hl o (List.mem_cons_of_mem _ ho)) hb
        obtain ⟨g1, g2⟩ := backO_in hc (hl x (List.mem_cons_self ..)) hx
        exact ⟨by simp [h1], by simp [cleanAll, g1, h2], by simp [nmSAll, g2, h3]⟩
theorem f_lBack {codes : List CodeT} {ops : List OpT} (hcl : codes.length ≤ 1048576) (hcs : ∀ c ∈ codes, CodeIn c) (hol : ops.length ≤ 1048576) (hos : ∀ o ∈ ops, OpIn o) :
    Av.Fn Tryz.prog 17 [.fz (codesC codes) codes.length false, .fz (opsC ops) ops.length false] (.tup [.fz (itemAVs (linkBack codes ops).1) (linkBack codes ops).1.length false, .int .i64 (linkBack codes ops).2]) := by
  have hA := f_Check codes hcl hcs
  have hR := f_back codes ops hcl hol hcs hos
  have hI := fun r => backL_in (codes := codes) (l := ops) (r := r) hcs hos
  unfold linkBack
  cases hq : soundC codes with
  | false =>
    rw [hq, if_neg (by simp)] at hA
    refine ACalls.of_W tb_ok (fn := Tryz.f17) (n := 24) (by kernel_rfl) rfl (by kernel_rfl) rfl rfl (by simp) (go ?_)
    refine Fn.use (hA) (go ?_)
    refine VRet.mk [] .nil ?_
    exact ⟨rfl, rfl⟩
  | true =>
  rw [hq, if_pos (by simp)] at hA
  rw [if_pos rfl]
  cases ho : backL codes ops with
  | none =>
    rw [ho] at hR
    unfold backV at hR
    dsimp only at hR
    refine ACalls.of_W tb_ok (fn := Tryz.f17) (n := 24) (by kernel_rfl) rfl (by kernel_rfl) rfl rfl (by simp) (go ?_)
    refine Fn.use (hA) (go ?_)
    refine Fn.use (hR) (go ?_)
    refine VRet.mk [] .nil ?_
    exact ⟨rfl, rfl⟩
  | some l =>
    rw [ho] at hR
    unfold backV at hR
    obtain ⟨i1, i2, _⟩ := hI l ho
    have hC := f_CloneItems i2 (by omega)
    dsimp only at hR ⊢
    generalize backOk l = z at hR ⊢
    cases z with
    | false =>
      refine ACalls.of_W tb_ok (fn := Tryz.f17) (n := 24) (by kernel_rfl) rfl (by kernel_rfl) rfl rfl (by simp) (go ?_)
      refine Fn.use (hA) (go ?_)
      refine Fn.use (hR) (go ?_)
      refine VRet.mk [] .nil ?_
      exact ⟨rfl, rfl⟩
    | true =>
      refine ACalls.of_W tb_ok (fn := Tryz.f17) (n := 24) (by kernel_rfl) rfl (by kernel_rfl) rfl rfl (by simp) (go ?_)
      refine Fn.use (hA) (go ?_)
      refine Fn.use (hR) (go ?_)
      refine Fn.use (hC) (go ?_)
      refine VRet.mk [] .nil ?_
      exact ⟨rfl, rfl⟩
end Go.Proofs.YtliabblchkgclaaGreatDoor

namespace Go.Proofs.YtliabblchkgclaaGreatDoor
open Go Go.Av
def opBulk (o : ROp) : Nat := o.v.bulk + 1
def opsBulk (l : List ROp) : Nat := (l.map opBulk).sum + 1
def codeBulk (c : RCode) : Nat := c.name.length + opsBulk c.ops
def codesBulk (l : List RCode) : Nat := (l.map codeBulk).sum + 1
theorem sum_mem {α : Type} (f : α → Nat) : ∀ {l : List α} {x : α}, x ∈ l → f x ≤ (l.map f).sum
  | y :: l, x, h => by
    rw [List.map_cons, List.sum_cons]
    rcases List.mem_cons.1 h with rfl | h
    · omega
    · have := sum_mem f h; omega
theorem sum_len {α : Type} (f : α → Nat) (h : ∀ x, 1 ≤ f x) : ∀ l : List α, l.length ≤ (l.map f).sum
  | [] => Nat.zero_le _
  | x :: l => by
    rw [List.map_cons, List.sum_cons, List.length_cons]
    have := sum_len f h l; have := h x; omega
theorem sum_le {α : Type} (f g : α → Nat) (h : ∀ x, f x ≤ g x) : ∀ l : List α, (l.map f).sum ≤ (l.map g).sum
  | [] => Nat.le_refl _
  | x :: l => by
    rw [List.map_cons, List.sum_cons, List.map_cons, List.sum_cons]
    have := sum_le f g h l; have := h x; omega
section
variable {H : Type} {enc : TypeId × Value → H} {W : World}
theorem reads_Op (fuel : Nat) : Reads enc Tryz.prog W 96 fuel ropC (fun o => o.v.inp = true) opBulk := by
  cases fuel with
  | zero => exact .zero
  | succ fuel =>
    have hf : ReadsF enc Tryz.prog W fuel 0 [⟨"Kind", 3, 0, false, "", "", 0⟩, ⟨"N", 3, 1, false, "", "", 8⟩, ⟨"V", 94, 2, false, "", "", 16⟩] (1 + (1 + (4 + 0))) _ _ _ :=
      .cons rfl (by kernel_rfl) (reads_int (Tryz.underlying3) fuel) (.cons rfl (by kernel_rfl) (reads_int (Tryz.underlying3) fuel) (.cons rfl (by kernel_rfl) (reads_VL fuel).1 .nil))
    have h := reads_struct (Tryz.underlying96) (by kernel_rfl) hf
    exact h.map (fun x => ⟨x.1, x.2.1, x.2.2.1⟩) (fun x => by simp [ropC]) (fun x hx => hx.2.2.1) (fun x => by unfold opBulk; dsimp only; omega)
theorem reads_Ops (fuel : Nat) : Reads enc Tryz.prog W 24 fuel (fun l => [.fz (ropsC l) l.length false]) (fun l => ∀ o ∈ l, o.v.inp = true) opsBulk := by
  cases fuel with
  | zero => exact .zero
  | succ fuel =>
    have h := reads_slice (Tryz.underlying24) (esz := 6) (by kernel_rfl) (by omega) (reads_Op fuel) (enc := enc) (W := W)
    exact h.map (fun l => l) (fun l => rfl) (fun l hl => hl.2) (fun l => Nat.le_refl _)
theorem reads_Code (fuel : Nat) : Reads enc Tryz.prog W 89 fuel rcodeC (fun c => ∀ o ∈ c.ops, o.v.inp = true) codeBulk := by
  cases fuel with
  | zero => exact .zero
  | succ fuel =>
    have hf : ReadsF enc Tryz.prog W fuel 0 [⟨"Name", 9, 0, false, "", "", 0⟩, ⟨"Ops", 24, 1, false, "", "", 16⟩] (1 + (1 + 0)) _ _ _ :=
      .cons rfl (by kernel_rfl) (reads_str (Tryz.underlying9) fuel) (.cons rfl (by kernel_rfl) (reads_Ops fuel) .nil)
    have h := reads_struct (Tryz.underlying89) (by kernel_rfl) hf
    exact h.map (fun x => ⟨x.1, x.2.1⟩) (fun x => by simp [rcodeC]) (fun x hx => hx.2.1) (fun x => by unfold codeBulk; dsimp only; omega)
theorem reads_Codes (fuel : Nat) : Reads enc Tryz.prog W 22 fuel (fun l => [.fz (rcodesC l) l.length false]) (fun l => ∀ c ∈ l, ∀ o ∈ c.ops, o.v.inp = true) codesBulk := by
  cases fuel with
  | zero => exact .zero
  | succ fuel =>
    have h := reads_slice (Tryz.underlying22) (esz := 2) (by kernel_rfl) (by omega) (reads_Code fuel) (enc := enc) (W := W)
    exact h.map (fun l => l) (fun l => rfl) (fun l hl => hl.2) (fun l => Nat.le_refl _)
end
end Go.Proofs.YtliabblchkgclaaGreatDoor

namespace Go.Proofs.YtliabblchkgclaaGreatDoor
open Go Go.Av
mutual
theorem bulk_fitV : ∀ v : RV, v.inp = true → v.bulk ≤ 1000000000 → (valRV (valT v)).fit = true
  | .mk k n s l, h, hb => by
    simp only [RV.inp, Bool.and_eq_true, decide_eq_true_eq] at h
    rw [RV.bulk] at hb
    rw [valT]
    repeat' split
    all_goals first
    | rfl
    | (simp [valRV, RV.fit, fitAll]; done)
    | (simp only [valRV, RV.fit, Bool.and_eq_true, decide_eq_true_eq, valRVs_length, itemRVs_length, valTs_length, itemTs_length]
       exact ⟨⟨h.1.2, fun _ => by simp⟩, by first | exact bulk_fitVs l h.2 (by omega) | exact bulk_fitIs l h.2 (by omega)⟩)
theorem bulk_fitVs : ∀ l : List RV, inpAll l = true → bulkAll l ≤ 1000000000 → fitAll (valRVs (valTs l)) = true
  | [], _, _ => by simp [valTs, valRVs, fitAll]
  | v :: r, h, hb => by
    simp only [inpAll, Bool.and_eq_true] at h
    rw [bulkAll] at hb
    simp only [valTs, valRVs, fitAll, Bool.and_eq_true]
    exact ⟨bulk_fitV v h.1 (by omega), bulk_fitVs r h.2 (by omega)⟩
theorem bulk_fitIs : ∀ l : List RV, inpAll l = true → bulkAll l ≤ 1000000000 → fitAll (itemRVs (itemTs l)) = true
  | [], _, _ => by simp [itemTs, itemRVs, fitAll]
  | v :: r, h, hb => by
    simp only [inpAll, Bool.and_eq_true] at h
    rw [bulkAll] at hb
    rw [itemTs_cons, itemRVs_cons]
    simp only [fitAll, Bool.and_eq_true]
    refine ⟨?_, bulk_fitIs r h.2 (by omega)⟩
    unfold itemT
    split
    · rename_i h7
      obtain ⟨k, n, s, l⟩ := v
      rw [RV.bulk] at hb
      show RV.fit (.mk 7 0 s []) = true
      simp only [RV.fit, fitAll, Bool.and_eq_true, decide_eq_true_eq]
      exact ⟨⟨by simp, fun _ => by omega⟩, by simp⟩
    · rename_i h7
      have := bulk_fitV v h.1 (by omega)
      have hk : (valT v).isCall = false := by
        obtain ⟨k, n, s, l⟩ := v
        rw [valT]; repeat' split
        all_goals rfl
      rw [item_val hk]; exact this
end
end Go.Proofs.YtliabblchkgclaaGreatDoor

namespace Go.Proofs.YtliabblchkgclaaGreatDoor
open Go Go.Av
theorem dup_ops : linkOps [] [.call [100, 117, 112]] = ([⟨2, 0, .none⟩], 0) := by
  have h1 : (soundC [] && (checkR [.call [100, 117, 112]] && bareTs [.call [100, 117, 112]])) = true := by decide +kernel
  unfold linkOps
  rw [if_pos h1]
  have h2 : placeL namesL [100, 117, 112] 0 = some 0 := by decide +kernel
  have h3 : opOf (([] : List CodeT).map (·.name)) (.call [100, 117, 112]) = some ⟨2, 0, .none⟩ := by
    unfold opOf
    dsimp only
    rw [h2]; rfl
  rw [opsOf, h3, opsOf]
  rfl
theorem f_awake18 : Av.Fn Tryz.prog 8 [] (.bool true) := by
  have hP := f_lOps (codes := []) (l := [.call [100, 117, 112]]) (by simp) (fun c h => by cases h) (by decide) (by decide)
  rw [dup_ops] at hP
  have hP : Av.Fn Tryz.prog 15 [.fz [] 0 false, .fz [.iface 87 (.agg [.str [100, 117, 112]])] 1 false] (.tup [.fz [.int .i64 2, .int .i64 0, .nili] 1 false, .int .i64 0]) := hP
  refine ACalls.of_W tb_ok (fn := Tryz.f8) (n := 24) (by kernel_rfl) rfl (by kernel_rfl) rfl rfl (by simp) (go ?_)
  refine Fn.use (hP) (go ?_)
  refine VRet.mk [] .nil ?_
  exact ⟨rfl, rfl⟩
theorem codesBulk_in {l : List RCode} (h : codesBulk l ≤ 1048576) (hi : ∀ c ∈ l, ∀ o ∈ c.ops, o.v.inp = true) : l.length ≤ 1048576 ∧ ∀ c ∈ l, RCodeIn c ∧ ∀ o ∈ c.ops, o.v.bulk ≤ 1048576 := by
  have h : (l.map codeBulk).sum + 1 ≤ 1048576 := h
  have h1 := sum_len codeBulk (fun c => by unfold codeBulk opsBulk; omega) l
  refine ⟨by omega, fun c hc => ?_⟩
  have h2 : c.name.length + ((c.ops.map opBulk).sum + 1) ≤ (l.map codeBulk).sum := sum_mem codeBulk hc
  have h3 := sum_len opBulk (fun o => by unfold opBulk; omega) c.ops
  refine ⟨⟨by omega, by omega, hi c hc⟩, fun o ho => ?_⟩
  have h4 : o.v.bulk + 1 ≤ (c.ops.map opBulk).sum := sum_mem opBulk ho
  omega
theorem codeT_in {c : RCode} (h : RCodeIn c) : CodeIn (codeT c) := by
  refine ⟨by simpa [codeT] using h.ops, h.name, fun o ho => ?_⟩
  obtain ⟨r, hr, rfl⟩ := List.mem_map.1 (show o ∈ c.ops.map opT from ho)
  exact ⟨inp_clean r.v (h.inp r hr), valT_valish r.v, inp_nmS r.v (h.inp r hr)⟩
theorem vRV_ok {v : RV} (hi : v.inp = true) (hb : v.bulk ≤ 1048576) : (vRV (valT v)).small = true ∧ (vRV (valT v)).fit = true := by
  cases hs : isSome (valT v) with
  | true =>
    rw [vRV_some hs]
    exact ⟨clean_small _ (inp_clean v hi), bulk_fitV v hi (by omega)⟩
  | false =>
    have : valT v = .none := by cases hq : valT v <;> rw [hq] at hs <;> first | rfl | (cases hs; done)
    rw [this]
    exact ⟨by simp [vRV, RV.small, smallAll], by simp [vRV, RV.fit]⟩
theorem codeR_in {c : RCode} (h : RCodeIn c) (hb : ∀ o ∈ c.ops, o.v.bulk ≤ 1048576) : RIn (codeR (codeT c)) := by
  refine ⟨by simpa [codeT, codeR] using h.ops, h.name, fun o ho => ?_⟩
  obtain ⟨t, ht, rfl⟩ := List.mem_map.1 (show o ∈ (c.ops.map opT).map opR from ho)
  obtain ⟨r, hr, rfl⟩ := List.mem_map.1 ht
  exact vRV_ok (h.inp r hr) (hb r hr)
set_option maxHeartbeats 2000000 in
theorem f_LinkSame (a b : List RCode) (ha : ∀ c ∈ a, ∀ o ∈ c.ops, o.v.inp = true) (hb : ∀ c ∈ b, ∀ o ∈ c.ops, o.v.inp = true) (ba : codesBulk a ≤ 1048576) (bb : codesBulk b ≤ 1048576) :
    Av.Fn Tryz.prog 4 [.fz (rcodesC a) a.length false, .fz (rcodesC b) b.length false] (.bool true) := by
  obtain ⟨la, ia⟩ := codesBulk_in ba ha
  obtain ⟨lb, ib⟩ := codesBulk_in bb hb
  have mem : ∀ {l : List RCode} {c : CodeT}, c ∈ l.map codeT → ∃ r ∈ l, codeT r = c := fun h => List.mem_map.1 h
  have ca : ∀ c ∈ a.map codeT, CodeIn c := fun c hc => by obtain ⟨r, hr, rfl⟩ := mem hc; exact codeT_in (ia r hr).1
  have cb : ∀ c ∈ b.map codeT, CodeIn c := fun c hc => by obtain ⟨r, hr, rfl⟩ := mem hc; exact codeT_in (ib r hr).1
  have ra : ∀ c ∈ (a.map codeT).map codeR, RIn c := fun c hc => by obtain ⟨t, ht, rfl⟩ := List.mem_map.1 hc; obtain ⟨r, hr, rfl⟩ := mem ht; exact codeR_in (ia r hr).1 (ia r hr).2
  have rb : ∀ c ∈ (b.map codeT).map codeR, RIn c := fun c hc => by obtain ⟨t, ht, rfl⟩ := List.mem_map.1 hc; obtain ⟨r, hr, rfl⟩ := mem ht; exact codeR_in (ib r hr).1 (ib r hr).2
  have va : ∀ c ∈ a.map codeT, ∀ o ∈ c.ops, valish o.v = true := fun c hc o ho => ((ca c hc).inp o ho).val
  have vb : ∀ c ∈ b.map codeT, ∀ o ∈ c.ops, valish o.v = true := fun c hc o ho => ((cb c hc).inp o ho).val
  have g1 := f_Api a la fun c hc => (ia c hc).1
  have g2 := f_Api b lb fun c hc => (ib c hc).1
  have g3 := f_Of18 (a.map codeT) (by simpa using la) fun c hc => ⟨(ca c hc).ops, fun o ho => ⟨((ca c hc).inp o ho).clean, ((ca c hc).inp o ho).val⟩⟩
  have g4 := f_Of18 (b.map codeT) (by simpa using lb) fun c hc => ⟨(cb c hc).ops, fun o ho => ⟨((cb c hc).inp o ho).clean, ((cb c hc).inp o ho).val⟩⟩
  have g5 := f_LSame (by simpa using la) (by simpa using lb) ca cb
  have g6 := f_rSound ((a.map codeT).map codeR) (by simpa using la) ra
  have g7 := f_rSound ((b.map codeT).map codeR) (by simpa using lb) rb
  have g8 := f_rSame ((a.map codeT).map codeR) ((b.map codeT).map codeR) (by simpa using la) (by simpa using lb) fun x hx y hy => f_rSameOps x.ops y.ops (ra x hx).ops (rb y hy).ops fun o ho p hp => f_Same ((ra x hx).inp o ho).1 ((rb y hy).inp p hp).1
  rw [sound_eq _ va] at g6
  rw [sound_eq _ vb] at g7
  rw [sameCodes_eq va vb] at g8
  unfold sameL at g5
  rw [List.length_map, List.length_map] at g5 g6 g7 g8
  rw [List.length_map] at g3 g4
  rw [List.length_map, List.length_map] at g8
  generalize soundC (a.map codeT) = sa at g5 g6
  generalize soundC (b.map codeT) = sb at g5 g7
  generalize all2 sameCode (a.map codeT) (b.map codeT) = w at g5 g8
  refine ACalls.of_W tb_ok (fn := Tryz.f4) (n := 42) (by kernel_rfl) rfl (by kernel_rfl) rfl rfl (by simp) (go ?_)
  refine Fn.use (f_awake18) (go ?_)
  refine Fn.use (g1) (go ?_)
  refine Fn.use (g2) (go ?_)
  refine Fn.use (g3) (go ?_)
  refine Fn.use (g4) (go ?_)
  refine Fn.use (g8) (go ?_)
  refine Fn.use (g6) (go ?_)
  cases sa with
  | false =>
    refine go ?_
    refine Fn.use (g6) (go ?_)
    refine Fn.use (g7) (go ?_)
    refine Fn.use (g5) (go ?_)
    refine VRet.mk [] .nil ?_
    cases sb <;> exact ⟨rfl, rfl⟩
  | true =>
    refine go ?_
    refine Fn.use (g7) (go ?_)
    cases sb with
    | true =>
      refine VIf.no rfl (go ?_)
      refine Fn.use (g5) (go ?_)
      refine VRet.mk [] .nil ?_
      cases w <;> exact ⟨rfl, rfl⟩
    | false =>
      refine VIf.yes rfl (go ?_)
      refine Fn.use (g6) (go ?_)
      refine Fn.use (g5) (go ?_)
      refine VRet.mk [] .nil ?_
      exact ⟨rfl, rfl⟩
end Go.Proofs.YtliabblchkgclaaGreatDoor

namespace Go.Proofs.YtliabblchkgclaaGreatDoor
open Go Go.Av
theorem ropOf_eq (names : List (List UInt8)) {t : Tree} (hf : t.full true = true) : ropOf names (itemRV t) = (opOf names t).map opR := by
  cases hc : t.isCall with
  | true =>
    obtain ⟨s, rfl⟩ : ∃ s, t = .call s := by cases t <;> first | exact ⟨_, rfl⟩ | (cases hc; done)
    have e1 : ropOf names (itemRV (.call s)) = match placeL namesL s 0 with
        | some j => some ⟨2, (j : Int), .mk 0 0 [] []⟩
        | none => (placeL names s 0).map fun (j : Nat) => ⟨3, (j : Int), .mk 0 0 [] []⟩ := if_neg (fun h => h rfl)
    have e2 : opOf names (.call s) = match placeL namesL s 0 with
        | some j => some ⟨2, (j : Int), .none⟩
        | none => (placeL names s 0).map fun (j : Nat) => ⟨3, (j : Int), .none⟩ := rfl
    rw [e1, e2]
    cases placeL namesL s 0 with
    | some j => rfl
    | none => cases placeL names s 0 <;> rfl
  | false =>
    rw [item_val hc]
    have e1 : ropOf names (valRV t) = some ⟨1, 0, valRV t⟩ := if_pos (valRV_kind t)
    have e2 : opOf names t = some ⟨1, 0, t⟩ := by cases t <;> first | rfl | (cases hc; done)
    have e3 : isSome t = true := by cases t <;> first | rfl | (cases hf; done)
    rw [e1, e2, Option.map_some, opR, vRV_some e3]
theorem ropsOf_eq (names : List (List UInt8)) : ∀ {l : List Tree}, fullAll true l = true → ropsOf names (itemRVs l) = (opsOf names l).map (·.map opR)
  | [], _ => by simp [itemRVs, ropsOf, opsOf]
  | t :: r, h => by
    simp only [fullAll, Bool.and_eq_true] at h
    rw [itemRVs_cons, ropsOf, opsOf, ropOf_eq names h.1, ropsOf_eq names h.2]
    cases opOf names t with
    | none => rfl
    | some o =>
      dsimp only [Option.map_some]
      cases opsOf names r with
      | none => rfl
      | some q => rfl
theorem names_codeR (codes : List CodeT) : (codes.map codeR).map (·.name) = codes.map (·.name) := by rw [List.map_map]; rfl
theorem check_full {l : List Tree} (h : checkR l = true) : fullAll true l = true := by
  have := meas_full false (.quot l) 1024 0 h
  rwa [Tree.full] at this
theorem refOps_eq {codes : List CodeT} {l : List Tree} (hv : ∀ c ∈ codes, ∀ o ∈ c.ops, valish o.v = true) : refOps (codes.map codeR) (itemRVs l) = ((linkOps codes l).1.map opR, (linkOps codes l).2) := by
  unfold refOps linkOps
  rw [sound_eq _ hv, refOk_eq, names_codeR]
  unfold backOk
  by_cases h : (soundC codes && (checkR l && bareTs l)) = true
  · rw [if_pos h, if_pos h]
    have hc : checkR l = true := by
      simp only [Bool.and_eq_true] at h
      exact h.2.1
    rw [ropsOf_eq _ (check_full hc)]
    cases opsOf (codes.map (·.name)) l <;> rfl
  · rw [if_neg h, if_neg h]; rfl
theorem refBack_eq {codes : List CodeT} {ops : List OpT} (hv : ∀ c ∈ codes, ∀ o ∈ c.ops, valish o.v = true) (ho : ∀ o ∈ ops, valish o.v = true) : refBack (codes.map codeR) (ops.map opR) = (itemRVs (linkBack codes ops).1, (linkBack codes ops).2) := by
  unfold refBack linkBack
  rw [sound_eq _ hv, names_codeR, refBackL_eq _ _ ho]
  by_cases h : soundC codes = true
  · rw [if_pos h, if_pos h]
    cases backL codes ops with
    | none => simp [itemRVs]
    | some l =>
      dsimp only [Option.map_some]
      rw [refOk_eq]
      by_cases h2 : backOk l = true
      · rw [if_pos h2, if_pos h2]
      · rw [if_neg h2, if_neg h2]; simp [itemRVs]
  · rw [if_neg h, if_neg h]; simp [itemRVs]
theorem opsOf_in {names : List (List UInt8)} : ∀ {l : List Tree} {r : List OpT}, cleanAll l = true → fullAll true l = true → opsOf names l = some r → r.length = l.length ∧ ∀ o ∈ r, o.v.clean = true ∧ valish o.v = true
  | [], r, _, _, h => by cases h; exact ⟨rfl, fun o ho => by cases ho⟩
  | t :: l, r, hc, hf, h => by
    simp only [cleanAll, Bool.and_eq_true] at hc
    simp only [fullAll, Bool.and_eq_true] at hf
    rw [opsOf] at h
    cases hx : opOf names t with
    | none => rw [hx] at h; cases h
    | some o =>
      rw [hx] at h
      dsimp only at h
      cases hb : opsOf names l with
      | none => rw [hb] at h; cases h
      | some q =>
        rw [hb] at h
        obtain rfl : o :: q = r := Option.some.inj h
        obtain ⟨h1, h2⟩ := opsOf_in hc.2 hf.2 hb
        refine ⟨by simp [h1], fun p hp => ?_⟩
        rcases List.mem_cons.1 hp with rfl | hp
        · cases hct : t.isCall with
          | true =>
            obtain ⟨s, rfl⟩ : ∃ s, t = .call s := by cases t <;> first | exact ⟨_, rfl⟩ | (cases hct; done)
            have e2 : opOf names (.call s) = match placeL namesL s 0 with
              | some j => some ⟨2, (j : Int), .none⟩
              | none => (placeL names s 0).map fun (j : Nat) => ⟨3, (j : Int), .none⟩ := rfl
            rw [e2] at hx
            cases h3 : placeL namesL s 0 with
            | some j => rw [h3] at hx; cases hx; exact ⟨rfl, rfl⟩
            | none =>
              rw [h3] at hx
              cases h4 : placeL names s 0 with
              | some j => rw [h4] at hx; cases hx; exact ⟨rfl, rfl⟩
              | none => rw [h4] at hx; cases hx
          | false =>
            have e2 : opOf names t = some ⟨1, 0, t⟩ := by cases t <;> first | rfl | (cases hct; done)
            rw [e2] at hx
            cases hx
            exact ⟨hc.1, by cases t <;> first | rfl | (cases hct; done) | (cases hf.1; done)⟩
        · exact h2 p hp
theorem linkOps_in {codes : List CodeT} {l : List Tree} (hc : cleanAll l = true) : (linkOps codes l).1.length ≤ l.length ∧ ∀ o ∈ (linkOps codes l).1, o.v.clean = true ∧ valish o.v = true := by
  unfold linkOps
  split
  · rename_i h
    have hk : checkR l = true := by
      simp only [Bool.and_eq_true] at h
      exact h.2.1
    cases hb : opsOf (codes.map (·.name)) l with
    | none => exact ⟨Nat.zero_le _, fun o ho => by cases ho⟩
    | some q =>
      obtain ⟨h1, h2⟩ := opsOf_in hc (check_full hk) hb
      exact ⟨Nat.le_of_eq h1, h2⟩
  · exact ⟨Nat.zero_le _, fun o ho => by cases ho⟩
theorem linkBack_in {codes : List CodeT} {ops : List OpT} (hcs : ∀ c ∈ codes, CodeIn c) (hos : ∀ o ∈ ops, OpIn o) : (linkBack codes ops).1.length ≤ ops.length ∧ cleanAll (linkBack codes ops).1 = true := by
  unfold linkBack
  split
  · cases hb : backL codes ops with
    | none => exact ⟨Nat.zero_le _, rfl⟩
    | some l =>
      obtain ⟨h1, h2, _⟩ := backL_in hcs hos hb
      dsimp only
      split
      · exact ⟨Nat.le_of_eq h1, h2⟩
      · exact ⟨Nat.zero_le _, rfl⟩
  · exact ⟨Nat.zero_le _, rfl⟩
theorem all2_refl {α : Type} {f : α → α → Bool} (h : ∀ x, f x x = true) : ∀ l : List α, all2 f l l = true
  | [] => rfl
  | x :: l => by rw [all2, h x, all2_refl h l]; rfl
theorem sameOpR_refl (x : ROp) : sameOpR x x = true := by
  unfold sameOpR
  rw [decide_eq_true rfl, decide_eq_true rfl, sameV_refl]; rfl
theorem bulk_pos : ∀ v : RV, 1 ≤ v.bulk
  | .mk _ _ _ _ => by rw [RV.bulk]; omega
theorem bulk_len (l : List RV) : l.length ≤ bulkAll l := by
  rw [bulkAll_sum]; exact sum_len RV.bulk bulk_pos l
theorem opT_in {o : ROp} (h : o.v.inp = true) : OpIn (opT o) := ⟨inp_clean o.v h, valT_valish o.v, inp_nmS o.v h⟩
set_option maxHeartbeats 4000000 in
theorem f_LinkOps (codes : List RCode) (l : List RV) (ops : List ROp) (hc : ∀ c ∈ codes, ∀ o ∈ c.ops, o.v.inp = true) (hl : l.length ≤ 2513169434916 ∧ inpAll l = true) (ho : ∀ o ∈ ops, o.v.inp = true) (bc : codesBulk codes ≤ 1048576) (bl : bulkAll l + 1 ≤ 1048576) (bo : opsBulk ops ≤ 1048576) :
    Av.Fn Tryz.prog 3 [.fz (rcodesC codes) codes.length false, .fz (rvsC l) l.length false, .fz (ropsC ops) ops.length false] (.bool true) := by
  obtain ⟨la, ia⟩ := codesBulk_in bc hc
  have ll : l.length ≤ 1048576 := by have := bulk_len l; omega
  have bo : (ops.map opBulk).sum + 1 ≤ 1048576 := bo
  have lo : ops.length ≤ 1048576 := by have := sum_len opBulk (fun o => by unfold opBulk; omega) ops; omega
  have ob : ∀ o ∈ ops, o.v.bulk ≤ 1048576 := fun o h => by
    have h4 : o.v.bulk + 1 ≤ (ops.map opBulk).sum := sum_mem opBulk h
    omega
  have mem : ∀ {l : List RCode} {c : CodeT}, c ∈ l.map codeT → ∃ r ∈ l, codeT r = c := fun h => List.mem_map.1 h
  have ca : ∀ c ∈ codes.map codeT, CodeIn c := fun c hc => by obtain ⟨r, hr, rfl⟩ := mem hc; exact codeT_in (ia r hr).1
  have ra : ∀ c ∈ (codes.map codeT).map codeR, RIn c := fun c hc => by obtain ⟨t, ht, rfl⟩ := List.mem_map.1 hc; obtain ⟨r, hr, rfl⟩ := mem ht; exact codeR_in (ia r hr).1 (ia r hr).2
  have va : ∀ c ∈ codes.map codeT, ∀ o ∈ c.ops, valish o.v = true := fun c hc o ho => ((ca c hc).inp o ho).val
  have oa : ∀ o ∈ ops.map opT, OpIn o := fun o h => by obtain ⟨r, hr, rfl⟩ := List.mem_map.1 h; exact opT_in (ho r hr)
  have orr : ∀ o ∈ (ops.map opT).map opR, o.v.small = true ∧ o.v.fit = true := fun o h => by
    obtain ⟨t, ht, rfl⟩ := List.mem_map.1 h
    obtain ⟨r, hr, rfl⟩ := List.mem_map.1 ht
    exact vRV_ok (ho r hr) (ob r hr)
  have icl := inp_cleanI l hl.2
  have qcl : (Tree.quot (itemTs l)).clean = true := by simp only [Tree.clean, Bool.and_eq_true, decide_eq_true_eq]; exact ⟨by rw [itemTs_length]; exact hl.1, icl⟩
  have qnm : (Tree.quot (itemTs l)).nmS = true := by rw [Tree.nmS]; exact inp_nmSI l hl.2
  have g1 := f_Api codes la fun c hc => (ia c hc).1
  have g2 := f_ItemsOf hl.2 hl.1
  have g3 := f_OpsOf ops lo ho
  have g4 := f_Of18 (codes.map codeT) (by simpa using la) fun c hc => ⟨(ca c hc).ops, fun o ho => ⟨((ca c hc).inp o ho).clean, ((ca c hc).inp o ho).val⟩⟩
  have g5 := f_ItemTrees icl (by rw [itemTs_length]; exact hl.1)
  have g6 := f_OpTrees (ops.map opT) (by simpa using lo) fun o h => ⟨(oa o h).clean, (oa o h).val⟩
  have g7 := f_lOps (by simpa using la) ca qcl qnm
  have g8 := f_rOps (l := itemRVs (itemTs l)) (by simpa using la) ra (by simpa using ll) (clean_smallI _ icl) (bulk_fitIs l hl.2 (by omega))
  have g9 := f_lBack (ops := ops.map opT) (by simpa using la) ca (by simpa using lo) oa
  have g10 := f_rBack (ops := (ops.map opT).map opR) (by simpa using la) ra (by simpa using lo) orr
  have g11 := f_Check (codes.map codeT) (by simpa using la) ca
  have g12 := f_rSound ((codes.map codeT).map codeR) (by simpa using la) ra
  obtain ⟨lk1, lk2⟩ := linkOps_in (codes := codes.map codeT) icl
  obtain ⟨lb1, lb2⟩ := linkBack_in (codes := codes.map codeT) (ops := ops.map opT) ca oa
  rw [itemTs_length] at lk1
  rw [List.length_map] at lb1
  have g13 := f_OpTrees (linkOps (codes.map codeT) (itemTs l)).1 (by omega) lk2
  have g14 := f_ItemTrees lb2 (by omega)
  rw [refOps_eq va] at g8
  rw [refBack_eq va (fun o h => (oa o h).val)] at g10
  rw [sound_eq _ va] at g12
  have hsm : ∀ o ∈ ((linkOps (codes.map codeT) (itemTs l)).1.map opR), o.v.small = true := fun o h => by
    obtain ⟨t, ht, rfl⟩ := List.mem_map.1 h
    obtain ⟨c1, c2⟩ := lk2 t ht
    show (vRV t.v).small = true
    cases hs : isSome t.v with
    | true => rw [vRV_some hs]; exact clean_small _ c1
    | false =>
      have : t.v = .none := by cases hq : t.v <;> rw [hq] at hs <;> first | rfl | (cases hs; done)
      rw [this]; simp [vRV, RV.small, smallAll]
  have g15 := f_rSameOps ((linkOps (codes.map codeT) (itemTs l)).1.map opR) ((linkOps (codes.map codeT) (itemTs l)).1.map opR) (by simp; omega) (by simp; omega) fun x hx y hy => f_Same (hsm x hx) (hsm y hy)
  rw [all2_refl sameOpR_refl] at g15
  have g16 := f_SameAll (a := itemRVs (linkBack (codes.map codeT) (ops.map opT)).1) (b := itemRVs (linkBack (codes.map codeT) (ops.map opT)).1) (clean_smallI _ lb2) (clean_smallI _ lb2) (by simp; omega) (by simp; omega) [] [] false false
  rw [sameVs_refl, List.append_nil] at g16
  generalize linkOps (codes.map codeT) (itemTs l) = A at *
  generalize linkBack (codes.map codeT) (ops.map opT) = B at *
  obtain ⟨A, e⟩ := A
  obtain ⟨B, f⟩ := B
  generalize soundC (codes.map codeT) = sd at *
  simp only [List.length_map, itemTs_length, itemRVs_length] at g1 g2 g3 g4 g5 g6 g7 g8 g9 g10 g11 g12 g13 g14 g15 g16
  unfold lopsV at g7
  dsimp only at g7
  generalize (codes.map codeT).map codeR = R at *
  generalize codes.map codeT = C at *
  generalize (ops.map opT).map opR = OR at *
  generalize ops.map opT = O at *
  refine ACalls.of_W tb_ok (fn := Tryz.f3) (n := 84) (by kernel_rfl) rfl (by kernel_rfl) rfl rfl (by simp) (go ?_)
  refine Fn.use (f_awake18) (go ?_)
  refine Fn.use (g1) (go ?_)
  refine Fn.use (g2) (go ?_)
  refine Fn.use (g3) (go ?_)
  refine Fn.use (g4) (go ?_)
  refine Fn.use (g5) (go ?_)
  refine Fn.use (g6) (go ?_)
  refine Fn.use (g7) (go ?_)
  refine Fn.use (g8) (go ?_)
  refine Fn.use (g9) (go ?_)
  refine Fn.use (g10) (go ?_)
  refine Fn.use (g11) (go ?_)
  refine Fn.use (g12) (go ?_)
  refine VIf.yes (by cases sd <;> rfl) (go ?_)
  refine Fn.use (g13) (go ?_)
  refine Fn.use (g15) (go ?_)
  refine VIf.yes (by simp) (go ?_)
  refine Fn.use (g14) (go ?_)
  refine Fn.use (g16) (go ?_)
  refine VRet.mk [] .nil ?_
  exact ⟨congrArg (fun b => AOut.ret (.bool b)) (by simp), rfl⟩
end Go.Proofs.YtliabblchkgclaaGreatDoor

namespace Go.Proofs.YtliabblchkgclaaGreatDoor
open Go Go.Av
mutual
theorem bk_upto {H : Type} : ∀ d : DataW H, bk d ≤ Rows.uptoBulk d
  | .lit l => by cases l <;> simp [bk, Rows.uptoBulk]
  | .nil => by simp [bk, Rows.uptoBulk]
  | .ptr d => by have := bk_upto d; simp only [bk, Rows.uptoBulk]; omega
  | .slice es sp => by have := bkAll_upto es; have := bkAll_upto sp; simp only [bk, Rows.uptoBulk]; omega
  | .agg ps => by have := bkAll_upto ps; simp only [bk, Rows.uptoBulk]; omega
  | .iface t d => by have := bk_upto d; simp only [bk, Rows.uptoBulk]; omega
  | .map es => by have := bkEnts_upto es; simp only [bk, Rows.uptoBulk]; omega
  | .held h => by simp [bk, Rows.uptoBulk]
theorem bkAll_upto {H : Type} : ∀ l : List (DataW H), bkAll l ≤ Rows.uptoBulkAll l
  | [] => by simp [bkAll, Rows.uptoBulkAll]
  | d :: r => by have := bk_upto d; have := bkAll_upto r; simp only [bkAll, Rows.uptoBulkAll]; omega
theorem bkEnts_upto {H : Type} : ∀ l : List (Lit × DataW H), bkEnts l ≤ Rows.uptoBulkEntries l
  | [] => by simp [bkEnts, Rows.uptoBulkEntries]
  | (k, d) :: r => by
    have := bk_upto d; have := bkEnts_upto r
    simp only [bkEnts, Rows.uptoBulkEntries]
    cases k <;> simp only [Rows.uptoBulkEntry] <;> omega
end
end Go.Proofs.YtliabblchkgclaaGreatDoor
