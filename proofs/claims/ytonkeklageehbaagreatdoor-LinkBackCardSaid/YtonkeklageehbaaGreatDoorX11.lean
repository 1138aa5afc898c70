/- dict: callable, body, fits: the walks. Conditions: as each says. dict.Check: the walk. Conditions: as it says. The reference's Copy. Conditions: no list of more than 2^41. Links, the document's answer: place, ops, Ops, Back; link.Back. Conditions: as each says. The reference's codes as a row's argument. Conditions: as each says. Trees of a bounded bulk are not too large for the document's answer. Conditions: as each says. LinkSame: the walk. Conditions: what is handed in is no larger than the second form lets in. LinkOps: the walk. Conditions: what is handed in is no larger than the second form lets in. What a dictionary that is sound says, and its codes: plain. Conditions: none. -/
import Derived.Test.YtonkeklageehbaaGreatDoorX10
import Derived.Test.YtonkeklageehbaaGreatDoorX8
set_option linter.all false
set_option maxRecDepth 20000
namespace Go.Proofs.YtonkeklageehbaaGreatDoor
open Go Go.Av
theorem f_dCallable (s : Txt) (hs : s.length ≤ 4611686018427387904) : Av.Fn Tryz.prog 49 [.str s] (.bool (nmR s && !isPrim s)) := by
  have h1 := f_tName s hs
  have h2 := f_pIs s
  refine ACalls.of_W tb_ok (fn := Tryz.f49) (n := 10) (by kernel_rfl) rfl (by kernel_rfl) rfl rfl (by simp) (go ?_)
  refine Fn.use (h1) (go ?_)
  cases nmR s with
  | false =>
    refine go ?_
    refine VRet.mk [] .nil ?_
    exact ⟨rfl, rfl⟩
  | true =>
    refine go ?_
    refine Fn.use (h2) (go ?_)
    refine VRet.mk [] .nil ?_
    exact ⟨rfl, rfl⟩
def bodyR (w : WordT) : Bool := checkR w.body && bareTs w.body && decide (0 ≤ min w.inn w.out) && decide (max w.inn w.out ≤ 16)
theorem f_dBody (w : WordT) (hc : (Tree.quot w.body).clean = true) (hs : (Tree.quot w.body).nmS = true) :
    Av.Fn Tryz.prog 50 [.agg [.str w.name, .int .i64 w.inn, .int .i64 w.out, .fz (itemAVs w.body) w.body.length false]] (.bool (bodyR w)) := by
  have h1 := f_CheckItems hc hs
  have h2 := f_tBare hc
  unfold bodyR
  generalize checkR w.body = p at h1 ⊢
  generalize bareTs w.body = q at h2 ⊢
  refine ACalls.of_W tb_ok (fn := Tryz.f50) (n := 32) (by kernel_rfl) rfl (by kernel_rfl) rfl rfl (by simp) (go ?_)
  refine VAll.mk (fun b1 => go ?_)
  refine Fn.use (h1) (go ?_)
  cases p with
  | false =>
    refine go ?_
    refine VRet.mk [] .nil ?_
    exact ⟨rfl, rfl⟩
  | true =>
    refine go ?_
    refine Fn.use (h2) (go ?_)
    cases q with
    | false =>
      refine go ?_
      refine VRet.mk [] .nil ?_
      exact ⟨rfl, rfl⟩
    | true =>
      refine go ?_
      refine fork (fun h3 => go ?_) (fun h3 => go ?_)
      · refine VRet.mk [] .nil ?_
        rw [decide_eq_true h3]; exact ⟨rfl, rfl⟩
      · refine VRet.mk [] .nil ?_
        rw [decide_eq_false h3]; exact ⟨rfl, rfl⟩
def knL (l : List WordT) : KnL := l.map fun w => (w.name, w.inn, w.out)
theorem knL_C (l : List WordT) : knC (knL l) = l.flatMap knOf := by
  rw [knC_flat]; unfold knL; rw [List.flatMap_map]; rfl
noncomputable def fitsD (m : List (Txt × List Txt)) (ws : List WordT) (w : WordT) : Int :=
  if seesR m (wordsN ws) w = false then 10 else if (ofR w.body (knL ws)).2.2 = 0 ∧ ¬ ((ofR w.body (knL ws)).1 = w.inn ∧ (ofR w.body (knL ws)).2.1 = w.out) then 12 else (ofR w.body (knL ws)).2.2


set_option maxHeartbeats 4000000 in
theorem f_dFits (bk bu bw : Nat) (k0 k1 : AV) (m : List (Txt × List Txt)) (hm : ∀ e ∈ m, e.2.length ≤ 1000000) (ws : List WordT) (hws : ws.length ≤ 1000000) (o : Option Nat) (ho : o = none → ws = []) (z : Nat) (w : WordT) (hc : (Tree.quot w.body).clean = true) (hs : (Tree.quot w.body).nmS = true) :
    ACalls Tryz.prog 51 [.ptr bk 0, .agg (wordC w)] (KS bk bu bw k0 k1 (lkV o ws.length) m (wordsN ws) ++ lkS o ws z) fun out st => out = .ret (.int .i64 (fitsD m ws w)) ∧ ∃ z', st = KS bk bu bw k0 k1 (lkV o ws.length) m (wordsN ws) ++ lkS o ws z' := by
  have hc2 := hc
  simp only [Tree.clean, Bool.and_eq_true, decide_eq_true_eq] at hc2
  have hsee := f_sees bk bu bw k0 k1 (lkV o ws.length) m hm (wordsN ws) w hc2.1 hc2.2
  have hO := f_Of w.body (knL ws) hc hs (by simp [knL]; omega)
  unfold fitsD
  generalize ofR w.body (knL ws) = r at hO ⊢
  rw [knL_C, show (knL ws).length = ws.length by simp [knL]] at hO
  obtain ⟨ri, ro, re⟩ := r
  unfold ofV at hO
  dsimp only at hO ⊢
  have hO2 : Av.Fn Tryz.prog 75 [.fz (itemAVs w.body) w.body.length false, .fz (List.take (ws.length * 3) (ws.flatMap knOf)) ws.length false] (.tup [.agg [.int .i64 ri, .int .i64 ro], .int .i64 re]) := by
    rw [List.take_of_length_le (by rw [flat_len knOf 3 knOf_len]; exact Nat.le_refl _)]; exact hO
  cases o with
  | none =>
    obtain rfl : ws = [] := ho rfl
    refine ACalls.of_W tb_ok (fn := Tryz.f51) (n := 32) (by kernel_rfl) rfl (by kernel_rfl) rfl rfl (by simp) (go ?_)
    refine VAll.mk (fun b3 => go ?_)
    refine ACalls.usep (R := (b3, .box (wordC w)) :: lkS none [] z) hsee (by exact List.perm_middle) ?_
    rintro out s' ⟨rfl, rfl⟩
    cases hsr : seesR m (wordsN []) w with
    | false =>
      refine go ?_
      rw [if_pos rfl]
      exact VRet.mk _ (.cons 1 rfl (.cons 1 rfl (.cons 1 rfl .nil))) ⟨rfl, z, rfl⟩
    | true =>
      refine go ?_
      rw [if_neg (by simp)]
      by_cases e0 : re = 0
      · by_cases e1 : ri = w.inn ∧ ro = w.out
        · rw [if_neg (fun h => h.2 e1)]
          have e2 := e1
          refine VDraw.chain [7, 8, 9, 10, 11, 12, 13] (go ?_)
          repeat' ((conv => whnf); first | refine VAnd.mk ?_ ?_ | refine VGd.mk rfl ?_ | refine VGd.mk (by decide) ?_ | refine VOne.mk rfl ?_ | refine VFz.nil ?_ | refine VFz.nils ?_ | (refine VFz.own 2 _ _ _ rfl ?_ ?_; focus (first | (simp; done) | (rw [flat_len knOf 3 knOf_len]; exact Nat.le_refl _))) | (refine VFz.own 1 _ _ _ rfl ?_ ?_; focus (first | (simp; done) | (rw [flat_len knOf 3 knOf_len]; exact Nat.le_refl _))) | refine VFz.keep ?_ | refine VObj.mk 0 _ rfl ?_ | refine VObj.mk 1 _ rfl ?_ | refine VObj.mk 2 _ rfl ?_ | refine VObj.mk 3 _ rfl ?_ | refine VObj.mk 4 _ rfl ?_ | refine VTake.mk _ rfl rfl ?_ | refine VNth.mk _ rfl ?_ | refine Fn.use hO ?_ | refine Fn.use hO2 ?_ | refine VIf.tt ?_ | refine VIf.ff ?_ | (refine VIf.yes ?_ ?_; focus (first | exact e2 | (simp [e0, e1]; done) | (simp [e0]; done) | (simpa using e1))) | (refine VIf.no ?_ ?_; focus (first | exact e2 | (simp [e0, e1]; done) | (simp [e0]; done) | (simpa using e1))) | (refine VAll.mk fun _ => ?_))
          all_goals (conv => whnf)
          all_goals (first | exact VRet.mk _ (.cons 2 rfl (.cons 2 rfl (.cons 2 rfl .nil))) ⟨rfl, z, rfl⟩ | exact VRet.mk _ (.cons 2 rfl (.cons 2 rfl (.cons 2 rfl .nil))) ⟨congrArg (fun n => AOut.ret (.int .i64 n)) e0.symm, z, rfl⟩ | trace_state)
        · rw [if_pos ⟨e0, e1⟩]
          have e2 : (!(decide (ri = w.inn) && (decide (ro = w.out) && true))) = true := by
            by_cases q1 : ri = w.inn
            · by_cases q2 : ro = w.out
              · exact absurd ⟨q1, q2⟩ e1
              · rw [decide_eq_false q2]; simp
            · rw [decide_eq_false q1]; rfl
          refine VDraw.chain [7, 8, 9, 10, 11, 12, 13] (go ?_)
          repeat' ((conv => whnf); first | refine VAnd.mk ?_ ?_ | refine VGd.mk rfl ?_ | refine VGd.mk (by decide) ?_ | refine VOne.mk rfl ?_ | refine VFz.nil ?_ | refine VFz.nils ?_ | (refine VFz.own 2 _ _ _ rfl ?_ ?_; focus (first | (simp; done) | (rw [flat_len knOf 3 knOf_len]; exact Nat.le_refl _))) | (refine VFz.own 1 _ _ _ rfl ?_ ?_; focus (first | (simp; done) | (rw [flat_len knOf 3 knOf_len]; exact Nat.le_refl _))) | refine VFz.keep ?_ | refine VObj.mk 0 _ rfl ?_ | refine VObj.mk 1 _ rfl ?_ | refine VObj.mk 2 _ rfl ?_ | refine VObj.mk 3 _ rfl ?_ | refine VObj.mk 4 _ rfl ?_ | refine VTake.mk _ rfl rfl ?_ | refine VNth.mk _ rfl ?_ | refine Fn.use hO ?_ | refine Fn.use hO2 ?_ | refine VIf.tt ?_ | refine VIf.ff ?_ | (refine VIf.yes ?_ ?_; focus (first | exact e2 | (simp [e0, e1]; done) | (simp [e0]; done) | (simpa using e1))) | (refine VIf.no ?_ ?_; focus (first | exact e2 | (simp [e0, e1]; done) | (simp [e0]; done) | (simpa using e1))) | (refine VAll.mk fun _ => ?_))
          all_goals (conv => whnf)
          all_goals (first | exact VRet.mk _ (.cons 2 rfl (.cons 2 rfl (.cons 2 rfl .nil))) ⟨rfl, z, rfl⟩ | exact VRet.mk _ (.cons 2 rfl (.cons 2 rfl (.cons 2 rfl .nil))) ⟨congrArg (fun n => AOut.ret (.int .i64 n)) e0.symm, z, rfl⟩ | trace_state)
      · rw [if_neg (fun h => e0 h.1)]
        have e1 := e0
        have e2 := e0
        refine VDraw.chain [7, 8, 9, 10, 11, 12, 13] (go ?_)
        repeat' ((conv => whnf); first | refine VAnd.mk ?_ ?_ | refine VGd.mk rfl ?_ | refine VGd.mk (by decide) ?_ | refine VOne.mk rfl ?_ | refine VFz.nil ?_ | refine VFz.nils ?_ | (refine VFz.own 2 _ _ _ rfl ?_ ?_; focus (first | (simp; done) | (rw [flat_len knOf 3 knOf_len]; exact Nat.le_refl _))) | (refine VFz.own 1 _ _ _ rfl ?_ ?_; focus (first | (simp; done) | (rw [flat_len knOf 3 knOf_len]; exact Nat.le_refl _))) | refine VFz.keep ?_ | refine VObj.mk 0 _ rfl ?_ | refine VObj.mk 1 _ rfl ?_ | refine VObj.mk 2 _ rfl ?_ | refine VObj.mk 3 _ rfl ?_ | refine VObj.mk 4 _ rfl ?_ | refine VTake.mk _ rfl rfl ?_ | refine VNth.mk _ rfl ?_ | refine Fn.use hO ?_ | refine Fn.use hO2 ?_ | refine VIf.tt ?_ | refine VIf.ff ?_ | (refine VIf.yes ?_ ?_; focus (first | exact e2 | (simp [e0, e1]; done) | (simp [e0]; done) | (simpa using e1))) | (refine VIf.no ?_ ?_; focus (first | exact e2 | (simp [e0, e1]; done) | (simp [e0]; done) | (simpa using e1))) | (refine VAll.mk fun _ => ?_))
        all_goals (conv => whnf)
        all_goals (first | exact VRet.mk _ (.cons 2 rfl (.cons 2 rfl (.cons 2 rfl .nil))) ⟨rfl, z, rfl⟩ | exact VRet.mk _ (.cons 2 rfl (.cons 2 rfl (.cons 2 rfl .nil))) ⟨congrArg (fun n => AOut.ret (.int .i64 n)) e0.symm, z, rfl⟩ | trace_state)
  | some bl =>
    refine ACalls.of_W tb_ok (fn := Tryz.f51) (n := 32) (by kernel_rfl) rfl (by kernel_rfl) rfl rfl (by simp) (go ?_)
    refine VAll.mk (fun b3 => go ?_)
    refine ACalls.usep (R := (b3, .box (wordC w)) :: lkS (some bl) ws z) hsee (by exact List.perm_middle) ?_
    rintro out s' ⟨rfl, rfl⟩
    cases hsr : seesR m (wordsN ws) w with
    | false =>
      refine go ?_
      rw [if_pos rfl]
      exact VRet.mk _ (.cons 2 rfl (.cons 2 rfl (.cons 2 rfl (.cons 1 rfl .nil)))) ⟨rfl, z, rfl⟩
    | true =>
      refine go ?_
      rw [if_neg (by simp)]
      by_cases e0 : re = 0
      · by_cases e1 : ri = w.inn ∧ ro = w.out
        · rw [if_neg (fun h => h.2 e1)]
          have e2 := e1
          refine VDraw.chain [7, 8, 9, 10, 11, 12, 13] (go ?_)
          repeat' ((conv => whnf); first | refine VAnd.mk ?_ ?_ | refine VGd.mk rfl ?_ | refine VGd.mk (by decide) ?_ | refine VOne.mk rfl ?_ | refine VFz.nil ?_ | refine VFz.nils ?_ | (refine VFz.own 2 _ _ _ rfl ?_ ?_; focus (first | (simp; done) | (rw [flat_len knOf 3 knOf_len]; exact Nat.le_refl _))) | (refine VFz.own 1 _ _ _ rfl ?_ ?_; focus (first | (simp; done) | (rw [flat_len knOf 3 knOf_len]; exact Nat.le_refl _))) | refine VFz.keep ?_ | refine VObj.mk 0 _ rfl ?_ | refine VObj.mk 1 _ rfl ?_ | refine VObj.mk 2 _ rfl ?_ | refine VObj.mk 3 _ rfl ?_ | refine VObj.mk 4 _ rfl ?_ | refine VTake.mk _ rfl rfl ?_ | refine VNth.mk _ rfl ?_ | refine Fn.use hO ?_ | refine Fn.use hO2 ?_ | refine VIf.tt ?_ | refine VIf.ff ?_ | (refine VIf.yes ?_ ?_; focus (first | exact e2 | (simp [e0, e1]; done) | (simp [e0]; done) | (simpa using e1))) | (refine VIf.no ?_ ?_; focus (first | exact e2 | (simp [e0, e1]; done) | (simp [e0]; done) | (simpa using e1))) | (refine VAll.mk fun _ => ?_))
          all_goals (conv => whnf)
          all_goals (first | exact VRet.mk _ (.cons 3 rfl (.cons 3 rfl (.cons 3 rfl (.cons 2 rfl .nil)))) ⟨rfl, _, rfl⟩ | exact VRet.mk _ (.cons 3 rfl (.cons 3 rfl (.cons 3 rfl (.cons 2 rfl .nil)))) ⟨congrArg (fun n => AOut.ret (.int .i64 n)) e0.symm, _, rfl⟩ | trace_state)
        · rw [if_pos ⟨e0, e1⟩]
          have e2 : (!(decide (ri = w.inn) && (decide (ro = w.out) && true))) = true := by
            by_cases q1 : ri = w.inn
            · by_cases q2 : ro = w.out
              · exact absurd ⟨q1, q2⟩ e1
              · rw [decide_eq_false q2]; simp
            · rw [decide_eq_false q1]; rfl
          refine VDraw.chain [7, 8, 9, 10, 11, 12, 13] (go ?_)
          repeat' ((conv => whnf); first | refine VAnd.mk ?_ ?_ | refine VGd.mk rfl ?_ | refine VGd.mk (by decide) ?_ | refine VOne.mk rfl ?_ | refine VFz.nil ?_ | refine VFz.nils ?_ | (refine VFz.own 2 _ _ _ rfl ?_ ?_; focus (first | (simp; done) | (rw [flat_len knOf 3 knOf_len]; exact Nat.le_refl _))) | (refine VFz.own 1 _ _ _ rfl ?_ ?_; focus (first | (simp; done) | (rw [flat_len knOf 3 knOf_len]; exact Nat.le_refl _))) | refine VFz.keep ?_ | refine VObj.mk 0 _ rfl ?_ | refine VObj.mk 1 _ rfl ?_ | refine VObj.mk 2 _ rfl ?_ | refine VObj.mk 3 _ rfl ?_ | refine VObj.mk 4 _ rfl ?_ | refine VTake.mk _ rfl rfl ?_ | refine VNth.mk _ rfl ?_ | refine Fn.use hO ?_ | refine Fn.use hO2 ?_ | refine VIf.tt ?_ | refine VIf.ff ?_ | (refine VIf.yes ?_ ?_; focus (first | exact e2 | (simp [e0, e1]; done) | (simp [e0]; done) | (simpa using e1))) | (refine VIf.no ?_ ?_; focus (first | exact e2 | (simp [e0, e1]; done) | (simp [e0]; done) | (simpa using e1))) | (refine VAll.mk fun _ => ?_))
          all_goals (conv => whnf)
          all_goals (first | exact VRet.mk _ (.cons 3 rfl (.cons 3 rfl (.cons 3 rfl (.cons 2 rfl .nil)))) ⟨rfl, _, rfl⟩ | exact VRet.mk _ (.cons 3 rfl (.cons 3 rfl (.cons 3 rfl (.cons 2 rfl .nil)))) ⟨congrArg (fun n => AOut.ret (.int .i64 n)) e0.symm, _, rfl⟩ | trace_state)
      · rw [if_neg (fun h => e0 h.1)]
        have e1 := e0
        have e2 := e0
        refine VDraw.chain [7, 8, 9, 10, 11, 12, 13] (go ?_)
        repeat' ((conv => whnf); first | refine VAnd.mk ?_ ?_ | refine VGd.mk rfl ?_ | refine VGd.mk (by decide) ?_ | refine VOne.mk rfl ?_ | refine VFz.nil ?_ | refine VFz.nils ?_ | (refine VFz.own 2 _ _ _ rfl ?_ ?_; focus (first | (simp; done) | (rw [flat_len knOf 3 knOf_len]; exact Nat.le_refl _))) | (refine VFz.own 1 _ _ _ rfl ?_ ?_; focus (first | (simp; done) | (rw [flat_len knOf 3 knOf_len]; exact Nat.le_refl _))) | refine VFz.keep ?_ | refine VObj.mk 0 _ rfl ?_ | refine VObj.mk 1 _ rfl ?_ | refine VObj.mk 2 _ rfl ?_ | refine VObj.mk 3 _ rfl ?_ | refine VObj.mk 4 _ rfl ?_ | refine VTake.mk _ rfl rfl ?_ | refine VNth.mk _ rfl ?_ | refine Fn.use hO ?_ | refine Fn.use hO2 ?_ | refine VIf.tt ?_ | refine VIf.ff ?_ | (refine VIf.yes ?_ ?_; focus (first | exact e2 | (simp [e0, e1]; done) | (simp [e0]; done) | (simpa using e1))) | (refine VIf.no ?_ ?_; focus (first | exact e2 | (simp [e0, e1]; done) | (simp [e0]; done) | (simpa using e1))) | (refine VAll.mk fun _ => ?_))
        all_goals (conv => whnf)
        all_goals (first | exact VRet.mk _ (.cons 3 rfl (.cons 3 rfl (.cons 3 rfl (.cons 2 rfl .nil)))) ⟨rfl, _, rfl⟩ | exact VRet.mk _ (.cons 3 rfl (.cons 3 rfl (.cons 3 rfl (.cons 2 rfl .nil)))) ⟨congrArg (fun n => AOut.ret (.int .i64 n)) e0.symm, _, rfl⟩ | trace_state)
end Go.Proofs.YtonkeklageehbaaGreatDoor

namespace Go.Proofs.YtonkeklageehbaaGreatDoor
open Go Go.Av
def wordOk (m : List (Txt × List Txt)) (ws : List WordT) (k : Nat) (w : WordT) : Bool :=
  (getA m w.vocab).isSome && (nmR w.name && !isPrim w.name) && bodyR w && (k == 0 || !(Op.bytesLess w.name ((ws.map (·.name)).getD (k - 1) []) || decide (w.name = (ws.map (·.name)).getD (k - 1) [])))
def wordsOk (m : List (Txt × List Txt)) (ws : List WordT) : Bool := (List.range ws.length).all fun i => match ws[i]? with
  | some v => wordOk m ws i v
  | none => true
noncomputable def fitsAll (m : List (Txt × List Txt)) (ws : List WordT) : Bool := ws.all fun w => decide (fitsD m ws w = 0)
noncomputable def dictOk (d : DictT) : Bool := vocabsR d && decide (d.words.length ≤ 512) && wordsOk (usesN d.vocs) d.words && fitsAll (usesN d.vocs) d.words
theorem words_false {ws : List WordT} {m : List (Txt × List Txt)} {i : Nat} {v : WordT} (h : ws[i]? = some v) (hc : wordOk m ws i v = false) : wordsOk m ws = false := by
  unfold wordsOk
  rw [List.all_eq_false]
  refine ⟨i, List.mem_range.2 (List.getElem?_eq_some_iff.1 h).1, ?_⟩
  rw [h]; simp [hc]
theorem words_true {ws : List WordT} {m : List (Txt × List Txt)} (h : ∀ i v, ws[i]? = some v → wordOk m ws i v = true) : wordsOk m ws = true := by
  unfold wordsOk
  rw [List.all_eq_true]
  intro i hi
  cases hc : ws[i]? with
  | none => rfl
  | some c => exact h i c hc
structure WordIn (w : WordT) : Prop where
  name : w.name.length ≤ 140737488351232
  clean : (Tree.quot w.body).clean = true
  nms : (Tree.quot w.body).nmS = true
set_option maxHeartbeats 4000000 in
theorem f_dCheck (d : DictT) (hv : d.vocs.length ≤ 4000000000000) (hu : ∀ v ∈ d.vocs, v.uses.length ≤ 1000000000000000) (hn : ∀ v ∈ d.vocs, v.name.length ≤ 140737488351232) (hwi : ∀ w ∈ d.words, WordIn w) :
    ACalls Tryz.prog 24 [.agg (dictC d)] [] fun out st' => out = .ret (.int .i64 (if dictOk d = true then 0 else 1)) ∧ st' = [] := by
  have fv := f_vocabs d hv hu hn
  have fl := f_look d hv
  have hsh := uses_short (d := d)
  unfold dictOk
  generalize vocabsR d = vr at fv hsh ⊢
  obtain ⟨vs, ws⟩ := d
  dsimp only at fv fl hv hu hn hsh hwi ⊢
  have hdc : dictC ⟨vs, ws⟩ = [.fz (vs.flatMap vocC) vs.length false, .fz (ws.flatMap wordC) ws.length false] := rfl
  rw [hdc] at fv fl ⊢
  generalize usesN vs = m at fl hsh ⊢
  cases vr with
  | false =>
    refine ACalls.of_W tb_ok (fn := Tryz.f24) (n := 85) (by kernel_rfl) rfl (by kernel_rfl) rfl rfl (by simp) (go ?_)
    refine VAll.mk (fun b1 => go ?_)
    refine ACalls.usep (R := [(b1, .box [.fz (vs.flatMap vocC) vs.length false, .fz (ws.flatMap wordC) ws.length false])]) fv (by exact List.Perm.refl _) ?_
    rintro out s' ⟨rfl, rfl⟩
    refine go ?_
    refine VRet.mk [] .nil ?_
    exact ⟨rfl, rfl⟩
  | true =>
    have hm := hsh rfl
    rw [Bool.true_and]
    refine ACalls.of_W tb_ok (fn := Tryz.f24) (n := 85) (by kernel_rfl) rfl (by kernel_rfl) rfl rfl (by simp) (go ?_)
    refine VAll.mk (fun b1 => go ?_)
    refine ACalls.usep (R := [(b1, .box [.fz (vs.flatMap vocC) vs.length false, .fz (ws.flatMap wordC) ws.length false])]) fv (by exact List.Perm.refl _) ?_
    rintro out s' ⟨rfl, rfl⟩
    refine go ?_
    refine fork (fun hbig => go ?_) (fun hbig => go ?_)
    · refine VRet.mk [] .nil ?_
      rw [decide_eq_false (by omega)]
      exact ⟨rfl, rfl⟩
    have h512 : ws.length ≤ 512 := by omega
    rw [decide_eq_true h512, Bool.true_and]
    refine ACalls.usep (R := [(b1, .box [.fz (vs.flatMap vocC) vs.length false, .fz (ws.flatMap wordC) ws.length false])]) (fl (by omega)) (by exact List.Perm.refl _) ?_
    rintro out s' ⟨bk, bu, bw, o, rfl, ho, rfl⟩
    generalize hk0 : (AV.fz (vs.flatMap vocC) vs.length false) = k0
    refine go ?_
    refine VLoop.mk [24] Nat (fun k => [.int .i64 k]) (fun _ => (b1, .box [k0, .fz (ws.flatMap wordC) ws.length false]) :: (KS bk bu bw k0 (.fz (ws.flatMap wordC) ws.length false) (lkV o ws.length) m (wordsN ws) ++ lkS o ws 0)) (fun k => k ≤ ws.length ∧ ∀ i v, i < k → ws[i]? = some v → wordOk m ws i v = true) (fun k => ws.length - k) 0 ?_ ?_
    · exact ⟨⟨Nat.zero_le _, fun i v h => absurd h (Nat.not_lt_zero _)⟩, rfl, VSel.refl _⟩
    rintro k ⟨hk, hI⟩
    dsimp only at hk hI ⊢
    refine go ?_
    refine fork (fun hlt => go ?_) (fun hlt => go ?_)
    · have hlt : k < ws.length := by omega
      obtain ⟨x, hx⟩ : ∃ x, ws[k]? = some x := ⟨ws[k], by simp [hlt]⟩
      have hin := hwi x (List.mem_of_getElem? hx)
      have hN := f_dCallable x.name (by have := hin.name; omega)
      have hB := f_dBody x hin.clean hin.nms
      have hd := flat_drop wordC 5 wordC_len hx
      have hbad : wordOk m ws k x = false → wordsOk m ws = false := words_false hx
      have hgood : wordOk m ws k x = true → k + 1 ≤ ws.length ∧ ∀ i v, i < k + 1 → ws[i]? = some v → wordOk m ws i v = true := by
        intro h
        refine ⟨by omega, fun i c hi hic => ?_⟩
        by_cases e : i = k
        · subst e; rw [hx] at hic; cases hic; exact h
        · exact hI i c (by omega) hic
      unfold wordOk at hbad hgood
      have d0 : (List.drop (mulN k 5) (ws.flatMap wordC)).take 5 = wordC x := by rw [hd]; rfl
      refine VTake.mk _ d0 rfl (go ?_)
      refine VAll.mk (fun b5 => go ?_)
      rcases find_get (m := m) x.vocab with ⟨us, q, g1, g2⟩ | ⟨g1, g2⟩
      · rw [g1] at hbad hgood
        refine VQ.mk (.tup [usV us, .bool true]) (by refine go ?_; refine VMap.mk _ g2 (go ?_); exact ⟨rfl, rfl⟩) (go ?_)
        cases hcl : (nmR x.name && !isPrim x.name) with
        | false =>
          rw [hcl] at hN hbad
          refine VQ.mk (.bool false) (by refine go ?_; refine Fn.use hN (go ?_); exact ⟨rfl, rfl⟩) (go ?_)
          refine VRet.mk [] .nil ?_
          rw [hbad (by simp), Bool.false_and]
          exact ⟨rfl, rfl⟩
        | true =>
          rw [hcl] at hN hbad hgood
          refine VQ.mk (.bool true) (by refine go ?_; refine Fn.use hN (go ?_); exact ⟨rfl, rfl⟩) (go ?_)
          cases hbd : bodyR x with
          | false =>
            rw [hbd] at hB hbad
            refine VQ.mk (.bool false) (by refine go ?_; refine Fn.use hB (go ?_); exact ⟨rfl, rfl⟩) (go ?_)
            refine VRet.mk [] .nil ?_
            rw [hbad (by simp), Bool.false_and]
            exact ⟨rfl, rfl⟩
          | true =>
            rw [hbd] at hB hbad hgood
            refine VQ.mk (.bool true) (by refine go ?_; refine Fn.use hB (go ?_); exact ⟨rfl, rfl⟩) (go ?_)
            cases hkz : decide (0 < k) with
            | false =>
              have hkz : k = 0 := by simpa using hkz
              subst hkz
              refine VIf.no (by simp) (go ?_)
              exact ⟨0 + 1, hgood (by simp), by omega, rfl, VSel.skip1 _ _⟩
            | true =>
              have hkz : 0 < k := by simpa using hkz
              obtain ⟨y, hy⟩ : ∃ y, ws[k - 1]? = some y := ⟨_, List.getElem?_eq_getElem (show k - 1 < ws.length by omega)⟩
              have hg : (ws.map (·.name)).getD (k - 1) [] = y.name := by rw [List.getD_eq_getElem?_getD, List.getElem?_map, hy]; rfl
              rw [hg] at hbad hgood
              have hyd := flat_drop wordC 5 wordC_len hy
              have e1 : (List.drop 0 (List.drop 1 (List.drop (mulN (k - 1) 5) (ws.flatMap wordC))))[0]? = some (.str y.name) := by rw [List.drop_zero, hyd]; rfl
              have hkb : (k == 0) = false := by simp; omega
              rw [hkb] at hbad hgood
              refine VIf.yes (by simp; omega) (go ?_)
              refine VQ.mk (.fzp (List.drop (mulN (k - 1) 5) (ws.flatMap wordC))) (by refine go ?_; exact VIdx.at (k - 1) (by omega) (by omega) ⟨rfl, rfl⟩) (go ?_)
              refine VQ.mk (.str y.name) (by refine go ?_; refine VNth.mk _ e1 (go ?_); exact ⟨rfl, rfl⟩) (go ?_)
              cases hlt2 : (Op.bytesLess x.name y.name || decide (x.name = y.name)) with
              | true =>
                refine VIf.yes rfl (go ?_)
                refine VRet.mk [] .nil ?_
                rw [hbad (by rw [hlt2]; simp), Bool.false_and]
                exact ⟨rfl, rfl⟩
              | false =>
                refine VIf.no rfl (go ?_)
                exact ⟨k + 1, hgood (by rw [hlt2]; rfl), by omega, rfl, VSel.skip1 _ _⟩
      · rw [g1] at hbad
        refine VQ.mk (.tup [.nils, .bool false]) (by refine go ?_; refine VMap.mk _ g2 (go ?_); exact ⟨rfl, rfl⟩) (go ?_)
        refine VRet.mk [] .nil ?_
        rw [hbad rfl, Bool.false_and]
        exact ⟨rfl, rfl⟩
    · have : k = ws.length := by omega
      subst this
      have hs : wordsOk m ws = true := words_true fun i c h => hI i c (List.getElem?_eq_some_iff.1 h).1 h
      rw [hs, Bool.true_and]
      refine VLoop.mk [76] (Nat × Nat) (fun i => [.int .i64 i.1]) (fun i => (b1, .box [k0, .fz (ws.flatMap wordC) ws.length false]) :: (KS bk bu bw k0 (.fz (ws.flatMap wordC) ws.length false) (lkV o ws.length) m (wordsN ws) ++ lkS o ws i.2)) (fun i => i.1 ≤ ws.length ∧ ∀ j v, j < i.1 → ws[j]? = some v → fitsD m ws v = 0) (fun i => ws.length - i.1) (0, 0) ?_ ?_
      · exact ⟨⟨Nat.zero_le _, fun i v h => absurd h (Nat.not_lt_zero _)⟩, rfl, VSel.refl _⟩
      rintro ⟨k, z⟩ ⟨hk, hJ⟩
      dsimp only at hk hJ ⊢
      refine go ?_
      refine fork (fun hlt => go ?_) (fun hlt => go ?_)
      · have hlt : k < ws.length := by omega
        obtain ⟨x, hx⟩ : ∃ x, ws[k]? = some x := ⟨ws[k], by simp [hlt]⟩
        have hin := hwi x (List.mem_of_getElem? hx)
        have hd := flat_drop wordC 5 wordC_len hx
        have d0 : (List.drop (mulN k 5) (ws.flatMap wordC)).take 5 = wordC x := by rw [hd]; rfl
        have hF := f_dFits bk bu bw k0 (.fz (ws.flatMap wordC) ws.length false) m hm ws (by omega) o ho z x hin.clean hin.nms
        refine VTake.mk _ d0 rfl (go ?_)
        refine VAll.mk (fun b9 => go ?_)
        refine ACalls.usep (R := [(b9, .box (wordC x)), (b1, .box [k0, .fz (ws.flatMap wordC) ws.length false])]) hF (by exact List.perm_append_comm) ?_
        rintro out s' ⟨rfl, z', rfl⟩
        refine go ?_
        refine fork (fun hne => go ?_) (fun hne => go ?_)
        · refine VRet.mk [] .nil ?_
          have : fitsAll m ws = false := by
            unfold fitsAll
            rw [List.all_eq_false]
            exact ⟨x, List.mem_of_getElem? hx, by simpa using hne⟩
          rw [this]
          exact ⟨rfl, rfl⟩
        · refine ⟨(k + 1, z'), ⟨by dsimp only; omega, ?_⟩, by dsimp only; omega, rfl, VSel.skip1 _ _⟩
          intro j v hj hv2
          by_cases e : j = k
          · subst e; rw [hx] at hv2; cases hv2; simpa using hne
          · exact hJ j v (by dsimp only at hj; omega) hv2
      · have : k = ws.length := by omega
        subst this
        refine VRet.mk [] .nil ?_
        have : fitsAll m ws = true := by
          unfold fitsAll
          rw [List.all_eq_true]
          intro w hw
          obtain ⟨i, hi, hiw⟩ := List.mem_iff_getElem.1 hw
          rw [hJ i w hi (by rw [List.getElem?_eq_getElem hi, hiw])]
          rfl
        rw [this]
        exact ⟨rfl, rfl⟩
end Go.Proofs.YtonkeklageehbaaGreatDoor

namespace Go.Proofs.YtonkeklageehbaaGreatDoor
open Go Go.Av
end Go.Proofs.YtonkeklageehbaaGreatDoor

namespace Go.Proofs.YtonkeklageehbaaGreatDoor
open Go Go.Av
def linkBack (codes : List CodeT) (ops : List OpT) : List Tree × Int :=
  if soundC codes = true then match backL codes ops with
    | some l => if backOk l = true then (l, 0) else ([], 1)
    | none => ([], 1)
  else ([], 1)
theorem backL_in {codes : List CodeT} (hc : ∀ c ∈ codes, CodeIn c) : ∀ {l : List OpT} {r : List Tree}, (∀ o ∈ l, OpIn o) → backL codes l = some r → r.length = l.length ∧ cleanAll r = true ∧ nmSAll r = true
  | [], r, _, h => by cases h; exact ⟨rfl, rfl, rfl⟩
  | x :: l, r, hl, h => by
    rw [backL] at h
    cases hx : backO codes x with
    | none => rw [hx] at h; cases h
    | some t =>
      rw [hx] at h
      dsimp only at h
      cases hb : backL codes l with
      | none => rw [hb] at h; cases h
      | some q =>
        rw [hb] at h
        obtain rfl : t :: q = r := Option.some.inj h
        obtain ⟨h1, h2, h3⟩ := backL_in hc (fun o ho => hl o (List.mem_cons_of_mem _ ho)) hb
        obtain ⟨g1, g2⟩ := backO_in hc (hl x (List.mem_cons_self ..)) hx
        exact ⟨by simp [h1], by simp [cleanAll, g1, h2], by simp [nmSAll, g2, h3]⟩
theorem f_lBack {codes : List CodeT} {ops : List OpT} (hcl : codes.length ≤ 1048576) (hcs : ∀ c ∈ codes, CodeIn c) (hol : ops.length ≤ 1048576) (hos : ∀ o ∈ ops, OpIn o) :
    Av.Fn Tryz.prog 22 [.fz (codesC codes) codes.length false, .fz (opsC ops) ops.length false] (.tup [.fz (itemAVs (linkBack codes ops).1) (linkBack codes ops).1.length false, .int .i64 (linkBack codes ops).2]) := by
  have hA := f_Check codes hcl hcs
  have hR := f_back codes ops hcl hol hcs hos
  have hI := fun r => backL_in (codes := codes) (l := ops) (r := r) hcs hos
  unfold linkBack
  cases hq : soundC codes with
  | false =>
    rw [hq, if_neg (by simp)] at hA
    refine ACalls.of_W tb_ok (fn := Tryz.f22) (n := 24) (by kernel_rfl) rfl (by kernel_rfl) rfl rfl (by simp) (go ?_)
    refine Fn.use (hA) (go ?_)
    refine VRet.mk [] .nil ?_
    exact ⟨rfl, rfl⟩
  | true =>
  rw [hq, if_pos (by simp)] at hA
  rw [if_pos rfl]
  cases ho : backL codes ops with
  | none =>
    rw [ho] at hR
    unfold backV at hR
    dsimp only at hR
    refine ACalls.of_W tb_ok (fn := Tryz.f22) (n := 24) (by kernel_rfl) rfl (by kernel_rfl) rfl rfl (by simp) (go ?_)
    refine Fn.use (hA) (go ?_)
    refine Fn.use (hR) (go ?_)
    refine VRet.mk [] .nil ?_
    exact ⟨rfl, rfl⟩
  | some l =>
    rw [ho] at hR
    unfold backV at hR
    obtain ⟨i1, i2, _⟩ := hI l ho
    have hC := f_CloneItems i2 (by omega)
    dsimp only at hR ⊢
    generalize backOk l = z at hR ⊢
    cases z with
    | false =>
      refine ACalls.of_W tb_ok (fn := Tryz.f22) (n := 24) (by kernel_rfl) rfl (by kernel_rfl) rfl rfl (by simp) (go ?_)
      refine Fn.use (hA) (go ?_)
      refine Fn.use (hR) (go ?_)
      refine VRet.mk [] .nil ?_
      exact ⟨rfl, rfl⟩
    | true =>
      refine ACalls.of_W tb_ok (fn := Tryz.f22) (n := 24) (by kernel_rfl) rfl (by kernel_rfl) rfl rfl (by simp) (go ?_)
      refine Fn.use (hA) (go ?_)
      refine Fn.use (hR) (go ?_)
      refine Fn.use (hC) (go ?_)
      refine VRet.mk [] .nil ?_
      exact ⟨rfl, rfl⟩
end Go.Proofs.YtonkeklageehbaaGreatDoor

namespace Go.Proofs.YtonkeklageehbaaGreatDoor
open Go Go.Av
section
variable {H : Type} {enc : TypeId × Value → H} {W : World}
end
end Go.Proofs.YtonkeklageehbaaGreatDoor

namespace Go.Proofs.YtonkeklageehbaaGreatDoor
open Go Go.Av
end Go.Proofs.YtonkeklageehbaaGreatDoor

namespace Go.Proofs.YtonkeklageehbaaGreatDoor
open Go Go.Av
theorem dup_ops : linkOps [] [.call [100, 117, 112]] = ([⟨2, 0, .none⟩], 0) := by
  have h1 : (soundC [] && (checkR [.call [100, 117, 112]] && bareTs [.call [100, 117, 112]])) = true := by decide +kernel
  unfold linkOps
  rw [if_pos h1]
  have h2 : placeL namesL [100, 117, 112] 0 = some 0 := by decide +kernel
  have h3 : opOf (([] : List CodeT).map (·.name)) (.call [100, 117, 112]) = some ⟨2, 0, .none⟩ := by
    unfold opOf
    dsimp only
    rw [h2]; rfl
  rw [opsOf, h3, opsOf]
  rfl
theorem f_awake18 : Av.Fn Tryz.prog 6 [] (.bool true) := by
  have hP := f_lOps (codes := []) (l := [.call [100, 117, 112]]) (by simp) (fun c h => by cases h) (by decide) (by decide)
  rw [dup_ops] at hP
  have hP : Av.Fn Tryz.prog 15 [.fz [] 0 false, .fz [.iface 79 (.agg [.str [100, 117, 112]])] 1 false] (.tup [.fz [.int .i64 2, .int .i64 0, .nili] 1 false, .int .i64 0]) := hP
  refine ACalls.of_W tb_ok (fn := Tryz.f6) (n := 24) (by kernel_rfl) rfl (by kernel_rfl) rfl rfl (by simp) (go ?_)
  refine Fn.use (hP) (go ?_)
  refine VRet.mk [] .nil ?_
  exact ⟨rfl, rfl⟩
end Go.Proofs.YtonkeklageehbaaGreatDoor

namespace Go.Proofs.YtonkeklageehbaaGreatDoor
open Go Go.Av
theorem check_full {l : List Tree} (h : checkR l = true) : fullAll true l = true := by
  have := meas_full false (.quot l) 1024 0 h
  rwa [Tree.full] at this
theorem opsOf_in {names : List (List UInt8)} : ∀ {l : List Tree} {r : List OpT}, cleanAll l = true → fullAll true l = true → opsOf names l = some r → r.length = l.length ∧ ∀ o ∈ r, o.v.clean = true ∧ valish o.v = true
  | [], r, _, _, h => by cases h; exact ⟨rfl, fun o ho => by cases ho⟩
  | t :: l, r, hc, hf, h => by
    simp only [cleanAll, Bool.and_eq_true] at hc
    simp only [fullAll, Bool.and_eq_true] at hf
    rw [opsOf] at h
    cases hx : opOf names t with
    | none => rw [hx] at h; cases h
    | some o =>
      rw [hx] at h
      dsimp only at h
      cases hb : opsOf names l with
      | none => rw [hb] at h; cases h
      | some q =>
        rw [hb] at h
        obtain rfl : o :: q = r := Option.some.inj h
        obtain ⟨h1, h2⟩ := opsOf_in hc.2 hf.2 hb
        refine ⟨by simp [h1], fun p hp => ?_⟩
        rcases List.mem_cons.1 hp with rfl | hp
        · cases hct : t.isCall with
          | true =>
            obtain ⟨s, rfl⟩ : ∃ s, t = .call s := by cases t <;> first | exact ⟨_, rfl⟩ | (cases hct; done)
            have e2 : opOf names (.call s) = match placeL namesL s 0 with
              | some j => some ⟨2, (j : Int), .none⟩
              | none => (placeL names s 0).map fun (j : Nat) => ⟨3, (j : Int), .none⟩ := rfl
            rw [e2] at hx
            cases h3 : placeL namesL s 0 with
            | some j => rw [h3] at hx; cases hx; exact ⟨rfl, rfl⟩
            | none =>
              rw [h3] at hx
              cases h4 : placeL names s 0 with
              | some j => rw [h4] at hx; cases hx; exact ⟨rfl, rfl⟩
              | none => rw [h4] at hx; cases hx
          | false =>
            have e2 : opOf names t = some ⟨1, 0, t⟩ := by cases t <;> first | rfl | (cases hct; done)
            rw [e2] at hx
            cases hx
            exact ⟨hc.1, by cases t <;> first | rfl | (cases hct; done) | (cases hf.1; done)⟩
        · exact h2 p hp
theorem all2_refl {α : Type} {f : α → α → Bool} (h : ∀ x, f x x = true) : ∀ l : List α, all2 f l l = true
  | [] => rfl
  | x :: l => by rw [all2, h x, all2_refl h l]; rfl
end Go.Proofs.YtonkeklageehbaaGreatDoor

namespace Go.Proofs.YtonkeklageehbaaGreatDoor
open Go Go.Av
structure DictOk (ws : List WordT) : Prop where
  len : ws.length ≤ 512
  name : ∀ w ∈ ws, nmR w.name = true ∧ isPrim w.name = false
  check : ∀ w ∈ ws, checkR w.body = true ∧ bareTs w.body = true
  up : ∀ i n m, (ws.map (·.name))[i]? = some n → (ws.map (·.name))[i + 1]? = some m → Op.bytesLess n m = true
  calls : ∀ w ∈ ws, ∀ s, s ∈ callsIs w.body → isPrim s = true ∨ s ∈ ws.map (·.name)
theorem words_get {s : Txt} {x : WordT} : ∀ (l : List WordT) (m : List (Txt × WordT)), getA (l.foldl (fun m w => putA m w.name w) m) s = some x → (x ∈ l ∧ x.name = s) ∨ getA m s = some x
  | [], m, h => .inr h
  | w :: l, m, h => by
    rcases words_get l _ h with ⟨h1, h2⟩ | h
    · exact .inl ⟨List.mem_cons_of_mem _ h1, h2⟩
    · rw [getA_put] at h
      split at h
      · rename_i e
        cases h
        exact .inl ⟨List.mem_cons_self .., e.symm⟩
      · exact .inr h
theorem sees_calls {m : List (Txt × List Txt)} {ws : List (Txt × WordT)} {w : WordT} : ∀ (l : List Txt) (ok : Bool), l.foldl (seesStep m ws w) ok = true → ok = true ∧ ∀ s ∈ l, isPrim s = true ∨ ∃ x, getA ws s = some x
  | [], ok, h => ⟨h, fun s hs => by cases hs⟩
  | t :: l, ok, h => by
    obtain ⟨h1, h2⟩ := sees_calls l _ h
    unfold seesStep at h1
    cases hp : isPrim t with
    | true =>
      rw [hp, if_pos rfl] at h1
      refine ⟨h1, fun s hs => ?_⟩
      rcases List.mem_cons.1 hs with rfl | hs
      · exact .inl hp
      · exact h2 s hs
    | false =>
      rw [hp, if_neg (by simp), Bool.and_eq_true] at h1
      refine ⟨h1.1, fun s hs => ?_⟩
      rcases List.mem_cons.1 hs with rfl | hs
      · have h3 := h1.2
        unfold seesN at h3
        split at h3
        · rename_i x hx; exact .inr ⟨x, hx⟩
        · cases h3
      · exact h2 s hs
theorem dict_ok {d : DictT} (h : dictOk d = true) : DictOk d.words := by
  unfold dictOk at h
  simp only [Bool.and_eq_true, decide_eq_true_eq] at h
  obtain ⟨⟨⟨_, h1⟩, h2⟩, h3⟩ := h
  have hw : ∀ i w, d.words[i]? = some w → wordOk (usesN d.vocs) d.words i w = true := fun i w hi => by
    unfold wordsOk at h2
    rw [List.all_eq_true] at h2
    have := h2 i (List.mem_range.2 (List.getElem?_eq_some_iff.1 hi).1)
    rw [hi] at this
    exact this
  have hw' : ∀ w ∈ d.words, ∃ i, wordOk (usesN d.vocs) d.words i w = true := fun w h => by
    obtain ⟨i, hi⟩ := List.mem_iff_getElem?.1 h
    exact ⟨i, hw i w hi⟩
  refine ⟨h1, fun w h => ?_, fun w h => ?_, fun i n m hn hm => ?_, fun w hwm s hs => ?_⟩
  · obtain ⟨i, hi⟩ := hw' w h
    unfold wordOk at hi
    simp only [Bool.and_eq_true, Bool.not_eq_true'] at hi
    exact hi.1.1.2
  · obtain ⟨i, hi⟩ := hw' w h
    unfold wordOk bodyR at hi
    simp only [Bool.and_eq_true, Bool.not_eq_true'] at hi
    exact hi.1.2.1.1
  · rw [List.getElem?_map] at hm
    cases hc : d.words[i + 1]? with
    | none => rw [hc] at hm; cases hm
    | some c =>
      rw [hc] at hm
      obtain rfl : c.name = m := Option.some.inj hm
      have := hw (i + 1) c hc
      unfold wordOk at this
      rw [Bool.and_eq_true] at this
      have h4 := this.2
      rw [show (d.words.map (·.name)).getD (i + 1 - 1) [] = n by rw [List.getD_eq_getElem?_getD, Nat.add_sub_cancel, hn]; rfl] at h4
      simp only [Bool.or_eq_true, beq_iff_eq, Bool.not_eq_true', Bool.or_eq_false_iff, decide_eq_false_iff_not] at h4
      rcases h4 with h4 | h4
      · omega
      · exact bl_tri h4.1 h4.2
  · unfold fitsAll at h3
    rw [List.all_eq_true] at h3
    have h4 := of_decide_eq_true (h3 w hwm)
    unfold fitsD at h4
    split at h4
    · cases h4
    · rename_i hsr
      have hsr : seesR (usesN d.vocs) (wordsN d.words) w = true := by simpa using hsr
      rcases (sees_calls _ _ hsr).2 s hs with hp | ⟨x, hx⟩
      · exact .inl hp
      · rcases words_get _ _ hx with ⟨h5, h6⟩ | h5
        · exact .inr (List.mem_map.2 ⟨x, h5, h6⟩)
        · cases h5
/-! ### Codes -/
def opD (names : List (List UInt8)) (t : Tree) : OpT := match opOf names t with
  | some o => o
  | none => ⟨3, 0, .none⟩
def codeD (names : List (List UInt8)) (w : WordT) : CodeT := ⟨w.name, w.body.map (opD names)⟩
def linkD (ws : List WordT) : List CodeT := ws.map (codeD (ws.map (·.name)))
theorem linkD_names (ws : List WordT) : (linkD ws).map (·.name) = ws.map (·.name) := by unfold linkD; rw [List.map_map]; rfl
theorem linkD_len (ws : List WordT) : (linkD ws).length = ws.length := by unfold linkD; rw [List.length_map]
theorem place_at {s : List UInt8} : ∀ {l : List (List UInt8)} {i j : Nat}, placeL l s i = some j → ∃ d, j = i + d ∧ l[d]? = some s
  | [], _, _, h => by cases h
  | n :: r, i, j, h => by
    rw [placeL] at h
    split at h
    · rename_i e; cases h; exact ⟨0, rfl, by rw [e]; rfl⟩
    · obtain ⟨d, h1, h2⟩ := place_at h
      exact ⟨d + 1, by omega, by simpa using h2⟩
theorem place_in {s : List UInt8} : ∀ {l : List (List UInt8)} {i : Nat}, s ∈ l → ∃ j, placeL l s i = some j
  | n :: r, i, h => by
    rw [placeL]
    split
    · exact ⟨i, rfl⟩
    · rename_i e
      rcases List.mem_cons.1 h with h | h
      · exact absurd h e
      · exact place_in h
theorem getD_at {s : List UInt8} {l : List (List UInt8)} {d : Nat} (h : l[d]? = some s) : l.getD d [] = s := by rw [List.getD_eq_getElem?_getD, h]; rfl
theorem back_of {codes : List CodeT} {t : Tree} {o : OpT} (hf : t.full true = true) (h : opOf (codes.map (·.name)) t = some o) : backO codes o = some t := by
  cases hc : t.isCall with
  | true =>
    obtain ⟨s, rfl⟩ : ∃ s, t = .call s := by cases t <;> first | exact ⟨_, rfl⟩ | (cases hc; done)
    have e2 : opOf (codes.map (·.name)) (.call s) = match placeL namesL s 0 with
      | some j => some ⟨2, (j : Int), .none⟩
      | none => (placeL (codes.map (·.name)) s 0).map fun (j : Nat) => ⟨3, (j : Int), .none⟩ := rfl
    rw [e2] at h
    cases h1 : placeL namesL s 0 with
    | some j =>
      rw [h1] at h
      cases h
      obtain ⟨d, rfl, h2⟩ := place_at h1
      have hlt : d < 52 := (List.getElem?_eq_some_iff.1 h2).1
      unfold backO
      rw [if_neg (by simp), if_pos ⟨rfl, rfl, by dsimp only; omega, by dsimp only; omega⟩]
      simp only [Nat.zero_add, Int.toNat_natCast]
      rw [getD_at h2]
    | none =>
      rw [h1] at h
      cases h2 : placeL (codes.map (·.name)) s 0 with
      | none => rw [h2] at h; cases h
      | some j =>
        rw [h2] at h
        cases h
        obtain ⟨d, rfl, h3⟩ := place_at h2
        have hlt := (List.getElem?_eq_some_iff.1 h3).1
        rw [List.length_map] at hlt
        unfold backO
        rw [if_neg (by simp), if_neg (by simp), if_pos ⟨rfl, rfl, by dsimp only; omega, by dsimp only; omega⟩]
        simp only [Nat.zero_add, Int.toNat_natCast]
        rw [getD_at h3]
  | false =>
    have e2 : opOf (codes.map (·.name)) t = some ⟨1, 0, t⟩ := by cases t <;> first | rfl | (cases hc; done)
    rw [e2] at h
    cases h
    have e3 : isSome t = true := by cases t <;> first | rfl | (cases hf; done)
    unfold backO
    rw [if_pos ⟨rfl, rfl, e3⟩]
theorem back_ofs {codes : List CodeT} : ∀ {l : List Tree} {ops : List OpT}, fullAll true l = true → opsOf (codes.map (·.name)) l = some ops → backL codes ops = some l
  | [], ops, _, h => by cases h; rfl
  | t :: r, ops, hf, h => by
    simp only [fullAll, Bool.and_eq_true] at hf
    rw [opsOf] at h
    cases h1 : opOf (codes.map (·.name)) t with
    | none => rw [h1] at h; cases h
    | some o =>
      rw [h1] at h
      dsimp only at h
      cases h2 : opsOf (codes.map (·.name)) r with
      | none => rw [h2] at h; cases h
      | some q =>
        rw [h2] at h
        obtain rfl : o :: q = ops := Option.some.inj h
        rw [backL, back_of hf.1 h1, back_ofs hf.2 h2]; rfl
theorem opsOf_D {names : List (List UInt8)} : ∀ {l : List Tree}, (∀ s, s ∈ callsIs l → isPrim s = true ∨ s ∈ names) → opsOf names l = some (l.map (opD names))
  | [], _ => rfl
  | t :: r, h => by
    have h1 : ∃ o, opOf names t = some o := by
      cases hc : t.isCall with
      | true =>
        obtain ⟨s, rfl⟩ : ∃ s, t = .call s := by cases t <;> first | exact ⟨_, rfl⟩ | (cases hc; done)
        have e2 : opOf names (.call s) = match placeL namesL s 0 with
          | some j => some ⟨2, (j : Int), .none⟩
          | none => (placeL names s 0).map fun (j : Nat) => ⟨3, (j : Int), .none⟩ := rfl
        rw [e2]
        rcases h s (by rw [callsIs_cons]; exact List.mem_append_left _ (List.mem_cons_self ..)) with hp | hp
        · obtain ⟨j, hj⟩ := place_in (i := 0) (List.contains_iff_mem.1 hp)
          rw [hj]; exact ⟨_, rfl⟩
        · obtain ⟨j, hj⟩ := place_in (i := 0) hp
          rw [hj]
          cases placeL namesL s 0 with
          | some i => exact ⟨_, rfl⟩
          | none => exact ⟨_, rfl⟩
      | false => exact ⟨⟨1, 0, t⟩, by cases t <;> first | rfl | (cases hc; done)⟩
    obtain ⟨o, ho⟩ := h1
    rw [opsOf, ho, opsOf_D (l := r) (fun s hs => h s (by rw [callsIs_cons]; exact List.mem_append_right _ hs)), List.map_cons]
    have : opD names t = o := by unfold opD; rw [ho]
    rw [this]; rfl
theorem back_word {ws : List WordT} (h : DictOk ws) {w : WordT} (hw : w ∈ ws) : backL (linkD ws) (codeD (ws.map (·.name)) w).ops = some w.body := by
  have h1 := opsOf_D (h.calls w hw)
  refine back_ofs (check_full (h.check w hw).1) ?_
  rw [linkD_names]; exact h1
theorem names_uniq {ws : List WordT} (h : DictOk ws) : ∀ k m, (ws.map (·.name))[k]? = some m → m ∉ (ws.map (·.name)).take k := fun _ _ hm => up_notin h.up hm
theorem link_at {ws : List WordT} {i : Nat} {c : CodeT} (h : (linkD ws)[i]? = some c) : ∃ w, ws[i]? = some w ∧ c = codeD (ws.map (·.name)) w := by
  unfold linkD at h
  rw [List.getElem?_map] at h
  cases hw : ws[i]? with
  | none => rw [hw] at h; cases h
  | some w => rw [hw] at h; exact ⟨w, rfl, (Option.some.inj h).symm⟩
theorem link_sound {ws : List WordT} (h : DictOk ws) : soundC (linkD ws) = true := by
  refine sound_true fun i c hc => ?_
  obtain ⟨w, hw, rfl⟩ := link_at hc
  have hm := List.mem_of_getElem? hw
  rw [codeOk_eq, linkD_names]
  unfold bodyOk
  rw [back_word h hm]
  have h1 := h.name w hm
  have h2 := h.check w hm
  have e1 : (codeD (ws.map (·.name)) w).name = w.name := rfl
  dsimp only
  rw [e1, h1.1, h1.2]
  unfold backOk
  rw [h2.1, h2.2]
  simp only [Bool.not_false, Bool.true_and, Bool.and_true, Bool.or_eq_true, beq_iff_eq, Bool.not_eq_true', Bool.or_eq_false_iff, decide_eq_false_iff_not]
  by_cases hi : i = 0
  · exact .inl hi
  · right
    have hlt : i < ws.length := (List.getElem?_eq_some_iff.1 hw).1
    have e2 : (ws.map (·.name))[i]? = some w.name := by rw [List.getElem?_map, hw]; rfl
    obtain ⟨n, hn⟩ : ∃ n, (ws.map (·.name))[i - 1]? = some n := ⟨_, List.getElem?_eq_getElem (by rw [List.length_map]; omega)⟩
    have h3 := h.up (i - 1) n w.name hn (by rw [show i - 1 + 1 = i by omega]; exact e2)
    rw [getD_at hn]
    constructor
    · cases h4 : Op.bytesLess w.name n with
      | false => rfl
      | true => have := bl_trans h3 h4; rw [bl_irrefl] at this; cases this
    · intro e
      rw [e, bl_irrefl] at h3; cases h3
end Go.Proofs.YtonkeklageehbaaGreatDoor
