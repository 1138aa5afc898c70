/- Effects: how far an inference goes: bounds, and that the measure of its work is enough. Conditions: as each says. Effects: the state of an inference in memory; pop, quot, need, apply. Conditions: as each says. Effects: own, move, control, run. Conditions: as each says. Effects: control. Conditions: as each says. Effects: move. Conditions: as each says. Effects: run. Conditions: as each says. Effects: Of. Conditions: as each says. -/
import Derived.Test.YtonkeklageehbaaGreatDoorX8
set_option linter.all false
set_option maxRecDepth 20000
namespace Go.Proofs.YtonkeklageehbaaGreatDoor
open Go Go.Av
/-- From one state to another: so many more may have been taken, so many more may stand on the list, besides 16 for each item gone through. -/
structure Gr (c d : Nat) (s t : EfS) : Prop where
  left : t.left ≤ s.left
  inn0 : s.inn ≤ t.inn
  inn : t.inn + 16 * t.left ≤ s.inn + 16 * s.left + c
  len : t.stk.length + 16 * t.left ≤ s.stk.length + 16 * s.left + d
theorem Gr.trans {c d c' d' : Nat} {s t u : EfS} (h : Gr c d s t) (k : Gr c' d' t u) : Gr (c + c') (d + d') s u :=
  ⟨by have := h.left; have := k.left; omega, by have := h.inn0; have := k.inn0; omega, by have := h.inn; have := k.inn; omega, by have := h.len; have := k.len; omega⟩
theorem Gr.refl (s : EfS) : Gr 0 0 s s := ⟨Nat.le_refl _, Int.le_refl _, by omega, by omega⟩
theorem Gr.mono {c d c' d' : Nat} {s t : EfS} (h : Gr c d s t) (hc : c ≤ c') (hd : d ≤ d') : Gr c' d' s t := ⟨h.left, h.inn0, by have := h.inn; omega, by have := h.len; omega⟩
theorem popS_left (s : EfS) : (popS s).2.left = s.left := by unfold popS; split <;> rfl
theorem popS_gr (s : EfS) : Gr 1 0 s (popS s).2 := by
  unfold popS
  split
  · exact ⟨Nat.le_refl _, by simp; omega, by simp; omega, by simp_all⟩
  · rename_i x r h
    exact ⟨Nat.le_refl _, Int.le_refl _, by simp; omega, by simp [h]⟩
theorem pushS_gr (s : EfS) (x : Slot) : Gr 0 1 s (pushS s x) := ⟨Nat.le_refl _, Int.le_refl _, by simp [pushS], by simp [pushS]; omega⟩
theorem popsS_gr : ∀ (n : Nat) (s : EfS), Gr n 0 s (popsS n s).2 ∧ (popsS n s).2.left = s.left ∧ (popsS n s).1.length = n
  | 0, s => ⟨.refl s, rfl, rfl⟩
  | n + 1, s => by
    obtain ⟨h1, h2, h3⟩ := popsS_gr n (popS s).2
    refine ⟨((popS_gr s).trans h1).mono (by omega) (by omega), ?_, ?_⟩
    · show (popsS n (popS s).2).2.left = _
      rw [h2, popS_left]
    · show ((popsS n (popS s).2).1 ++ [(popS s).1]).length = _
      simp [h3]
theorem applyS_left (i o : Nat) (s : EfS) : (applyS i o s).left = s.left := (popsS_gr i s).2.1
theorem applyS_gr (i o : Nat) (s : EfS) : Gr i o s (applyS i o s) := by
  obtain ⟨⟨h1, h2, h3, h4⟩, h5, _⟩ := popsS_gr i s
  refine ⟨h1, h2, h3, ?_⟩
  show (List.replicate o none ++ (popsS i s).2.stk).length + _ ≤ _
  rw [List.length_append, List.length_replicate]
  show _ + 16 * (popsS i s).2.left ≤ _
  omega
theorem quotS_gr {s t : EfS} {q : List Tree} (h : quotS s = .ok (q, t)) : Gr 1 0 s t ∧ t.left = s.left := by
  unfold quotS at h
  have h1 := popS_gr s
  have h2 := popS_left s
  split at h
  · rename_i l u hp
    rw [hp] at h1 h2
    cases h; exact ⟨h1, h2⟩
  · cases h
theorem movesS_gr (n : Nat) (ks : List Nat) (s : EfS) : Gr n ks.length s (movesS n ks s) := by
  unfold movesS
  obtain ⟨h1, _, _⟩ := popsS_gr n s
  have key : ∀ (l : List Slot) (ks : List Nat) (t : EfS), Gr 0 ks.length t (ks.foldl (fun t k => pushS t (l.getD k none)) t) := by
    intro l ks
    induction ks with
    | nil => exact fun t => .refl t
    | cons k ks ih => exact fun t => ((pushS_gr t _).trans (ih _)).mono (by omega) (by simp; omega)
  exact (h1.trans (key _ _ _)).mono (by omega) (by omega)
theorem movesS_left (n : Nat) (ks : List Nat) (s : EfS) : (movesS n ks s).left = s.left := by
  unfold movesS
  rw [← (popsS_gr n s).2.1]
  generalize (popsS n s).2 = t
  generalize (popsS n s).1 = l
  induction ks generalizing t with
  | nil => rfl
  | cons k ks ih => rw [List.foldl_cons, ih]; rfl
section
variable {run : List Tree → EfS → Except Int EfS} {known : List UInt8 → Option (Int × Int)}
theorem ownS_gr (hr : ∀ q s t, run q s = .ok t → Gr 0 0 s t) {q : List Tree} {s t : EfS} {i o : Int} (h : ownS run q s = .ok (i, o, t)) :
    0 ≤ i ∧ 0 ≤ o ∧ i + 16 * t.left ≤ 16 * s.left ∧ o + 16 * t.left ≤ 16 * s.left ∧ t.left ≤ s.left ∧ t = { s with left := t.left } := by
  unfold ownS at h
  split at h
  · rename_i u hu
    obtain ⟨h1, h2, h3, h4⟩ := hr _ _ _ hu
    cases h
    refine ⟨h2, by omega, by simpa using h3, ?_, h1, rfl⟩
    simp at h4 ⊢; omega
  · cases h
theorem ownS_gr' {s t : EfS} (h : t.left ≤ s.left ∧ t = { s with left := t.left }) : Gr 0 0 s t := by
  obtain ⟨h1, h2⟩ := h
  have e1 : t.inn = s.inn := by rw [h2]
  have e2 : t.stk = s.stk := by rw [h2]
  exact ⟨h1, by omega, by omega, by rw [e2]; omega⟩
theorem controlS_gr (hr : ∀ q s t, run q s = .ok t → Gr 0 0 s t) {name : List UInt8} {s t : EfS} (h : controlS run name s = some (.ok t)) : Gr 16 16 s t := by
  unfold controlS at h
  split at h
  · -- call
    simp only [Option.some.injEq] at h
    split at h
    · cases h
    · rename_i q u hq
      exact ((quotS_gr hq).1.trans (hr _ _ _ h)).mono (by omega) (by omega)
  split at h
  · -- dip
    simp only [Option.some.injEq] at h
    split at h
    · cases h
    · rename_i q u hq
      split at h
      · cases h
      · rename_i v hv
        cases h
        exact ((((quotS_gr hq).1.trans (popS_gr u)).trans (hr _ _ _ hv)).trans (pushS_gr v _)).mono (by omega) (by omega)
  split at h
  · -- keep
    simp only [Option.some.injEq] at h
    split at h
    · cases h
    · rename_i q u hq
      split at h
      · cases h
      · rename_i v hv
        cases h
        exact (((((quotS_gr hq).1.trans (popS_gr u)).trans (pushS_gr _ _)).trans (hr _ _ _ hv)).trans (pushS_gr v _)).mono (by omega) (by omega)
  split at h
  · -- if
    simp only [Option.some.injEq] at h
    split at h
    · cases h
    · rename_i b u hq
      split at h
      · cases h
      · rename_i a v hq2
        split at h
        · cases h
        · rename_i ai ao w ha
          split at h
          · cases h
          · rename_i bi bo x hb
            split at h
            · rename_i he
              cases h
              obtain ⟨a1, a2, a3, a4, a5, a6⟩ := ownS_gr hr ha
              obtain ⟨b1, b2, b3, b4, b5, b6⟩ := ownS_gr hr hb
              have g1 := (((quotS_gr hq).1.trans (quotS_gr hq2).1).trans (popS_gr v)).trans ((ownS_gr' ⟨a5, a6⟩).trans (ownS_gr' ⟨b5, b6⟩))
              have e1 : x.inn = (popS v).2.inn := by rw [b6, a6]
              have e2 : x.stk = (popS v).2.stk := by rw [b6, a6]
              have g0 := ((quotS_gr hq).1.trans (quotS_gr hq2).1).trans (popS_gr v)
              have g2 := applyS_gr (max ai bi).toNat (max ai bi + ao - ai).toNat x
              have l2 := applyS_left (max ai bi).toNat (max ai bi + ao - ai).toNat x
              have h1 : ((max ai bi).toNat : Int) = max ai bi := by omega
              have h2 : ((max ai bi + ao - ai).toNat : Int) = max ai bi + ao - ai := by omega
              obtain ⟨q1, q2, q3, q4⟩ := g0
              obtain ⟨p1, p2, p3, p4⟩ := g2
              rw [e1] at p2 p3
              rw [e2] at p4
              exact ⟨by omega, by omega, by omega, by omega⟩
            · cases h
  split at h
  · -- when, times
    simp only [Option.some.injEq] at h
    split at h
    · cases h
    · rename_i q u hq
      split at h
      · cases h
      · rename_i ai ao w ha
        split at h
        · rename_i he
          cases h
          obtain ⟨a1, a2, a3, a4, a5, a6⟩ := ownS_gr hr ha
          have e1 : w.inn = (popS u).2.inn := by rw [a6]
          have e2 : w.stk = (popS u).2.stk := by rw [a6]
          obtain ⟨q1, q2, q3, q4⟩ := (quotS_gr hq).1.trans (popS_gr u)
          obtain ⟨p1, p2, p3, p4⟩ := applyS_gr ai.toNat ao.toNat w
          have l2 := applyS_left ai.toNat ao.toNat w
          rw [e1] at p2 p3
          rw [e2] at p4
          exact ⟨by omega, by omega, by omega, by omega⟩
        · cases h
  split at h
  · -- loop
    simp only [Option.some.injEq] at h
    split at h
    · cases h
    · rename_i q u hq
      split at h
      · cases h
      · rename_i ai ao w ha
        split at h
        · rename_i he
          cases h
          obtain ⟨a1, a2, a3, a4, a5, a6⟩ := ownS_gr hr ha
          have e1 : w.inn = u.inn := by rw [a6]
          have e2 : w.stk = u.stk := by rw [a6]
          obtain ⟨q1, q2, q3, q4⟩ := (quotS_gr hq).1
          obtain ⟨p1, p2, p3, p4⟩ := applyS_gr ai.toNat ai.toNat w
          have l2 := applyS_left ai.toNat ai.toNat w
          rw [e1] at p2 p3
          rw [e2] at p4
          exact ⟨by omega, by omega, by omega, by omega⟩
        · cases h
  split at h
  · -- each
    simp only [Option.some.injEq] at h
    split at h
    · cases h
    · rename_i q u hq
      split at h
      · cases h
      · rename_i ai ao w ha
        split at h
        · rename_i he
          cases h
          obtain ⟨a1, a2, a3, a4, a5, a6⟩ := ownS_gr hr ha
          have e1 : w.inn = (popS u).2.inn := by rw [a6]
          have e2 : w.stk = (popS u).2.stk := by rw [a6]
          obtain ⟨q1, q2, q3, q4⟩ := (quotS_gr hq).1.trans (popS_gr u)
          obtain ⟨p1, p2, p3, p4⟩ := applyS_gr ao.toNat ao.toNat w
          have l2 := applyS_left ao.toNat ao.toNat w
          rw [e1] at p2 p3
          rw [e2] at p4
          exact ⟨by omega, by omega, by omega, by omega⟩
        · cases h
  · cases h
theorem primR_le {name : List UInt8} {i o : Nat} (h : primR name = some (i, o)) : i ≤ 3 ∧ o ≤ 3 := by
  unfold primR at h
  cases hf : primsL.find? fun p => p.eff.isSome && decide (p.name = name) with
  | none => rw [hf] at h; cases h
  | some p =>
    rw [hf] at h
    have hm := List.mem_of_find?_eq_some hf
    have key : ∀ p ∈ primsL, ∀ x, p.eff = some x → x.1 ≤ 3 ∧ x.2 ≤ 3 := by
      have : (primsL.all fun p => match p.eff with | some x => decide (x.1 ≤ 3 ∧ x.2 ≤ 3) | none => true) = true := by decide
      intro p hp x hx
      have := List.all_eq_true.1 this p hp
      rw [hx] at this; simpa using this
    exact key p hm (i, o) h
theorem moveR_le {name : List UInt8} {k : Nat} {ks : List Nat} (h : moveR name = some (k, ks)) : k ≤ 3 ∧ ks.length ≤ 3 := by
  unfold moveR at h
  repeat' (split at h)
  all_goals first
    | (cases h; exact ⟨by decide, by decide⟩)
    | cases h
theorem stepS_gr (hk : ∀ n i o, known n = some (i, o) → 0 ≤ i ∧ i ≤ 16 ∧ 0 ≤ o ∧ o ≤ 16) (hr : ∀ q s t, run q s = .ok t → Gr 0 0 s t) {y : Tree} {s t : EfS} (h : stepS run known y s = .ok t) : Gr 16 16 s t := by
  unfold stepS at h
  split at h
  · rename_i name
    split at h
    · rename_i k ks hm
      cases h
      have := moveR_le hm
      exact (movesS_gr k ks s).mono (by omega) (by omega)
    · split at h
      · rename_i r hc
        subst h
        exact controlS_gr hr hc
      · split at h
        · rename_i i o hp
          cases h
          have := primR_le hp
          exact (applyS_gr i o s).mono (by omega) (by omega)
        · split at h
          · rename_i i o hp
            cases h
            have := hk _ _ _ hp
            exact (applyS_gr i.toNat o.toNat s).mono (by omega) (by omega)
          · cases h
  · cases h
    exact (pushS_gr s _).mono (by omega) (by omega)
theorem runS_gr (hk : ∀ n i o, known n = some (i, o) → 0 ≤ i ∧ i ≤ 16 ∧ 0 ≤ o ∧ o ≤ 16) : ∀ (n : Nat) (l : List Tree) (s t : EfS), runS known n l s = .ok t → Gr 0 0 s t
  | n, [], s, t, h => by
    unfold runS at h; cases h; exact .refl s
  | 0, _ :: _, s, t, h => by unfold runS at h; cases h
  | n + 1, y :: r, s, t, h => by
    unfold runS at h
    split at h
    · cases h
    · rename_i hl
      split at h
      · cases h
      · rename_i u hu
        obtain ⟨p1, p2, p3, p4⟩ := stepS_gr hk (fun q s t h => runS_gr hk n q s t h) hu
        obtain ⟨q1, q2, q3, q4⟩ := runS_gr hk n r u t h
        simp only at p1 p2 p3 p4
        exact ⟨by omega, by omega, by omega, by omega⟩
theorem controlS_congr {r1 r2 : List Tree → EfS → Except Int EfS} {name : List UInt8} {s : EfS} (h : ∀ q t, t.left ≤ s.left → r1 q t = r2 q t) (hr : ∀ q s t, r1 q s = .ok t → Gr 0 0 s t) :
    controlS r1 name s = controlS r2 name s := by
  have own : ∀ q (t : EfS), t.left ≤ s.left → ownS r1 q t = ownS r2 q t := fun q t ht => by unfold ownS; rw [h q ⟨t.left, 0, []⟩ ht]
  have hq0 : ∀ {q t}, quotS s = .ok (q, t) → t.left = s.left := fun h => (quotS_gr h).2
  unfold controlS
  refine ite_congr rfl (fun _ => ?_) fun _ => ite_congr rfl (fun _ => ?_) fun _ => ite_congr rfl (fun _ => ?_) fun _ => ite_congr rfl (fun _ => ?_) fun _ => ite_congr rfl (fun _ => ?_) fun _ => ite_congr rfl (fun _ => ?_) fun _ => ite_congr rfl (fun _ => ?_) fun _ => rfl
  · cases hq : quotS s with
    | error e => rfl
    | ok p => obtain ⟨q, t⟩ := p; have := hq0 hq; simp only; rw [h q t (by omega)]
  · cases hq : quotS s with
    | error e => rfl
    | ok p => obtain ⟨q, t⟩ := p; have := hq0 hq; simp only; rw [h q _ (by rw [popS_left]; omega)]
  · cases hq : quotS s with
    | error e => rfl
    | ok p => obtain ⟨q, t⟩ := p; have := hq0 hq; simp only; rw [h q _ (by show (popS t).2.left ≤ _; rw [popS_left]; omega)]
  · cases hq : quotS s with
    | error e => rfl
    | ok p =>
      obtain ⟨b, t⟩ := p; have := hq0 hq; simp only
      cases hq2 : quotS t with
      | error e => rfl
      | ok p =>
        obtain ⟨a, u⟩ := p
        have h2 := (quotS_gr hq2).2
        simp only
        rw [← own a _ (by rw [popS_left]; omega)]
        cases ha : ownS r1 a (popS u).2 with
        | error e => rfl
        | ok p =>
          obtain ⟨ai, ao, v⟩ := p
          have h3 := (ownS_gr hr ha).2.2.2.2.1
          rw [popS_left] at h3
          simp only
          rw [own b v (by omega)]
  · cases hq : quotS s with
    | error e => rfl
    | ok p => obtain ⟨q, t⟩ := p; have := hq0 hq; simp only; rw [own q _ (by rw [popS_left]; omega)]
  · cases hq : quotS s with
    | error e => rfl
    | ok p => obtain ⟨q, t⟩ := p; have := hq0 hq; simp only; rw [own q _ (by omega)]
  · cases hq : quotS s with
    | error e => rfl
    | ok p => obtain ⟨q, t⟩ := p; have := hq0 hq; simp only; rw [own q _ (by rw [popS_left]; omega)]
theorem stepS_congr {r1 r2 : List Tree → EfS → Except Int EfS} {y : Tree} {s : EfS} (h : ∀ q t, t.left ≤ s.left → r1 q t = r2 q t) (hr : ∀ q s t, r1 q s = .ok t → Gr 0 0 s t) :
    stepS r1 known y s = stepS r2 known y s := by
  unfold stepS
  cases y <;> first | rfl | skip
  simp only
  rw [controlS_congr h hr]
theorem runS_fuel (hk : ∀ n i o, known n = some (i, o) → 0 ≤ i ∧ i ≤ 16 ∧ 0 ≤ o ∧ o ≤ 16) : ∀ (a b : Nat) (l : List Tree) (s : EfS), s.left ≤ a → s.left ≤ b → runS known a l s = runS known b l s
  | a, b, [], s, _, _ => by unfold runS; rfl
  | 0, 0, _ :: _, _, _, _ => rfl
  | 0, b + 1, y :: r, s, ha, _ => by
    unfold runS
    rw [if_pos (by omega)]
  | a + 1, 0, y :: r, s, _, hb => by
    unfold runS
    rw [if_pos (by omega)]
  | a + 1, b + 1, y :: r, s, ha, hb => by
    unfold runS
    by_cases hl : s.left = 0
    · rw [if_pos hl, if_pos hl]
    rw [if_neg hl, if_neg hl]
    rw [stepS_congr (r1 := fun q s => runS known a q s) (r2 := fun q s => runS known b q s) (s := { s with left := s.left - 1 }) (fun q t ht => runS_fuel hk a b q t (by simp at ht; omega) (by simp at ht; omega)) (fun q s t h => runS_gr hk a q s t h)]
    cases hs : stepS (fun q s => runS known b q s) known y { s with left := s.left - 1 } with
    | error e => rfl
    | ok u =>
      have h1 := (stepS_gr hk (fun q s t h => runS_gr hk b q s t h) hs).left
      simp only at h1 ⊢
      exact runS_fuel hk a b r u (by omega) (by omega)
/-- All that may still come. -/
noncomputable def runL (known : List UInt8 → Option (Int × Int)) (l : List Tree) (s : EfS) : Except Int EfS := runS known s.left l s
theorem runL_nil (s : EfS) : runL known [] s = .ok s := by unfold runL runS; rfl
theorem runL_cons (hk : ∀ n i o, known n = some (i, o) → 0 ≤ i ∧ i ≤ 16 ∧ 0 ≤ o ∧ o ≤ 16) (y : Tree) (r : List Tree) (s : EfS) :
    runL known (y :: r) s = if s.left = 0 then .error 11 else match stepS (runL known) known y { s with left := s.left - 1 } with
      | .error e => .error e
      | .ok t => runL known r t := by
  unfold runL
  cases hl : s.left with
  | zero => rfl
  | succ n =>
    conv => lhs; unfold runS
    rw [if_neg (by omega), if_neg (by omega), hl]
    rw [stepS_congr (r1 := fun q s => runS known n q s) (r2 := fun q s => runS known s.left q s) (s := { s with left := n + 1 - 1 }) (fun q t ht => runS_fuel hk n t.left q t (by simpa using ht) (Nat.le_refl _)) (fun q s t h => runS_gr hk n q s t h)]
    cases hs : stepS (fun q s => runS known s.left q s) known y { s with left := n + 1 - 1 } with
    | error e => rfl
    | ok u =>
      have h1 := (stepS_gr hk (fun q s t h => runS_gr hk _ q s t h) hs).left
      simp only at h1 ⊢
      exact runS_fuel hk n u.left r u (by omega) (Nat.le_refl _)
theorem runL_gr (hk : ∀ n i o, known n = some (i, o) → 0 ≤ i ∧ i ≤ 16 ∧ 0 ≤ o ∧ o ≤ 16) {l : List Tree} {s t : EfS} (h : runL known l s = .ok t) : Gr 0 0 s t := runS_gr hk _ l s t h
end
end Go.Proofs.YtonkeklageehbaaGreatDoor

namespace Go.Proofs.YtonkeklageehbaaGreatDoor
open Go Go.Av
def slotC (x : Slot) : List AV := [.bool x.isSome, .fz (itemAVs (x.getD [])) (x.getD []).length false]
/-- Slots, the lowest first. -/
def slotsC : List Slot → List AV
  | [] => []
  | x :: r => slotC x ++ slotsC r
theorem slotC_len (x : Slot) : (slotC x).length = 2 := rfl
theorem slotsC_len : ∀ l : List Slot, (slotsC l).length = 2 * l.length
  | [] => rfl
  | x :: r => by rw [slotsC, List.length_append, slotC_len, slotsC_len r, List.length_cons]; omega
theorem slotsC_append : ∀ l r : List Slot, slotsC (l ++ r) = slotsC l ++ slotsC r
  | [], r => rfl
  | x :: l, r => by rw [List.cons_append, slotsC, slotsC, slotsC_append l r, List.append_assoc]
theorem slotsC_snoc (l : List Slot) (x : Slot) : slotsC (l ++ [x]) = slotsC l ++ slotC x := by
  rw [slotsC_append, slotsC, slotsC, List.append_nil]
/-- Where the list lies, and what stands behind its end. -/
abbrev LR := Option (Nat × List AV)
def lvV (o : LR) (n : Nat) : AV := match o with
  | none => .nils
  | some x => .own x.1 n
def lvS (o : LR) (stk : List Slot) : St := match o with
  | none => []
  | some x => [(x.1, .arr 2 (slotsC stk.reverse ++ x.2) 0)]
def fbox (bf bm bw : Nat) (o : LR) (s : EfS) : Nat × AObj := (bf, .box [.mapr bm, .ptr bw 0, .int .i64 s.inn, lvV o s.stk.length])
def FS (bf bm bw : Nat) (o : LR) (s : EfS) : St := fbox bf bm bw o s :: lvS o s.stk
def okL (o : LR) (s : EfS) : Prop := o = none → s.stk = []
/-- How far an inference may be. -/
def Fine (s : EfS) : Prop := 0 ≤ s.inn ∧ s.inn ≤ 2000000 ∧ s.stk.length ≤ 2000000
theorem top_cells (x : Slot) (r : List Slot) (junk : List AV) : (List.drop (mulN r.length 2) (slotsC (x :: r).reverse ++ junk)).take 2 = slotC x := by
  have h1 : (slotsC r.reverse).length = mulN r.length 2 := by rw [slotsC_len, mulN_eq, List.length_reverse]; omega
  rw [List.reverse_cons, slotsC_snoc, List.append_assoc, List.drop_append_of_le_length (by omega), ← h1, List.drop_length, List.nil_append, List.take_append_of_le_length (by rw [slotC_len]; exact Nat.le_refl _)]
  exact List.take_of_length_le (by rw [slotC_len]; exact Nat.le_refl _)
theorem app_len (l : List Slot) (junk : List AV) : mulN l.length 2 ≤ (slotsC l.reverse ++ junk).length := by
  rw [mulN_eq, List.length_append, slotsC_len, List.length_reverse]; omega
theorem app_cells (l : List Slot) (x : Slot) (junk : List AV) : (slotsC l.reverse ++ junk).take (mulN l.length 2) ++ slotC x = slotsC (x :: l).reverse ++ [] := by
  have h1 : (slotsC l.reverse).length = mulN l.length 2 := by rw [slotsC_len, mulN_eq, List.length_reverse]; omega
  rw [List.reverse_cons, slotsC_snoc, List.append_nil, ← h1, List.take_append_of_le_length (Nat.le_refl _), List.take_length]
theorem slots_pop (x : Slot) (r : List Slot) (junk : List AV) : slotsC (x :: r).reverse ++ junk = slotsC r.reverse ++ (slotC x ++ junk) := by
  rw [List.reverse_cons, slotsC_snoc, List.append_assoc]

/-- What is answered may be said more weakly. -/
theorem ACalls.retw {P : Program} {f : FuncId} {args : List AV} {st : St} {Q Post : AOut → St → Prop} (h : ACalls P f args st Q) (k : ∀ out s', Q out s' → ∃ out', (∀ g e, OutR g out e → OutR g out' e) ∧ Post out' s') : ACalls P f args st Post :=
  ⟨h.ent, fun W F g w us hl hr inv => (h.run W F g w us hl hr inv).mono fun _ _ ⟨g', out, st', a, b, c, d⟩ => by
    obtain ⟨out', k1, k2⟩ := k out st' d
    exact ⟨g', out', st', a, k1 _ _ b, c, k2⟩⟩
theorem nils_weak (g : Gh) (e : Ending) (h : OutR g (.ret (.agg [.bool false, .nils])) e) : OutR g (.ret (.agg [.bool false, .fz [] 0 false])) e := by
  obtain ⟨u, rfl, us, rfl, x, xs, rfl, h1, y, ys, rfl, ⟨h2, h3⟩, h4⟩ := h
  have h2 : y = _ := h2
  subst h2
  exact ⟨_, rfl, _, rfl, _, _, rfl, h1, _, _, rfl, ⟨⟨none, 0, rfl, Nat.le_refl _, (fun h => by cases h), .inl ⟨rfl, rfl⟩⟩, h3⟩, h4⟩
theorem f_pop (bf bm bw : Nat) (o : LR) (s : EfS) (ho : okL o s) (hs : Fine s) : ACalls Tryz.prog 140 [.ptr bf 0] (FS bf bm bw o s) fun out st' =>
    out = .ret (.agg (slotC (popS s).1)) ∧ ∃ o', okL o' (popS s).2 ∧ st' = FS bf bm bw o' (popS s).2 := by
  suffices H : ACalls Tryz.prog 140 [.ptr bf 0] (FS bf bm bw o s) fun out st' =>
      (out = .ret (.agg (slotC (popS s).1)) ∨ (out = .ret (.agg [.bool false, .nils]) ∧ (popS s).1 = none)) ∧ ∃ o', okL o' (popS s).2 ∧ st' = FS bf bm bw o' (popS s).2 by
    refine ACalls.retw H fun out s' ⟨h1, h2⟩ => ?_
    rcases h1 with rfl | ⟨rfl, h3⟩
    · exact ⟨_, fun _ _ h => h, rfl, h2⟩
    · refine ⟨_, nils_weak, ?_, h2⟩
      rw [h3]; rfl
  obtain ⟨left, inn, stk⟩ := s
  obtain ⟨h1, h2, h3⟩ := hs
  simp only at h1 h2 h3
  unfold FS fbox
  cases o with
  | none =>
    have ho : stk = [] := ho rfl
    subst ho
    refine ACalls.of_W tb_ok (fn := Tryz.f140) (n := 45) (by kernel_rfl) rfl (by kernel_rfl) rfl rfl (by simp) (go ?_)
    refine VAll.mk (fun b => go ?_)
    refine VInt.fit (by dsimp only; omega) (by dsimp only; omega) (go ?_)
    exact VRet.mk _ (.cons 1 rfl .nil) ⟨.inr ⟨rfl, rfl⟩, none, fun _ => rfl, rfl⟩
  | some x =>
    obtain ⟨bl, junk⟩ := x
    cases stk with
    | nil =>
      refine ACalls.of_W tb_ok (fn := Tryz.f140) (n := 45) (by kernel_rfl) rfl (by kernel_rfl) rfl rfl (by simp) (go ?_)
      refine VAll.mk (fun b => go ?_)
      refine VInt.fit (by dsimp only; omega) (by dsimp only; omega) (go ?_)
      exact VRet.mk _ (.cons 1 rfl (.cons 1 rfl .nil)) ⟨.inr ⟨rfl, rfl⟩, some (bl, junk), fun _ => rfl, rfl⟩
    | cons x r =>
      simp only [List.length_cons] at h3
      refine ACalls.of_W tb_ok (fn := Tryz.f140) (n := 45) (by kernel_rfl) rfl (by kernel_rfl) rfl rfl (by simp) (go ?_)
      refine VAll.mk (fun b => go ?_)
      refine VDraw.chain [12, 13] (go ?_)
      refine VQ.mk (.int .i64 (r.length : Int)) (by refine go ?_; refine VInt.to (r.length : Int) (by simp) (by omega) (by omega) (go ?_); exact ⟨rfl, rfl⟩) (go ?_)
      refine VQ.mk (.agg (slotC x)) (by refine go ?_; refine VTake.mk (slotC x) (top_cells x r junk) (by simp [slotC_len]) (go ?_); exact ⟨rfl, rfl⟩) (go ?_)
      refine VAll.mk (fun b2 => go ?_)
      refine VDraw.chain [14] (go ?_)
      refine VQ.mk (.int .i64 (r.length : Int)) (by refine go ?_; refine VInt.to (r.length : Int) (by simp) (by omega) (by omega) (go ?_); exact ⟨rfl, rfl⟩) (go ?_)
      exact VRet.mk _ (.cons 2 rfl (.cons 2 rfl .nil)) ⟨.inl rfl, some (bl, slotC x ++ junk), (fun h => by cases h), congrArg (fun c => ([(bf, AObj.box [.mapr bm, .ptr bw 0, .int .i64 inn, .own bl r.length]), (bl, AObj.arr 2 c 0)] : St)) (slots_pop x r junk)⟩
theorem pop_use {bf bm bw : Nat} {o : LR} {s : EfS} {R st : St} {Post : AOut → St → Prop} (ho : okL o s) (hs : Fine s) (hp : (FS bf bm bw o s ++ R).Perm st)
    (k : ∀ o', okL o' (popS s).2 → Post (.ret (.agg (slotC (popS s).1))) (R ++ FS bf bm bw o' (popS s).2)) : ACalls Tryz.prog 140 [.ptr bf 0] st Post :=
  ACalls.usep (f_pop bf bm bw o s ho hs) hp (by rintro out s' ⟨rfl, o', h, rfl⟩; exact k o' h)
/-- What ends an inference. -/
def stopV (e : Int) : AV := .iface 201 (.agg [.int .i64 e])
def QuotP (bf bm bw : Nat) (r : Except Int (List Tree × EfS)) (out : AOut) (st : St) : Prop := match r with
  | .ok (q, t) => out = .ret (.fz (itemAVs q) q.length false) ∧ ∃ o', okL o' t ∧ st = FS bf bm bw o' t
  | .error e => out = .panic (stopV e) ∧ st = []
theorem f_quot (bf bm bw : Nat) (o : LR) (s : EfS) (ho : okL o s) (hs : Fine s) : ACalls Tryz.prog 141 [.ptr bf 0] (FS bf bm bw o s) (QuotP bf bm bw (quotS s)) := by
  have hp := fun {R st : St} {Post : AOut → St → Prop} => pop_use (R := R) (st := st) (Post := Post) (bf := bf) (bm := bm) (bw := bw) ho hs
  unfold quotS
  generalize popS s = p at hp
  obtain ⟨x, t⟩ := p
  dsimp only at hp
  refine ACalls.of_W tb_ok (fn := Tryz.f141) (n := 13) (by kernel_rfl) rfl (by kernel_rfl) rfl rfl (by simp) (go ?_)
  refine hp (R := []) (by simp) fun o' ho' => ?_
  cases x with
  | none =>
    refine go ?_
    refine VAll.mk (fun b => go ?_)
    exact VRet.mk [] .nil ⟨rfl, rfl⟩
  | some l =>
    refine go ?_
    refine VAll.mk (fun b => go ?_)
    exact VRet.mk _ (VSel.skip (VSel.refl _) _) ⟨rfl, o', ho', rfl⟩
theorem f_need (b : Bool) : ACalls Tryz.prog 143 [.bool b] [] fun out st' => st' = [] ∧ match b with
    | true => out = .ret (.tup [])
    | false => out = .panic (stopV 12) := by
  cases b with
  | true =>
    refine ACalls.of_W tb_ok (fn := Tryz.f143) (n := 6) (by kernel_rfl) rfl (by kernel_rfl) rfl rfl (by simp) (go ?_)
    refine VRet.mk [] .nil ?_
    exact ⟨rfl, rfl⟩
  | false =>
    refine ACalls.of_W tb_ok (fn := Tryz.f143) (n := 6) (by kernel_rfl) rfl (by kernel_rfl) rfl rfl (by simp) (go ?_)
    refine VRet.mk [] .nil ?_
    exact ⟨rfl, rfl⟩
theorem popsS_next : ∀ (n : Nat) (s : EfS), (popsS (n + 1) s).2 = (popS (popsS n s).2).2 ∧ (popsS (n + 1) s).1 = (popS (popsS n s).2).1 :: (popsS n s).1
  | 0, s => ⟨rfl, rfl⟩
  | n + 1, s => by
    obtain ⟨h1, h2⟩ := popsS_next n (popS s).2
    refine ⟨?_, ?_⟩
    · show (popsS (n + 1) (popS s).2).2 = _
      rw [h1]; rfl
    · show (popsS (n + 1) (popS s).2).1 ++ [(popS s).1] = _
      rw [h2]; rfl
theorem Fine.pops {s : EfS} {k : Nat} (h : 0 ≤ s.inn ∧ s.inn ≤ 1000000 ∧ s.stk.length ≤ 1000000) (hk : k ≤ 65536) : Fine (popsS k s).2 := by
  obtain ⟨⟨h1, h2, h3, h4⟩, h5, _⟩ := popsS_gr k s
  exact ⟨by omega, by omega, by omega⟩
/-- Some unknown values on top. -/
def pushN (j : Nat) (s : EfS) : EfS := { s with stk := List.replicate j none ++ s.stk }
theorem f_apply (bf bm bw : Nat) (o : LR) (s : EfS) (i u : Int) (ho : okL o s) (hs : 0 ≤ s.inn ∧ s.inn ≤ 1000000 ∧ s.stk.length ≤ 1000000) (hi : i.toNat ≤ 65536) (hu : u.toNat ≤ 65536) :
    ACalls Tryz.prog 127 [.ptr bf 0, .agg [.int .i64 i, .int .i64 u]] (FS bf bm bw o s) fun out st' => out = .ret (.tup []) ∧ ∃ o', okL o' (applyS i.toNat u.toNat s) ∧ st' = FS bf bm bw o' (applyS i.toNat u.toNat s) := by
  refine ACalls.of_W tb_ok (fn := Tryz.f127) (n := 26) (by kernel_rfl) rfl (by kernel_rfl) rfl rfl (by simp) (go ?_)
  refine VAll.mk (fun b => go ?_)
  refine VLoop.mk [6] (Nat × LR) (fun k => [.int .i64 k.1]) (fun k => (b, .box [.int .i64 i, .int .i64 u]) :: FS bf bm bw k.2 (popsS k.1 s).2) (fun k => k.1 ≤ i.toNat ∧ okL k.2 (popsS k.1 s).2) (fun k => i.toNat - k.1) (0, o) ?_ ?_
  · exact ⟨⟨Nat.zero_le _, ho⟩, rfl, VSel.refl _⟩
  rintro ⟨k, o1⟩ ⟨hk, ho1⟩
  dsimp only at hk ho1 ⊢
  refine go ?_
  refine fork (fun hlt => go ?_) (fun hlt => ?_)
  · refine pop_use ho1 (Fine.pops hs (by omega)) (R := [(b, .box [.int .i64 i, .int .i64 u])]) (List.perm_append_comm) fun o2 ho2 => ?_
    refine go ?_
    obtain ⟨e1, _⟩ := popsS_next k s
    rw [← e1] at ho2 ⊢
    exact ⟨(k + 1, o2), ⟨by dsimp only; omega, ho2⟩, by dsimp only; omega, rfl, VSel.refl _⟩
  have hk : k = i.toNat := by omega
  subst hk
  have hF := Fine.pops hs (Nat.le_trans (Nat.le_refl _) hi)
  have hA : ∀ j, j = u.toNat → pushN j (popsS i.toNat s).2 = applyS i.toNat u.toNat s := fun j hj => by subst hj; rfl
  generalize (popsS i.toNat s).2 = t at ho1 hF hA ⊢
  refine go ?_
  refine VLoop.mk [13] (Nat × LR) (fun k => [.int .i64 k.1]) (fun k => (b, .box [.int .i64 i, .int .i64 u]) :: FS bf bm bw k.2 (pushN k.1 t)) (fun k => k.1 ≤ u.toNat ∧ okL k.2 (pushN k.1 t)) (fun k => u.toNat - k.1) (0, o1) ?_ ?_
  · exact ⟨⟨Nat.zero_le _, ho1⟩, rfl, VSel.refl _⟩
  rintro ⟨k, o2⟩ ⟨hk, ho2⟩
  dsimp only at hk ho2 ⊢
  refine go ?_
  refine fork (fun hlt => go ?_) (fun hlt => ?_)
  · obtain ⟨f1, f2, f3⟩ := hF
    have hlen : (pushN k t).stk.length = k + t.stk.length := by simp [pushN]
    have hnx : pushN (k + 1) t = { pushN k t with stk := none :: (pushN k t).stk } := by simp [pushN, List.replicate_succ]
    cases o2 with
    | none =>
      have h0 := ho2 rfl
      have hk0 : k = 0 ∧ t.stk = [] := by
        rw [h0] at hlen
        exact ⟨by simp at hlen; omega, List.length_eq_zero_iff.1 (by simp at hlen; omega)⟩
      refine go ?_
      refine VAll.mk (fun b2 => go ?_)
      refine ⟨(k + 1, some (b2, [])), ⟨by dsimp only; omega, fun h => by cases h⟩, by dsimp only; omega, rfl, ?_⟩
      unfold FS fbox
      rw [hnx, h0]
      exact .cons 1 rfl (.cons 1 rfl (.cons 0 rfl .nil))
    | some x =>
      obtain ⟨bl, junk⟩ := x
      refine go ?_
      refine VGd.mk ⟨rfl, Nat.zero_le _, app_len _ _, by dsimp only; omega⟩ (go ?_)
      refine VAll.mk (fun b2 => go ?_)
      refine ⟨(k + 1, some (b2, [])), ⟨by dsimp only; omega, fun h => by cases h⟩, by dsimp only; omega, rfl, ?_⟩
      unfold FS fbox
      rw [hnx]
      exact .cons 1 rfl (.cons 1 rfl (.cons 0 (by dsimp only; rw [← app_cells]; rfl) .nil))
  · have hk : k = u.toNat := by omega
    rw [hA k hk] at ho2 ⊢
    refine go ?_
    exact VRet.mk (FS bf bm bw o2 (applyS i.toNat u.toNat s)) (VSel.skip (VSel.refl _) _) ⟨rfl, o2, ho2, rfl⟩
end Go.Proofs.YtonkeklageehbaaGreatDoor

namespace Go.Proofs.YtonkeklageehbaaGreatDoor
open Go Go.Av
mutual
/-- Items of which inference may go through all. -/
def goodI : Tree → Bool
  | .quot l => decide (l.length ≤ 2513169434916) && goodIs l
  | .call s => !s.isEmpty
  | .none => false
  | .odd _ _ => false
  | _ => true
def goodIs : List Tree → Bool
  | [] => true
  | t :: r => goodI t && goodIs r
end
def GoodX (x : Slot) : Prop := ∀ l, x = some l → l.length ≤ 2513169434916 ∧ goodIs l = true
def GoodS (s : EfS) : Prop := ∀ x ∈ s.stk, GoodX x
def Bud (s : EfS) : Prop := 0 ≤ s.inn ∧ s.inn + 16 * s.left ≤ 100000 ∧ s.stk.length + 16 * s.left ≤ 100000 ∧ s.left ≤ 4096
theorem GoodS.pop {s : EfS} (h : GoodS s) : GoodX (popS s).1 ∧ GoodS (popS s).2 := by
  unfold popS
  split
  · rename_i e
    exact ⟨(fun l e => by cases e), fun x hx => h x (by exact hx)⟩
  · rename_i x r e
    exact ⟨h x (by rw [e]; exact List.mem_cons_self ..), fun y hy => h y (by rw [e]; exact List.mem_cons_of_mem _ hy)⟩
theorem GoodS.push {s : EfS} {x : Slot} (h : GoodS s) (hx : GoodX x) : GoodS (pushS s x) := by
  intro y hy
  rcases List.mem_cons.1 hy with rfl | hy
  · exact hx
  · exact h y hy
theorem GoodS.pops {s : EfS} (h : GoodS s) : ∀ n, GoodS (popsS n s).2 ∧ ∀ x ∈ (popsS n s).1, GoodX x
  | 0 => ⟨h, fun x hx => by cases hx⟩
  | n + 1 => by
    obtain ⟨h1, h2⟩ := GoodS.pops h n
    obtain ⟨e1, e2⟩ := popsS_next n s
    obtain ⟨h3, h4⟩ := h1.pop
    rw [e1, e2]
    refine ⟨h4, fun x hx => ?_⟩
    rcases List.mem_cons.1 hx with rfl | hx
    · exact h3
    · exact h2 x hx
theorem GoodS.apply {s : EfS} (h : GoodS s) (i u : Nat) : GoodS (applyS i u s) := by
  intro x hx
  rcases List.mem_append.1 hx with hx | hx
  · obtain rfl := (List.mem_replicate.1 hx).2
    intro l e; cases e
  · exact (h.pops i).1 x hx
/-- What is shared: the work done, and the effects of known words. -/
def WM (bw bm : Nat) (ents : List (AV × AV)) (left : Nat) : St := [(bw, .box [.int .i64 ((4096 - left : Nat) : Int)]), (bm, .map ents)]
def RunP (bf bw bm : Nat) (ents : List (AV × AV)) (v : AV) (r : Except Int EfS) (out : AOut) (st : St) : Prop := match r with
  | .ok t => out = .ret v ∧ GoodS t ∧ ∃ o', okL o' t ∧ st = WM bw bm ents t.left ++ FS bf bm bw o' t
  | .error e => out = .panic (stopV e) ∧ st = []
/-- The contract of run, for so much work. -/
def RunC (known : List UInt8 → Option (Int × Int)) (bw bm : Nat) (ents : List (AV × AV)) (n : Nat) : Prop :=
  ∀ (bf : Nat) (o : LR) (s : EfS) (q : List Tree), s.left ≤ n → okL o s → Bud s → GoodS s → q.length ≤ 2513169434916 → goodIs q = true →
    ACalls Tryz.prog 103 [.ptr bf 0, .fz (itemAVs q) q.length false] (WM bw bm ents s.left ++ FS bf bm bw o s) (RunP bf bw bm ents (.tup []) (runL known q s))
def OwnP (bf bw bm : Nat) (ents : List (AV × AV)) (o : LR) (r : Except Int (Int × Int × EfS)) (out : AOut) (st : St) : Prop := match r with
  | .ok (i, u, t) => out = .ret (.agg [.int .i64 i, .int .i64 u]) ∧ st = WM bw bm ents t.left ++ FS bf bm bw o t
  | .error e => out = .panic (stopV e) ∧ st = []
/-- A contract over some objects, where there are more: these stand last afterwards. -/
theorem ACalls.usel {P : Program} {f : FuncId} {args : List AV} {s R st : St} {Q Post : AOut → St → Prop} (h : ACalls P f args s Q) (hp : (s ++ R).Perm st) (k : ∀ out s', Q out s' → Post out (s' ++ R)) : ACalls P f args st Post :=
  ⟨h.ent, fun W F g w us hl hr inv => ((ACalls.perm (ACalls.frame (R := R) h) hp).run W F g w us hl hr inv).mono fun _ _ ⟨g', out, st', a, b, c, s', e, hq⟩ => ⟨g', out, st', a, b, c, e ▸ k out s' hq⟩⟩
theorem f_own {known : List UInt8 → Option (Int × Int)} {bw bm : Nat} {ents : List (AV × AV)} {n : Nat} (hR : RunC known bw bm ents n) (bf : Nat) (o : LR) (s : EfS) (q : List Tree) (hn : s.left ≤ n) (hl : s.left ≤ 4096)
    (hq : q.length ≤ 2513169434916) (hg : goodIs q = true) :
    ACalls Tryz.prog 142 [.ptr bf 0, .fz (itemAVs q) q.length false] (WM bw bm ents s.left ++ FS bf bm bw o s) (OwnP bf bw bm ents o (ownS (runL known) q s)) := by
  refine ACalls.of_W tb_ok (fn := Tryz.f142) (n := 29) (by kernel_rfl) rfl (by kernel_rfl) rfl rfl (by simp) (go ?_)
  refine VAll.mk (fun b1 => go ?_)
  refine VDraw.chain [9, 10] (go ?_)
  refine VAll.mk (fun bg => go ?_)
  have h := hR bg none ⟨s.left, 0, []⟩ q hn (fun _ => rfl) ⟨Int.le_refl _, by simp; omega, by simp; omega, hl⟩ (fun x hx => by cases hx) hq hg
  refine ACalls.usel h (R := (b1, .box [.int .i64 0, .int .i64 0]) :: FS bf bm bw o s) (List.Perm.append_right (FS bf bm bw o s) (List.perm_append_comm (l₁ := WM bw bm ents s.left) (l₂ := [(bg, .box [.mapr bm, .ptr bw 0, .int .i64 0, .nils]), (b1, .box [.int .i64 0, .int .i64 0])]))) ?_
  intro out s' hp
  unfold ownS
  cases hr : runL known q ⟨s.left, 0, []⟩ with
  | error e =>
    rw [hr] at hp
    obtain ⟨rfl, rfl⟩ := hp
    refine go ?_
    exact VRet.mk [] .nil ⟨rfl, rfl⟩
  | ok t =>
    rw [hr] at hp
    obtain ⟨rfl, _, o', ho', rfl⟩ := hp
    obtain ⟨tl, ti, tk⟩ := t
    cases o with
    | none =>
      cases o' with
      | none =>
        obtain rfl : tk = [] := ho' rfl
        refine go ?_
        refine VDraw.chain [10] (go ?_)
        exact VRet.mk _ (.cons 0 rfl (.cons 0 rfl (.cons 2 rfl .nil))) ⟨rfl, rfl⟩
      | some x =>
        refine go ?_
        refine VDraw.chain [10] (go ?_)
        exact VRet.mk _ (.cons 0 rfl (.cons 0 rfl (.cons 3 rfl .nil))) ⟨rfl, rfl⟩
    | some y =>
      cases o' with
      | none =>
        obtain rfl : tk = [] := ho' rfl
        refine go ?_
        refine VDraw.chain [10] (go ?_)
        exact VRet.mk _ (.cons 0 rfl (.cons 0 rfl (.cons 2 rfl (.cons 2 rfl .nil)))) ⟨rfl, rfl⟩
      | some x =>
        refine go ?_
        refine VDraw.chain [10] (go ?_)
        exact VRet.mk _ (.cons 0 rfl (.cons 0 rfl (.cons 3 rfl (.cons 3 rfl .nil)))) ⟨rfl, rfl⟩
end Go.Proofs.YtonkeklageehbaaGreatDoor

namespace Go.Proofs.YtonkeklageehbaaGreatDoor
open Go Go.Av
section
variable {known : List UInt8 → Option (Int × Int)} {bf bw bm n l : Nat} {ents : List (AV × AV)} {o : LR} {s : EfS} {Post : AOut → St → Prop}
theorem permE (A E B : St) : (A ++ (E ++ B)).Perm (E ++ (B ++ A)) := by
  have := List.perm_append_comm (l₁ := A) (l₂ := E ++ B)
  rwa [List.append_assoc E B A] at this
theorem pop_c (E : St) {x : Slot} {t : EfS} (hv : popS s = (x, t)) (ho : okL o s) (hs : Fine s) (k : ∀ o', okL o' t → Post (.ret (.agg (slotC x))) (E ++ (WM bw bm ents l ++ FS bf bm bw o' t))) :
    ACalls Tryz.prog 140 [.ptr bf 0] (E ++ (WM bw bm ents l ++ FS bf bm bw o s)) Post := by
  have h := pop_use (Post := Post) (bm := bm) (bw := bw) (bf := bf) (st := E ++ (WM bw bm ents l ++ FS bf bm bw o s)) (R := E ++ WM bw bm ents l) ho hs (permE _ _ _)
  rw [hv] at h
  exact h fun o' h => by rw [List.append_assoc]; exact k o' h
theorem need_c {b : Bool} {st : St} (k1 : b = true → Post (.ret (.tup [])) st) (k2 : b = false → Post (.panic (stopV 12)) st) : ACalls Tryz.prog 143 [.bool b] st Post := by
  refine ACalls.usep (f_need b) (R := st) (List.Perm.refl _) ?_
  rintro out s' ⟨rfl, h⟩
  rw [List.append_nil]
  cases b with
  | true => rw [h]; exact k1 rfl
  | false => rw [h]; exact k2 rfl
theorem quot_c (E : St) (ho : okL o s) (hs : Fine s) (k1 : ∀ q t o', quotS s = .ok (q, t) → okL o' t → Post (.ret (.fz (itemAVs q) q.length false)) (E ++ (WM bw bm ents l ++ FS bf bm bw o' t)))
    (k2 : ∀ e, quotS s = .error e → Post (.panic (stopV e)) (E ++ WM bw bm ents l)) :
    ACalls Tryz.prog 141 [.ptr bf 0] (E ++ (WM bw bm ents l ++ FS bf bm bw o s)) Post := by
  refine ACalls.usep (f_quot bf bm bw o s ho hs) (R := E ++ WM bw bm ents l) (permE _ _ _) ?_
  intro out s' h
  unfold QuotP at h
  split at h
  · rename_i q t e
    obtain ⟨rfl, o', h1, rfl⟩ := h
    rw [List.append_assoc]; exact k1 q t o' e h1
  · rename_i e he
    obtain ⟨rfl, rfl⟩ := h
    rw [List.append_nil]; exact k2 e he
theorem run_c (E : St) {q : List Tree} {st : St} (hp : (E ++ (WM bw bm ents l ++ FS bf bm bw o s)).Perm st) (hl : s.left = l) (hR : RunC known bw bm ents n) (hn : s.left ≤ n) (ho : okL o s) (hb : Bud s) (hg : GoodS s) (hq : q.length ≤ 2513169434916) (hgq : goodIs q = true)
    (k1 : ∀ t o', runL known q s = .ok t → okL o' t → GoodS t → Post (.ret (.tup [])) (E ++ (WM bw bm ents t.left ++ FS bf bm bw o' t))) (k2 : ∀ e, runL known q s = .error e → Post (.panic (stopV e)) E) :
    ACalls Tryz.prog 103 [.ptr bf 0, .fz (itemAVs q) q.length false] st Post := by
  subst hl
  refine ACalls.usep (hR bf o s q hn ho hb hg hq hgq) (R := E) (List.perm_append_comm.trans hp) ?_
  intro out s' h
  unfold RunP at h
  split at h
  · rename_i t e
    obtain ⟨rfl, h1, o', h2, rfl⟩ := h
    exact k1 t o' e h2 h1
  · rename_i e he
    obtain ⟨rfl, rfl⟩ := h
    rw [List.append_nil]; exact k2 e he
theorem own_c (E : St) {q : List Tree} (hl : s.left = l) (hR : RunC known bw bm ents n) (hn : s.left ≤ n) (hl2 : s.left ≤ 4096) (hq : q.length ≤ 2513169434916) (hgq : goodIs q = true)
    (k1 : ∀ i u t, ownS (runL known) q s = .ok (i, u, t) → Post (.ret (.agg [.int .i64 i, .int .i64 u])) (E ++ (WM bw bm ents t.left ++ FS bf bm bw o t))) (k2 : ∀ e, ownS (runL known) q s = .error e → Post (.panic (stopV e)) E) :
    ACalls Tryz.prog 142 [.ptr bf 0, .fz (itemAVs q) q.length false] (E ++ (WM bw bm ents l ++ FS bf bm bw o s)) Post := by
  subst hl
  refine ACalls.usep (f_own hR bf o s q hn hl2 hq hgq) (R := E) List.perm_append_comm ?_
  intro out s' h
  unfold OwnP at h
  split at h
  · rename_i i u t e
    obtain ⟨rfl, rfl⟩ := h
    exact k1 i u t e
  · rename_i e he
    obtain ⟨rfl, rfl⟩ := h
    rw [List.append_nil]; exact k2 e he
theorem apply_c (E : St) {i u : Int} (ho : okL o s) (hs : 0 ≤ s.inn ∧ s.inn ≤ 1000000 ∧ s.stk.length ≤ 1000000) (hi : i.toNat ≤ 65536) (hu : u.toNat ≤ 65536)
    (k : ∀ o', okL o' (applyS i.toNat u.toNat s) → Post (.ret (.tup [])) (E ++ (WM bw bm ents l ++ FS bf bm bw o' (applyS i.toNat u.toNat s)))) :
    ACalls Tryz.prog 127 [.ptr bf 0, .agg [.int .i64 i, .int .i64 u]] (E ++ (WM bw bm ents l ++ FS bf bm bw o s)) Post := by
  refine ACalls.usep (f_apply bf bm bw o s i u ho hs hi hu) (R := E ++ WM bw bm ents l) (permE _ _ _) ?_
  rintro out s' ⟨rfl, o', h1, rfl⟩
  rw [List.append_assoc]; exact k o' h1
end
theorem fs_app {bf bm bw bl : Nat} {s : EfS} {x : Slot} (junk : List AV) : FS bf bm bw (some (bl, [])) (pushS s x) =
    [(bf, .box [.mapr bm, .ptr bw 0, .int .i64 s.inn, .own bl (s.stk.length + 1)]), (bl, .arr 2 ((slotsC s.stk.reverse ++ junk).take (mulN s.stk.length 2) ++ slotC x) 0)] := by
  rw [app_cells]; rfl
/-- What control answers. -/
def CtlP (bf bw bm : Nat) (ents : List (AV × AV)) (o : LR) (s : EfS) (r : Option (Except Int EfS)) (out : AOut) (st : St) : Prop := match r with
  | none => out = .ret (.bool false) ∧ st = WM bw bm ents s.left ++ FS bf bm bw o s
  | some r => RunP bf bw bm ents (.bool true) r out st






set_option maxHeartbeats 4000000 in
theorem f_control {known : List UInt8 → Option (Int × Int)} {bw bm : Nat} {ents : List (AV × AV)} {n : Nat} (hk : ∀ n i o, known n = some (i, o) → 0 ≤ i ∧ i ≤ 16 ∧ 0 ≤ o ∧ o ≤ 16) (hR : RunC known bw bm ents n) (bf : Nat) (o : LR) (s : EfS) (name : List UInt8)
    (hn : s.left ≤ n) (ho : okL o s) (hb : 0 ≤ s.inn ∧ s.inn + 16 * s.left + 16 ≤ 100000 ∧ s.stk.length + 16 * s.left + 16 ≤ 100000 ∧ s.left ≤ 4096) (hg : GoodS s) :
    ACalls Tryz.prog 126 [.ptr bf 0, .str name] (WM bw bm ents s.left ++ FS bf bm bw o s) (CtlP bf bw bm ents o s (controlS (runL known) name s)) := by
  have hfs : Fine s := ⟨hb.1, by omega, by omega⟩
  have hgq : ∀ {s t : EfS} {q : List Tree}, GoodS s → quotS s = .ok (q, t) → q.length ≤ 2513169434916 ∧ goodIs q = true ∧ GoodS t ∧ Gr 1 0 s t ∧ t.left = s.left := by
    intro s t q hg h
    obtain ⟨h1, h2⟩ := quotS_gr h
    unfold quotS at h
    have hp := hg.pop
    split at h
    · rename_i l u e
      rw [e] at hp
      cases h
      exact ⟨(hp.1 q rfl).1, (hp.1 q rfl).2, hp.2, h1, h2⟩
    · cases h
  unfold controlS
  refine ACalls.of_W tb_ok (fn := Tryz.f126) (n := 183) (by kernel_rfl) rfl (by kernel_rfl) rfl rfl (by simp) (go ?_)
  refine fork (fun h1 => go ?_) (fun h1 => go ?_)
  · have h1 : name = [99, 97, 108, 108] := by simpa using h1
    rw [if_pos h1]
    refine quot_c [] ho hfs (fun q t o1 e ho1 => ?_) (fun e he => ?_)
    · obtain ⟨q1, q2, q3, q4, q5⟩ := hgq hg e
      obtain ⟨r1, r2, r3, r4⟩ := q4
      refine go ?_
      refine run_c [] (List.Perm.refl _) q5 hR (by omega) ho1 ⟨by omega, by omega, by omega, by omega⟩ q3 q1 q2 (fun u o2 e2 ho2 hg2 => ?_) (fun e2 he2 => ?_)
      · refine go ?_
        refine VRet.mk _ (VSel.refl _) ?_
        rw [e]
        show RunP bf bw bm ents (.bool true) (runL known q t) _ _
        rw [e2]
        exact ⟨rfl, hg2, o2, ho2, rfl⟩
      · refine go ?_
        refine VRet.mk [] .nil ?_
        rw [e]
        show RunP bf bw bm ents (.bool true) (runL known q t) _ _
        rw [he2]
        exact ⟨rfl, rfl⟩
    · refine go ?_
      refine VRet.mk [] .nil ?_
      rw [he]
      exact ⟨rfl, rfl⟩
  rw [if_neg (by simpa using h1)]
  refine fork (fun h2 => go ?_) (fun h2 => go ?_)
  · have h2 : name = [100, 105, 112] := by simpa using h2
    rw [if_pos h2]
    refine quot_c [] ho hfs (fun q t o1 e ho1 => ?_) (fun e he => ?_)
    · obtain ⟨q1, q2, q3, q4, q5⟩ := hgq hg e
      obtain ⟨r1, r2, r3, r4⟩ := q4
      obtain ⟨x, v, hv⟩ : ∃ x v, popS t = (x, v) := ⟨_, _, rfl⟩
      have hv1 : (popS t).1 = x := by rw [hv]
      have hv2 : (popS t).2 = v := by rw [hv]
      obtain ⟨p1, p2, p3, p4⟩ := popS_gr t
      have p5 := popS_left t
      obtain ⟨g1, g2⟩ := q3.pop
      rw [hv2] at p1 p2 p3 p4 p5 g2
      rw [hv1] at g1
      refine go ?_
      refine pop_c [] hv ho1 ⟨by omega, by omega, by omega⟩ fun o2 ho2 => ?_
      refine go ?_
      refine VAll.mk (fun b6 => go ?_)
      refine run_c [(b6, .box (slotC x))] (List.Perm.refl _) (by omega) hR (by omega) ho2 ⟨by omega, by omega, by omega, by omega⟩ g2 q1 q2 (fun u o3 e2 ho3 hg3 => ?_) (fun e2 he2 => ?_)
      · have hgr := (runL_gr hk e2).len
        obtain ⟨Ul, Ui, Uk⟩ := u
        simp only [pushS, List.length_cons] at hgr
        have hfin : RunP bf bw bm ents (.bool true) ((match runL known q v with | .error e => .error e | .ok u => .ok (pushS u x))) = RunP bf bw bm ents (.bool true) (.ok (pushS ⟨Ul, Ui, Uk⟩ x)) := by rw [e2]
        cases o3 with
        | none =>
          obtain rfl : Uk = [] := ho3 rfl
          refine go ?_
          refine VDraw.chain [7, 10] (go ?_)
          refine VAll.mk (fun b9 => go ?_)
          refine VRet.mk (WM bw bm ents Ul ++ FS bf bm bw (some (b9, [])) (pushS ⟨Ul, Ui, []⟩ x)) (.cons 2 rfl (.cons 2 rfl (.cons 2 rfl (.cons 0 rfl .nil)))) ?_
          rw [e]
          dsimp only
          rw [hv1, hv2]
          show RunP bf bw bm ents (.bool true) ((match runL known q v with | .error e => .error e | .ok u => .ok (pushS u x))) _ _
          rw [hfin]
          exact ⟨rfl, hg3.push g1, some (b9, []), (fun h => by cases h), rfl⟩
        | some y =>
          obtain ⟨b0, junk⟩ := y
          refine go ?_
          refine VDraw.chain [7, 10] (go ?_)
          refine VGd.mk ⟨rfl, Nat.zero_le _, app_len _ _, by dsimp only; omega⟩ (go ?_)
          refine VAll.mk (fun b9 => go ?_)
          refine VRet.mk (WM bw bm ents Ul ++ FS bf bm bw (some (b9, [])) (pushS ⟨Ul, Ui, Uk⟩ x)) (by rw [fs_app junk]; exact .cons 2 rfl (.cons 2 rfl (.cons 2 rfl (.cons 0 rfl .nil)))) ?_
          rw [e]
          dsimp only
          rw [hv1, hv2]
          show RunP bf bw bm ents (.bool true) ((match runL known q v with | .error e => .error e | .ok u => .ok (pushS u x))) _ _
          rw [hfin]
          exact ⟨rfl, hg3.push g1, some (b9, []), (fun h => by cases h), rfl⟩
      · refine go ?_
        refine VRet.mk [] .nil ?_
        rw [e]
        dsimp only
        rw [hv1, hv2]
        show RunP bf bw bm ents (.bool true) ((match runL known q v with | .error e => .error e | .ok u => .ok (pushS u x))) _ _
        rw [he2]
        exact ⟨rfl, rfl⟩
    · refine go ?_
      refine VRet.mk [] .nil ?_
      rw [he]
      exact ⟨rfl, rfl⟩
  rw [if_neg (by simpa using h2)]
  refine fork (fun h3 => go ?_) (fun h3 => go ?_)
  · have h3 : name = [107, 101, 101, 112] := by simpa using h3
    rw [if_pos h3]
    refine quot_c [] ho hfs (fun q t o1 e ho1 => ?_) (fun e he => ?_)
    · obtain ⟨q1, q2, q3, q4, q5⟩ := hgq hg e
      obtain ⟨r1, r2, r3, r4⟩ := q4
      obtain ⟨x, v, hv⟩ : ∃ x v, popS t = (x, v) := ⟨_, _, rfl⟩
      have hv1 : (popS t).1 = x := by rw [hv]
      have hv2 : (popS t).2 = v := by rw [hv]
      obtain ⟨p1, p2, p3, p4⟩ := popS_gr t
      have p5 := popS_left t
      obtain ⟨g1, g2⟩ := q3.pop
      rw [hv2] at p1 p2 p3 p4 p5 g2
      rw [hv1] at g1
      refine go ?_
      refine pop_c [] hv ho1 ⟨by omega, by omega, by omega⟩ fun o2 ho2 => ?_
      have gx := g2.push g1
      obtain ⟨Vl, Vi, Vk⟩ := v
      dsimp only at p1 p2 p3 p4 p5
      cases o2 with
      | none =>
        obtain rfl : Vk = [] := ho2 rfl
        refine go ?_
        refine VAll.mk (fun b8 => go ?_)
        refine VDraw.chain [7, 10] (go ?_)
        refine VAll.mk (fun bl => go ?_)
        refine run_c (o := some (bl, [])) (s := pushS ⟨Vl, Vi, []⟩ x) (l := s.left) [(b8, .box (slotC x))] (by rw [fs_app []]; exact List.perm_append_comm (l₁ := [_, _, _, _]) (l₂ := [_])) (by show Vl = _; omega) hR (by show Vl ≤ _; omega) (fun h => by cases h) (by show 0 ≤ Vi ∧ Vi + 16 * Vl ≤ 100000 ∧ ([] : List Slot).length + 1 + 16 * Vl ≤ 100000 ∧ Vl ≤ 4096; (try dsimp only [List.length_nil] at *); omega) gx q1 q2 (fun u o3 e2 ho3 hg3 => ?_) (fun e2 he2 => ?_)
        · have hgr := (runL_gr hk e2).len
          obtain ⟨Ul, Ui, Uk⟩ := u
          simp only [pushS, List.length_cons] at hgr
          have hfin : RunP bf bw bm ents (.bool true) ((match runL known q (pushS ⟨Vl, Vi, []⟩ x) with | .error e => .error e | .ok u => .ok (pushS u x))) = RunP bf bw bm ents (.bool true) (.ok (pushS ⟨Ul, Ui, Uk⟩ x)) := by rw [e2]
          cases o3 with
          | none =>
            obtain rfl : Uk = [] := ho3 rfl
            refine go ?_
            refine VDraw.chain [7, 10] (go ?_)
            refine VAll.mk (fun b9 => go ?_)
            refine VRet.mk (WM bw bm ents Ul ++ FS bf bm bw (some (b9, [])) (pushS ⟨Ul, Ui, []⟩ x)) (.cons 2 rfl (.cons 2 rfl (.cons 2 rfl (.cons 0 rfl .nil)))) ?_
            rw [e]
            dsimp only
            rw [hv1, hv2]
            show RunP bf bw bm ents (.bool true) ((match runL known q (pushS ⟨Vl, Vi, []⟩ x) with | .error e => .error e | .ok u => .ok (pushS u x))) _ _
            rw [hfin]
            exact ⟨rfl, hg3.push g1, some (b9, []), (fun h => by cases h), rfl⟩
          | some y =>
            obtain ⟨b0, junk⟩ := y
            refine go ?_
            refine VDraw.chain [7, 10] (go ?_)
            refine VGd.mk ⟨rfl, Nat.zero_le _, app_len _ _, by dsimp only; omega⟩ (go ?_)
            refine VAll.mk (fun b9 => go ?_)
            refine VRet.mk (WM bw bm ents Ul ++ FS bf bm bw (some (b9, [])) (pushS ⟨Ul, Ui, Uk⟩ x)) (by rw [fs_app junk]; exact .cons 2 rfl (.cons 2 rfl (.cons 2 rfl (.cons 0 rfl .nil)))) ?_
            rw [e]
            dsimp only
            rw [hv1, hv2]
            show RunP bf bw bm ents (.bool true) ((match runL known q (pushS ⟨Vl, Vi, []⟩ x) with | .error e => .error e | .ok u => .ok (pushS u x))) _ _
            rw [hfin]
            exact ⟨rfl, hg3.push g1, some (b9, []), (fun h => by cases h), rfl⟩
        · refine go ?_
          refine VRet.mk [] .nil ?_
          rw [e]
          dsimp only
          rw [hv1, hv2]
          show RunP bf bw bm ents (.bool true) ((match runL known q (pushS ⟨Vl, Vi, []⟩ x) with | .error e => .error e | .ok u => .ok (pushS u x))) _ _
          rw [he2]
          exact ⟨rfl, rfl⟩
      | some y =>
        obtain ⟨bo, junk⟩ := y
        refine go ?_
        refine VAll.mk (fun b8 => go ?_)
        refine VDraw.chain [7, 10] (go ?_)
        refine VGd.mk ⟨rfl, Nat.zero_le _, app_len _ _, by dsimp only; omega⟩ (go ?_)
        refine VAll.mk (fun bl => go ?_)
        refine run_c (o := some (bl, [])) (s := pushS ⟨Vl, Vi, Vk⟩ x) (l := s.left) [(b8, .box (slotC x))] (by rw [fs_app junk]; exact List.perm_append_comm (l₁ := [_, _, _, _]) (l₂ := [_])) (by show Vl = _; omega) hR (by show Vl ≤ _; omega) (fun h => by cases h) (by show 0 ≤ Vi ∧ Vi + 16 * Vl ≤ 100000 ∧ (Vk : List Slot).length + 1 + 16 * Vl ≤ 100000 ∧ Vl ≤ 4096; (try dsimp only [List.length_nil] at *); omega) gx q1 q2 (fun u o3 e2 ho3 hg3 => ?_) (fun e2 he2 => ?_)
        · have hgr := (runL_gr hk e2).len
          obtain ⟨Ul, Ui, Uk⟩ := u
          simp only [pushS, List.length_cons] at hgr
          have hfin : RunP bf bw bm ents (.bool true) ((match runL known q (pushS ⟨Vl, Vi, Vk⟩ x) with | .error e => .error e | .ok u => .ok (pushS u x))) = RunP bf bw bm ents (.bool true) (.ok (pushS ⟨Ul, Ui, Uk⟩ x)) := by rw [e2]
          cases o3 with
          | none =>
            obtain rfl : Uk = [] := ho3 rfl
            refine go ?_
            refine VDraw.chain [7, 10] (go ?_)
            refine VAll.mk (fun b9 => go ?_)
            refine VRet.mk (WM bw bm ents Ul ++ FS bf bm bw (some (b9, [])) (pushS ⟨Ul, Ui, []⟩ x)) (.cons 2 rfl (.cons 2 rfl (.cons 2 rfl (.cons 0 rfl .nil)))) ?_
            rw [e]
            dsimp only
            rw [hv1, hv2]
            show RunP bf bw bm ents (.bool true) ((match runL known q (pushS ⟨Vl, Vi, Vk⟩ x) with | .error e => .error e | .ok u => .ok (pushS u x))) _ _
            rw [hfin]
            exact ⟨rfl, hg3.push g1, some (b9, []), (fun h => by cases h), rfl⟩
          | some y =>
            obtain ⟨b0, junk⟩ := y
            refine go ?_
            refine VDraw.chain [7, 10] (go ?_)
            refine VGd.mk ⟨rfl, Nat.zero_le _, app_len _ _, by dsimp only; omega⟩ (go ?_)
            refine VAll.mk (fun b9 => go ?_)
            refine VRet.mk (WM bw bm ents Ul ++ FS bf bm bw (some (b9, [])) (pushS ⟨Ul, Ui, Uk⟩ x)) (by rw [fs_app junk]; exact .cons 2 rfl (.cons 2 rfl (.cons 2 rfl (.cons 0 rfl .nil)))) ?_
            rw [e]
            dsimp only
            rw [hv1, hv2]
            show RunP bf bw bm ents (.bool true) ((match runL known q (pushS ⟨Vl, Vi, Vk⟩ x) with | .error e => .error e | .ok u => .ok (pushS u x))) _ _
            rw [hfin]
            exact ⟨rfl, hg3.push g1, some (b9, []), (fun h => by cases h), rfl⟩
        · refine go ?_
          refine VRet.mk [] .nil ?_
          rw [e]
          dsimp only
          rw [hv1, hv2]
          show RunP bf bw bm ents (.bool true) ((match runL known q (pushS ⟨Vl, Vi, Vk⟩ x) with | .error e => .error e | .ok u => .ok (pushS u x))) _ _
          rw [he2]
          exact ⟨rfl, rfl⟩
    · refine go ?_
      refine VRet.mk [] .nil ?_
      rw [he]
      exact ⟨rfl, rfl⟩
  rw [if_neg (by simpa using h3)]
  have hrg : ∀ q s t, runL known q s = .ok t → Gr 0 0 s t := fun q s t h => runL_gr hk h
  refine fork (fun h4 => go ?_) (fun h4 => go ?_)
  · have h4 : name = [105, 102] := by simpa using h4
    rw [if_pos h4]
    refine quot_c [] ho hfs (fun b t o1 e ho1 => ?_) (fun e he => ?_)
    · obtain ⟨q1, q2, q3, q4, q5⟩ := hgq hg e
      obtain ⟨r1, r2, r3, r4⟩ := q4
      rw [e]
      dsimp only
      refine go ?_
      refine quot_c [] ho1 ⟨by omega, by omega, by omega⟩ (fun a t2 o2 e2 ho2 => ?_) (fun e2 he2 => ?_)
      · obtain ⟨a1, a2, a3, a4, a5⟩ := hgq q3 e2
        obtain ⟨b1, b2, b3, b4⟩ := a4
        rw [e2]
        dsimp only
        obtain ⟨x, v, hv⟩ : ∃ x v, popS t2 = (x, v) := ⟨_, _, rfl⟩
        have hv2 : (popS t2).2 = v := by rw [hv]
        obtain ⟨p1, p2, p3, p4⟩ := popS_gr t2
        have p5 := popS_left t2
        obtain ⟨g1, g2⟩ := a3.pop
        rw [hv2] at p1 p2 p3 p4 p5 g2 ⊢
        refine go ?_
        refine pop_c [] hv ho2 ⟨by omega, by omega, by omega⟩ fun o3 ho3 => ?_
        refine go ?_
        refine own_c (l := s.left) [] (by omega) hR (by omega) (by omega) a1 a2 (fun ai ao w ea => ?_) (fun e3 he3 => ?_)
        · obtain ⟨c1, c2, c3, c4, c5, c6⟩ := ownS_gr hrg ea
          rw [ea]
          dsimp only
          refine go ?_
          refine own_c (l := w.left) [] rfl hR (by omega) (by omega) q1 q2 (fun bi bo z eb => ?_) (fun e3 he3 => ?_)
          · obtain ⟨d1, d2, d3, d4, d5, d6⟩ := ownS_gr hrg eb
            rw [eb]
            dsimp only
            refine go ?_
            refine VAll.mk (fun b11 => go ?_)
            refine VAll.mk (fun b12 => go ?_)
            refine need_c (fun hb => ?_) (fun hb => ?_)
            · have hb : ao - ai = bo - bi := by simpa using hb
              rw [if_pos hb]
              refine go ?_
              have e1 : z.stk = v.stk := by rw [d6, c6]
              have e4 : z.inn = v.inn := by rw [d6, c6]
              have ho5 : okL o3 z := fun h => by rw [e1]; exact ho3 h
              have hg5 : GoodS z := fun y hy => g2 y (by rw [← e1]; exact hy)
              refine apply_c (l := z.left) [_, _] ho5 ⟨by omega, by omega, by rw [e1]; omega⟩ (by omega) (by omega) fun o6 ho6 => ?_
              refine go ?_
              exact VRet.mk _ (VSel.skip (VSel.skip (VSel.refl _) _) _) ⟨rfl, hg5.apply _ _, o6, ho6, by rw [applyS_left]; rfl⟩
            · have hb : ¬ ao - ai = bo - bi := by simpa using hb
              rw [if_neg hb]
              refine go ?_
              exact VRet.mk [] .nil ⟨rfl, rfl⟩
          · rw [he3]
            refine go ?_
            exact VRet.mk [] .nil ⟨rfl, rfl⟩
        · rw [he3]
          refine go ?_
          exact VRet.mk [] .nil ⟨rfl, rfl⟩
      · rw [he2]
        refine go ?_
        exact VRet.mk [] .nil ⟨rfl, rfl⟩
    · refine go ?_
      refine VRet.mk [] .nil ?_
      rw [he]
      exact ⟨rfl, rfl⟩
  rw [if_neg (by simpa using h4)]
  refine fork (fun h5 => go ?_) (fun h5 => go ?_)
  · have h5 : name = [119, 104, 101, 110] := by simpa using h5
    rw [if_pos (.inl h5)]
    refine VIf.yes (by simpa using h5) (go ?_)
    refine quot_c [] ho hfs (fun q t o1 e ho1 => ?_) (fun e he => ?_)
    · obtain ⟨q1, q2, q3, q4, q5⟩ := hgq hg e
      obtain ⟨r1, r2, r3, r4⟩ := q4
      obtain ⟨x, v, hv⟩ : ∃ x v, popS t = (x, v) := ⟨_, _, rfl⟩
      have hv1 : (popS t).1 = x := by rw [hv]
      have hv2 : (popS t).2 = v := by rw [hv]
      obtain ⟨p1, p2, p3, p4⟩ := popS_gr t
      have p5 := popS_left t
      obtain ⟨g1, g2⟩ := q3.pop
      rw [hv2] at p1 p2 p3 p4 p5 g2
      rw [hv1] at g1
      refine go ?_
      rw [e]
      dsimp only
      rw [hv2]
      refine pop_c [] hv ho1 ⟨by omega, by omega, by omega⟩ fun o3 ho3 => ?_
      refine go ?_
      refine own_c (l := s.left) [] (by omega) hR (by omega) (by omega) q1 q2 (fun ai ao w ea => ?_) (fun e3 he3 => ?_)
      · obtain ⟨c1, c2, c3, c4, c5, c6⟩ := ownS_gr hrg ea
        rw [ea]
        dsimp only
        refine go ?_
        refine VAll.mk (fun b15 => go ?_)
        refine need_c (fun hb => ?_) (fun hb => ?_)
        · have hb : ai = ao := by simpa using hb
          rw [if_pos hb]
          refine go ?_
          have e1 : w.stk = v.stk := by rw [c6]
          have e4 : w.inn = v.inn := by rw [c6]
          have ho5 : okL o3 w := fun h => by rw [e1]; exact ho3 h
          have hg5 : GoodS w := fun y hy => g2 y (by rw [← e1]; exact hy)
          refine apply_c (l := w.left) [_] ho5 ⟨by omega, by omega, by rw [e1]; omega⟩ (by omega) (by omega) fun o6 ho6 => ?_
          refine go ?_
          exact VRet.mk _ (VSel.skip (VSel.refl _) _) ⟨rfl, hg5.apply _ _, o6, ho6, by rw [applyS_left]; rfl⟩
        · have hb : ¬ ai = ao := by simpa using hb
          rw [if_neg hb]
          refine go ?_
          exact VRet.mk [] .nil ⟨rfl, rfl⟩
      · rw [he3]
        refine go ?_
        exact VRet.mk [] .nil ⟨rfl, rfl⟩
    · refine go ?_
      refine VRet.mk [] .nil ?_
      rw [he]
      exact ⟨rfl, rfl⟩
  refine fork (fun h6 => go ?_) (fun h6 => go ?_)
  · have h6 : name = [116, 105, 109, 101, 115] := by simpa using h6
    rw [if_pos (.inr h6)]
    refine quot_c [] ho hfs (fun q t o1 e ho1 => ?_) (fun e he => ?_)
    · obtain ⟨q1, q2, q3, q4, q5⟩ := hgq hg e
      obtain ⟨r1, r2, r3, r4⟩ := q4
      obtain ⟨x, v, hv⟩ : ∃ x v, popS t = (x, v) := ⟨_, _, rfl⟩
      have hv1 : (popS t).1 = x := by rw [hv]
      have hv2 : (popS t).2 = v := by rw [hv]
      obtain ⟨p1, p2, p3, p4⟩ := popS_gr t
      have p5 := popS_left t
      obtain ⟨g1, g2⟩ := q3.pop
      rw [hv2] at p1 p2 p3 p4 p5 g2
      rw [hv1] at g1
      refine go ?_
      rw [e]
      dsimp only
      rw [hv2]
      refine pop_c [] hv ho1 ⟨by omega, by omega, by omega⟩ fun o3 ho3 => ?_
      refine go ?_
      refine own_c (l := s.left) [] (by omega) hR (by omega) (by omega) q1 q2 (fun ai ao w ea => ?_) (fun e3 he3 => ?_)
      · obtain ⟨c1, c2, c3, c4, c5, c6⟩ := ownS_gr hrg ea
        rw [ea]
        dsimp only
        refine go ?_
        refine VAll.mk (fun b15 => go ?_)
        refine need_c (fun hb => ?_) (fun hb => ?_)
        · have hb : ai = ao := by simpa using hb
          rw [if_pos hb]
          refine go ?_
          have e1 : w.stk = v.stk := by rw [c6]
          have e4 : w.inn = v.inn := by rw [c6]
          have ho5 : okL o3 w := fun h => by rw [e1]; exact ho3 h
          have hg5 : GoodS w := fun y hy => g2 y (by rw [← e1]; exact hy)
          refine apply_c (l := w.left) [_] ho5 ⟨by omega, by omega, by rw [e1]; omega⟩ (by omega) (by omega) fun o6 ho6 => ?_
          refine go ?_
          exact VRet.mk _ (VSel.skip (VSel.refl _) _) ⟨rfl, hg5.apply _ _, o6, ho6, by rw [applyS_left]; rfl⟩
        · have hb : ¬ ai = ao := by simpa using hb
          rw [if_neg hb]
          refine go ?_
          exact VRet.mk [] .nil ⟨rfl, rfl⟩
      · rw [he3]
        refine go ?_
        exact VRet.mk [] .nil ⟨rfl, rfl⟩
    · refine go ?_
      refine VRet.mk [] .nil ?_
      rw [he]
      exact ⟨rfl, rfl⟩
  rw [if_neg (by rintro (h | h) <;> simp_all)]
  refine fork (fun h7 => go ?_) (fun h7 => go ?_)
  · have h7 : name = [108, 111, 111, 112] := by simpa using h7
    rw [if_pos h7]
    refine quot_c [] ho hfs (fun q t o1 e ho1 => ?_) (fun e he => ?_)
    · obtain ⟨q1, q2, q3, q4, q5⟩ := hgq hg e
      obtain ⟨r1, r2, r3, r4⟩ := q4
      rw [e]
      dsimp only
      refine go ?_
      refine own_c (l := s.left) [] (by omega) hR (by omega) (by omega) q1 q2 (fun ai ao w ea => ?_) (fun e3 he3 => ?_)
      · obtain ⟨c1, c2, c3, c4, c5, c6⟩ := ownS_gr hrg ea
        rw [ea]
        dsimp only
        refine go ?_
        refine VAll.mk (fun b15 => go ?_)
        refine need_c (fun hb => ?_) (fun hb => ?_)
        · have hb : ao = ai + 1 := by simpa using hb
          rw [if_pos hb]
          refine go ?_
          have e1 : w.stk = t.stk := by rw [c6]
          have e4 : w.inn = t.inn := by rw [c6]
          have ho5 : okL o1 w := fun h => by rw [e1]; exact ho1 h
          have hg5 : GoodS w := fun y hy => q3 y (by rw [← e1]; exact hy)
          refine apply_c (l := w.left) [_] ho5 ⟨by omega, by omega, by rw [e1]; omega⟩ (by omega) (by omega) fun o6 ho6 => ?_
          refine go ?_
          exact VRet.mk _ (VSel.skip (VSel.refl _) _) ⟨rfl, hg5.apply _ _, o6, ho6, by rw [applyS_left]; rfl⟩
        · have hb : ¬ ao = ai + 1 := by simpa using hb
          rw [if_neg hb]
          refine go ?_
          exact VRet.mk [] .nil ⟨rfl, rfl⟩
      · rw [he3]
        refine go ?_
        exact VRet.mk [] .nil ⟨rfl, rfl⟩
    · refine go ?_
      refine VRet.mk [] .nil ?_
      rw [he]
      exact ⟨rfl, rfl⟩
  rw [if_neg (by simpa using h7)]
  refine fork (fun h8 => go ?_) (fun h8 => go ?_)
  · have h8 : name = [101, 97, 99, 104] := by simpa using h8
    rw [if_pos h8]
    refine quot_c [] ho hfs (fun q t o1 e ho1 => ?_) (fun e he => ?_)
    · obtain ⟨q1, q2, q3, q4, q5⟩ := hgq hg e
      obtain ⟨r1, r2, r3, r4⟩ := q4
      obtain ⟨x, v, hv⟩ : ∃ x v, popS t = (x, v) := ⟨_, _, rfl⟩
      have hv1 : (popS t).1 = x := by rw [hv]
      have hv2 : (popS t).2 = v := by rw [hv]
      obtain ⟨p1, p2, p3, p4⟩ := popS_gr t
      have p5 := popS_left t
      obtain ⟨g1, g2⟩ := q3.pop
      rw [hv2] at p1 p2 p3 p4 p5 g2
      rw [hv1] at g1
      refine go ?_
      rw [e]
      dsimp only
      rw [hv2]
      refine pop_c [] hv ho1 ⟨by omega, by omega, by omega⟩ fun o3 ho3 => ?_
      refine go ?_
      refine own_c (l := s.left) [] (by omega) hR (by omega) (by omega) q1 q2 (fun ai ao w ea => ?_) (fun e3 he3 => ?_)
      · obtain ⟨c1, c2, c3, c4, c5, c6⟩ := ownS_gr hrg ea
        rw [ea]
        dsimp only
        refine go ?_
        refine VAll.mk (fun b15 => go ?_)
        refine fork (fun hai => go ?_) (fun hai => go ?_)
        · have hai : 1 ≤ ai := by simpa using hai
          refine need_c (fun hb => ?_) (fun hb => ?_)
          · have hb : ao = ai - 1 := by simpa using hb
            rw [if_pos ⟨hai, hb⟩]
            refine go ?_
            have e1 : w.stk = v.stk := by rw [c6]
            have e4 : w.inn = v.inn := by rw [c6]
            have ho5 : okL o3 w := fun h => by rw [e1]; exact ho3 h
            have hg5 : GoodS w := fun y hy => g2 y (by rw [← e1]; exact hy)
            refine apply_c (l := w.left) [_] ho5 ⟨by omega, by omega, by rw [e1]; omega⟩ (by omega) (by omega) fun o6 ho6 => ?_
            refine go ?_
            exact VRet.mk _ (VSel.skip (VSel.refl _) _) ⟨rfl, hg5.apply _ _, o6, ho6, by rw [applyS_left]; rfl⟩
          · have hb : ¬ ao = ai - 1 := by simpa using hb
            rw [if_neg (fun h => hb h.2)]
            refine go ?_
            exact VRet.mk [] .nil ⟨rfl, rfl⟩
        · have hai : ¬ 1 ≤ ai := by simpa using hai
          refine need_c (fun hb => by cases hb) (fun hb => ?_)
          rw [if_neg (fun h => hai h.1)]
          refine go ?_
          exact VRet.mk [] .nil ⟨rfl, rfl⟩
      · rw [he3]
        refine go ?_
        exact VRet.mk [] .nil ⟨rfl, rfl⟩
    · refine go ?_
      refine VRet.mk [] .nil ?_
      rw [he]
      exact ⟨rfl, rfl⟩
  rw [if_neg (by simpa using h8)]
  exact VRet.mk _ (VSel.refl _) ⟨rfl, rfl⟩
end Go.Proofs.YtonkeklageehbaaGreatDoor

namespace Go.Proofs.YtonkeklageehbaaGreatDoor
open Go Go.Av
theorem pop_use2 {bf bm bw : Nat} {o : LR} {s : EfS} {x y : Nat × AObj} {Post : AOut → St → Prop} (ho : okL o s) (hs : Fine s)
    (k : ∀ o', okL o' (popS s).2 → Post (.ret (.agg (slotC (popS s).1))) (x :: y :: FS bf bm bw o' (popS s).2)) : ACalls Tryz.prog 140 [.ptr bf 0] (x :: y :: FS bf bm bw o s) Post :=
  pop_use (R := [x, y]) ho hs List.perm_append_comm k
def pushL (P : List Slot) (ks : List Nat) (s : EfS) : EfS := ks.foldl (fun t k => pushS t (P.getD k none)) s
theorem pushL_len (P : List Slot) (ks : List Nat) (s : EfS) : (pushL P ks s).stk.length = s.stk.length + ks.length := by
  unfold pushL
  induction ks generalizing s with
  | nil => rfl
  | cons k ks ih => rw [List.foldl_cons, ih]; simp [pushS]; omega

def MoveC (bf bm bw : Nat) (o : LR) (s : EfS) (name : List UInt8) (k : Nat) (ks : List Nat) : Prop :=
    ACalls Tryz.prog 125 [.ptr bf 0, .str name] (FS bf bm bw o s) fun out st' => out = .ret (.tup []) ∧ ∃ o', okL o' (movesS k ks s) ∧ st' = FS bf bm bw o' (movesS k ks s)
theorem f_move_dup (bf bm bw : Nat) (o : LR) (s : EfS) (ho : okL o s) (hs : 0 ≤ s.inn ∧ s.inn ≤ 1000000 ∧ s.stk.length ≤ 1000000) : MoveC bf bm bw o s [100, 117, 112] 1 [0, 0] := by
  have hP := f_Prim [100, 117, 112]
  have hF0 := Fine.pops hs (show 0 ≤ 65536 by omega)
  have hF1 := Fine.pops hs (show 1 ≤ 65536 by omega)
  have hF2 := Fine.pops hs (show 2 ≤ 65536 by omega)
  have hF3 := Fine.pops hs (show 3 ≤ 65536 by omega)
  rw [show primR [100, 117, 112] = some (1, 2) by decide] at hP
  have hP : Av.Fn Tryz.prog 124 [.str [100, 117, 112]] (.tup [.agg [.int .i64 1, .int .i64 2], .bool true]) := hP
  unfold MoveC
  refine ACalls.of_W tb_ok (fn := Tryz.f125) (n := 60) (by kernel_rfl) rfl (by kernel_rfl) rfl rfl (by simp) (go ?_)
  refine Fn.use (hP) (go ?_)
  refine VAll.mk (fun b => go ?_)
  refine VAll.mk (fun bl => go ?_)
  refine VLoop.un 5 [7] (go ?_)
  refine pop_use2 ho hF0 fun o1 ho1 => ?_
  refine go ?_
  refine VGd.mk ⟨Nat.le_of_ble_eq_true rfl, Nat.le_of_ble_eq_true rfl⟩ (go ?_)
  refine VAll.mk (fun bmv => go ?_)
  repeat (refine VMap.mk _ rfl (go ?_))
  have hst : ((popS s).2).stk.length ≤ 2000000 := hF1.2.2
  have hfin : pushL [(popS s).1] [0, 0] (popS s).2 = movesS 1 [0, 0] s := rfl
  generalize (popS s).2 = T at ho1 hst hfin ⊢
  obtain ⟨Tl, Ti, Tk⟩ := T
  refine VLoop.mk [42] (Nat × LR) (fun i => [.int .i64 i.1]) (fun i => (bl, .arr 2 (slotsC [(popS s).1]) 0) :: FS bf bm bw i.2 (pushL [(popS s).1] (([0, 0] : List Nat).take i.1) ⟨Tl, Ti, Tk⟩)) (fun i => i.1 ≤ ([0, 0] : List Nat).length ∧ okL i.2 (pushL [(popS s).1] (([0, 0] : List Nat).take i.1) ⟨Tl, Ti, Tk⟩)) (fun i => ([0, 0] : List Nat).length - i.1) (0, o1) ?_ ?_
  · exact ⟨⟨Nat.zero_le _, ho1⟩, rfl, .cons 1 rfl (VSel.skip (VSel.skip (VSel.refl _) _) _)⟩
  rintro ⟨j, oj⟩ ⟨hj, hoj⟩
  dsimp only at hj hoj hst ⊢
  refine go ?_
  refine fork (fun hlt => go ?_) (fun hlt => go ?_)
  · have hlt : j < ([0, 0] : List Nat).length := by simp at hlt ⊢; omega
    have hc : j = 0 ∨ j = 1 ∨ j = 2 := by simp at hlt; omega
    have hpl : ∀ i, (pushL [(popS s).1] (([0, 0] : List Nat).take i) ⟨Tl, Ti, Tk⟩).stk.length ≤ 2000003 := fun i => by
      have h1 := List.length_take_le' i ([0, 0] : List Nat)
      have h2 : ([0, 0] : List Nat).length ≤ 3 := by decide
      rw [pushL_len]
      show Tk.length + _ ≤ _
      omega
    rcases hc with rfl | rfl | rfl
    all_goals first
      | (exfalso; simp at hlt; done)
      | skip
    all_goals refine go ?_
    all_goals refine VDraw.chain [10, 13] (go ?_)
    all_goals
      cases oj with
      | none =>
        have h0 := hoj rfl
        first
        | (exfalso; revert h0; simp [pushL, pushS]; done)
        | (obtain rfl : Tk = [] := h0
           refine go ?_
           refine VAll.mk (fun b2 => go ?_)
           exact ⟨(1, some (b2, [])), ⟨by simp, fun h => by cases h⟩, by simp, rfl, .cons 1 rfl (.cons 1 rfl (.cons 0 rfl .nil))⟩)
      | some x =>
        obtain ⟨bo, junk⟩ := x
        refine go ?_
        refine VGd.mk ⟨rfl, Nat.zero_le _, app_len _ _, Nat.le_trans (Nat.mul_le_mul_left _ (Nat.succ_le_succ (hpl _))) (Nat.le_of_ble_eq_true rfl)⟩ (go ?_)
        refine VAll.mk (fun b2 => go ?_)
        exact ⟨(_, some (b2, [])), ⟨by simp, fun h => by cases h⟩, by simp, rfl, .cons 1 rfl (.cons 1 rfl (.cons 0 (congrArg (fun c => some (b2, AObj.arr 2 c 0)) (app_cells _ _ _)) .nil))⟩
  · have hj2 : j = ([0, 0] : List Nat).length := by simp at hlt hj ⊢; omega
    subst hj2
    have hfin : pushL [(popS s).1] (([0, 0] : List Nat).take ([0, 0] : List Nat).length) ⟨Tl, Ti, Tk⟩ = movesS 1 [0, 0] s := hfin
    rw [hfin] at hoj ⊢
    exact VRet.mk _ (VSel.skip (VSel.refl _) _) ⟨rfl, oj, hoj, rfl⟩
theorem f_move_drop (bf bm bw : Nat) (o : LR) (s : EfS) (ho : okL o s) (hs : 0 ≤ s.inn ∧ s.inn ≤ 1000000 ∧ s.stk.length ≤ 1000000) : MoveC bf bm bw o s [100, 114, 111, 112] 1 [] := by
  have hP := f_Prim [100, 114, 111, 112]
  have hF0 := Fine.pops hs (show 0 ≤ 65536 by omega)
  have hF1 := Fine.pops hs (show 1 ≤ 65536 by omega)
  have hF2 := Fine.pops hs (show 2 ≤ 65536 by omega)
  have hF3 := Fine.pops hs (show 3 ≤ 65536 by omega)
  rw [show primR [100, 114, 111, 112] = some (1, 0) by decide] at hP
  have hP : Av.Fn Tryz.prog 124 [.str [100, 114, 111, 112]] (.tup [.agg [.int .i64 1, .int .i64 0], .bool true]) := hP
  unfold MoveC
  refine ACalls.of_W tb_ok (fn := Tryz.f125) (n := 60) (by kernel_rfl) rfl (by kernel_rfl) rfl rfl (by simp) (go ?_)
  refine Fn.use (hP) (go ?_)
  refine VAll.mk (fun b => go ?_)
  refine VAll.mk (fun bl => go ?_)
  refine VLoop.un 5 [7] (go ?_)
  refine pop_use2 ho hF0 fun o1 ho1 => ?_
  refine go ?_
  refine VGd.mk ⟨Nat.le_of_ble_eq_true rfl, Nat.le_of_ble_eq_true rfl⟩ (go ?_)
  refine VAll.mk (fun bmv => go ?_)
  repeat (refine VMap.mk _ rfl (go ?_))
  refine VLoop.un 2 [42] (go ?_)
  exact VRet.mk _ (VSel.skip (VSel.skip (VSel.skip (VSel.refl _) _) _) _) ⟨rfl, o1, ho1, rfl⟩
theorem f_move_swap (bf bm bw : Nat) (o : LR) (s : EfS) (ho : okL o s) (hs : 0 ≤ s.inn ∧ s.inn ≤ 1000000 ∧ s.stk.length ≤ 1000000) : MoveC bf bm bw o s [115, 119, 97, 112] 2 [1, 0] := by
  have hP := f_Prim [115, 119, 97, 112]
  have hF0 := Fine.pops hs (show 0 ≤ 65536 by omega)
  have hF1 := Fine.pops hs (show 1 ≤ 65536 by omega)
  have hF2 := Fine.pops hs (show 2 ≤ 65536 by omega)
  have hF3 := Fine.pops hs (show 3 ≤ 65536 by omega)
  rw [show primR [115, 119, 97, 112] = some (2, 2) by decide] at hP
  have hP : Av.Fn Tryz.prog 124 [.str [115, 119, 97, 112]] (.tup [.agg [.int .i64 2, .int .i64 2], .bool true]) := hP
  unfold MoveC
  refine ACalls.of_W tb_ok (fn := Tryz.f125) (n := 60) (by kernel_rfl) rfl (by kernel_rfl) rfl rfl (by simp) (go ?_)
  refine Fn.use (hP) (go ?_)
  refine VAll.mk (fun b => go ?_)
  refine VAll.mk (fun bl => go ?_)
  refine VLoop.un 5 [7] (go ?_)
  refine pop_use2 ho hF0 fun o1 ho1 => ?_
  refine go ?_
  refine VGd.mk ⟨Nat.le_of_ble_eq_true rfl, Nat.le_of_ble_eq_true rfl⟩ (go ?_)
  refine pop_use2 ho1 hF1 fun o1 ho1 => ?_
  refine go ?_
  refine VGd.mk ⟨Nat.le_of_ble_eq_true rfl, Nat.le_of_ble_eq_true rfl⟩ (go ?_)
  refine VAll.mk (fun bmv => go ?_)
  repeat (refine VMap.mk _ rfl (go ?_))
  have hst : ((popS (popS s).2).2).stk.length ≤ 2000000 := hF2.2.2
  have hfin : pushL [(popS (popS s).2).1, (popS s).1] [1, 0] (popS (popS s).2).2 = movesS 2 [1, 0] s := rfl
  generalize (popS (popS s).2).2 = T at ho1 hst hfin ⊢
  obtain ⟨Tl, Ti, Tk⟩ := T
  refine VLoop.mk [42] (Nat × LR) (fun i => [.int .i64 i.1]) (fun i => (bl, .arr 2 (slotsC [(popS (popS s).2).1, (popS s).1]) 0) :: FS bf bm bw i.2 (pushL [(popS (popS s).2).1, (popS s).1] (([1, 0] : List Nat).take i.1) ⟨Tl, Ti, Tk⟩)) (fun i => i.1 ≤ ([1, 0] : List Nat).length ∧ okL i.2 (pushL [(popS (popS s).2).1, (popS s).1] (([1, 0] : List Nat).take i.1) ⟨Tl, Ti, Tk⟩)) (fun i => ([1, 0] : List Nat).length - i.1) (0, o1) ?_ ?_
  · exact ⟨⟨Nat.zero_le _, ho1⟩, rfl, .cons 1 rfl (VSel.skip (VSel.skip (VSel.refl _) _) _)⟩
  rintro ⟨j, oj⟩ ⟨hj, hoj⟩
  dsimp only at hj hoj hst ⊢
  refine go ?_
  refine fork (fun hlt => go ?_) (fun hlt => go ?_)
  · have hlt : j < ([1, 0] : List Nat).length := by simp at hlt ⊢; omega
    have hc : j = 0 ∨ j = 1 ∨ j = 2 := by simp at hlt; omega
    have hpl : ∀ i, (pushL [(popS (popS s).2).1, (popS s).1] (([1, 0] : List Nat).take i) ⟨Tl, Ti, Tk⟩).stk.length ≤ 2000003 := fun i => by
      have h1 := List.length_take_le' i ([1, 0] : List Nat)
      have h2 : ([1, 0] : List Nat).length ≤ 3 := by decide
      rw [pushL_len]
      show Tk.length + _ ≤ _
      omega
    rcases hc with rfl | rfl | rfl
    all_goals first
      | (exfalso; simp at hlt; done)
      | skip
    all_goals refine go ?_
    all_goals refine VDraw.chain [10, 13] (go ?_)
    all_goals
      cases oj with
      | none =>
        have h0 := hoj rfl
        first
        | (exfalso; revert h0; simp [pushL, pushS]; done)
        | (obtain rfl : Tk = [] := h0
           refine go ?_
           refine VAll.mk (fun b2 => go ?_)
           exact ⟨(1, some (b2, [])), ⟨by simp, fun h => by cases h⟩, by simp, rfl, .cons 1 rfl (.cons 1 rfl (.cons 0 rfl .nil))⟩)
      | some x =>
        obtain ⟨bo, junk⟩ := x
        refine go ?_
        refine VGd.mk ⟨rfl, Nat.zero_le _, app_len _ _, Nat.le_trans (Nat.mul_le_mul_left _ (Nat.succ_le_succ (hpl _))) (Nat.le_of_ble_eq_true rfl)⟩ (go ?_)
        refine VAll.mk (fun b2 => go ?_)
        exact ⟨(_, some (b2, [])), ⟨by simp, fun h => by cases h⟩, by simp, rfl, .cons 1 rfl (.cons 1 rfl (.cons 0 (congrArg (fun c => some (b2, AObj.arr 2 c 0)) (app_cells _ _ _)) .nil))⟩
  · have hj2 : j = ([1, 0] : List Nat).length := by simp at hlt hj ⊢; omega
    subst hj2
    have hfin : pushL [(popS (popS s).2).1, (popS s).1] (([1, 0] : List Nat).take ([1, 0] : List Nat).length) ⟨Tl, Ti, Tk⟩ = movesS 2 [1, 0] s := hfin
    rw [hfin] at hoj ⊢
    exact VRet.mk _ (VSel.skip (VSel.refl _) _) ⟨rfl, oj, hoj, rfl⟩
theorem f_move_over (bf bm bw : Nat) (o : LR) (s : EfS) (ho : okL o s) (hs : 0 ≤ s.inn ∧ s.inn ≤ 1000000 ∧ s.stk.length ≤ 1000000) : MoveC bf bm bw o s [111, 118, 101, 114] 2 [0, 1, 0] := by
  have hP := f_Prim [111, 118, 101, 114]
  have hF0 := Fine.pops hs (show 0 ≤ 65536 by omega)
  have hF1 := Fine.pops hs (show 1 ≤ 65536 by omega)
  have hF2 := Fine.pops hs (show 2 ≤ 65536 by omega)
  have hF3 := Fine.pops hs (show 3 ≤ 65536 by omega)
  rw [show primR [111, 118, 101, 114] = some (2, 3) by decide] at hP
  have hP : Av.Fn Tryz.prog 124 [.str [111, 118, 101, 114]] (.tup [.agg [.int .i64 2, .int .i64 3], .bool true]) := hP
  unfold MoveC
  refine ACalls.of_W tb_ok (fn := Tryz.f125) (n := 60) (by kernel_rfl) rfl (by kernel_rfl) rfl rfl (by simp) (go ?_)
  refine Fn.use (hP) (go ?_)
  refine VAll.mk (fun b => go ?_)
  refine VAll.mk (fun bl => go ?_)
  refine VLoop.un 5 [7] (go ?_)
  refine pop_use2 ho hF0 fun o1 ho1 => ?_
  refine go ?_
  refine VGd.mk ⟨Nat.le_of_ble_eq_true rfl, Nat.le_of_ble_eq_true rfl⟩ (go ?_)
  refine pop_use2 ho1 hF1 fun o1 ho1 => ?_
  refine go ?_
  refine VGd.mk ⟨Nat.le_of_ble_eq_true rfl, Nat.le_of_ble_eq_true rfl⟩ (go ?_)
  refine VAll.mk (fun bmv => go ?_)
  repeat (refine VMap.mk _ rfl (go ?_))
  have hst : ((popS (popS s).2).2).stk.length ≤ 2000000 := hF2.2.2
  have hfin : pushL [(popS (popS s).2).1, (popS s).1] [0, 1, 0] (popS (popS s).2).2 = movesS 2 [0, 1, 0] s := rfl
  generalize (popS (popS s).2).2 = T at ho1 hst hfin ⊢
  obtain ⟨Tl, Ti, Tk⟩ := T
  refine VLoop.mk [42] (Nat × LR) (fun i => [.int .i64 i.1]) (fun i => (bl, .arr 2 (slotsC [(popS (popS s).2).1, (popS s).1]) 0) :: FS bf bm bw i.2 (pushL [(popS (popS s).2).1, (popS s).1] (([0, 1, 0] : List Nat).take i.1) ⟨Tl, Ti, Tk⟩)) (fun i => i.1 ≤ ([0, 1, 0] : List Nat).length ∧ okL i.2 (pushL [(popS (popS s).2).1, (popS s).1] (([0, 1, 0] : List Nat).take i.1) ⟨Tl, Ti, Tk⟩)) (fun i => ([0, 1, 0] : List Nat).length - i.1) (0, o1) ?_ ?_
  · exact ⟨⟨Nat.zero_le _, ho1⟩, rfl, .cons 1 rfl (VSel.skip (VSel.skip (VSel.refl _) _) _)⟩
  rintro ⟨j, oj⟩ ⟨hj, hoj⟩
  dsimp only at hj hoj hst ⊢
  refine go ?_
  refine fork (fun hlt => go ?_) (fun hlt => go ?_)
  · have hlt : j < ([0, 1, 0] : List Nat).length := by simp at hlt ⊢; omega
    have hc : j = 0 ∨ j = 1 ∨ j = 2 := by simp at hlt; omega
    have hpl : ∀ i, (pushL [(popS (popS s).2).1, (popS s).1] (([0, 1, 0] : List Nat).take i) ⟨Tl, Ti, Tk⟩).stk.length ≤ 2000003 := fun i => by
      have h1 := List.length_take_le' i ([0, 1, 0] : List Nat)
      have h2 : ([0, 1, 0] : List Nat).length ≤ 3 := by decide
      rw [pushL_len]
      show Tk.length + _ ≤ _
      omega
    rcases hc with rfl | rfl | rfl
    all_goals first
      | (exfalso; simp at hlt; done)
      | skip
    all_goals refine go ?_
    all_goals refine VDraw.chain [10, 13] (go ?_)
    all_goals
      cases oj with
      | none =>
        have h0 := hoj rfl
        first
        | (exfalso; revert h0; simp [pushL, pushS]; done)
        | (obtain rfl : Tk = [] := h0
           refine go ?_
           refine VAll.mk (fun b2 => go ?_)
           exact ⟨(1, some (b2, [])), ⟨by simp, fun h => by cases h⟩, by simp, rfl, .cons 1 rfl (.cons 1 rfl (.cons 0 rfl .nil))⟩)
      | some x =>
        obtain ⟨bo, junk⟩ := x
        refine go ?_
        refine VGd.mk ⟨rfl, Nat.zero_le _, app_len _ _, Nat.le_trans (Nat.mul_le_mul_left _ (Nat.succ_le_succ (hpl _))) (Nat.le_of_ble_eq_true rfl)⟩ (go ?_)
        refine VAll.mk (fun b2 => go ?_)
        exact ⟨(_, some (b2, [])), ⟨by simp, fun h => by cases h⟩, by simp, rfl, .cons 1 rfl (.cons 1 rfl (.cons 0 (congrArg (fun c => some (b2, AObj.arr 2 c 0)) (app_cells _ _ _)) .nil))⟩
  · have hj2 : j = ([0, 1, 0] : List Nat).length := by simp at hlt hj ⊢; omega
    subst hj2
    have hfin : pushL [(popS (popS s).2).1, (popS s).1] (([0, 1, 0] : List Nat).take ([0, 1, 0] : List Nat).length) ⟨Tl, Ti, Tk⟩ = movesS 2 [0, 1, 0] s := hfin
    rw [hfin] at hoj ⊢
    exact VRet.mk _ (VSel.skip (VSel.refl _) _) ⟨rfl, oj, hoj, rfl⟩
theorem f_move_rot (bf bm bw : Nat) (o : LR) (s : EfS) (ho : okL o s) (hs : 0 ≤ s.inn ∧ s.inn ≤ 1000000 ∧ s.stk.length ≤ 1000000) : MoveC bf bm bw o s [114, 111, 116] 3 [1, 2, 0] := by
  have hP := f_Prim [114, 111, 116]
  have hF0 := Fine.pops hs (show 0 ≤ 65536 by omega)
  have hF1 := Fine.pops hs (show 1 ≤ 65536 by omega)
  have hF2 := Fine.pops hs (show 2 ≤ 65536 by omega)
  have hF3 := Fine.pops hs (show 3 ≤ 65536 by omega)
  rw [show primR [114, 111, 116] = some (3, 3) by decide] at hP
  have hP : Av.Fn Tryz.prog 124 [.str [114, 111, 116]] (.tup [.agg [.int .i64 3, .int .i64 3], .bool true]) := hP
  unfold MoveC
  refine ACalls.of_W tb_ok (fn := Tryz.f125) (n := 60) (by kernel_rfl) rfl (by kernel_rfl) rfl rfl (by simp) (go ?_)
  refine Fn.use (hP) (go ?_)
  refine VAll.mk (fun b => go ?_)
  refine VAll.mk (fun bl => go ?_)
  refine VLoop.un 5 [7] (go ?_)
  refine pop_use2 ho hF0 fun o1 ho1 => ?_
  refine go ?_
  refine VGd.mk ⟨Nat.le_of_ble_eq_true rfl, Nat.le_of_ble_eq_true rfl⟩ (go ?_)
  refine pop_use2 ho1 hF1 fun o1 ho1 => ?_
  refine go ?_
  refine VGd.mk ⟨Nat.le_of_ble_eq_true rfl, Nat.le_of_ble_eq_true rfl⟩ (go ?_)
  refine pop_use2 ho1 hF2 fun o1 ho1 => ?_
  refine go ?_
  refine VGd.mk ⟨Nat.le_of_ble_eq_true rfl, Nat.le_of_ble_eq_true rfl⟩ (go ?_)
  refine VAll.mk (fun bmv => go ?_)
  repeat (refine VMap.mk _ rfl (go ?_))
  have hst : ((popS (popS (popS s).2).2).2).stk.length ≤ 2000000 := hF3.2.2
  have hfin : pushL [(popS (popS (popS s).2).2).1, (popS (popS s).2).1, (popS s).1] [1, 2, 0] (popS (popS (popS s).2).2).2 = movesS 3 [1, 2, 0] s := rfl
  generalize (popS (popS (popS s).2).2).2 = T at ho1 hst hfin ⊢
  obtain ⟨Tl, Ti, Tk⟩ := T
  refine VLoop.mk [42] (Nat × LR) (fun i => [.int .i64 i.1]) (fun i => (bl, .arr 2 (slotsC [(popS (popS (popS s).2).2).1, (popS (popS s).2).1, (popS s).1]) 0) :: FS bf bm bw i.2 (pushL [(popS (popS (popS s).2).2).1, (popS (popS s).2).1, (popS s).1] (([1, 2, 0] : List Nat).take i.1) ⟨Tl, Ti, Tk⟩)) (fun i => i.1 ≤ ([1, 2, 0] : List Nat).length ∧ okL i.2 (pushL [(popS (popS (popS s).2).2).1, (popS (popS s).2).1, (popS s).1] (([1, 2, 0] : List Nat).take i.1) ⟨Tl, Ti, Tk⟩)) (fun i => ([1, 2, 0] : List Nat).length - i.1) (0, o1) ?_ ?_
  · exact ⟨⟨Nat.zero_le _, ho1⟩, rfl, .cons 1 rfl (VSel.skip (VSel.skip (VSel.refl _) _) _)⟩
  rintro ⟨j, oj⟩ ⟨hj, hoj⟩
  dsimp only at hj hoj hst ⊢
  refine go ?_
  refine fork (fun hlt => go ?_) (fun hlt => go ?_)
  · have hlt : j < ([1, 2, 0] : List Nat).length := by simp at hlt ⊢; omega
    have hc : j = 0 ∨ j = 1 ∨ j = 2 := by simp at hlt; omega
    have hpl : ∀ i, (pushL [(popS (popS (popS s).2).2).1, (popS (popS s).2).1, (popS s).1] (([1, 2, 0] : List Nat).take i) ⟨Tl, Ti, Tk⟩).stk.length ≤ 2000003 := fun i => by
      have h1 := List.length_take_le' i ([1, 2, 0] : List Nat)
      have h2 : ([1, 2, 0] : List Nat).length ≤ 3 := by decide
      rw [pushL_len]
      show Tk.length + _ ≤ _
      omega
    rcases hc with rfl | rfl | rfl
    all_goals first
      | (exfalso; simp at hlt; done)
      | skip
    all_goals refine go ?_
    all_goals refine VDraw.chain [10, 13] (go ?_)
    all_goals
      cases oj with
      | none =>
        have h0 := hoj rfl
        first
        | (exfalso; revert h0; simp [pushL, pushS]; done)
        | (obtain rfl : Tk = [] := h0
           refine go ?_
           refine VAll.mk (fun b2 => go ?_)
           exact ⟨(1, some (b2, [])), ⟨by simp, fun h => by cases h⟩, by simp, rfl, .cons 1 rfl (.cons 1 rfl (.cons 0 rfl .nil))⟩)
      | some x =>
        obtain ⟨bo, junk⟩ := x
        refine go ?_
        refine VGd.mk ⟨rfl, Nat.zero_le _, app_len _ _, Nat.le_trans (Nat.mul_le_mul_left _ (Nat.succ_le_succ (hpl _))) (Nat.le_of_ble_eq_true rfl)⟩ (go ?_)
        refine VAll.mk (fun b2 => go ?_)
        exact ⟨(_, some (b2, [])), ⟨by simp, fun h => by cases h⟩, by simp, rfl, .cons 1 rfl (.cons 1 rfl (.cons 0 (congrArg (fun c => some (b2, AObj.arr 2 c 0)) (app_cells _ _ _)) .nil))⟩
  · have hj2 : j = ([1, 2, 0] : List Nat).length := by simp at hlt hj ⊢; omega
    subst hj2
    have hfin : pushL [(popS (popS (popS s).2).2).1, (popS (popS s).2).1, (popS s).1] (([1, 2, 0] : List Nat).take ([1, 2, 0] : List Nat).length) ⟨Tl, Ti, Tk⟩ = movesS 3 [1, 2, 0] s := hfin
    rw [hfin] at hoj ⊢
    exact VRet.mk _ (VSel.skip (VSel.refl _) _) ⟨rfl, oj, hoj, rfl⟩
theorem f_move_nip (bf bm bw : Nat) (o : LR) (s : EfS) (ho : okL o s) (hs : 0 ≤ s.inn ∧ s.inn ≤ 1000000 ∧ s.stk.length ≤ 1000000) : MoveC bf bm bw o s [110, 105, 112] 2 [1] := by
  have hP := f_Prim [110, 105, 112]
  have hF0 := Fine.pops hs (show 0 ≤ 65536 by omega)
  have hF1 := Fine.pops hs (show 1 ≤ 65536 by omega)
  have hF2 := Fine.pops hs (show 2 ≤ 65536 by omega)
  have hF3 := Fine.pops hs (show 3 ≤ 65536 by omega)
  rw [show primR [110, 105, 112] = some (2, 1) by decide] at hP
  have hP : Av.Fn Tryz.prog 124 [.str [110, 105, 112]] (.tup [.agg [.int .i64 2, .int .i64 1], .bool true]) := hP
  unfold MoveC
  refine ACalls.of_W tb_ok (fn := Tryz.f125) (n := 60) (by kernel_rfl) rfl (by kernel_rfl) rfl rfl (by simp) (go ?_)
  refine Fn.use (hP) (go ?_)
  refine VAll.mk (fun b => go ?_)
  refine VAll.mk (fun bl => go ?_)
  refine VLoop.un 5 [7] (go ?_)
  refine pop_use2 ho hF0 fun o1 ho1 => ?_
  refine go ?_
  refine VGd.mk ⟨Nat.le_of_ble_eq_true rfl, Nat.le_of_ble_eq_true rfl⟩ (go ?_)
  refine pop_use2 ho1 hF1 fun o1 ho1 => ?_
  refine go ?_
  refine VGd.mk ⟨Nat.le_of_ble_eq_true rfl, Nat.le_of_ble_eq_true rfl⟩ (go ?_)
  refine VAll.mk (fun bmv => go ?_)
  repeat (refine VMap.mk _ rfl (go ?_))
  have hst : ((popS (popS s).2).2).stk.length ≤ 2000000 := hF2.2.2
  have hfin : pushL [(popS (popS s).2).1, (popS s).1] [1] (popS (popS s).2).2 = movesS 2 [1] s := rfl
  generalize (popS (popS s).2).2 = T at ho1 hst hfin ⊢
  obtain ⟨Tl, Ti, Tk⟩ := T
  refine VLoop.mk [42] (Nat × LR) (fun i => [.int .i64 i.1]) (fun i => (bl, .arr 2 (slotsC [(popS (popS s).2).1, (popS s).1]) 0) :: FS bf bm bw i.2 (pushL [(popS (popS s).2).1, (popS s).1] (([1] : List Nat).take i.1) ⟨Tl, Ti, Tk⟩)) (fun i => i.1 ≤ ([1] : List Nat).length ∧ okL i.2 (pushL [(popS (popS s).2).1, (popS s).1] (([1] : List Nat).take i.1) ⟨Tl, Ti, Tk⟩)) (fun i => ([1] : List Nat).length - i.1) (0, o1) ?_ ?_
  · exact ⟨⟨Nat.zero_le _, ho1⟩, rfl, .cons 1 rfl (VSel.skip (VSel.skip (VSel.refl _) _) _)⟩
  rintro ⟨j, oj⟩ ⟨hj, hoj⟩
  dsimp only at hj hoj hst ⊢
  refine go ?_
  refine fork (fun hlt => go ?_) (fun hlt => go ?_)
  · have hlt : j < ([1] : List Nat).length := by simp at hlt ⊢; omega
    have hc : j = 0 ∨ j = 1 ∨ j = 2 := by simp at hlt; omega
    have hpl : ∀ i, (pushL [(popS (popS s).2).1, (popS s).1] (([1] : List Nat).take i) ⟨Tl, Ti, Tk⟩).stk.length ≤ 2000003 := fun i => by
      have h1 := List.length_take_le' i ([1] : List Nat)
      have h2 : ([1] : List Nat).length ≤ 3 := by decide
      rw [pushL_len]
      show Tk.length + _ ≤ _
      omega
    rcases hc with rfl | rfl | rfl
    all_goals first
      | (exfalso; simp at hlt; done)
      | skip
    all_goals refine go ?_
    all_goals refine VDraw.chain [10, 13] (go ?_)
    all_goals
      cases oj with
      | none =>
        have h0 := hoj rfl
        first
        | (exfalso; revert h0; simp [pushL, pushS]; done)
        | (obtain rfl : Tk = [] := h0
           refine go ?_
           refine VAll.mk (fun b2 => go ?_)
           exact ⟨(1, some (b2, [])), ⟨by simp, fun h => by cases h⟩, by simp, rfl, .cons 1 rfl (.cons 1 rfl (.cons 0 rfl .nil))⟩)
      | some x =>
        obtain ⟨bo, junk⟩ := x
        refine go ?_
        refine VGd.mk ⟨rfl, Nat.zero_le _, app_len _ _, Nat.le_trans (Nat.mul_le_mul_left _ (Nat.succ_le_succ (hpl _))) (Nat.le_of_ble_eq_true rfl)⟩ (go ?_)
        refine VAll.mk (fun b2 => go ?_)
        exact ⟨(_, some (b2, [])), ⟨by simp, fun h => by cases h⟩, by simp, rfl, .cons 1 rfl (.cons 1 rfl (.cons 0 (congrArg (fun c => some (b2, AObj.arr 2 c 0)) (app_cells _ _ _)) .nil))⟩
  · have hj2 : j = ([1] : List Nat).length := by simp at hlt hj ⊢; omega
    subst hj2
    have hfin : pushL [(popS (popS s).2).1, (popS s).1] (([1] : List Nat).take ([1] : List Nat).length) ⟨Tl, Ti, Tk⟩ = movesS 2 [1] s := hfin
    rw [hfin] at hoj ⊢
    exact VRet.mk _ (VSel.skip (VSel.refl _) _) ⟨rfl, oj, hoj, rfl⟩
theorem f_move_tuck (bf bm bw : Nat) (o : LR) (s : EfS) (ho : okL o s) (hs : 0 ≤ s.inn ∧ s.inn ≤ 1000000 ∧ s.stk.length ≤ 1000000) : MoveC bf bm bw o s [116, 117, 99, 107] 2 [1, 0, 1] := by
  have hP := f_Prim [116, 117, 99, 107]
  have hF0 := Fine.pops hs (show 0 ≤ 65536 by omega)
  have hF1 := Fine.pops hs (show 1 ≤ 65536 by omega)
  have hF2 := Fine.pops hs (show 2 ≤ 65536 by omega)
  have hF3 := Fine.pops hs (show 3 ≤ 65536 by omega)
  rw [show primR [116, 117, 99, 107] = some (2, 3) by decide] at hP
  have hP : Av.Fn Tryz.prog 124 [.str [116, 117, 99, 107]] (.tup [.agg [.int .i64 2, .int .i64 3], .bool true]) := hP
  unfold MoveC
  refine ACalls.of_W tb_ok (fn := Tryz.f125) (n := 60) (by kernel_rfl) rfl (by kernel_rfl) rfl rfl (by simp) (go ?_)
  refine Fn.use (hP) (go ?_)
  refine VAll.mk (fun b => go ?_)
  refine VAll.mk (fun bl => go ?_)
  refine VLoop.un 5 [7] (go ?_)
  refine pop_use2 ho hF0 fun o1 ho1 => ?_
  refine go ?_
  refine VGd.mk ⟨Nat.le_of_ble_eq_true rfl, Nat.le_of_ble_eq_true rfl⟩ (go ?_)
  refine pop_use2 ho1 hF1 fun o1 ho1 => ?_
  refine go ?_
  refine VGd.mk ⟨Nat.le_of_ble_eq_true rfl, Nat.le_of_ble_eq_true rfl⟩ (go ?_)
  refine VAll.mk (fun bmv => go ?_)
  repeat (refine VMap.mk _ rfl (go ?_))
  have hst : ((popS (popS s).2).2).stk.length ≤ 2000000 := hF2.2.2
  have hfin : pushL [(popS (popS s).2).1, (popS s).1] [1, 0, 1] (popS (popS s).2).2 = movesS 2 [1, 0, 1] s := rfl
  generalize (popS (popS s).2).2 = T at ho1 hst hfin ⊢
  obtain ⟨Tl, Ti, Tk⟩ := T
  refine VLoop.mk [42] (Nat × LR) (fun i => [.int .i64 i.1]) (fun i => (bl, .arr 2 (slotsC [(popS (popS s).2).1, (popS s).1]) 0) :: FS bf bm bw i.2 (pushL [(popS (popS s).2).1, (popS s).1] (([1, 0, 1] : List Nat).take i.1) ⟨Tl, Ti, Tk⟩)) (fun i => i.1 ≤ ([1, 0, 1] : List Nat).length ∧ okL i.2 (pushL [(popS (popS s).2).1, (popS s).1] (([1, 0, 1] : List Nat).take i.1) ⟨Tl, Ti, Tk⟩)) (fun i => ([1, 0, 1] : List Nat).length - i.1) (0, o1) ?_ ?_
  · exact ⟨⟨Nat.zero_le _, ho1⟩, rfl, .cons 1 rfl (VSel.skip (VSel.skip (VSel.refl _) _) _)⟩
  rintro ⟨j, oj⟩ ⟨hj, hoj⟩
  dsimp only at hj hoj hst ⊢
  refine go ?_
  refine fork (fun hlt => go ?_) (fun hlt => go ?_)
  · have hlt : j < ([1, 0, 1] : List Nat).length := by simp at hlt ⊢; omega
    have hc : j = 0 ∨ j = 1 ∨ j = 2 := by simp at hlt; omega
    have hpl : ∀ i, (pushL [(popS (popS s).2).1, (popS s).1] (([1, 0, 1] : List Nat).take i) ⟨Tl, Ti, Tk⟩).stk.length ≤ 2000003 := fun i => by
      have h1 := List.length_take_le' i ([1, 0, 1] : List Nat)
      have h2 : ([1, 0, 1] : List Nat).length ≤ 3 := by decide
      rw [pushL_len]
      show Tk.length + _ ≤ _
      omega
    rcases hc with rfl | rfl | rfl
    all_goals first
      | (exfalso; simp at hlt; done)
      | skip
    all_goals refine go ?_
    all_goals refine VDraw.chain [10, 13] (go ?_)
    all_goals
      cases oj with
      | none =>
        have h0 := hoj rfl
        first
        | (exfalso; revert h0; simp [pushL, pushS]; done)
        | (obtain rfl : Tk = [] := h0
           refine go ?_
           refine VAll.mk (fun b2 => go ?_)
           exact ⟨(1, some (b2, [])), ⟨by simp, fun h => by cases h⟩, by simp, rfl, .cons 1 rfl (.cons 1 rfl (.cons 0 rfl .nil))⟩)
      | some x =>
        obtain ⟨bo, junk⟩ := x
        refine go ?_
        refine VGd.mk ⟨rfl, Nat.zero_le _, app_len _ _, Nat.le_trans (Nat.mul_le_mul_left _ (Nat.succ_le_succ (hpl _))) (Nat.le_of_ble_eq_true rfl)⟩ (go ?_)
        refine VAll.mk (fun b2 => go ?_)
        exact ⟨(_, some (b2, [])), ⟨by simp, fun h => by cases h⟩, by simp, rfl, .cons 1 rfl (.cons 1 rfl (.cons 0 (congrArg (fun c => some (b2, AObj.arr 2 c 0)) (app_cells _ _ _)) .nil))⟩
  · have hj2 : j = ([1, 0, 1] : List Nat).length := by simp at hlt hj ⊢; omega
    subst hj2
    have hfin : pushL [(popS (popS s).2).1, (popS s).1] (([1, 0, 1] : List Nat).take ([1, 0, 1] : List Nat).length) ⟨Tl, Ti, Tk⟩ = movesS 2 [1, 0, 1] s := hfin
    rw [hfin] at hoj ⊢
    exact VRet.mk _ (VSel.skip (VSel.refl _) _) ⟨rfl, oj, hoj, rfl⟩
theorem f_move (bf bm bw : Nat) (o : LR) (s : EfS) (name : List UInt8) (k : Nat) (ks : List Nat) (hm : moveR name = some (k, ks)) (ho : okL o s) (hs : 0 ≤ s.inn ∧ s.inn ≤ 1000000 ∧ s.stk.length ≤ 1000000) : MoveC bf bm bw o s name k ks := by
  unfold moveR at hm
  split at hm
  · rename_i e
    cases hm; subst e
    exact f_move_dup bf bm bw o s ho hs
  split at hm
  · rename_i e
    cases hm; subst e
    exact f_move_drop bf bm bw o s ho hs
  split at hm
  · rename_i e
    cases hm; subst e
    exact f_move_swap bf bm bw o s ho hs
  split at hm
  · rename_i e
    cases hm; subst e
    exact f_move_over bf bm bw o s ho hs
  split at hm
  · rename_i e
    cases hm; subst e
    exact f_move_rot bf bm bw o s ho hs
  split at hm
  · rename_i e
    cases hm; subst e
    exact f_move_nip bf bm bw o s ho hs
  split at hm
  · rename_i e
    cases hm; subst e
    exact f_move_tuck bf bm bw o s ho hs
  · cases hm
end Go.Proofs.YtonkeklageehbaaGreatDoor

namespace Go.Proofs.YtonkeklageehbaaGreatDoor
open Go Go.Av
/-- Known words. -/
abbrev KnL := List (List UInt8 × Int × Int)
def entsOf (kn : KnL) : List (AV × AV) := kn.map fun x => (.str x.1, .agg [.int .i64 x.2.1, .int .i64 x.2.2])
def knownR (kn : KnL) (name : List UInt8) : Option (Int × Int) := (kn.find? fun x => decide (x.1 = name)).map (·.2)
theorem mapFind_ents (name : List UInt8) : ∀ (kn : KnL) (i : Nat), ∃ r, mapFind (entsOf kn) (.str name) i = some r ∧ r.map (·.2) = (knownR kn name).map fun x => AV.agg [.int .i64 x.1, .int .i64 x.2]
  | [], i => ⟨none, rfl, rfl⟩
  | x :: kn, i => by
    obtain ⟨r, h1, h2⟩ := mapFind_ents name kn (i + 1)
    by_cases e : x.1 = name
    · refine ⟨some (i, .agg [.int .i64 x.2.1, .int .i64 x.2.2]), ?_, ?_⟩
      · show (match some (decide (name = x.1)) with
          | some true => some (some (i, AV.agg [.int .i64 x.2.1, .int .i64 x.2.2]))
          | some false => mapFind (entsOf kn) (.str name) (i + 1)
          | none => none) = _
        rw [decide_eq_true e.symm]
      · unfold knownR
        rw [List.find?_cons_of_pos (by simpa using e)]; rfl
    · refine ⟨r, ?_, ?_⟩
      · show (match some (decide (name = x.1)) with
          | some true => some (some (i, AV.agg [.int .i64 x.2.1, .int .i64 x.2.2]))
          | some false => mapFind (entsOf kn) (.str name) (i + 1)
          | none => none) = _
        rw [decide_eq_false (fun h => e h.symm)]
        exact h1
      · rw [h2]
        unfold knownR
        rw [List.find?_cons_of_neg (by simpa using e)]
structure RunI where
  k : Nat
  o : LR
  t : EfS
theorem move_c {bf bw bm l : Nat} {ents : List (AV × AV)} {o : LR} {s : EfS} {Post : AOut → St → Prop} (E : St) {name : List UInt8} {k : Nat} {ks : List Nat} (hm : moveR name = some (k, ks)) (ho : okL o s) (hs : 0 ≤ s.inn ∧ s.inn ≤ 1000000 ∧ s.stk.length ≤ 1000000)
    (h : ∀ o', okL o' (movesS k ks s) → Post (.ret (.tup [])) (E ++ (WM bw bm ents l ++ FS bf bm bw o' (movesS k ks s)))) :
    ACalls Tryz.prog 125 [.ptr bf 0, .str name] (E ++ (WM bw bm ents l ++ FS bf bm bw o s)) Post := by
  refine ACalls.usep (f_move bf bm bw o s name k ks hm ho hs) (R := E ++ WM bw bm ents l) (permE _ _ _) ?_
  rintro out s' ⟨rfl, o', h1, rfl⟩
  rw [List.append_assoc]; exact h o' h1
theorem control_c {known : List UInt8 → Option (Int × Int)} {bf bw bm n l : Nat} {ents : List (AV × AV)} {o : LR} {s : EfS} {Post : AOut → St → Prop} (E : St) {name : List UInt8} (hl : s.left = l) (hk : ∀ n i o, known n = some (i, o) → 0 ≤ i ∧ i ≤ 16 ∧ 0 ≤ o ∧ o ≤ 16)
    (hR : RunC known bw bm ents n) (hn : s.left ≤ n) (ho : okL o s) (hb : 0 ≤ s.inn ∧ s.inn + 16 * s.left + 16 ≤ 100000 ∧ s.stk.length + 16 * s.left + 16 ≤ 100000 ∧ s.left ≤ 4096) (hg : GoodS s)
    (k0 : controlS (runL known) name s = none → Post (.ret (.bool false)) (E ++ (WM bw bm ents l ++ FS bf bm bw o s)))
    (k1 : ∀ t o', controlS (runL known) name s = some (.ok t) → okL o' t → GoodS t → Post (.ret (.bool true)) (E ++ (WM bw bm ents t.left ++ FS bf bm bw o' t)))
    (k2 : ∀ e, controlS (runL known) name s = some (.error e) → Post (.panic (stopV e)) E) :
    ACalls Tryz.prog 126 [.ptr bf 0, .str name] (E ++ (WM bw bm ents l ++ FS bf bm bw o s)) Post := by
  subst hl
  refine ACalls.usep (f_control hk hR bf o s name hn ho hb hg) (R := E) List.perm_append_comm ?_
  intro out s' h
  unfold CtlP at h
  split at h
  · rename_i e
    obtain ⟨rfl, rfl⟩ := h
    exact k0 e
  · rename_i r e
    unfold RunP at h
    split at h
    · rename_i t
      obtain ⟨rfl, h1, o', h2, rfl⟩ := h
      exact k1 t o' e h2 h1
    · rename_i er
      obtain ⟨rfl, rfl⟩ := h
      rw [List.append_nil]; exact k2 er e
/-- Among the names: has one been moved? -/
structure MvI where
  j : Nat
  o : LR
  mv : Option (Nat × List Nat)
def MvI.nm (i : MvI) (name : List UInt8) : List UInt8 := match i.mv with
  | none => name
  | some _ => []
def MvI.ok (i : MvI) (name : List UInt8) : Bool := match i.mv with
  | none => (primR name).isSome
  | some _ => false
def MvI.st (i : MvI) (s : EfS) : EfS := match i.mv with
  | none => s
  | some x => movesS x.1 x.2 s
def MvI.at (i : MvI) (name : List UInt8) : Prop := match i.mv with
  | none => ∀ a, a < i.j → a < 7 → namesL[a]? ≠ some name
  | some x => moveR name = some x
theorem moved_of {j : Nat} {name : List UInt8} (hj : j < 7) (h : namesL[j]? = some name) : ∃ x, moveR name = some x := by
  have hc : j = 0 ∨ j = 1 ∨ j = 2 ∨ j = 3 ∨ j = 4 ∨ j = 5 ∨ j = 6 := by omega
  rcases hc with rfl | rfl | rfl | rfl | rfl | rfl | rfl <;> (obtain rfl := (Option.some.inj h); exact ⟨_, rfl⟩)
theorem moved_no {name : List UInt8} (h : ∀ a, a < 7 → namesL[a]? ≠ some name) : moveR name = none := by
  unfold moveR
  have h0 := h 0 (by omega); have h1 := h 1 (by omega); have h2 := h 2 (by omega); have h3 := h 3 (by omega); have h4 := h 4 (by omega); have h5 := h 5 (by omega); have h6 := h 6 (by omega)
  rw [if_neg (fun e => h0 (by rw [e]; rfl)), if_neg (fun e => h1 (by rw [e]; rfl)), if_neg (fun e => h2 (by rw [e]; rfl)), if_neg (fun e => h3 (by rw [e]; rfl)), if_neg (fun e => h4 (by rw [e]; rfl)), if_neg (fun e => h5 (by rw [e]; rfl)), if_neg (fun e => h6 (by rw [e]; rfl))]
theorem names_ne {j : Nat} {w : List UInt8} (h : namesL[j]? = some w) : w ≠ [] := by
  have : (namesL.all fun w => !w.isEmpty) = true := by decide
  have := List.all_eq_true.1 this w (List.mem_of_getElem? h)
  intro e; subst e; simp at this
theorem GoodS.moves {s : EfS} (h : GoodS s) (n : Nat) (ks : List Nat) : GoodS (movesS n ks s) := by
  obtain ⟨h1, h2⟩ := h.pops n
  unfold movesS
  generalize (popsS n s).2 = t at h1
  induction ks generalizing t with
  | nil => exact h1
  | cons k ks ih =>
    refine ih _ (h1.push ?_)
    rw [List.getD_eq_getElem?_getD]
    cases hq : (popsS n s).1[k]? with
    | none => intro l e; cases e
    | some x => exact h2 x (List.mem_of_getElem? hq)

set_option maxHeartbeats 4000000 in
theorem f_run_of {kn : KnL} {bw bm n : Nat} (hk : ∀ n i o, knownR kn n = some (i, o) → 0 ≤ i ∧ i ≤ 16 ∧ 0 ≤ o ∧ o ≤ 16) (ih : ∀ m, m < n → RunC (knownR kn) bw bm (entsOf kn) m) : RunC (knownR kn) bw bm (entsOf kn) n := by
  intro bf o s q hn ho hb hg hq hgq
  have hgi : ∀ {k : Nat} {y : Tree}, q[k]? = some y → goodI y = true := by
    intro k y h
    have : ∀ l : List Tree, goodIs l = true → ∀ y ∈ l, goodI y = true := by
      intro l
      induction l with
      | nil => intro _ y hy; cases hy
      | cons t r ihl =>
        intro h y hy
        simp only [goodIs, Bool.and_eq_true] at h
        rcases List.mem_cons.1 hy with rfl | hy
        · exact h.1
        · exact ihl h.2 y hy
    exact this q hgq y (List.mem_of_getElem? h)
  refine ACalls.of_W tb_ok (fn := Tryz.f103) (n := 121) (by kernel_rfl) rfl (by kernel_rfl) rfl rfl (by simp) (go ?_)
  refine VLoop.mk [19] RunI (fun i => [.int .i64 i.k]) (fun i => WM bw bm (entsOf kn) i.t.left ++ FS bf bm bw i.o i.t)
    (fun i => i.k ≤ q.length ∧ okL i.o i.t ∧ Bud i.t ∧ GoodS i.t ∧ i.t.left ≤ n ∧ runL (knownR kn) (q.drop i.k) i.t = runL (knownR kn) q s) (fun i => q.length - i.k) ⟨0, o, s⟩ ?_ ?_
  · exact ⟨⟨Nat.zero_le _, ho, hb, hg, hn, rfl⟩, rfl, VSel.refl _⟩
  rintro ⟨k, o1, t⟩ ⟨hk1, ho1, hb1, hg1, hn1, hI⟩
  dsimp only at hk1 ho1 hb1 hg1 hn1 hI ⊢
  refine go ?_
  refine fork (fun hlt => go ?_) (fun hlt => go ?_)
  · have hlt : k < q.length := by omega
    obtain ⟨y, hy⟩ : ∃ y, q[k]? = some y := ⟨q[k], by simp [hlt]⟩
    have hgy := hgi hy
    have hd : q.drop k = y :: q.drop (k + 1) := by
      rw [List.drop_eq_getElem_cons hlt]
      congr 1
      rw [List.getElem?_eq_getElem hlt] at hy
      exact Option.some.inj hy
    rw [hd, runL_cons hk] at hI
    obtain ⟨b1, b2, b3, b4⟩ := hb1
    refine VNth.mk (itemAV y) (by rw [mulN_eq, itemAVs_map]; simp [hy]) (go ?_)
    refine fork (fun hw => go ?_) (fun hw => go ?_)
    · have hl0 : t.left = 0 := by omega
      rw [if_pos hl0] at hI
      refine VRet.mk [] .nil ?_
      rw [← hI]
      exact ⟨rfl, rfl⟩
    have hl0 : t.left ≠ 0 := by omega
    rw [if_neg hl0] at hI
    obtain ⟨s1, hs1⟩ : ∃ s1 : EfS, s1 = { t with left := t.left - 1 } := ⟨_, rfl⟩
    rw [← hs1] at hI
    have hR := ih (t.left - 1) (by omega)
    have hwk : ((4096 - t.left : Nat) : Int) + 1 = ((4096 - (t.left - 1) : Nat) : Int) := by omega
    rw [hwk]
    cases y with
    | none => simp [goodI] at hgy
    | odd u v => simp [goodI] at hgy
    | int m =>
      have hI : runL (knownR kn) (q.drop (k + 1)) (pushS s1 none) = runL (knownR kn) q s := hI
      obtain ⟨Tl, Ti, Tk⟩ := t
      dsimp only at b1 b2 b3 b4 hs1 hl0 hn1
      have gs : GoodS (pushS s1 none) := GoodS.push (by rw [hs1]; exact hg1) (fun l hl => by cases hl)
      subst hs1
      refine go ?_
      refine VAll.mk (fun b6 => go ?_)
      refine VAll.mk (fun b8 => go ?_)
      refine VDraw.chain [10, 13] (go ?_)
      iterate 6 ((conv => whnf); (apply VQ.mk; focus (refine go ?_; exact ⟨rfl, rfl⟩)))
      refine go ?_
      cases o1 with
      | none =>
        obtain rfl : Tk = [] := ho1 rfl
        refine go ?_
        refine VAll.mk (fun b9 => go ?_)
        refine VObj.mk 5 _ rfl (go ?_)
        refine ⟨⟨k + 1, some (b9, []), pushS ⟨Tl - 1, Ti, []⟩ none⟩, ⟨by dsimp only; omega, (fun h => by cases h), ⟨by dsimp only [pushS]; omega, by dsimp only [pushS]; omega, by simp [pushS] at *; omega, by dsimp only [pushS]; omega⟩, gs, by dsimp only [pushS]; omega, hI⟩, by dsimp only; omega, rfl, ?_⟩
        exact .cons 3 rfl (.cons 3 rfl (.cons 3 rfl (.cons 0 rfl .nil)))
      | some y =>
        obtain ⟨bo, junk⟩ := y
        refine go ?_
        refine VObj.mk 5 _ rfl (go ?_)
        refine VGd.mk ⟨rfl, Nat.zero_le _, app_len _ _, by dsimp only; omega⟩ (go ?_)
        refine VAll.mk (fun b9 => go ?_)
        refine VObj.mk 5 _ rfl (go ?_)
        refine ⟨⟨k + 1, some (b9, []), pushS ⟨Tl - 1, Ti, Tk⟩ none⟩, ⟨by dsimp only; omega, (fun h => by cases h), ⟨by dsimp only [pushS]; omega, by dsimp only [pushS]; omega, by simp [pushS] at *; omega, by dsimp only [pushS]; omega⟩, gs, by dsimp only [pushS]; omega, hI⟩, by dsimp only; omega, rfl, ?_⟩
        rw [fs_app junk]
        exact .cons 3 rfl (.cons 3 rfl (.cons 3 rfl (.cons 0 rfl .nil)))
    | str m =>
      have hI : runL (knownR kn) (q.drop (k + 1)) (pushS s1 none) = runL (knownR kn) q s := hI
      obtain ⟨Tl, Ti, Tk⟩ := t
      dsimp only at b1 b2 b3 b4 hs1 hl0 hn1
      have gs : GoodS (pushS s1 none) := GoodS.push (by rw [hs1]; exact hg1) (fun l hl => by cases hl)
      subst hs1
      refine go ?_
      refine VAll.mk (fun b6 => go ?_)
      refine VAll.mk (fun b8 => go ?_)
      refine VDraw.chain [10, 13] (go ?_)
      iterate 6 ((conv => whnf); (apply VQ.mk; focus (refine go ?_; exact ⟨rfl, rfl⟩)))
      refine go ?_
      cases o1 with
      | none =>
        obtain rfl : Tk = [] := ho1 rfl
        refine go ?_
        refine VAll.mk (fun b9 => go ?_)
        refine VObj.mk 5 _ rfl (go ?_)
        refine ⟨⟨k + 1, some (b9, []), pushS ⟨Tl - 1, Ti, []⟩ none⟩, ⟨by dsimp only; omega, (fun h => by cases h), ⟨by dsimp only [pushS]; omega, by dsimp only [pushS]; omega, by simp [pushS] at *; omega, by dsimp only [pushS]; omega⟩, gs, by dsimp only [pushS]; omega, hI⟩, by dsimp only; omega, rfl, ?_⟩
        exact .cons 3 rfl (.cons 3 rfl (.cons 3 rfl (.cons 0 rfl .nil)))
      | some y =>
        obtain ⟨bo, junk⟩ := y
        refine go ?_
        refine VObj.mk 5 _ rfl (go ?_)
        refine VGd.mk ⟨rfl, Nat.zero_le _, app_len _ _, by dsimp only; omega⟩ (go ?_)
        refine VAll.mk (fun b9 => go ?_)
        refine VObj.mk 5 _ rfl (go ?_)
        refine ⟨⟨k + 1, some (b9, []), pushS ⟨Tl - 1, Ti, Tk⟩ none⟩, ⟨by dsimp only; omega, (fun h => by cases h), ⟨by dsimp only [pushS]; omega, by dsimp only [pushS]; omega, by simp [pushS] at *; omega, by dsimp only [pushS]; omega⟩, gs, by dsimp only [pushS]; omega, hI⟩, by dsimp only; omega, rfl, ?_⟩
        rw [fs_app junk]
        exact .cons 3 rfl (.cons 3 rfl (.cons 3 rfl (.cons 0 rfl .nil)))
    | bool m =>
      have hI : runL (knownR kn) (q.drop (k + 1)) (pushS s1 none) = runL (knownR kn) q s := hI
      obtain ⟨Tl, Ti, Tk⟩ := t
      dsimp only at b1 b2 b3 b4 hs1 hl0 hn1
      have gs : GoodS (pushS s1 none) := GoodS.push (by rw [hs1]; exact hg1) (fun l hl => by cases hl)
      subst hs1
      refine go ?_
      refine VAll.mk (fun b6 => go ?_)
      refine VAll.mk (fun b8 => go ?_)
      refine VDraw.chain [10, 13] (go ?_)
      iterate 6 ((conv => whnf); (apply VQ.mk; focus (refine go ?_; exact ⟨rfl, rfl⟩)))
      refine go ?_
      cases o1 with
      | none =>
        obtain rfl : Tk = [] := ho1 rfl
        refine go ?_
        refine VAll.mk (fun b9 => go ?_)
        refine VObj.mk 5 _ rfl (go ?_)
        refine ⟨⟨k + 1, some (b9, []), pushS ⟨Tl - 1, Ti, []⟩ none⟩, ⟨by dsimp only; omega, (fun h => by cases h), ⟨by dsimp only [pushS]; omega, by dsimp only [pushS]; omega, by simp [pushS] at *; omega, by dsimp only [pushS]; omega⟩, gs, by dsimp only [pushS]; omega, hI⟩, by dsimp only; omega, rfl, ?_⟩
        exact .cons 3 rfl (.cons 3 rfl (.cons 3 rfl (.cons 0 rfl .nil)))
      | some y =>
        obtain ⟨bo, junk⟩ := y
        refine go ?_
        refine VObj.mk 5 _ rfl (go ?_)
        refine VGd.mk ⟨rfl, Nat.zero_le _, app_len _ _, by dsimp only; omega⟩ (go ?_)
        refine VAll.mk (fun b9 => go ?_)
        refine VObj.mk 5 _ rfl (go ?_)
        refine ⟨⟨k + 1, some (b9, []), pushS ⟨Tl - 1, Ti, Tk⟩ none⟩, ⟨by dsimp only; omega, (fun h => by cases h), ⟨by dsimp only [pushS]; omega, by dsimp only [pushS]; omega, by simp [pushS] at *; omega, by dsimp only [pushS]; omega⟩, gs, by dsimp only [pushS]; omega, hI⟩, by dsimp only; omega, rfl, ?_⟩
        rw [fs_app junk]
        exact .cons 3 rfl (.cons 3 rfl (.cons 3 rfl (.cons 0 rfl .nil)))
    | box m =>
      have hI : runL (knownR kn) (q.drop (k + 1)) (pushS s1 none) = runL (knownR kn) q s := hI
      obtain ⟨Tl, Ti, Tk⟩ := t
      dsimp only at b1 b2 b3 b4 hs1 hl0 hn1
      have gs : GoodS (pushS s1 none) := GoodS.push (by rw [hs1]; exact hg1) (fun l hl => by cases hl)
      subst hs1
      refine go ?_
      refine VAll.mk (fun b6 => go ?_)
      refine VAll.mk (fun b8 => go ?_)
      refine VDraw.chain [10, 13] (go ?_)
      iterate 6 ((conv => whnf); (apply VQ.mk; focus (refine go ?_; exact ⟨rfl, rfl⟩)))
      refine go ?_
      cases o1 with
      | none =>
        obtain rfl : Tk = [] := ho1 rfl
        refine go ?_
        refine VAll.mk (fun b9 => go ?_)
        refine VObj.mk 5 _ rfl (go ?_)
        refine ⟨⟨k + 1, some (b9, []), pushS ⟨Tl - 1, Ti, []⟩ none⟩, ⟨by dsimp only; omega, (fun h => by cases h), ⟨by dsimp only [pushS]; omega, by dsimp only [pushS]; omega, by simp [pushS] at *; omega, by dsimp only [pushS]; omega⟩, gs, by dsimp only [pushS]; omega, hI⟩, by dsimp only; omega, rfl, ?_⟩
        exact .cons 3 rfl (.cons 3 rfl (.cons 3 rfl (.cons 0 rfl .nil)))
      | some y =>
        obtain ⟨bo, junk⟩ := y
        refine go ?_
        refine VObj.mk 5 _ rfl (go ?_)
        refine VGd.mk ⟨rfl, Nat.zero_le _, app_len _ _, by dsimp only; omega⟩ (go ?_)
        refine VAll.mk (fun b9 => go ?_)
        refine VObj.mk 5 _ rfl (go ?_)
        refine ⟨⟨k + 1, some (b9, []), pushS ⟨Tl - 1, Ti, Tk⟩ none⟩, ⟨by dsimp only; omega, (fun h => by cases h), ⟨by dsimp only [pushS]; omega, by dsimp only [pushS]; omega, by simp [pushS] at *; omega, by dsimp only [pushS]; omega⟩, gs, by dsimp only [pushS]; omega, hI⟩, by dsimp only; omega, rfl, ?_⟩
        rw [fs_app junk]
        exact .cons 3 rfl (.cons 3 rfl (.cons 3 rfl (.cons 0 rfl .nil)))
    | list m =>
      have hI : runL (knownR kn) (q.drop (k + 1)) (pushS s1 none) = runL (knownR kn) q s := hI
      obtain ⟨Tl, Ti, Tk⟩ := t
      dsimp only at b1 b2 b3 b4 hs1 hl0 hn1
      have gs : GoodS (pushS s1 none) := GoodS.push (by rw [hs1]; exact hg1) (fun l hl => by cases hl)
      subst hs1
      refine go ?_
      refine VAll.mk (fun b6 => go ?_)
      refine VAll.mk (fun b8 => go ?_)
      refine VDraw.chain [10, 13] (go ?_)
      iterate 6 ((conv => whnf); (apply VQ.mk; focus (refine go ?_; exact ⟨rfl, rfl⟩)))
      refine go ?_
      cases o1 with
      | none =>
        obtain rfl : Tk = [] := ho1 rfl
        refine go ?_
        refine VAll.mk (fun b9 => go ?_)
        refine VObj.mk 5 _ rfl (go ?_)
        refine ⟨⟨k + 1, some (b9, []), pushS ⟨Tl - 1, Ti, []⟩ none⟩, ⟨by dsimp only; omega, (fun h => by cases h), ⟨by dsimp only [pushS]; omega, by dsimp only [pushS]; omega, by simp [pushS] at *; omega, by dsimp only [pushS]; omega⟩, gs, by dsimp only [pushS]; omega, hI⟩, by dsimp only; omega, rfl, ?_⟩
        exact .cons 3 rfl (.cons 3 rfl (.cons 3 rfl (.cons 0 rfl .nil)))
      | some y =>
        obtain ⟨bo, junk⟩ := y
        refine go ?_
        refine VObj.mk 5 _ rfl (go ?_)
        refine VGd.mk ⟨rfl, Nat.zero_le _, app_len _ _, by dsimp only; omega⟩ (go ?_)
        refine VAll.mk (fun b9 => go ?_)
        refine VObj.mk 5 _ rfl (go ?_)
        refine ⟨⟨k + 1, some (b9, []), pushS ⟨Tl - 1, Ti, Tk⟩ none⟩, ⟨by dsimp only; omega, (fun h => by cases h), ⟨by dsimp only [pushS]; omega, by dsimp only [pushS]; omega, by simp [pushS] at *; omega, by dsimp only [pushS]; omega⟩, gs, by dsimp only [pushS]; omega, hI⟩, by dsimp only; omega, rfl, ?_⟩
        rw [fs_app junk]
        exact .cons 3 rfl (.cons 3 rfl (.cons 3 rfl (.cons 0 rfl .nil)))
    | quot m =>
      have hgx : GoodX (some m) := by
        simp only [goodI, Bool.and_eq_true, decide_eq_true_eq] at hgy
        intro l hl; cases hl; exact hgy
      have hI : runL (knownR kn) (q.drop (k + 1)) (pushS s1 (some m)) = runL (knownR kn) q s := hI
      obtain ⟨Tl, Ti, Tk⟩ := t
      dsimp only at b1 b2 b3 b4 hs1 hl0 hn1
      have gs : GoodS (pushS s1 (some m)) := GoodS.push (by rw [hs1]; exact hg1) hgx
      subst hs1
      refine go ?_
      refine VAll.mk (fun b6 => go ?_)
      refine VAll.mk (fun b8 => go ?_)
      refine VDraw.chain [10, 13] (go ?_)
      iterate 6 ((conv => whnf); (apply VQ.mk; focus (refine go ?_; exact ⟨rfl, rfl⟩)))
      refine go ?_
      cases o1 with
      | none =>
        obtain rfl : Tk = [] := ho1 rfl
        refine go ?_
        refine VAll.mk (fun b9 => go ?_)
        refine VObj.mk 5 _ rfl (go ?_)
        refine ⟨⟨k + 1, some (b9, []), pushS ⟨Tl - 1, Ti, []⟩ (some m)⟩, ⟨by dsimp only; omega, (fun h => by cases h), ⟨by dsimp only [pushS]; omega, by dsimp only [pushS]; omega, by simp [pushS] at *; omega, by dsimp only [pushS]; omega⟩, gs, by dsimp only [pushS]; omega, hI⟩, by dsimp only; omega, rfl, ?_⟩
        exact .cons 3 rfl (.cons 3 rfl (.cons 3 rfl (.cons 0 rfl .nil)))
      | some y =>
        obtain ⟨bo, junk⟩ := y
        refine go ?_
        refine VObj.mk 5 _ rfl (go ?_)
        refine VGd.mk ⟨rfl, Nat.zero_le _, app_len _ _, by dsimp only; omega⟩ (go ?_)
        refine VAll.mk (fun b9 => go ?_)
        refine VObj.mk 5 _ rfl (go ?_)
        refine ⟨⟨k + 1, some (b9, []), pushS ⟨Tl - 1, Ti, Tk⟩ (some m)⟩, ⟨by dsimp only; omega, (fun h => by cases h), ⟨by dsimp only [pushS]; omega, by dsimp only [pushS]; omega, by simp [pushS] at *; omega, by dsimp only [pushS]; omega⟩, gs, by dsimp only [pushS]; omega, hI⟩, by dsimp only; omega, rfl, ?_⟩
        rw [fs_app junk]
        exact .cons 3 rfl (.cons 3 rfl (.cons 3 rfl (.cons 0 rfl .nil)))
    | call name =>
      have hne : name ≠ [] := by
        simp only [goodI] at hgy
        intro e; subst e; simp at hgy
      have gs1 : GoodS s1 := by rw [hs1]; exact hg1
      have ho1' : okL o1 s1 := by rw [hs1]; exact ho1
      have l1 : s1.left = t.left - 1 := by rw [hs1]
      have l2 : s1.inn = t.inn := by rw [hs1]
      have l3 : s1.stk = t.stk := by rw [hs1]
      have hnext : ∀ (o' : LR) (T : EfS), stepS (runL (knownR kn)) (knownR kn) (.call name) s1 = .ok T → okL o' T → GoodS T →
          k + 1 ≤ q.length ∧ okL o' T ∧ Bud T ∧ GoodS T ∧ T.left ≤ n ∧ runL (knownR kn) (q.drop (k + 1)) T = runL (knownR kn) q s := by
        intro o' T h1 h2 h3
        rw [h1] at hI
        obtain ⟨c1, c2, c3, c4⟩ := stepS_gr hk (fun q s t h => runL_gr hk h) h1
        rw [l1] at c1 c3 c4
        rw [l2] at c2 c3
        rw [l3] at c4
        exact ⟨by omega, h2, ⟨by omega, by omega, by omega, by omega⟩, h3, by omega, hI⟩
      have herr : ∀ e, stepS (runL (knownR kn)) (knownR kn) (.call name) s1 = .error e → runL (knownR kn) q s = .error e := by
        intro e h1
        rw [h1] at hI
        exact hI.symm
      have hfs : FS bf bm bw o1 t = FS bf bm bw o1 s1 := by unfold FS fbox; rw [l2, l3]
      rw [hfs, ← l1]
      clear hI
      refine go ?_
      refine VAll.mk (fun b6 => go ?_)
      have hP := f_Prim name
      refine Fn.use (hP) (go ?_)
      refine VAll.mk (fun b11 => go ?_)
      refine Fn.use (f_Names) (go ?_)
      refine VLoop.mk [10, 12, 75] MvI (fun i => [.str (i.nm name), .bool (i.ok name), .int .i64 i.j]) (fun i => [(b11, .box [.int .i64 (((primR name).map (·.1)).getD 0 : Nat), .int .i64 (((primR name).map (·.2)).getD 0 : Nat)])] ++ (WM bw bm (entsOf kn) s1.left ++ FS bf bm bw i.o (i.st s1)))
        (fun i => i.j ≤ 52 ∧ okL i.o (i.st s1) ∧ i.at name) (fun i => 52 - i.j) ⟨0, o1, none⟩ ?_ ?_
      · exact ⟨⟨Nat.zero_le _, ho1', fun i hi => absurd hi (Nat.not_lt_zero _)⟩, rfl, .cons 0 rfl (VSel.skip (VSel.refl _) _)⟩
      rintro ⟨j, o2, mv⟩ ⟨hj, ho2, hat⟩
      dsimp only at hj ho2 hat ⊢
      cases mv with
      | none =>
        have ho2 : okL o2 s1 := ho2
        dsimp only [MvI.nm, MvI.ok, MvI.st]
        have hat : ∀ a, a < j → a < 7 → namesL[a]? ≠ some name := hat
        refine go ?_
        refine fork (fun hlt => go ?_) (fun hlt => go ?_)
        · have hlt : j < 52 := by omega
          obtain ⟨w, hw⟩ : ∃ w, namesL[j]? = some w := ⟨_, List.getElem?_eq_getElem (show j < namesL.length from hlt)⟩
          refine VNth.mk (.str w) (by rw [mulN_eq]; simp [hw]) (go ?_)
          have hskip : (j < 7 → w ≠ name) → ∀ a, a < j + 1 → a < 7 → namesL[a]? ≠ some name := by
            intro h a h1 h2 h3
            by_cases e : a = j
            · subst e; rw [hw] at h3; exact h h2 (Option.some.inj h3)
            · exact hat a (by omega) h2 h3
          refine fork (fun h7 => go ?_) (fun h7 => go ?_)
          · refine fork (fun hwn => go ?_) (fun hwn => go ?_)
            · have hwn : w = name := by simpa using hwn
              obtain ⟨⟨mk, mks⟩, hx⟩ := moved_of (by omega) (hwn ▸ hw)
              refine move_c [_] hx ho2 ⟨by omega, by omega, by rw [l3]; omega⟩ fun o3 ho3 => ?_
              refine go ?_
              exact ⟨⟨j + 1, o3, some (mk, mks)⟩, ⟨by dsimp only; omega, ho3, hx⟩, by dsimp only; omega, rfl, VSel.refl _⟩
            · have hwn : ¬ w = name := by simpa using hwn
              exact ⟨⟨j + 1, o2, none⟩, ⟨by dsimp only; omega, ho2, hskip fun _ => hwn⟩, by dsimp only; omega, rfl, VSel.refl _⟩
          · exact ⟨⟨j + 1, o2, none⟩, ⟨by dsimp only; omega, ho2, hskip fun h => absurd h (by omega)⟩, by dsimp only; omega, rfl, VSel.refl _⟩
        · have hm := moved_no fun a h1 h2 => hat a (by omega) h1 h2
          refine VIf.no (by simpa using hne) (go ?_)
          refine control_c [_] rfl hk hR (by omega) ho2 ⟨by omega, by omega, by rw [l3]; omega, by omega⟩ gs1 (fun hc => ?_) (fun T o3 hc ho3 hg3 => ?_) (fun e hc => ?_)
          · cases hpr : primR name with
            | some x =>
              obtain ⟨pi, pu⟩ := x
              have hle := primR_le hpr
              have hst : stepS (runL (knownR kn)) (knownR kn) (.call name) s1 = .ok (applyS pi pu s1) := by
                unfold stepS; dsimp only; rw [hm, hc, hpr]
              refine go ?_
              refine apply_c (l := s1.left) (i := (pi : Int)) (u := (pu : Int)) [_] ho2 ⟨by omega, by omega, by rw [l3]; omega⟩ (by omega) (by omega) fun o6 ho6 => ?_
              refine go ?_
              refine ⟨⟨k + 1, o6, applyS pi pu s1⟩, hnext o6 _ hst ho6 (gs1.apply _ _), by dsimp only; omega, rfl, ?_⟩
              dsimp only
              rw [applyS_left]
              exact VSel.skip (VSel.refl _) _
            | none =>
              refine go ?_
              obtain ⟨r, hr1, hr2⟩ := mapFind_ents name kn 0
              refine VMap.mk r hr1 ?_
              cases hkn : knownR kn name with
              | none =>
                rw [hkn] at hr2
                cases r with
                | some p => simp at hr2
                | none =>
                  have hst : stepS (runL (knownR kn)) (knownR kn) (.call name) s1 = .error 10 := by
                    unfold stepS; dsimp only; rw [hm, hc, hpr, hkn]
                  refine go ?_
                  refine VAll.mk (fun b15 => go ?_)
                  refine VRet.mk [] .nil ?_
                  rw [herr 10 hst]
                  exact ⟨rfl, rfl⟩
              | some x =>
                obtain ⟨xi, xu⟩ := x
                have hle := hk _ _ _ hkn
                rw [hkn] at hr2
                cases r with
                | none => simp at hr2
                | some p =>
                  obtain ⟨pi, pv⟩ := p
                  obtain rfl : pv = .agg [.int .i64 xi, .int .i64 xu] := by simpa using hr2
                  have hst : stepS (runL (knownR kn)) (knownR kn) (.call name) s1 = .ok (applyS xi.toNat xu.toNat s1) := by
                    unfold stepS; dsimp only; rw [hm, hc, hpr, hkn]
                  refine go ?_
                  refine VAll.mk (fun b15 => go ?_)
                  refine apply_c (l := s1.left) (i := xi) (u := xu) [_, _] ho2 ⟨by omega, by omega, by rw [l3]; omega⟩ (by omega) (by omega) fun o6 ho6 => ?_
                  refine go ?_
                  refine ⟨⟨k + 1, o6, applyS xi.toNat xu.toNat s1⟩, hnext o6 _ hst ho6 (gs1.apply _ _), by dsimp only; omega, rfl, ?_⟩
                  dsimp only
                  rw [applyS_left]
                  exact VSel.skip (VSel.skip (VSel.refl _) _) _
          · have hst : stepS (runL (knownR kn)) (knownR kn) (.call name) s1 = .ok T := by
              unfold stepS; dsimp only; rw [hm, hc]
            refine go ?_
            exact ⟨⟨k + 1, o3, T⟩, hnext o3 T hst ho3 hg3, by dsimp only; omega, rfl, VSel.skip (VSel.refl _) _⟩
          · have hst : stepS (runL (knownR kn)) (knownR kn) (.call name) s1 = .error e := by
              unfold stepS; dsimp only; rw [hm, hc]
            refine go ?_
            refine VRet.mk [] .nil ?_
            rw [herr e hst]
            exact ⟨rfl, rfl⟩
      | some x =>
        obtain ⟨mk, mks⟩ := x
        have ho2 : okL o2 (movesS mk mks s1) := ho2
        dsimp only [MvI.nm, MvI.ok, MvI.st]
        have hat : moveR name = some (mk, mks) := hat
        refine go ?_
        refine fork (fun hlt => go ?_) (fun hlt => go ?_)
        · have hlt : j < 52 := by omega
          obtain ⟨w, hw⟩ : ∃ w, namesL[j]? = some w := ⟨_, List.getElem?_eq_getElem (show j < namesL.length from hlt)⟩
          refine VNth.mk (.str w) (by rw [mulN_eq]; simp [hw]) (go ?_)
          have hwn := names_ne hw
          refine fork (fun h7 => go ?_) (fun h7 => go ?_)
          · refine VIf.no (by simpa using hwn) (go ?_)
            exact ⟨⟨j + 1, o2, some (mk, mks)⟩, ⟨by dsimp only; omega, ho2, hat⟩, by dsimp only; omega, rfl, VSel.refl _⟩
          · exact ⟨⟨j + 1, o2, some (mk, mks)⟩, ⟨by dsimp only; omega, ho2, hat⟩, by dsimp only; omega, rfl, VSel.refl _⟩
        · have hst : stepS (runL (knownR kn)) (knownR kn) (.call name) s1 = .ok (movesS mk mks s1) := by
            unfold stepS; dsimp only; rw [hat]
          have hl := movesS_left mk mks s1
          refine ⟨⟨k + 1, o2, movesS mk mks s1⟩, hnext o2 _ hst ho2 (gs1.moves _ _), by dsimp only; omega, rfl, ?_⟩
          dsimp only
          rw [hl]
          exact VSel.skip (VSel.refl _) _
  · have : k = q.length := by omega
    subst this
    rw [List.drop_length, runL_nil] at hI
    refine VRet.mk _ (VSel.refl _) ?_
    rw [← hI]
    exact ⟨rfl, hg1, o1, ho1, rfl⟩
theorem f_run {kn : KnL} {bw bm : Nat} (hk : ∀ n i o, knownR kn n = some (i, o) → 0 ≤ i ∧ i ≤ 16 ∧ 0 ≤ o ∧ o ≤ 16) (n : Nat) : RunC (knownR kn) bw bm (entsOf kn) n := by
  induction n using Nat.strongRecOn with
  | _ n ih => exact f_run_of hk ih
end Go.Proofs.YtonkeklageehbaaGreatDoor

namespace Go.Proofs.YtonkeklageehbaaGreatDoor
open Go Go.Av
def fitsR (i u : Int) : Bool := decide (0 ≤ min i u) && decide (max i u ≤ 16)
theorem fitsR_iff {i u : Int} : fitsR i u = true ↔ 0 ≤ i ∧ i ≤ 16 ∧ 0 ≤ u ∧ u ≤ 16 := by
  simp only [fitsR, Bool.and_eq_true, decide_eq_true_eq]; omega
theorem f_fits (i u : Int) : Av.Fn Tryz.prog 101 [.agg [.int .i64 i, .int .i64 u]] (.bool (fitsR i u)) := by
  refine ACalls.of_W tb_ok (fn := Tryz.f101) (n := 17) (by kernel_rfl) rfl (by kernel_rfl) rfl rfl (by simp) (go ?_)
  refine VAll.mk (fun b => go ?_)
  unfold fitsR
  refine fork (fun h => go ?_) (fun h => go ?_)
  · refine VRet.mk [] .nil ?_
    have h : 0 ≤ min i u := by simpa using h
    exact ⟨by rw [decide_eq_true h, Bool.true_and], rfl⟩
  · refine VRet.mk [] .nil ?_
    have h : ¬ 0 ≤ min i u := by simpa using h
    exact ⟨by rw [decide_eq_false h, Bool.false_and], rfl⟩
theorem f_Of1_ok (b4 b5 : Nat) (st : St) {K : St → Prop} (k : K st) : DCalls Tryz.prog 102 [.ptr b4 0, .ptr b5 0] st none K := by
  refine DCalls.use (s := []) (R := st) (K := fun st' => st' = []) ?_ (.refl _) (fun s' h => by rw [h]; exact k)
  refine DCalls.of_Ws tb_ok (fn := Tryz.f102) (n := 19) (by kernel_rfl) rfl (by kernel_rfl) rfl rfl (by simp) (go ?_)
  refine VRet.mk [] .nil ?_
  rfl
theorem f_Of1_panic (b4 b5 : Nat) (x y z : AV) (e : Int) : DCalls Tryz.prog 102 [.ptr b4 0, .ptr b5 0] [(b4, .box [x, y]), (b5, .box [z])] (some (stopV e)) fun st' => st' = [(b4, .box [.int .i64 0, .int .i64 0]), (b5, .box [.int .i64 e])] := by
  refine DCalls.of_Ws tb_ok (fn := Tryz.f102) (n := 19) (by kernel_rfl) rfl (by kernel_rfl) rfl rfl (by simp) (go ?_)
  refine VAll.mk (fun b3 => go ?_)
  refine VDraw.all (go ?_)
  refine VAny.mk Unit [] (fun _ => []) (fun _ => [(b3, .box [.int .i64 e]), (b4, .box [.int .i64 0, .int .i64 0]), (b5, .box [.int .i64 e])]) ?_ fun _ => ?_
  · exact anyd
  refine go ?_
  exact VRet.mk [(b4, .box [.int .i64 0, .int .i64 0]), (b5, .box [.int .i64 e])] (.cons 1 rfl (.cons 1 rfl .nil)) rfl
/-- The first of each name. -/
def addK (kn : KnL) (x : List UInt8 × Int × Int) : KnL := if (knownR kn x.1).isSome then kn else kn ++ [x]
def firsts (kl : KnL) : KnL := kl.foldl addK []
theorem firsts_next {kl : KnL} {j : Nat} {x : List UInt8 × Int × Int} (h : kl[j]? = some x) : firsts (kl.take (j + 1)) = addK (firsts (kl.take j)) x := by
  rw [take_succ_at h, firsts, List.foldl_append]; rfl
def fitsK (kl : KnL) : Bool := kl.all fun x => fitsR x.2.1 x.2.2
theorem firsts_mem {kl : KnL} {x : List UInt8 × Int × Int} : x ∈ firsts kl → x ∈ kl := by
  have : ∀ (kl kn : KnL), x ∈ kl.foldl addK kn → x ∈ kn ∨ x ∈ kl := by
    intro kl
    induction kl with
    | nil => intro kn h; exact .inl h
    | cons y kl ih =>
      intro kn h
      rcases ih _ h with h | h
      · unfold addK at h
        split at h
        · exact .inl h
        · rcases List.mem_append.1 h with h | h
          · exact .inl h
          · rw [List.mem_singleton.1 h]; exact .inr (List.mem_cons_self ..)
      · exact .inr (List.mem_cons_of_mem _ h)
  intro h
  rcases this kl [] h with h | h
  · cases h
  · exact h
theorem firsts_fit {kl : KnL} (h : fitsK kl = true) : ∀ n i o, knownR (firsts kl) n = some (i, o) → 0 ≤ i ∧ i ≤ 16 ∧ 0 ≤ o ∧ o ≤ 16 := by
  intro n i o hk
  unfold knownR at hk
  simp only [Option.map_eq_some_iff] at hk
  obtain ⟨x, hx, he⟩ := hk
  have := List.all_eq_true.1 h x (firsts_mem (List.mem_of_find?_eq_some hx))
  rw [he] at this
  exact fitsR_iff.1 this
def checkR (l : List Tree) : Bool := (measT false (.quot l) 1024 0).isSome
noncomputable def ofR (l : List Tree) (kl : KnL) : Int × Int × Int :=
  if checkR l = false then (0, 0, 1) else if fitsK kl = false then (0, 0, 1) else match runL (knownR (firsts kl)) l ⟨4096, 0, []⟩ with
    | .error e => (0, 0, e)
    | .ok t => if fitsR t.inn t.stk.length = true then (t.inn, (t.stk.length : Int), 0) else (0, 0, 11)
def ofV (x : Int × Int × Int) : AV := .tup [.agg [.int .i64 x.1, .int .i64 x.2.1], .int .i64 x.2.2]
/-- Words whose effect is known, in memory. -/
def knC : KnL → List AV
  | [] => []
  | x :: r => .str x.1 :: .int .i64 x.2.1 :: .int .i64 x.2.2 :: knC r
theorem knC_at {kl : KnL} {i : Nat} {x : List UInt8 × Int × Int} (h : kl[i]? = some x) : (List.drop (mulN i 3) (knC kl)).take 3 = [.str x.1, .int .i64 x.2.1, .int .i64 x.2.2] := by
  rw [mulN_eq]
  induction kl generalizing i with
  | nil => simp at h
  | cons y r ih =>
    cases i with
    | zero => simp at h; subst h; rfl
    | succ i =>
      have h : r[i]? = some x := by simpa using h
      rw [show (i + 1) * 3 = i * 3 + 1 + 1 + 1 by omega]
      exact ih h
theorem f_CheckItems {l : List Tree} (hc : (Tree.quot l).clean = true) (hs : (Tree.quot l).nmS = true) : Av.Fn Tryz.prog 32 [.fz (itemAVs l) l.length false] (.int .i64 (if checkR l = true then 0 else 1)) := by
  have h := f_tCheck hc hs
  refine ACalls.of_W tb_ok (fn := Tryz.f32) (n := 7) (by kernel_rfl) rfl (by kernel_rfl) rfl rfl (by simp) (go ?_)
  refine Fn.use (h) (go ?_)
  refine VRet.mk [] .nil ?_
  exact ⟨rfl, rfl⟩
theorem nameR_nil : nameR [] = false := by decide +kernel
mutual
theorem good_of : ∀ (it : Bool) (t : Tree) (left nest : Int), t.clean = true → (measT it t left nest).isSome = true → goodI t = true
  | it, .none, left, nest, _, h => by rw [measT] at h; cases h
  | it, .odd u v, left, nest, _, h => by rw [measT] at h; cases h
  | it, .int m, left, nest, _, h => rfl
  | it, .str m, left, nest, _, h => rfl
  | it, .bool m, left, nest, _, h => rfl
  | it, .box m, left, nest, _, h => rfl
  | it, .list m, left, nest, _, h => rfl
  | it, .call s, left, nest, _, h => by
    rw [measT] at h
    split at h
    · rename_i hc
      cases s with
      | nil => simp [nmR, nameR_nil] at hc
      | cons c s => rfl
    · cases h
  | it, .quot l, left, nest, hc, h => by
    rw [measT] at h
    simp only [Tree.clean, Bool.and_eq_true, decide_eq_true_eq] at hc
    split at h
    · cases h
    · simp only [goodI, Bool.and_eq_true, decide_eq_true_eq]
      exact ⟨hc.1, goods_of true l _ _ _ hc.2 h⟩
theorem goods_of : ∀ (it : Bool) (l : List Tree) (left nest depth : Int), cleanAll l = true → (measTs it l left nest depth).isSome = true → goodIs l = true
  | it, [], left, nest, depth, _, h => rfl
  | it, t :: r, left, nest, depth, hc, h => by
    simp only [cleanAll, Bool.and_eq_true] at hc
    rw [measTs] at h
    simp only [goodIs, Bool.and_eq_true]
    cases hm : measT it t left (nest + 1) with
    | none => rw [hm] at h; cases h
    | some x =>
      obtain ⟨d, l'⟩ := x
      rw [hm] at h
      exact ⟨good_of it t _ _ hc.1 (by rw [hm]; rfl), goods_of it r _ _ _ hc.2 h⟩
end
theorem good_check {l : List Tree} (hc : (Tree.quot l).clean = true) (h : checkR l = true) : l.length ≤ 2513169434916 ∧ goodIs l = true := by
  have := good_of false (.quot l) 1024 0 hc h
  simpa only [goodI, Bool.and_eq_true, decide_eq_true_eq] using this

set_option maxHeartbeats 4000000 in
theorem f_Of (l : List Tree) (kl : KnL) (hc : (Tree.quot l).clean = true) (hs : (Tree.quot l).nmS = true) (hkl : kl.length ≤ 4398046511104) :
    Av.Fn Tryz.prog 75 [.fz (itemAVs l) l.length false, .fz (knC kl) kl.length false] (ofV (ofR l kl)) := by
  have hC := f_CheckItems hc hs
  have hgc := good_check hc
  unfold ofR
  generalize checkR l = c at hC hgc
  refine ACalls.of_Wd tb_ok (fn := Tryz.f75) (n := 70) (by kernel_rfl) rfl (by kernel_rfl) rfl rfl (by simp) (go ?_)
  refine VAll.mk (fun b4 => go ?_)
  refine VAll.mk (fun b5 => go ?_)
  refine Fn.use (hC) (go ?_)
  cases c with
  | false =>
    refine go ?_
    refine VRet.mk [] .nil ?_
    exact ⟨rfl, rfl⟩
  | true =>
    obtain ⟨hl, hg⟩ := hgc rfl
    refine go ?_
    refine VAll.mk (fun bm => go ?_)
    refine VAll.mk (fun bw => go ?_)
    refine VAll.mk (fun bf => go ?_)
    refine VLoop.mk [21] Nat (fun j => [.int .i64 j]) (fun j => [(bm, .map (entsOf (firsts (kl.take j)))), (bf, .box [.mapr bm, .ptr bw 0, .int .i64 0, .nils]), (b5, .box [.int .i64 0]), (b4, .box [.int .i64 0, .int .i64 0]), (bw, .box [.int .i64 0])])
      (fun j => j ≤ kl.length ∧ fitsK (kl.drop j) = fitsK kl) (fun j => kl.length - j) 0 ?_ ?_
    · exact ⟨⟨Nat.zero_le _, rfl⟩, rfl, .cons 2 rfl (.cons 0 rfl (.cons 1 rfl (.cons 1 rfl (.cons 0 rfl .nil))))⟩
    rintro j ⟨hj, hI⟩
    dsimp only at hj hI ⊢
    refine go ?_
    refine fork (fun hlt => go ?_) (fun hlt => go ?_)
    · have hlt : j < kl.length := by omega
      obtain ⟨x, hx⟩ : ∃ x, kl[j]? = some x := ⟨kl[j], by simp [hlt]⟩
      have hd : kl.drop j = x :: kl.drop (j + 1) := by
        rw [List.drop_eq_getElem_cons hlt]
        congr 1
        rw [List.getElem?_eq_getElem hlt] at hx
        exact Option.some.inj hx
      have hfk : fitsK kl = (fitsR x.2.1 x.2.2 && fitsK (kl.drop (j + 1))) := by rw [← hI, hd]; rfl
      have hF := f_fits x.2.1 x.2.2
      refine VTake.mk [.str x.1, .int .i64 x.2.1, .int .i64 x.2.2] (knC_at hx) (by simp) (go ?_)
      refine VAll.mk (fun b8 => go ?_)
      refine Fn.use (hF) (go ?_)
      generalize fitsR x.2.1 x.2.2 = fx at hfk
      cases fx with
      | false =>
        refine go ?_
        refine VRet.mk [] .nil ?_
        rw [hfk]
        exact ⟨rfl, rfl⟩
      | true =>
        rw [Bool.true_and] at hfk
        obtain ⟨r, hr1, hr2⟩ := mapFind_ents x.1 (firsts (kl.take j)) 0
        have hnx := firsts_next hx
        unfold addK at hnx
        refine go ?_
        have hI' : j + 1 ≤ kl.length ∧ fitsK (kl.drop (j + 1)) = fitsK kl := ⟨by omega, hfk.symm⟩
        cases hkn : knownR (firsts (kl.take j)) x.1 with
        | none =>
          rw [hkn] at hr2
          rw [hkn, Option.isSome_none, if_neg (by simp)] at hnx
          cases r with
          | some p => simp at hr2
          | none =>
            refine VDraw.chain [10, 11] (go ?_)
            apply VQ.mk
            focus (refine go ?_; refine VMap.mk none hr1 (go ?_); exact ⟨rfl, rfl⟩)
            refine go ?_
            refine VAll.mk (fun b9 => go ?_)
            refine VDraw.chain [8] (go ?_)
            refine VMap.mk none hr1 (go ?_)
            refine ⟨j + 1, hI', by omega, rfl, ?_⟩
            rw [hnx]
            exact .cons 2 (congrArg (fun c => some (bm, AObj.map c)) (by simp [entsOf])) (.cons 2 rfl (.cons 2 rfl (.cons 2 rfl (.cons 2 rfl .nil))))
        | some y =>
          rw [hkn] at hr2
          rw [hkn, Option.isSome_some, if_pos rfl] at hnx
          cases r with
          | none => simp at hr2
          | some p =>
            obtain ⟨pi, pv⟩ := p
            obtain rfl : pv = .agg [.int .i64 y.1, .int .i64 y.2] := by simpa using hr2
            refine VDraw.chain [10, 11] (go ?_)
            apply VQ.mk
            focus (refine go ?_; refine VMap.mk _ hr1 (go ?_); exact ⟨rfl, rfl⟩)
            refine go ?_
            refine VAll.mk (fun b9 => go ?_)
            refine ⟨j + 1, hI', by omega, rfl, ?_⟩
            rw [hnx]
            exact VSel.skip (VSel.skip (VSel.refl _) _) _
    · have hje : j = kl.length := by omega
      subst hje
      rw [List.drop_length] at hI
      have hfk : fitsK kl = true := hI.symm
      rw [List.take_length, hfk]
      have hk := firsts_fit hfk
      refine run_c (n := 4096) (l := 4096) (o := none) (s := ⟨4096, 0, []⟩) [(b5, .box [.int .i64 0]), (b4, .box [.int .i64 0, .int .i64 0])] (List.perm_append_comm (l₁ := [_, _, _]) (l₂ := [_, _])) rfl (f_run hk 4096) (Nat.le_refl _) (fun _ => rfl) ⟨by decide, by decide, by decide, by decide⟩ (fun x hx => by cases hx) hl hg
        (fun t o' e ho' hg' => ?_) (fun e he => ?_)
      · obtain ⟨Tl, Ti, Tk⟩ := t
        have hF := f_fits Ti (Tk.length : Int)
        cases o' with
        | none =>
          obtain rfl : Tk = [] := ho' rfl
          refine go ?_
          refine VDraw.chain [10] (go ?_)
          iterate 7 ((conv => whnf); (apply VQ.mk; focus (refine go ?_; exact ⟨rfl, rfl⟩)))
          refine go ?_
          refine Fn.use (hF) (go ?_)
          cases hf : fitsR Ti _ with
          | false =>
            refine go ?_
            refine f_Of1_ok b4 b5 _ (go ?_)
            refine VRet.mk [] .nil ?_
            rw [if_neg (by simp), if_neg (by simp), e]
            dsimp only
            rw [if_neg (by rw [hf]; simp)]
            exact ⟨rfl, rfl⟩
          | true =>
            refine go ?_
            refine f_Of1_ok b4 b5 _ (go ?_)
            refine VRet.mk [] .nil ?_
            rw [if_neg (by simp), if_neg (by simp), e]
            dsimp only
            rw [if_pos hf]
            exact ⟨rfl, rfl⟩
        | some y =>
          refine go ?_
          refine VDraw.chain [10] (go ?_)
          iterate 7 ((conv => whnf); (apply VQ.mk; focus (refine go ?_; exact ⟨rfl, rfl⟩)))
          refine go ?_
          refine Fn.use (hF) (go ?_)
          cases hf : fitsR Ti _ with
          | false =>
            refine go ?_
            refine f_Of1_ok b4 b5 _ (go ?_)
            refine VRet.mk [] .nil ?_
            rw [if_neg (by simp), if_neg (by simp), e]
            dsimp only
            rw [if_neg (by rw [hf]; simp)]
            exact ⟨rfl, rfl⟩
          | true =>
            refine go ?_
            refine f_Of1_ok b4 b5 _ (go ?_)
            refine VRet.mk [] .nil ?_
            rw [if_neg (by simp), if_neg (by simp), e]
            dsimp only
            rw [if_pos hf]
            exact ⟨rfl, rfl⟩
      · refine go ?_
        refine DCalls.use (R := []) (f_Of1_panic b4 b5 _ _ _ e) (.swap _ _ _) ?_
        intro s' hs'
        subst hs'
        refine go ?_
        refine VRet.mk [] .nil ?_
        rw [if_neg (by simp), if_neg (by simp), he]
        exact ⟨rfl, rfl⟩
end Go.Proofs.YtonkeklageehbaaGreatDoor
