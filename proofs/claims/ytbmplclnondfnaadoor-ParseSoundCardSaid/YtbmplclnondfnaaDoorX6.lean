/- Parsing goes on alike where more tokens stand behind: plain Lean. Conditions: as each says. The reference's trees, and what trees are as such. Conditions: none. The trees of values and items: the walks. Conditions: as each says. Are two trees of the reference the same? Conditions: as each says. Forms as the reference's: DefTree, FormTrees, SameDef, SameForms. Conditions: as each says. The reference's Chars and Bad. The reference's Blank. The reference's numbers. The reference's names. Where tokens stand: plain Lean. Conditions: as each says. Characters and bytes, hand in hand: plain Lean. Conditions: as each says. What is read is sound: plain Lean. Conditions: as each says. -/
import Derived.Test.YtbmplclnondfnaaDoorX5
import Derived.Test.YtbmplclnondfnaaDoorX4
import Derived.Test.YtbmplclnondfnaaDoorX3
set_option linter.all false
namespace Go.Proofs.YtbmplclnondfnaaDoor
open Go Go.Av
/-- Tokens alike but for their places. -/
def Alike (g : Tok → Tok) : Prop := ∀ t, (g t).kind = t.kind ∧ (g t).text = t.text ∧ (g t).n = t.n
/-- As the first, with more tokens behind; where no bracket is open, the size counts for nothing. -/
structure More (g : Tok → Tok) (r : List Tok) (s s' : RS) : Prop where
  l : s'.l = s.l.map g ++ r
  opn : s'.opn = s.opn
  sz : s.opn = 0 ∨ s'.sz = s.sz
theorem countR_more {g : Tok → Tok} {r : List Tok} {p p' : Int} {s s' s2 : RS} (m : More g r s s') (h : countR p s = .ok s2) : ∃ s2', countR p' s' = .ok s2' ∧ More g r s2 s2' := by
  unfold countR at h ⊢
  rw [m.opn]
  split at h
  · rename_i ho
    have hz : s'.sz = s.sz := by rcases m.sz with h | h; exact absurd ho (by omega); exact h
    split at h
    · cases h
    · cases h
      rw [if_pos ho, hz, if_neg (by assumption)]
      exact ⟨_, rfl, m.l, rfl, .inr rfl⟩
  · rename_i ho
    cases h
    rw [if_neg ho]
    exact ⟨_, rfl, m⟩
theorem enterR_more {g : Tok → Tok} {r : List Tok} {p p' : Int} {s s' s2 : RS} (m : More g r s s') (h : enterR p s = .ok s2) : ∃ s2', enterR p' s' = .ok s2' ∧ More g r s2 s2' := by
  unfold enterR at h ⊢
  rw [m.opn]
  split at h
  · cases h
  · rw [if_neg (by assumption)]
    refine countR_more (s := { s with opn := s.opn + 1, sz := if s.opn + 1 = 1 then 0 else s.sz }) ⟨m.l, rfl, .inr ?_⟩ h
    dsimp only
    split
    · rfl
    · rcases m.sz with h | h
      · omega
      · exact h
theorem peek_more {g : Tok → Tok} (hg : Alike g) {r : List Tok} {s s' : RS} (m : More g r s s') {w : List UInt8} (h : peekR s.l = some w) : peekR s'.l = some w := by
  rw [m.l]
  cases hl : s.l with
  | nil => rw [hl] at h; cases h
  | cons t l =>
    rw [hl] at h
    simp only [peekR] at h
    simp only [List.map_cons, List.cons_append, peekR, (hg t).1, (hg t).2.1]
    exact h
theorem peek_less {g : Tok → Tok} (hg : Alike g) {r : List Tok} {s s' : RS} (m : More g r s s') (hne : s.l ≠ []) : peekR s'.l = peekR s.l := by
  rw [m.l]
  cases hl : s.l with
  | nil => exact absurd hl hne
  | cons t l => simp only [List.map_cons, List.cons_append, peekR, (hg t).1, (hg t).2.1]
theorem take_more {g : Tok → Tok} {r : List Tok} {fin fin' : Int} {s s' : RS} (m : More g r s s') {t : Tok} {s2 : RS} (h : takeR fin s = .ok (t, s2)) : ∃ s2', takeR fin' s' = .ok (g t, s2') ∧ More g r s2 s2' := by
  unfold takeR at h ⊢
  rw [m.l]
  cases hl : s.l with
  | nil => rw [hl] at h; cases h
  | cons x l =>
    rw [hl] at h
    cases h
    exact ⟨_, rfl, rfl, m.opn, m.sz⟩
theorem parse_more {g : Tok → Tok} (hg : Alike g) (r : List Tok) (fin fin' : Int) : ∀ k,
    (∀ k' s s' v s2, k ≤ k' → More g r s s' → litR fin k s = .ok (some v, s2) → ∃ s2', litR fin' k' s' = .ok (some v, s2') ∧ More g r s2 s2') ∧
    (∀ k' s s' s2, k ≤ k' → More g r s s' → s.l ≠ [] → litR fin k s = .ok (none, s2) → litR fin' k' s' = .ok (none, s')) ∧
    (∀ k' s s' v s2, k ≤ k' → More g r s s' → itemR fin k s = .ok (some v, s2) → ∃ s2', itemR fin' k' s' = .ok (some v, s2') ∧ More g r s2 s2') ∧
    (∀ k' shut s s' acc v s2, k ≤ k' → More g r s s' → itemsR fin k shut s acc = .ok (v, s2) → ∃ s2', itemsR fin' k' shut s' acc = .ok (v, s2') ∧ More g r s2 s2') ∧
    (∀ k' s s' acc v s2, k ≤ k' → More g r s s' → valsR fin k s acc = .ok (v, s2) → ∃ s2', valsR fin' k' s' acc = .ok (v, s2') ∧ More g r s2 s2') := by
  intro k
  induction k with
  | zero =>
    refine ⟨?_, ?_, ?_, ?_, ?_⟩
    · intro k' s s' v s2 _ _ h; simp [litR] at h
    · intro k' s s' s2 _ _ _ h; simp [litR] at h
    · intro k' s s' v s2 _ _ h; simp [itemR] at h
    · intro k' shut s s' acc v s2 _ _ h; simp [itemsR] at h
    · intro k' s s' acc v s2 _ _ h; simp [valsR] at h
  | succ k ih =>
    obtain ⟨ih1, ih2, ih3, ih4, ih5⟩ := ih
    have up : ∀ {k'}, k + 1 ≤ k' → ∃ j, k' = j + 1 ∧ k ≤ j := fun {k'} h => ⟨k' - 1, by omega, by omega⟩
    refine ⟨?_, ?_, ?_, ?_, ?_⟩
    · intro k' s s' v s2 hk m h
      obtain ⟨j, rfl, hj⟩ := up hk
      rw [litR] at h ⊢
      have ml := m.l
      cases hl : s.l with
      | nil => rw [hl] at h; cases h
      | cons t l =>
        rw [hl] at h ml
        rw [List.map_cons, List.cons_append] at ml
        rw [ml]
        obtain ⟨g1, g2, g3⟩ := hg t
        dsimp only at h ⊢
        rw [g1, g2, g3]
        have m0 : More g r { s with l := l } { s' with l := l.map g ++ r } := ⟨rfl, m.opn, m.sz⟩
        have cnt : ∀ {w : Tree}, (match countR t.pos { s with l := l } with
            | .error e => (.error e : PR (Option Tree))
            | .ok s' => .ok (some w, s')) = .ok (some v, s2) → ∃ s2', (match countR (g t).pos { s' with l := l.map g ++ r } with
            | .error e => (.error e : PR (Option Tree))
            | .ok s' => .ok (some w, s')) = .ok (some v, s2') ∧ More g r s2 s2' := by
          intro w h
          split at h
          · cases h
          · rename_i s3 hc
            cases h
            obtain ⟨s3', h3, m3⟩ := countR_more (p' := (g t).pos) m0 hc
            rw [h3]
            exact ⟨_, rfl, m3⟩
        by_cases h1 : t.kind = 2
        · rw [if_pos h1] at h ⊢; exact cnt h
        rw [if_neg h1] at h ⊢
        by_cases h2 : t.kind = 3
        · rw [if_pos h2] at h ⊢; exact cnt h
        rw [if_neg h2] at h ⊢
        by_cases h3 : t.text = [116] ∨ t.text = [102]
        · rw [if_pos h3] at h ⊢; exact cnt h
        rw [if_neg h3] at h ⊢
        by_cases h4 : t.text = [91]
        · rw [if_pos h4] at h ⊢
          split at h
          · cases h
          · rename_i s3 he
            obtain ⟨s3', e1, m3⟩ := enterR_more (p' := (g t).pos) m0 he
            rw [e1]
            dsimp only
            split at h
            · cases h
            · rename_i ys s4 hi
              cases h
              obtain ⟨s4', e2, m4⟩ := ih4 j _ s3 s3' _ _ _ hj m3 hi
              rw [e2]
              refine ⟨_, rfl, m4.l, by dsimp only; rw [m4.opn], ?_⟩
              have := (parse_less fin k).2.2.1 _ _ _ _ hi
              have ho := (enterR_ok he).2.1
              rcases m4.sz with h | h
              · have := this.opn; dsimp only at this; omega
              · exact .inr h
        rw [if_neg h4] at h ⊢
        by_cases h5 : t.text = [123]
        · rw [if_pos h5] at h ⊢
          split at h
          · cases h
          · rename_i s3 he
            obtain ⟨s3', e1, m3⟩ := enterR_more (p' := (g t).pos) m0 he
            rw [e1]
            dsimp only
            split at h
            · cases h
            · rename_i ys s4 hi
              cases h
              obtain ⟨s4', e2, m4⟩ := ih5 j s3 s3' _ _ _ hj m3 hi
              rw [e2]
              refine ⟨_, rfl, m4.l, by dsimp only; rw [m4.opn], ?_⟩
              have := (parse_less fin k).2.2.2 _ _ _ hi
              have ho := (enterR_ok he).2.1
              rcases m4.sz with h | h
              · have := this.opn; dsimp only at this; omega
              · exact .inr h
        rw [if_neg h5] at h
        cases h
    · intro k' s s' s2 hk m hne h
      obtain ⟨j, rfl, hj⟩ := up hk
      rw [litR] at h ⊢
      have ml := m.l
      cases hl : s.l with
      | nil => exact absurd hl hne
      | cons t l =>
        rw [hl] at h ml
        rw [List.map_cons, List.cons_append] at ml
        rw [ml]
        obtain ⟨g1, g2, g3⟩ := hg t
        dsimp only at h ⊢
        rw [g1, g2]
        by_cases h1 : t.kind = 2
        · rw [if_pos h1] at h; split at h <;> cases h
        rw [if_neg h1] at h ⊢
        by_cases h2 : t.kind = 3
        · rw [if_pos h2] at h; split at h <;> cases h
        rw [if_neg h2] at h ⊢
        by_cases h3 : t.text = [116] ∨ t.text = [102]
        · rw [if_pos h3] at h; split at h <;> cases h
        rw [if_neg h3] at h ⊢
        by_cases h4 : t.text = [91]
        · rw [if_pos h4] at h
          split at h
          · cases h
          · split at h <;> cases h
        rw [if_neg h4] at h ⊢
        by_cases h5 : t.text = [123]
        · rw [if_pos h5] at h
          split at h
          · cases h
          · split at h <;> cases h
        rw [if_neg h5]
    · intro k' s s' v s2 hk m h
      obtain ⟨j, rfl, hj⟩ := up hk
      rw [itemR] at h ⊢
      split at h
      · cases h
      · rename_i v0 s0 h0
        cases h
        obtain ⟨s2', h1, h2⟩ := ih1 j s s' _ _ hj m h0
        rw [h1]
        exact ⟨_, rfl, h2⟩
      · rename_i s0 h0
        have hs0 := ((parse_less fin k).1 s _ h0).2 rfl
        dsimp only at hs0
        subst hs0
        split at h
        · cases h
        · rename_i w hw
          have hne : s0.l ≠ [] := by intro e; rw [e] at hw; cases hw
          rw [ih2 j s0 s' _ hj m hne h0]
          dsimp only
          rw [peek_more hg m hw]
          dsimp only
          split at h
          · cases h
          · rw [if_neg (by assumption)]
            split at h
            · cases h
            · rename_i t s1 ht
              obtain ⟨s1', h1, m1⟩ := take_more (fin' := fin') m ht
              rw [h1]
              dsimp only
              split at h
              · cases h
              · rename_i s3 hc
                cases h
                obtain ⟨s3', h3, m3⟩ := countR_more (p' := (g t).pos) m1 hc
                rw [h3]
                exact ⟨_, rfl, m3⟩
    · intro k' shut s s' acc v s2 hk m h
      obtain ⟨j, rfl, hj⟩ := up hk
      rw [itemsR] at h ⊢
      by_cases hp : peekR s.l = some shut
      · rw [if_pos hp] at h
        rw [if_pos (peek_more hg m hp)]
        split at h
        · cases h
        · rename_i t s1 ht
          cases h
          obtain ⟨s1', h1, m1⟩ := take_more (fin' := fin') m ht
          rw [h1]
          exact ⟨_, rfl, m1⟩
      · rw [if_neg hp] at h
        split at h
        · cases h
        · cases h
        · rename_i y s1 hy
          have hne : s.l ≠ [] := by
            intro e
            have := ((parse_less fin k).2.1 s _ hy).1.lt (by simp)
            rw [e] at this; simp at this
          rw [if_neg (by rw [peek_less hg m hne]; exact hp)]
          obtain ⟨s1', h1, m1⟩ := ih3 j s s' _ _ hj m hy
          rw [h1]
          exact ih4 j shut s1 s1' _ v s2 hj m1 h
    · intro k' s s' acc v s2 hk m h
      obtain ⟨j, rfl, hj⟩ := up hk
      rw [valsR] at h ⊢
      by_cases hp : peekR s.l = some [125]
      · rw [if_pos hp] at h
        rw [if_pos (peek_more hg m hp)]
        split at h
        · cases h
        · rename_i t s1 ht
          cases h
          obtain ⟨s1', h1, m1⟩ := take_more (fin' := fin') m ht
          rw [h1]
          exact ⟨_, rfl, m1⟩
      · rw [if_neg hp] at h
        split at h
        · cases h
        · cases h
        · rename_i y s1 hy
          have hne : s.l ≠ [] := by
            intro e
            have := ((parse_less fin k).1 s _ hy).1.lt (by simp)
            rw [e] at this; simp at this
          rw [if_neg (by rw [peek_less hg m hne]; exact hp)]
          obtain ⟨s1', h1, m1⟩ := ih1 j s s' _ _ hj m hy
          rw [h1]
          exact ih5 j s1 s1' _ v s2 hj m1 h
theorem word_more {g : Tok → Tok} (hg : Alike g) {r : List Tok} {fin fin' : Int} {want : List UInt8} {s s' : RS} (m : More g r s s') {w : List UInt8} {s2 : RS} (h : wordR fin want s = .ok (w, s2)) :
    ∃ s2', wordR fin' want s' = .ok (w, s2') ∧ More g r s2 s2' := by
  unfold wordR at h ⊢
  split at h
  · cases h
  · rename_i x hx
    rw [peek_more hg m hx]
    dsimp only
    split at h
    · cases h
    · rw [if_neg (by assumption)]
      split at h
      · cases h
      · rename_i t s1 ht
        cases h
        obtain ⟨s1', h1, m1⟩ := take_more (fin' := fin') m ht
        rw [h1]
        exact ⟨_, rfl, m1⟩
theorem names_more {g : Tok → Tok} (hg : Alike g) {r : List Tok} {fin fin' : Int} {shut : List UInt8} : ∀ (k k' : Nat) (s s' : RS) (n v : Nat) (s2 : RS), k ≤ k' → More g r s s' → namesR fin shut k s n = .ok (v, s2) →
    ∃ s2', namesR fin' shut k' s' n = .ok (v, s2') ∧ More g r s2 s2'
  | 0, _, _, _, _, _, _, _, _, h => by simp [namesR] at h
  | k + 1, 0, _, _, _, _, _, hk, _, _ => by omega
  | k + 1, j + 1, s, s', n, v, s2, hk, m, h => by
    rw [namesR] at h ⊢
    by_cases hp : peekR s.l = some shut
    · rw [if_pos hp] at h
      rw [if_pos (peek_more hg m hp)]
      split at h
      · cases h
      · rename_i t s1 ht
        cases h
        obtain ⟨s1', h1, m1⟩ := take_more (fin' := fin') m ht
        rw [h1]
        exact ⟨_, rfl, m1⟩
    · rw [if_neg hp] at h
      split at h
      · cases h
      · rename_i w s1 hw
        have hne : s.l ≠ [] := by
          intro e
          unfold wordR at hw
          rw [e] at hw
          simp [peekR] at hw
        rw [if_neg (by rw [peek_less hg m hne]; exact hp)]
        obtain ⟨s1', h1, m1⟩ := word_more (fin' := fin') hg m hw
        rw [h1]
        dsimp only
        split at h
        · cases h
        · rw [if_neg (by assumption)]
          exact names_more hg k j s1 s1' _ v s2 (by omega) m1 h
theorem fuel_more {g : Tok → Tok} {r : List Tok} {s s' : RS} (m : More g r s s') : fuel s ≤ fuel s' := by
  unfold fuel; rw [m.l]; simp; omega
theorem define_more {g : Tok → Tok} (hg : Alike g) {r : List Tok} {fin fin' p p' : Int} {s s' : RS} (m : More g r s s') {d : DefT} {s2 : RS} (h : defineR fin p s = .ok (d, s2)) :
    ∃ s2', defineR fin' p' s' = .ok (d, s2') ∧ More g r s2 s2' := by
  have hless := defineR_less h
  unfold defineR at h ⊢
  split at h
  · cases h
  · rename_i s1 h1
    obtain ⟨s1', e1, m1⟩ := enterR_more (p' := p') m h1
    rw [e1]
    dsimp only
    split at h
    · cases h
    · rename_i nm s2 h2
      obtain ⟨s2', e2, m2⟩ := word_more (fin' := fin') hg m1 h2
      rw [e2]
      dsimp only
      split at h
      · cases h
      · rename_i x s3 h3
        obtain ⟨s3', e3, m3⟩ := word_more (fin' := fin') hg m2 h3
        rw [e3]
        dsimp only
        split at h
        · cases h
        · rename_i i s4 h4
          obtain ⟨s4', e4, m4⟩ := names_more (fin' := fin') hg _ _ _ _ _ _ _ (fuel_more m3) m3 h4
          rw [e4]
          dsimp only
          split at h
          · cases h
          · rename_i o s5 h5
            obtain ⟨s5', e5, m5⟩ := names_more (fin' := fin') hg _ _ _ _ _ _ _ (fuel_more m4) m4 h5
            rw [e5]
            dsimp only
            split at h
            · cases h
            · rename_i b s6 h6
              cases h
              obtain ⟨s6', e6, m6⟩ := (parse_more hg r fin fin' _).2.2.2.1 _ _ _ _ _ _ _ (fuel_more m5) m5 h6
              rw [e6]
              refine ⟨_, rfl, m6.l, by dsimp only; rw [m6.opn], ?_⟩
              have ho := (enterR_ok h1).2.1
              have := hless.opn
              dsimp only at this ⊢
              rcases m6.sz with h | h
              · left; omega
              · exact .inr h
theorem item_nil (fin : Int) (k : Nat) (s : RS) (h : s.l = []) (hk : 2 ≤ k) : itemR fin k s = .ok (none, s) := by
  obtain ⟨k, rfl⟩ : ∃ j, k = j + 2 := ⟨k - 2, by omega⟩
  rw [itemR, litR, h]
  simp [peekR, h]
theorem forms_nil (fin : Int) (k : Nat) (s : RS) (h : s.l = []) (acc : List FormT) : formsR fin (k + 1) s acc = .ok (acc, s) := by
  rw [formsR, h, if_neg (by simp [peekR]), item_nil fin _ s h (by unfold fuel; omega)]
theorem forms_more {g : Tok → Tok} (hg : Alike g) {r : List Tok} {fin fin' : Int} : ∀ (k k' : Nat) (s s' : RS) (acc l : List FormT) (s2 : RS), More g r s s' → s.opn = 0 → s.l.length + r.length + 1 ≤ k' → formsR fin k s acc = .ok (l, s2) → s2.l = [] →
    ∃ l1 k2 z, l = acc ++ l1 ∧ r.length + 1 ≤ k2 ∧ ∀ acc', formsR fin' k' s' acc' = formsR fin' k2 ⟨r, 0, z⟩ (acc' ++ l1)
  | 0, _, _, _, _, _, _, _, _, _, h, _ => by simp [formsR] at h
  | _ + 1, 0, _, _, _, _, _, _, _, h, _, _ => by omega
  | k + 1, j + 1, s, s', acc, l, s2, m, ho, hk, h, he => by
    rw [formsR] at h
    by_cases hp : peekR s.l = some [58]
    · rw [if_pos hp] at h
      split at h
      · cases h
      · rename_i t s1 ht
        split at h
        · cases h
        · rename_i d s3 hd
          obtain ⟨s1', h1, m1⟩ := take_more (fin' := fin') m ht
          obtain ⟨s3', h3, m3⟩ := define_more (fin' := fin') (p' := (g t).pos) hg m1 hd
          have l1 := (takeR_ok ht).1
          have l3 := defineR_less hd
          have o1 := l1.opn; have o3 := l3.opn; have e1 := l1.lt trivial; have e3 := l3.lt trivial
          dsimp only at o1 o3 e1 e3
          obtain ⟨q, k2, z, e, hk2, hall⟩ := forms_more hg k j s3 s3' _ l s2 m3 (by omega) (by omega) h he
          refine ⟨.define d :: q, k2, z, by rw [e]; simp, hk2, fun acc' => ?_⟩
          rw [formsR, if_pos (peek_more hg m hp), h1]
          dsimp only
          rw [h3]
          dsimp only
          rw [hall]; simp
    · rw [if_neg hp] at h
      split at h
      · cases h
      · rename_i s1 hi
        cases h
        have := ((parse_less fin _).2.1 s _ hi).2 rfl
        dsimp only at this
        subst this
        refine ⟨[], j + 1, s'.sz, by simp, by omega, fun acc' => ?_⟩
        have : s' = ⟨r, 0, s'.sz⟩ := by
          have h1 := m.l; have h2 := m.opn
          rw [he] at h1
          cases s'
          simp at h1 h2 ⊢
          exact ⟨h1, by omega⟩
        rw [← this, List.append_nil]
      · rename_i y s1 hi
        have l1 := ((parse_less fin _).2.1 s _ hi).1
        have o1 := l1.opn; have e1 := l1.lt (by simp)
        dsimp only at o1 e1
        have hne : s.l ≠ [] := by intro e; rw [e] at e1; simp at e1
        obtain ⟨s1', h1, m1⟩ := (parse_more hg r fin fin' _).2.2.1 _ _ _ _ _ (fuel_more m) m hi
        obtain ⟨q, k2, z, e, hk2, hall⟩ := forms_more hg k j s1 s1' _ l s2 m1 (by omega) (by omega) h he
        refine ⟨.item y :: q, k2, z, by rw [e]; simp, hk2, fun acc' => ?_⟩
        rw [formsR, if_neg (by rw [peek_less hg m hne]; exact hp), h1]
        dsimp only
        rw [hall]; simp
end Go.Proofs.YtbmplclnondfnaaDoor

namespace Go.Proofs.YtbmplclnondfnaaDoor
open Go Go.Av
/-- A tree of the reference: its kind, number, text and list. -/
inductive RV where
  | mk (k n : Int) (s : List UInt8) (l : List RV)
mutual
def rvAV : RV → List AV
  | .mk k n s l => [.int .i64 k, .int .i64 n, .str s, .fz (rvsC l) l.length false]
def rvsC : List RV → List AV
  | [] => []
  | v :: r => rvAV v ++ rvsC r
end
def RV.cells (v : RV) : List AV := rvAV v
@[simp] theorem rvAV_length (v : RV) : (rvAV v).length = 4 := by cases v; simp [rvAV]
@[simp] theorem rvsC_length : ∀ l : List RV, (rvsC l).length = l.length * 4
  | [] => by simp [rvsC]
  | v :: r => by rw [rvsC, List.length_append, rvAV_length, rvsC_length r, List.length_cons]; omega
theorem rvsC_app (a b : List RV) : rvsC (a ++ b) = rvsC a ++ rvsC b := by
  induction a with
  | nil => simp [rvsC]
  | cons v r ih => simp [rvsC, ih]
theorem rvsC_snoc (a : List RV) (v : RV) : rvsC (a ++ [v]) = rvsC a ++ rvAV v := by simp [rvsC_app, rvsC]
theorem take_rvsC (l : List RV) : (rvsC l).take (l.length * 4) = rvsC l := List.take_of_length_le (by simp)
theorem rvsC_at : ∀ {l : List RV} {r : List AV} {i : Nat} {v : RV}, l[i]? = some v → ((rvsC l ++ r).drop (i * 4)).take 4 = rvAV v
  | [], _, _, _, h => by simp at h
  | x :: l, r, 0, v, h => by
    simp at h; subst h
    obtain ⟨k, n, s, l'⟩ := x
    simp [rvsC, rvAV]
  | x :: l, r, i + 1, v, h => by
    have := rvsC_at (l := l) (r := r) (i := i) (v := v) (by simpa using h)
    rw [← this, show (i + 1) * 4 = 4 + i * 4 by omega, ← List.drop_drop, rvsC, List.append_assoc, List.drop_left' (rvAV_length x)]
mutual
/-- No dynamic type but the six and the two; and no list of more than 2^40. -/
def Tree.clean : Tree → Bool
  | .odd _ _ => false
  | .list l => decide (l.length ≤ 1099511627776) && cleanAll l
  | .quot l => decide (l.length ≤ 1099511627776) && cleanAll l
  | _ => true
def cleanAll : List Tree → Bool
  | [] => true
  | t :: r => t.clean && cleanAll r
end
mutual
def Tree.depth : Tree → Nat
  | .list l => depthAll l + 1
  | .quot l => depthAll l + 1
  | _ => 0
def depthAll : List Tree → Nat
  | [] => 0
  | t :: r => max t.depth (depthAll r)
end
mutual
/-- The tree of a value. -/
def valRV : Tree → RV
  | .int n => .mk 1 n [] []
  | .str s => .mk 2 0 s []
  | .bool b => .mk 3 (if b then 1 else 0) [] []
  | .list l => .mk 4 0 [] (valRVs l)
  | .quot l => .mk 5 0 [] (itemRVs l)
  | .box n => .mk 6 n [] []
  | .none => .mk 8 0 [] []
  | .call _ => .mk 8 0 [] []
  | .odd _ _ => .mk 8 0 [] []
def valRVs : List Tree → List RV
  | [] => []
  | t :: r => valRV t :: valRVs r
def itemRVs : List Tree → List RV
  | [] => []
  | t :: r => (match t with
    | .call s => .mk 7 0 s []
    | .int n => .mk 1 n [] []
    | .str s => .mk 2 0 s []
    | .bool b => .mk 3 (if b then 1 else 0) [] []
    | .list l => .mk 4 0 [] (valRVs l)
    | .quot l => .mk 5 0 [] (itemRVs l)
    | .box n => .mk 6 n [] []
    | .none => .mk 8 0 [] []
    | .odd _ _ => .mk 8 0 [] []) :: itemRVs r
end
/-- The tree of an item. -/
def itemRV (t : Tree) : RV := match t with
  | .call s => .mk 7 0 s []
  | t => valRV t
theorem itemRVs_cons (t : Tree) (r : List Tree) : itemRVs (t :: r) = itemRV t :: itemRVs r := by
  cases t <;> simp [itemRVs, itemRV, valRV]
theorem itemRVs_map : ∀ l : List Tree, itemRVs l = l.map itemRV
  | [] => by simp [itemRVs]
  | t :: r => by rw [itemRVs_cons, itemRVs_map r]; rfl
theorem valRVs_map : ∀ l : List Tree, valRVs l = l.map valRV
  | [] => by simp [valRVs]
  | t :: r => by rw [valRVs, valRVs_map r]; rfl
@[simp] theorem itemRVs_length (l : List Tree) : (itemRVs l).length = l.length := by simp [itemRVs_map]
@[simp] theorem valRVs_length (l : List Tree) : (valRVs l).length = l.length := by simp [valRVs_map]
theorem cleanAll_at : ∀ {l : List Tree} {i : Nat} {t : Tree}, cleanAll l = true → l[i]? = some t → t.clean = true
  | [], _, _, _, h => by simp at h
  | x :: l, 0, t, hc, h => by simp at h; subst h; simp [cleanAll] at hc; exact hc.1
  | x :: l, i + 1, t, hc, h => by simp [cleanAll] at hc; exact cleanAll_at hc.2 (by simpa using h)
theorem depthAll_at : ∀ {l : List Tree} {i : Nat} {t : Tree}, l[i]? = some t → t.depth ≤ depthAll l
  | [], _, _, h => by simp at h
  | x :: l, 0, t, h => by simp at h; subst h; rw [depthAll]; omega
  | x :: l, i + 1, t, h => by
    have := depthAll_at (l := l) (i := i) (t := t) (by simpa using h)
    rw [depthAll]; omega
/-- The size of lists, everywhere. -/
theorem take_succ_at {α : Type} {l : List α} {i : Nat} {x : α} (h : l[i]? = some x) : l.take (i + 1) = l.take i ++ [x] := by
  rw [List.take_add_one, h]; rfl
end Go.Proofs.YtbmplclnondfnaaDoor

namespace Go.Proofs.YtbmplclnondfnaaDoor
open Go Go.Av
structure AccI where
  k : Nat
  o : Option Nat
theorem f_ItemTrees' (l : List Tree) (h : ∀ (i : Nat) t, l[i]? = some t → Av.Fn Tryd.prog 33 [itemAV t] (.agg (rvAV (itemRV t)))) (hl : l.length ≤ 1099511627776) :
    Av.Fn Tryd.prog 61 [.fz (itemAVs l) l.length false] (.fz (rvsC (itemRVs l)) l.length false) := by
  refine ACalls.of_W tb_ok (fn := Tryd.f61) (n := 20) (by kernel_rfl) rfl (by kernel_rfl) rfl rfl (by simp) (go ?_)
  refine VLoop.mk [3, 4] AccI (fun i => [accV i.o i.k, .int .i64 i.k]) (fun i => accS i.o 4 (rvsC (itemRVs (l.take i.k)))) (fun i => i.k ≤ l.length ∧ (i.o = none → i.k = 0)) (fun i => l.length - i.k) ⟨0, none⟩ ?_ ?_
  · exact ⟨⟨by simp, by simp⟩, rfl, .nil⟩
  rintro ⟨k, o⟩ ⟨hk, ho⟩
  dsimp only at hk ho ⊢
  refine go ?_
  refine fork (fun hlt => go ?_) (fun hlt => ?_)
  · have hlt : k < l.length := by omega
    obtain ⟨t, ht⟩ : ∃ t, l[k]? = some t := ⟨l[k], by simp [hlt]⟩
    have hv := h k t ht
    have hacc : rvsC (itemRVs (l.take (k + 1))) = rvsC (itemRVs (l.take k)) ++ rvAV (itemRV t) := by
      rw [take_succ_at ht, itemRVs_map, itemRVs_map, List.map_append, rvsC_app]; simp [rvsC]
    obtain ⟨v, e⟩ : ∃ v, v = itemRV t := ⟨_, rfl⟩
    rw [← e] at hv hacc
    obtain ⟨v1, v2, v3, v4⟩ := v
    rw [rvAV] at hv hacc
    have hlen : (rvsC (itemRVs (l.take k))).length = k * 4 := by rw [rvsC_length, itemRVs_length, List.length_take, Nat.min_eq_left hk]
    refine VNth.mk (itemAV t) (by simp [mulN_eq, itemAVs_map, ht]) (go ?_)
    refine Fn.use (hv) (go ?_)
    cases o with
    | none =>
      obtain rfl : k = 0 := ho rfl
      refine go ?_
      refine VAll.mk (fun b2 => go ?_)
      refine ⟨⟨1, some b2⟩, ⟨by dsimp only; omega, by simp⟩, by dsimp only; omega, rfl, .cons 0 ?_ .nil⟩
      dsimp only
      rw [hacc]; simp [itemRVs, rvsC]
    | some bo =>
      refine go ?_
      refine VGd.mk ⟨rfl, by omega, by rw [mulN_eq, hlen]; exact Nat.le_refl _, by dsimp only; omega⟩ (go ?_)
      refine VAll.mk (fun b2 => go ?_)
      refine ⟨⟨k + 1, some b2⟩, ⟨by dsimp only; omega, by simp⟩, by dsimp only; omega, rfl, .cons 0 ?_ .nil⟩
      dsimp only
      rw [hacc, mulN_eq, List.take_of_length_le (by rw [hlen]; exact Nat.le_refl _)]; rfl
  · obtain rfl : k = l.length := by omega
    rw [List.take_length]
    cases o with
    | none =>
      have := ho rfl
      obtain rfl : l = [] := List.length_eq_zero_iff.1 this
      refine go ?_
      refine VRet.mk [] .nil ?_
      exact ⟨by simp [itemRVs, rvsC], rfl⟩
    | some bo =>
      refine go ?_
      refine VRet.mk [] .nil ?_
      exact ⟨by simp [mulN_eq, List.take_of_length_le], rfl⟩
theorem f_Trees' (l : List Tree) (h : ∀ (i : Nat) t, l[i]? = some t → Av.Fn Tryd.prog 62 [valAV t] (.agg (rvAV (valRV t)))) (hl : l.length ≤ 1099511627776) :
    Av.Fn Tryd.prog 76 [.fz (valAVs l) l.length false] (.fz (rvsC (valRVs l)) l.length false) := by
  refine ACalls.of_W tb_ok (fn := Tryd.f76) (n := 20) (by kernel_rfl) rfl (by kernel_rfl) rfl rfl (by simp) (go ?_)
  refine VLoop.mk [3, 4] AccI (fun i => [accV i.o i.k, .int .i64 i.k]) (fun i => accS i.o 4 (rvsC (valRVs (l.take i.k)))) (fun i => i.k ≤ l.length ∧ (i.o = none → i.k = 0)) (fun i => l.length - i.k) ⟨0, none⟩ ?_ ?_
  · exact ⟨⟨by simp, by simp⟩, rfl, .nil⟩
  rintro ⟨k, o⟩ ⟨hk, ho⟩
  dsimp only at hk ho ⊢
  refine go ?_
  refine fork (fun hlt => go ?_) (fun hlt => ?_)
  · have hlt : k < l.length := by omega
    obtain ⟨t, ht⟩ : ∃ t, l[k]? = some t := ⟨l[k], by simp [hlt]⟩
    have hv := h k t ht
    have hacc : rvsC (valRVs (l.take (k + 1))) = rvsC (valRVs (l.take k)) ++ rvAV (valRV t) := by
      rw [take_succ_at ht, valRVs_map, valRVs_map, List.map_append, rvsC_app]; simp [rvsC]
    obtain ⟨v, e⟩ : ∃ v, v = valRV t := ⟨_, rfl⟩
    rw [← e] at hv hacc
    obtain ⟨v1, v2, v3, v4⟩ := v
    rw [rvAV] at hv hacc
    have hlen : (rvsC (valRVs (l.take k))).length = k * 4 := by rw [rvsC_length, valRVs_length, List.length_take, Nat.min_eq_left hk]
    refine VNth.mk (valAV t) (by simp [mulN_eq, valAVs_map, ht]) (go ?_)
    refine Fn.use (hv) (go ?_)
    cases o with
    | none =>
      obtain rfl : k = 0 := ho rfl
      refine go ?_
      refine VAll.mk (fun b2 => go ?_)
      refine ⟨⟨1, some b2⟩, ⟨by dsimp only; omega, by simp⟩, by dsimp only; omega, rfl, .cons 0 ?_ .nil⟩
      dsimp only
      rw [hacc]; simp [valRVs, rvsC]
    | some bo =>
      refine go ?_
      refine VGd.mk ⟨rfl, by omega, by rw [mulN_eq, hlen]; exact Nat.le_refl _, by dsimp only; omega⟩ (go ?_)
      refine VAll.mk (fun b2 => go ?_)
      refine ⟨⟨k + 1, some b2⟩, ⟨by dsimp only; omega, by simp⟩, by dsimp only; omega, rfl, .cons 0 ?_ .nil⟩
      dsimp only
      rw [hacc, mulN_eq, List.take_of_length_le (by rw [hlen]; exact Nat.le_refl _)]; rfl
  · obtain rfl : k = l.length := by omega
    rw [List.take_length]
    cases o with
    | none =>
      have := ho rfl
      obtain rfl : l = [] := List.length_eq_zero_iff.1 this
      refine go ?_
      refine VRet.mk [] .nil ?_
      exact ⟨by simp [valRVs, rvsC], rfl⟩
    | some bo =>
      refine go ?_
      refine VRet.mk [] .nil ?_
      exact ⟨by simp [mulN_eq, List.take_of_length_le], rfl⟩
theorem thawV (a b c : AV) : FzO (.ret (.agg [a, b, c, .nils])) (.ret (.agg [a, b, c, .fz [] 0 false])) [] [] :=
  .ret (.agg (.cons (.keep a []) (.cons (.keep b []) (.cons (.keep c []) (.cons (.nils []) (.nil [])))))) .nil
theorem f_Tree' (t : Tree) (hc : t.clean = true) (h4 : ∀ l, t = .list l → Av.Fn Tryd.prog 76 [.fz (valAVs l) l.length false] (.fz (rvsC (valRVs l)) l.length false))
    (h5 : ∀ l, t = .quot l → Av.Fn Tryd.prog 61 [.fz (itemAVs l) l.length false] (.fz (rvsC (itemRVs l)) l.length false)) :
    Av.Fn Tryd.prog 62 [valAV t] (.agg (rvAV (valRV t))) := by
  cases t with
  | odd t v => simp [Tree.clean] at hc
  | none =>
    simp only [valAV, valRV, rvAV, rvsC, List.length_nil]
    refine ACalls.thaw (ACalls.of_W tb_ok (fn := Tryd.f62) (n := 50) (by kernel_rfl) rfl (by kernel_rfl) rfl rfl (by simp) (go ?_))
    refine VAll.mk (fun b => go ?_)
    refine VRet.mk [] .nil ?_
    exact ⟨_, _, thawV _ _ _, rfl, rfl⟩
  | call s =>
    simp only [valAV, valRV, rvAV, rvsC, List.length_nil]
    refine ACalls.thaw (ACalls.of_W tb_ok (fn := Tryd.f62) (n := 50) (by kernel_rfl) rfl (by kernel_rfl) rfl rfl (by simp) (go ?_))
    refine VAll.mk (fun b => go ?_)
    refine VRet.mk [] .nil ?_
    exact ⟨_, _, thawV _ _ _, rfl, rfl⟩
  | int n =>
    simp only [valAV, valRV, rvAV, rvsC, List.length_nil]
    refine ACalls.thaw (ACalls.of_W tb_ok (fn := Tryd.f62) (n := 50) (by kernel_rfl) rfl (by kernel_rfl) rfl rfl (by simp) (go ?_))
    refine VAll.mk (fun b => go ?_)
    refine VAll.mk (fun b2 => go ?_)
    refine VRet.mk [] .nil ?_
    exact ⟨_, _, thawV _ _ _, rfl, rfl⟩
  | str s =>
    simp only [valAV, valRV, rvAV, rvsC, List.length_nil]
    refine ACalls.thaw (ACalls.of_W tb_ok (fn := Tryd.f62) (n := 50) (by kernel_rfl) rfl (by kernel_rfl) rfl rfl (by simp) (go ?_))
    refine VAll.mk (fun b => go ?_)
    refine VAll.mk (fun b2 => go ?_)
    refine VRet.mk [] .nil ?_
    exact ⟨_, _, thawV _ _ _, rfl, rfl⟩
  | bool b =>
    simp only [valAV, valRV, rvAV, rvsC, List.length_nil]
    refine ACalls.thaw (ACalls.of_W tb_ok (fn := Tryd.f62) (n := 50) (by kernel_rfl) rfl (by kernel_rfl) rfl rfl (by simp) (go ?_))
    refine VAll.mk (fun b => go ?_)
    refine VAll.mk (fun b2 => go ?_)
    refine fork (fun hb => go ?_) (fun hb => go ?_)
    · refine VRet.mk [] .nil ?_
      subst hb; exact ⟨_, _, thawV _ _ _, rfl, rfl⟩
    · refine VRet.mk [] .nil ?_
      subst hb; exact ⟨_, _, thawV _ _ _, rfl, rfl⟩
  | list l =>
    have h4 := h4 l rfl
    simp only [valAV, valRV, rvAV, rvsC, List.length_nil]
    refine ACalls.thaw (ACalls.of_W tb_ok (fn := Tryd.f62) (n := 50) (by kernel_rfl) rfl (by kernel_rfl) rfl rfl (by simp) (go ?_))
    refine VAll.mk (fun b => go ?_)
    refine VAll.mk (fun b2 => go ?_)
    refine Fn.use (h4) (go ?_)
    refine VRet.mk [] .nil ?_
    exact ⟨_, _, .same _ _, by simp, rfl⟩
  | quot l =>
    have h5 := h5 l rfl
    simp only [valAV, valRV, rvAV, rvsC, List.length_nil]
    refine ACalls.thaw (ACalls.of_W tb_ok (fn := Tryd.f62) (n := 50) (by kernel_rfl) rfl (by kernel_rfl) rfl rfl (by simp) (go ?_))
    refine VAll.mk (fun b => go ?_)
    refine VAll.mk (fun b2 => go ?_)
    refine Fn.use (h5) (go ?_)
    refine VRet.mk [] .nil ?_
    exact ⟨_, _, .same _ _, by simp, rfl⟩
  | box n =>
    simp only [valAV, valRV, rvAV, rvsC, List.length_nil]
    refine ACalls.thaw (ACalls.of_W tb_ok (fn := Tryd.f62) (n := 50) (by kernel_rfl) rfl (by kernel_rfl) rfl rfl (by simp) (go ?_))
    refine VAll.mk (fun b => go ?_)
    refine VAll.mk (fun b2 => go ?_)
    refine VRet.mk [] .nil ?_
    exact ⟨_, _, thawV _ _ _, rfl, rfl⟩
theorem f_ItemTree' (t : Tree) (hc : t.clean = true) (h : (∀ s, t ≠ .call s) → Av.Fn Tryd.prog 62 [valAV t] (.agg (rvAV (valRV t)))) :
    Av.Fn Tryd.prog 33 [itemAV t] (.agg (rvAV (itemRV t))) := by
  cases t with
  | odd t v => simp [Tree.clean] at hc
  | none =>
    simp only [itemAV, itemRV, valRV, rvAV, rvsC, List.length_nil]
    refine ACalls.thaw (ACalls.of_W tb_ok (fn := Tryd.f33) (n := 19) (by kernel_rfl) rfl (by kernel_rfl) rfl rfl (by simp) (go ?_))
    refine VAll.mk (fun b => go ?_)
    refine VRet.mk [] .nil ?_
    exact ⟨_, _, thawV _ _ _, rfl, rfl⟩
  | call s =>
    simp only [itemAV, itemRV, valRV, rvAV, rvsC, List.length_nil]
    refine ACalls.thaw (ACalls.of_W tb_ok (fn := Tryd.f33) (n := 19) (by kernel_rfl) rfl (by kernel_rfl) rfl rfl (by simp) (go ?_))
    refine VAll.mk (fun b => go ?_)
    refine VAll.mk (fun b2 => go ?_)
    refine VRet.mk [] .nil ?_
    exact ⟨_, _, thawV _ _ _, rfl, rfl⟩
  | int n =>
    have h := h (by intro s; exact Tree.noConfusion)
    simp only [itemAV, itemRV]
    obtain ⟨v, e⟩ : ∃ v, v = valRV (.int n) := ⟨_, rfl⟩
    rw [← e] at h ⊢
    obtain ⟨v1, v2, v3, v4⟩ := v
    rw [rvAV] at h ⊢
    refine ACalls.of_W tb_ok (fn := Tryd.f33) (n := 19) (by kernel_rfl) rfl (by kernel_rfl) rfl rfl (by simp) (go ?_)
    refine VAll.mk (fun b => go ?_)
    refine VAll.mk (fun b2 => go ?_)
    refine Fn.use (h) (go ?_)
    refine VRet.mk [] .nil ?_
    exact ⟨rfl, rfl⟩
  | str s =>
    have h := h (by intro s; exact Tree.noConfusion)
    simp only [itemAV, itemRV]
    obtain ⟨v, e⟩ : ∃ v, v = valRV (.str s) := ⟨_, rfl⟩
    rw [← e] at h ⊢
    obtain ⟨v1, v2, v3, v4⟩ := v
    rw [rvAV] at h ⊢
    refine ACalls.of_W tb_ok (fn := Tryd.f33) (n := 19) (by kernel_rfl) rfl (by kernel_rfl) rfl rfl (by simp) (go ?_)
    refine VAll.mk (fun b => go ?_)
    refine VAll.mk (fun b2 => go ?_)
    refine Fn.use (h) (go ?_)
    refine VRet.mk [] .nil ?_
    exact ⟨rfl, rfl⟩
  | bool b =>
    have h := h (by intro s; exact Tree.noConfusion)
    simp only [itemAV, itemRV]
    obtain ⟨v, e⟩ : ∃ v, v = valRV (.bool b) := ⟨_, rfl⟩
    rw [← e] at h ⊢
    obtain ⟨v1, v2, v3, v4⟩ := v
    rw [rvAV] at h ⊢
    refine ACalls.of_W tb_ok (fn := Tryd.f33) (n := 19) (by kernel_rfl) rfl (by kernel_rfl) rfl rfl (by simp) (go ?_)
    refine VAll.mk (fun b => go ?_)
    refine VAll.mk (fun b2 => go ?_)
    refine Fn.use (h) (go ?_)
    refine VRet.mk [] .nil ?_
    exact ⟨rfl, rfl⟩
  | list l =>
    have h := h (by intro s; exact Tree.noConfusion)
    simp only [itemAV, itemRV]
    obtain ⟨v, e⟩ : ∃ v, v = valRV (.list l) := ⟨_, rfl⟩
    rw [← e] at h ⊢
    obtain ⟨v1, v2, v3, v4⟩ := v
    rw [rvAV] at h ⊢
    refine ACalls.of_W tb_ok (fn := Tryd.f33) (n := 19) (by kernel_rfl) rfl (by kernel_rfl) rfl rfl (by simp) (go ?_)
    refine VAll.mk (fun b => go ?_)
    refine VAll.mk (fun b2 => go ?_)
    refine Fn.use (h) (go ?_)
    refine VRet.mk [] .nil ?_
    exact ⟨rfl, rfl⟩
  | quot l =>
    have h := h (by intro s; exact Tree.noConfusion)
    simp only [itemAV, itemRV]
    obtain ⟨v, e⟩ : ∃ v, v = valRV (.quot l) := ⟨_, rfl⟩
    rw [← e] at h ⊢
    obtain ⟨v1, v2, v3, v4⟩ := v
    rw [rvAV] at h ⊢
    refine ACalls.of_W tb_ok (fn := Tryd.f33) (n := 19) (by kernel_rfl) rfl (by kernel_rfl) rfl rfl (by simp) (go ?_)
    refine VAll.mk (fun b => go ?_)
    refine VAll.mk (fun b2 => go ?_)
    refine Fn.use (h) (go ?_)
    refine VRet.mk [] .nil ?_
    exact ⟨rfl, rfl⟩
  | box n =>
    have h := h (by intro s; exact Tree.noConfusion)
    simp only [itemAV, itemRV]
    obtain ⟨v, e⟩ : ∃ v, v = valRV (.box n) := ⟨_, rfl⟩
    rw [← e] at h ⊢
    obtain ⟨v1, v2, v3, v4⟩ := v
    rw [rvAV] at h ⊢
    refine ACalls.of_W tb_ok (fn := Tryd.f33) (n := 19) (by kernel_rfl) rfl (by kernel_rfl) rfl rfl (by simp) (go ?_)
    refine VAll.mk (fun b => go ?_)
    refine VAll.mk (fun b2 => go ?_)
    refine Fn.use (h) (go ?_)
    refine VRet.mk [] .nil ?_
    exact ⟨rfl, rfl⟩
theorem f_trees (n : Nat) :
    (∀ t : Tree, t.clean = true → t.depth ≤ n → Av.Fn Tryd.prog 62 [valAV t] (.agg (rvAV (valRV t))) ∧ Av.Fn Tryd.prog 33 [itemAV t] (.agg (rvAV (itemRV t)))) ∧
    (∀ l : List Tree, cleanAll l = true → l.length ≤ 1099511627776 → depthAll l ≤ n → Av.Fn Tryd.prog 76 [.fz (valAVs l) l.length false] (.fz (rvsC (valRVs l)) l.length false) ∧
      Av.Fn Tryd.prog 61 [.fz (itemAVs l) l.length false] (.fz (rvsC (itemRVs l)) l.length false)) := by
  have lists : ∀ n, (∀ t : Tree, t.clean = true → t.depth ≤ n → Av.Fn Tryd.prog 62 [valAV t] (.agg (rvAV (valRV t))) ∧ Av.Fn Tryd.prog 33 [itemAV t] (.agg (rvAV (itemRV t)))) →
      (∀ l : List Tree, cleanAll l = true → l.length ≤ 1099511627776 → depthAll l ≤ n → Av.Fn Tryd.prog 76 [.fz (valAVs l) l.length false] (.fz (rvsC (valRVs l)) l.length false) ∧
      Av.Fn Tryd.prog 61 [.fz (itemAVs l) l.length false] (.fz (rvsC (itemRVs l)) l.length false)) := fun n h l hc hl hd =>
    ⟨f_Trees' l (fun i t ht => (h t (cleanAll_at hc ht) (Nat.le_trans (depthAll_at ht) hd)).1) hl, f_ItemTrees' l (fun i t ht => (h t (cleanAll_at hc ht) (Nat.le_trans (depthAll_at ht) hd)).2) hl⟩
  have both : ∀ t : Tree, t.clean = true → Av.Fn Tryd.prog 62 [valAV t] (.agg (rvAV (valRV t))) → Av.Fn Tryd.prog 62 [valAV t] (.agg (rvAV (valRV t))) ∧ Av.Fn Tryd.prog 33 [itemAV t] (.agg (rvAV (itemRV t))) :=
    fun t hc h => ⟨h, f_ItemTree' t hc fun _ => h⟩
  suffices H : ∀ t : Tree, t.clean = true → t.depth ≤ n → Av.Fn Tryd.prog 62 [valAV t] (.agg (rvAV (valRV t))) from
    ⟨fun t hc hd => both t hc (H t hc hd), lists n fun t hc hd => both t hc (H t hc hd)⟩
  induction n with
  | zero =>
    intro t hc hd
    refine f_Tree' t hc ?_ ?_
    · rintro l rfl; simp [Tree.depth] at hd
    · rintro l rfl; simp [Tree.depth] at hd
  | succ n ih =>
    intro t hc hd
    have L := lists n fun t hc hd => both t hc (ih t hc hd)
    refine f_Tree' t hc ?_ ?_
    · rintro l rfl
      simp only [Tree.clean, Bool.and_eq_true, decide_eq_true_eq] at hc
      rw [Tree.depth] at hd
      exact (L l hc.2 hc.1 (by omega)).1
    · rintro l rfl
      simp only [Tree.clean, Bool.and_eq_true, decide_eq_true_eq] at hc
      rw [Tree.depth] at hd
      exact (L l hc.2 hc.1 (by omega)).2
theorem f_Tree {t : Tree} (h : t.clean = true) : Av.Fn Tryd.prog 62 [valAV t] (.agg (rvAV (valRV t))) := ((f_trees t.depth).1 t h (Nat.le_refl _)).1
theorem f_ItemTree {t : Tree} (h : t.clean = true) : Av.Fn Tryd.prog 33 [itemAV t] (.agg (rvAV (itemRV t))) := ((f_trees t.depth).1 t h (Nat.le_refl _)).2
theorem f_Trees {l : List Tree} (h : cleanAll l = true) (hl : l.length ≤ 1099511627776) : Av.Fn Tryd.prog 76 [.fz (valAVs l) l.length false] (.fz (rvsC (valRVs l)) l.length false) := ((f_trees (depthAll l)).2 l h hl (Nat.le_refl _)).1
theorem f_ItemTrees {l : List Tree} (h : cleanAll l = true) (hl : l.length ≤ 1099511627776) : Av.Fn Tryd.prog 61 [.fz (itemAVs l) l.length false] (.fz (rvsC (itemRVs l)) l.length false) := ((f_trees (depthAll l)).2 l h hl (Nat.le_refl _)).2
end Go.Proofs.YtbmplclnondfnaaDoor

namespace Go.Proofs.YtbmplclnondfnaaDoor
open Go Go.Av
def leafSame (k n : Int) (s : List UInt8) (n' : Int) (s' : List UInt8) : Bool :=
  if k = 1 ∨ k = 6 then decide (n = n') else if k = 3 then decide (n = 0) == decide (n' = 0) else if k = 2 ∨ k = 7 then decide (s = s') else true
mutual
def sameV : RV → RV → Bool
  | .mk k n s l, .mk k' n' s' l' => decide (k = k') && decide (l.length = l'.length) && leafSame k n s n' s' && sameVs l l'
def sameVs : List RV → List RV → Bool
  | [], [] => true
  | a :: r, b :: r' => sameV a b && sameVs r r'
  | _, _ => false
end
theorem sameVs_length : ∀ {a b : List RV}, sameVs a b = true → a.length = b.length
  | [], [], _ => rfl
  | a :: r, b :: r', h => by simp [sameVs] at h; simp [sameVs_length h.2]
  | [], _ :: _, h => by simp [sameVs] at h
  | _ :: _, [], h => by simp [sameVs] at h
mutual
/-- No list of more than 2^40. -/
def RV.small : RV → Bool
  | .mk _ _ _ l => decide (l.length ≤ 1099511627776) && smallAll l
def smallAll : List RV → Bool
  | [] => true
  | v :: r => v.small && smallAll r
end
mutual
def RV.deep : RV → Nat
  | .mk _ _ _ l => deepAll l + 1
def deepAll : List RV → Nat
  | [] => 0
  | v :: r => max v.deep (deepAll r)
end
theorem smallAll_at : ∀ {l : List RV} {i : Nat} {t : RV}, smallAll l = true → l[i]? = some t → t.small = true
  | [], _, _, _, h => by simp at h
  | x :: l, 0, t, hc, h => by simp at h; subst h; simp [smallAll] at hc; exact hc.1
  | x :: l, i + 1, t, hc, h => by simp [smallAll] at hc; exact smallAll_at hc.2 (by simpa using h)
theorem deepAll_at : ∀ {l : List RV} {i : Nat} {t : RV}, l[i]? = some t → t.deep ≤ deepAll l
  | [], _, _, h => by simp at h
  | x :: l, 0, t, h => by simp at h; subst h; rw [deepAll]; omega
  | x :: l, i + 1, t, h => by
    have := deepAll_at (l := l) (i := i) (t := t) (by simpa using h)
    rw [deepAll]; omega
theorem f_SameAll' (a b : List RV) (ra rb : List AV) (fa fb : Bool) (h : ∀ (i : Nat) v w, a[i]? = some v → b[i]? = some w → Av.Fn Tryd.prog 35 [.agg (rvAV v), .agg (rvAV w)] (.bool (sameV v w)))
    (ha : a.length ≤ 1099511627776) (hb : b.length ≤ 1099511627776) :
    Av.Fn Tryd.prog 63 [.fz (rvsC a ++ ra) a.length fa, .fz (rvsC b ++ rb) b.length fb] (.bool (sameVs a b)) := by
  refine ACalls.of_W tb_ok (fn := Tryd.f63) (n := 27) (by kernel_rfl) rfl (by kernel_rfl) rfl rfl (by simp) (go ?_)
  refine fork (fun hl => go ?_) (fun hl => go ?_)
  · refine VRet.mk [] .nil ?_
    refine ⟨?_, rfl⟩
    cases e : sameVs a b with
    | true => exact absurd (by rw [sameVs_length e]) hl
    | false => rfl
  · have hl : a.length = b.length := by omega
    refine VLoop.mk [5] Nat (fun i => [.int .i64 i]) (fun _ => []) (fun i => i ≤ a.length ∧ sameVs a b = sameVs (a.drop i) (b.drop i)) (fun i => a.length - i) 0 ?_ ?_
    · exact ⟨⟨by omega, by simp⟩, rfl, .nil⟩
    intro i ⟨hi, hI⟩
    refine go ?_
    refine fork (fun hlt => go ?_) (fun hlt => go ?_)
    · have hlt : i < a.length := by omega
      obtain ⟨x, hx⟩ : ∃ x, a[i]? = some x := ⟨a[i], by simp [hlt]⟩
      obtain ⟨y, hy⟩ : ∃ y, b[i]? = some y := ⟨b[i]'(by omega), by simp⟩
      have hda : a.drop i = x :: a.drop (i + 1) := by rw [List.drop_eq_getElem_cons hlt]; congr 1; rw [List.getElem?_eq_getElem hlt] at hx; exact Option.some.inj hx
      have hdb : b.drop i = y :: b.drop (i + 1) := by rw [List.drop_eq_getElem_cons (by omega)]; congr 1; rw [List.getElem?_eq_getElem (by omega)] at hy; exact Option.some.inj hy
      rw [hda, hdb, sameVs] at hI
      have hs := h i x y hx hy
      refine VQ.mk (.agg (rvAV x)) (by refine go ?_; exact VTake.mk (rvAV x) (by simpa using rvsC_at (r := ra) hx) (by simp) ⟨rfl, rfl⟩) (go ?_)
      refine VQ.mk (.agg (rvAV y)) (by refine go ?_; exact VTake.mk (rvAV y) (by simpa using rvsC_at (r := rb) hy) (by simp) ⟨rfl, rfl⟩) (go ?_)
      refine VQ.mk (.bool (sameV x y)) (by refine go ?_; refine Fn.use (hs) (go ?_); exact ⟨congrArg _ (rfl), rfl⟩) (go ?_)
      refine fork (fun hne => go ?_) (fun hne => go ?_)
      · refine VRet.mk [] .nil ?_
        rw [hI]; simp at hne; simp [hne]
      · refine ⟨i + 1, ⟨by omega, ?_⟩, by omega, rfl, .nil⟩
        rw [hI]; simp at hne; simp [hne]
    · refine VRet.mk [] .nil ?_
      rw [List.drop_eq_nil_of_le (by omega), List.drop_eq_nil_of_le (by omega)] at hI
      simp [hI, sameVs]
set_option maxHeartbeats 400000 in
theorem f_Same' (k n k' n' : Int) (s s' : List UInt8) (l l' : List RV)
    (h : Av.Fn Tryd.prog 63 [.fz (rvsC l) l.length false, .fz (rvsC l') l'.length false] (.bool (sameVs l l'))) (hl : l.length ≤ 1099511627776) (hl' : l'.length ≤ 1099511627776) :
    Av.Fn Tryd.prog 35 [.agg [.int .i64 k, .int .i64 n, .str s, .fz (rvsC l) l.length false], .agg [.int .i64 k', .int .i64 n', .str s', .fz (rvsC l') l'.length false]] (.bool (sameV (.mk k n s l) (.mk k' n' s' l'))) := by
  rw [sameV]
  refine ACalls.of_W tb_ok (fn := Tryd.f35) (n := 51) (by kernel_rfl) rfl (by kernel_rfl) rfl rfl (by simp) (go ?_)
  refine VAll.mk (fun b1 => go ?_)
  refine VAll.mk (fun b2 => go ?_)
  repeat' (refine fork (fun _ => go ?_) (fun _ => go ?_))
  all_goals first | refine VRet.mk [] .nil ⟨?_, rfl⟩ | (refine Fn.use h (go ?_); refine VRet.mk [] .nil ⟨?_, rfl⟩)
  all_goals clear h
  all_goals refine congrArg (fun b => AOut.ret (.bool b)) ?_
  all_goals (simp_all [leafSame] <;> (intro _; omega))
/-- Of trees that were never written. -/
theorem f_Same0 (h : Av.Fn Tryd.prog 63 [.fz [] 0 false, .fz [] 0 false] (.bool true)) :
    Av.Fn Tryd.prog 35 [.agg [.int .i64 0, .int .i64 0, .str [], .nils], .agg [.int .i64 0, .int .i64 0, .str [], .nils]] (.bool true) := by
  refine ACalls.of_W tb_ok (fn := Tryd.f35) (n := 51) (by kernel_rfl) rfl (by kernel_rfl) rfl rfl (by simp) (go ?_)
  refine VAll.mk (fun b1 => go ?_)
  refine VAll.mk (fun b2 => go ?_)
  refine Fn.use (h) (go ?_)
  refine VRet.mk [] .nil ?_
  exact ⟨rfl, rfl⟩
theorem f_sames (n : Nat) :
    (∀ v w : RV, v.small = true → w.small = true → v.deep ≤ n → Av.Fn Tryd.prog 35 [.agg (rvAV v), .agg (rvAV w)] (.bool (sameV v w))) ∧
    (∀ a b : List RV, smallAll a = true → smallAll b = true → a.length ≤ 1099511627776 → b.length ≤ 1099511627776 → deepAll a ≤ n → ∀ ra rb fa fb,
      Av.Fn Tryd.prog 63 [.fz (rvsC a ++ ra) a.length fa, .fz (rvsC b ++ rb) b.length fb] (.bool (sameVs a b))) := by
  suffices H : ∀ v w : RV, v.small = true → w.small = true → v.deep ≤ n → Av.Fn Tryd.prog 35 [.agg (rvAV v), .agg (rvAV w)] (.bool (sameV v w)) from
    ⟨H, fun a b ha hb hla hlb hd ra rb fa fb => f_SameAll' a b ra rb fa fb (fun i v w hv hw => H v w (smallAll_at ha hv) (smallAll_at hb hw) (Nat.le_trans (deepAll_at hv) hd)) hla hlb⟩
  induction n with
  | zero =>
    intro v w _ _ hd
    obtain ⟨k, n, s, l⟩ := v
    rw [RV.deep] at hd; omega
  | succ n ih =>
    intro v w hv hw hd
    obtain ⟨k, n, s, l⟩ := v
    obtain ⟨k', n', s', l'⟩ := w
    rw [RV.deep] at hd
    simp only [RV.small, Bool.and_eq_true, decide_eq_true_eq] at hv hw
    rw [rvAV, rvAV]
    refine f_Same' k n k' n' s s' l l' ?_ hv.1 hw.1
    have := f_SameAll' l l' [] [] false false (fun i v w hx hy => ih v w (smallAll_at hv.2 hx) (smallAll_at hw.2 hy) (by have := deepAll_at hx; omega)) hv.1 hw.1
    rwa [List.append_nil, List.append_nil] at this
theorem f_Same {v w : RV} (hv : v.small = true) (hw : w.small = true) : Av.Fn Tryd.prog 35 [.agg (rvAV v), .agg (rvAV w)] (.bool (sameV v w)) := (f_sames v.deep).1 v w hv hw (Nat.le_refl _)
theorem f_SameAll {a b : List RV} (ha : smallAll a = true) (hb : smallAll b = true) (hla : a.length ≤ 1099511627776) (hlb : b.length ≤ 1099511627776) (ra rb : List AV) (fa fb : Bool) :
    Av.Fn Tryd.prog 63 [.fz (rvsC a ++ ra) a.length fa, .fz (rvsC b ++ rb) b.length fb] (.bool (sameVs a b)) := (f_sames (deepAll a)).2 a b ha hb hla hlb (Nat.le_refl _) ra rb fa fb
theorem leafSame_refl (k n : Int) (s : List UInt8) : leafSame k n s n s = true := by
  unfold leafSame; simp
mutual
theorem sameV_refl : ∀ v : RV, sameV v v = true
  | .mk k n s l => by rw [sameV, leafSame_refl, sameVs_refl l]; simp
theorem sameVs_refl : ∀ l : List RV, sameVs l l = true
  | [] => by simp [sameVs]
  | v :: r => by rw [sameVs, sameV_refl v, sameVs_refl r]; rfl
end
end Go.Proofs.YtbmplclnondfnaaDoor

namespace Go.Proofs.YtbmplclnondfnaaDoor
open Go Go.Av
structure RDef where
  name : List UInt8
  inn : Int
  out : Int
  body : List RV
def RDef.cells (d : RDef) : List AV := [.str d.name, .int .i64 d.inn, .int .i64 d.out, .fz (rvsC d.body) d.body.length false]
inductive RForm where
  | define (d : RDef)
  | item (v : RV)
def RForm.cells : RForm → List AV
  | .define d => .bool true :: (d.cells ++ [.int .i64 0, .int .i64 0, .str [], .fz [] 0 false])
  | .item v => .bool false :: ([.str [], .int .i64 0, .int .i64 0, .fz [] 0 false] ++ rvAV v)
def rformsC (l : List RForm) : List AV := (l.map RForm.cells).flatten
@[simp] theorem RForm.cells_length (f : RForm) : f.cells.length = 9 := by cases f <;> simp [RForm.cells, RDef.cells]
@[simp] theorem rformsC_length (l : List RForm) : (rformsC l).length = l.length * 9 := by
  induction l with
  | nil => rfl
  | cons t l ih => show (t.cells ++ rformsC l).length = _; rw [List.length_append, ih, RForm.cells_length, List.length_cons]; omega
theorem rformsC_snoc (l : List RForm) (t : RForm) : rformsC (l ++ [t]) = rformsC l ++ t.cells := by simp [rformsC]
theorem rformsC_app (a b : List RForm) : rformsC (a ++ b) = rformsC a ++ rformsC b := by simp [rformsC]
theorem rformsC_at : ∀ {l : List RForm} {r : List AV} {i : Nat} {v : RForm}, l[i]? = some v → ∃ q, (rformsC l ++ r).drop (i * 9) = v.cells ++ q
  | [], _, _, _, h => by simp at h
  | x :: l, r, 0, v, h => by simp at h; subst h; exact ⟨rformsC l ++ r, by simp [rformsC]⟩
  | x :: l, r, i + 1, v, h => by
    obtain ⟨q, hq⟩ := rformsC_at (l := l) (r := r) (i := i) (v := v) (by simpa using h)
    refine ⟨q, ?_⟩
    rw [← hq, show (i + 1) * 9 = 9 + i * 9 by omega, ← List.drop_drop]
    show List.drop (i * 9) (List.drop 9 ((x.cells ++ rformsC l) ++ r)) = _
    rw [List.append_assoc, List.drop_left' (RForm.cells_length x)]
def defRV (d : DefT) : RDef := ⟨d.name, d.inn, d.out, itemRVs d.body⟩
def formRV : FormT → RForm
  | .define d => .define (defRV d)
  | .item t => .item (itemRV t)
theorem f_DefTree (d : DefT) (hc : cleanAll d.body = true) (hl : d.body.length ≤ 1099511627776) :
    Av.Fn Tryd.prog 32 [.agg [.str d.name, .int .i64 d.inn, .int .i64 d.out, .fz (itemAVs d.body) d.body.length false]] (.agg (defRV d).cells) := by
  have h := f_ItemTrees hc hl
  refine ACalls.of_W tb_ok (fn := Tryd.f32) (n := 15) (by kernel_rfl) rfl (by kernel_rfl) rfl rfl (by simp) (go ?_)
  refine VAll.mk (fun b1 => go ?_)
  refine VAll.mk (fun b2 => go ?_)
  refine VDraw.late 12 (go ?_)
  refine VQ.mk (.fz (rvsC (itemRVs d.body)) d.body.length false) (by refine go ?_; refine Fn.use (h) (go ?_); exact ⟨congrArg _ (rfl), rfl⟩) (go ?_)
  refine VRet.mk [] .nil ?_
  exact ⟨by simp [RDef.cells, defRV], rfl⟩
theorem f_SameDef (d e : RDef) (hd : smallAll d.body = true) (he : smallAll e.body = true) (hld : d.body.length ≤ 1099511627776) (hle : e.body.length ≤ 1099511627776) :
    Av.Fn Tryd.prog 34 [.agg d.cells, .agg e.cells] (.bool (decide (d.name = e.name) && decide (d.inn = e.inn) && decide (d.out = e.out) && sameVs d.body e.body)) := by
  have h := f_SameAll hd he hld hle [] [] false false
  rw [List.append_nil, List.append_nil] at h
  obtain ⟨n1, i1, o1, b1⟩ := d
  obtain ⟨n2, i2, o2, b2⟩ := e
  dsimp only [RDef.cells] at h ⊢
  refine ACalls.of_W tb_ok (fn := Tryd.f34) (n := 31) (by kernel_rfl) rfl (by kernel_rfl) rfl rfl (by simp) (go ?_)
  refine VAll.mk (fun x1 => go ?_)
  refine VAll.mk (fun x2 => go ?_)
  repeat' (refine fork (fun _ => go ?_) (fun _ => go ?_))
  all_goals first | refine VRet.mk [] .nil ⟨?_, rfl⟩ | (refine Fn.use h (go ?_); refine VRet.mk [] .nil ⟨?_, rfl⟩)
  all_goals clear h
  all_goals refine congrArg (fun b => AOut.ret (.bool b)) ?_
  all_goals simp_all
theorem formsC_at : ∀ {l : List FormT} {i : Nat} {v : FormT}, l[i]? = some v → ∃ q, (formsC l).drop (i * 6) = v.cells ++ q
  | [], _, _, h => by simp at h
  | x :: l, 0, v, h => by simp at h; subst h; exact ⟨formsC l, by simp [formsC]⟩
  | x :: l, i + 1, v, h => by
    obtain ⟨q, hq⟩ := formsC_at (l := l) (i := i) (v := v) (by simpa using h)
    refine ⟨q, ?_⟩
    rw [← hq, show (i + 1) * 6 = 6 + i * 6 by omega, ← List.drop_drop]
    show List.drop (i * 6) (List.drop 6 (x.cells ++ formsC l)) = _
    rw [List.drop_left' (by cases x <;> rfl)]
/-- Forms that the walks may read. -/
def FormT.clean : FormT → Bool
  | .define d => cleanAll d.body && decide (d.body.length ≤ 1099511627776)
  | .item t => t.clean && (match t with | .none => false | _ => true)
def FormsOut (l : List FormT) (out : AOut) (st : St) : Prop := ∃ o, out = .ret (accV o l.length) ∧ st = accS o 9 (rformsC (l.map formRV)) ∧ (o = none → l = [])
theorem f_FormTrees (l : List FormT) (hc : ∀ f ∈ l, f.clean = true) (hl : l.length ≤ 1073741824) :
    ACalls Tryd.prog 10 [.fz (formsC l) l.length false] [] (FormsOut l) := by
  refine ACalls.of_W tb_ok (fn := Tryd.f10) (n := 42) (by kernel_rfl) rfl (by kernel_rfl) rfl rfl (by simp) (go ?_)
  refine VLoop.mk [3, 4] AccI (fun i => [accV i.o i.k, .int .i64 i.k]) (fun i => accS i.o 9 (rformsC ((l.take i.k).map formRV))) (fun i => i.k ≤ l.length ∧ (i.o = none → i.k = 0)) (fun i => l.length - i.k) ⟨0, none⟩ ?_ ?_
  · exact ⟨⟨by simp, by simp⟩, rfl, .nil⟩
  rintro ⟨k, o⟩ ⟨hk, ho⟩
  dsimp only at hk ho ⊢
  refine go ?_
  refine fork (fun hlt => go ?_) (fun hlt => go ?_)
  · have hlt : k < l.length := by omega
    obtain ⟨f, hf⟩ : ∃ f, l[k]? = some f := ⟨l[k], by simp [hlt]⟩
    have hcf := hc f (List.mem_of_getElem? hf)
    obtain ⟨q, hq⟩ := formsC_at hf
    have nth : ∀ (j m : Nat) (v : AV), (List.drop j (f.cells ++ q))[m]? = some v → (List.drop j (List.drop (mulN k 6) (formsC l)))[m]? = some v := fun j m v h => by rw [mulN_eq, hq]; exact h
    have tak : ∀ (j m : Nat) (v : List AV), (List.drop j (f.cells ++ q)).take m = v → (List.drop j (List.drop (mulN k 6) (formsC l))).take m = v := fun j m v h => by rw [mulN_eq, hq]; exact h
    have hacc : rformsC ((l.take (k + 1)).map formRV) = rformsC ((l.take k).map formRV) ++ (formRV f).cells := by
      rw [take_succ_at hf, List.map_append, rformsC_app]; simp [rformsC]
    have hlen : (rformsC ((l.take k).map formRV)).length = k * 9 := by rw [rformsC_length, List.length_map, List.length_take, Nat.min_eq_left hk]
    cases f with
    | define d =>
      simp only [FormT.clean, Bool.and_eq_true, decide_eq_true_eq] at hcf
      have hdt := f_DefTree d hcf.1 hcf.2
      refine VDraw.late 12 (go ?_)
      refine VQ.mk (.bool true) (by refine go ?_; exact VNth.mk (.bool true) (nth 0 0 _ rfl) ⟨rfl, rfl⟩) (go ?_)
      refine VQ.mk (.agg [.str d.name, .int .i64 d.inn, .int .i64 d.out, .fz (itemAVs d.body) d.body.length false]) (by refine go ?_; exact VTake.mk [.str d.name, .int .i64 d.inn, .int .i64 d.out, .fz (itemAVs d.body) d.body.length false] (tak 1 4 _ rfl) rfl ⟨rfl, rfl⟩) (go ?_)
      refine VQ.mk (.agg (defRV d).cells) (by refine go ?_; refine Fn.use (hdt) (go ?_); exact ⟨congrArg _ (rfl), rfl⟩) (go ?_)
      refine VAll.mk (fun b5 => go ?_)
      refine VNth.mk .nili (nth 5 0 _ rfl) (go ?_)
      cases o with
      | none =>
        obtain rfl : k = 0 := ho rfl
        refine go ?_
        refine VAll.mk (fun b6 => go ?_)
        refine ⟨⟨1, some b6⟩, ⟨by dsimp only; omega, by simp⟩, by dsimp only; omega, rfl, .cons 0 ?_ .nil⟩
        dsimp only
        rw [hacc]; rfl
      | some bo =>
        refine go ?_
        refine VGd.mk ⟨rfl, by omega, by rw [mulN_eq, hlen]; exact Nat.le_refl _, by dsimp only; omega⟩ (go ?_)
        refine VAll.mk (fun b6 => go ?_)
        refine ⟨⟨k + 1, some b6⟩, ⟨by dsimp only; omega, by simp⟩, by dsimp only; omega, rfl, .cons 0 ?_ .nil⟩
        dsimp only
        rw [hacc, mulN_eq, List.take_of_length_le (by rw [hlen]; exact Nat.le_refl _)]; rfl
    | item t =>
      simp only [FormT.clean, Bool.and_eq_true] at hcf
      have hdt := f_DefTree ⟨[], 0, 0, []⟩ rfl (by simp)
      have hit := f_ItemTree hcf.1
      obtain ⟨ty, x, hx⟩ : ∃ ty x, itemAV t = .iface ty x := by cases t <;> first | exact ⟨_, _, rfl⟩ | (simp at hcf)
      refine VDraw.late 12 (go ?_)
      refine VQ.mk (.bool false) (by refine go ?_; exact VNth.mk (.bool false) (nth 0 0 _ rfl) ⟨rfl, rfl⟩) (go ?_)
      refine VQ.mk (.agg [.str [], .int .i64 0, .int .i64 0, .fz [] 0 false]) (by refine go ?_; exact VTake.mk [.str [], .int .i64 0, .int .i64 0, .fz [] 0 false] (tak 1 4 _ rfl) rfl ⟨rfl, rfl⟩) (go ?_)
      refine VQ.mk (.agg (defRV ⟨[], 0, 0, []⟩).cells) (by refine go ?_; refine Fn.use (hdt) (go ?_); exact ⟨congrArg _ (rfl), rfl⟩) (go ?_)
      refine VAll.mk (fun b5 => go ?_)
      obtain ⟨v, e⟩ : ∃ v, v = itemRV t := ⟨_, rfl⟩
      have hacc : rformsC ((l.take (k + 1)).map formRV) = rformsC ((l.take k).map formRV) ++ (RForm.item v).cells := by rw [hacc, e]; rfl
      rw [← e, hx] at hit
      obtain ⟨v1, v2, v3, v4⟩ := v
      rw [RForm.cells, rvAV] at hacc
      rw [rvAV] at hit
      refine VNth.mk (.iface ty x) (nth 5 0 _ (by rw [← hx]; rfl)) (go ?_)
      refine VNth.mk (.iface ty x) (nth 5 0 _ (by rw [← hx]; rfl)) (go ?_)
      refine Fn.use (hit) (go ?_)
      cases o with
      | none =>
        obtain rfl : k = 0 := ho rfl
        refine go ?_
        refine VAll.mk (fun b6 => go ?_)
        refine ⟨⟨1, some b6⟩, ⟨by dsimp only; omega, by simp⟩, by dsimp only; omega, rfl, .cons 0 ?_ .nil⟩
        dsimp only
        rw [hacc]; rfl
      | some bo =>
        refine go ?_
        refine VGd.mk ⟨rfl, by omega, by rw [mulN_eq, hlen]; exact Nat.le_refl _, by dsimp only; omega⟩ (go ?_)
        refine VAll.mk (fun b6 => go ?_)
        refine ⟨⟨k + 1, some b6⟩, ⟨by dsimp only; omega, by simp⟩, by dsimp only; omega, rfl, .cons 0 ?_ .nil⟩
        dsimp only
        rw [hacc, mulN_eq, List.take_of_length_le (by rw [hlen]; exact Nat.le_refl _)]; rfl
  · obtain rfl : k = l.length := by omega
    rw [List.take_length]
    refine VRet.mk _ (VSel.refl _) ⟨o, rfl, rfl, fun h => ?_⟩
    exact List.length_eq_zero_iff.1 (ho h)
/-- No list of more than 2^40. -/
def RForm.small : RForm → Bool
  | .define d => smallAll d.body && decide (d.body.length ≤ 1099511627776)
  | .item v => v.small
def RForm.dPart : RForm → RDef
  | .define d => d
  | .item _ => ⟨[], 0, 0, []⟩
def RForm.vPart : RForm → RV
  | .define _ => .mk 0 0 [] []
  | .item v => v
def RForm.isDef : RForm → Bool
  | .define _ => true
  | .item _ => false
theorem RForm.cells_eq (f : RForm) : f.cells = .bool f.isDef :: (f.dPart.cells ++ rvAV f.vPart) := by
  cases f <;> simp [RForm.cells, RForm.isDef, RForm.dPart, RForm.vPart, RDef.cells, rvAV, rvsC]
theorem f_SameForms (l : List RForm) (hs : ∀ f ∈ l, f.small = true) (hl : l.length ≤ 1099511627776) (ra rb : List AV) (fa fb : Bool) :
    Av.Fn Tryd.prog 11 [.fz (rformsC l ++ ra) l.length fa, .fz (rformsC l ++ rb) l.length fb] (.bool true) := by
  refine ACalls.of_W tb_ok (fn := Tryd.f11) (n := 56) (by kernel_rfl) rfl (by kernel_rfl) rfl rfl (by simp) (go ?_)
  refine VIf.no (by simp) (go ?_)
  refine VLoop.mk [5] Nat (fun i => [.int .i64 i]) (fun _ => []) (fun i => i ≤ l.length) (fun i => l.length - i) 0 ?_ ?_
  · exact ⟨by omega, rfl, .nil⟩
  intro i hi
  refine go ?_
  refine fork (fun hlt => go ?_) (fun hlt => go ?_)
  · have hlt : i < l.length := by omega
    obtain ⟨f, hf⟩ : ∃ f, l[i]? = some f := ⟨l[i], by simp [hlt]⟩
    have hsf := hs f (List.mem_of_getElem? hf)
    obtain ⟨q, hq⟩ := rformsC_at (r := ra) hf
    obtain ⟨q', hq'⟩ := rformsC_at (r := rb) hf
    rw [RForm.cells_eq] at hq hq'
    have hd : Av.Fn Tryd.prog 34 [.agg f.dPart.cells, .agg f.dPart.cells] (.bool true) := by
      have hb : smallAll f.dPart.body = true ∧ f.dPart.body.length ≤ 1099511627776 := by
        cases f with
        | define d => simp only [RForm.small, Bool.and_eq_true, decide_eq_true_eq] at hsf; exact hsf
        | item v => exact ⟨by simp [RForm.dPart, smallAll], by simp [RForm.dPart]⟩
      have := f_SameDef f.dPart f.dPart hb.1 hb.1 hb.2 hb.2
      rwa [sameVs_refl, decide_eq_true rfl, decide_eq_true rfl, decide_eq_true rfl] at this
    have hv : Av.Fn Tryd.prog 35 [.agg (rvAV f.vPart), .agg (rvAV f.vPart)] (.bool true) := by
      have hb : f.vPart.small = true := by
        cases f with
        | define d => simp [RForm.vPart, RV.small, smallAll]
        | item v => exact hsf
      have := f_Same hb hb
      rwa [sameV_refl] at this
    obtain ⟨d, e1⟩ : ∃ d, d = f.dPart := ⟨_, rfl⟩
    obtain ⟨v, e2⟩ : ∃ v, v = f.vPart := ⟨_, rfl⟩
    rw [← e1] at hq hq' hd
    rw [← e2] at hq hq' hv
    obtain ⟨d1, d2, d3, d4⟩ := d
    obtain ⟨v1, v2, v3, v4⟩ := v
    rw [rvAV] at hq hq' hv
    dsimp only [RDef.cells, List.cons_append, List.nil_append] at hq hq' hd
    have nth : ∀ (j m : Nat) (v : AV), (List.drop j (List.drop (i * 9) (rformsC l ++ ra)))[m]? = some v → (List.drop j (List.drop (mulN i 9) (rformsC l ++ ra)))[m]? = some v := fun j m v h => by rw [mulN_eq]; exact h
    have nth' : ∀ (j m : Nat) (v : AV), (List.drop j (List.drop (i * 9) (rformsC l ++ rb)))[m]? = some v → (List.drop j (List.drop (mulN i 9) (rformsC l ++ rb)))[m]? = some v := fun j m v h => by rw [mulN_eq]; exact h
    have tak : ∀ (j m : Nat) (v : List AV), (List.drop j (List.drop (i * 9) (rformsC l ++ ra))).take m = v → (List.drop j (List.drop (mulN i 9) (rformsC l ++ ra))).take m = v := fun j m v h => by rw [mulN_eq]; exact h
    have tak' : ∀ (j m : Nat) (v : List AV), (List.drop j (List.drop (i * 9) (rformsC l ++ rb))).take m = v → (List.drop j (List.drop (mulN i 9) (rformsC l ++ rb))).take m = v := fun j m v h => by rw [mulN_eq]; exact h
    rw [hq] at nth tak
    rw [hq'] at nth' tak'
    refine VQ.mk (.bool f.isDef) (by refine go ?_; exact VNth.mk _ (nth 0 0 _ rfl) ⟨rfl, rfl⟩) (go ?_)
    refine VQ.mk (.bool f.isDef) (by refine go ?_; exact VNth.mk _ (nth' 0 0 _ rfl) ⟨rfl, rfl⟩) (go ?_)
    refine VIf.no (by simp) (go ?_)
    refine VQ.mk (.agg [.str d1, .int .i64 d2, .int .i64 d3, .fz (rvsC d4) d4.length false]) (by refine go ?_; exact VTake.mk _ (tak 1 4 _ rfl) rfl ⟨rfl, rfl⟩) (go ?_)
    refine VQ.mk (.agg [.str d1, .int .i64 d2, .int .i64 d3, .fz (rvsC d4) d4.length false]) (by refine go ?_; exact VTake.mk _ (tak' 1 4 _ rfl) rfl ⟨rfl, rfl⟩) (go ?_)
    refine VQ.mk (.bool true) (by refine go ?_; refine Fn.use (hd) (go ?_); exact ⟨congrArg _ (rfl), rfl⟩) (go ?_)
    refine VQ.mk (.agg [.int .i64 v1, .int .i64 v2, .str v3, .fz (rvsC v4) v4.length false]) (by refine go ?_; exact VTake.mk _ (tak 5 4 _ rfl) rfl ⟨rfl, rfl⟩) (go ?_)
    refine VQ.mk (.agg [.int .i64 v1, .int .i64 v2, .str v3, .fz (rvsC v4) v4.length false]) (by refine go ?_; exact VTake.mk _ (tak' 5 4 _ rfl) rfl ⟨rfl, rfl⟩) (go ?_)
    refine VQ.mk (.bool true) (by refine go ?_; refine Fn.use (hv) (go ?_); exact ⟨congrArg _ (rfl), rfl⟩) (go ?_)
    exact ⟨i + 1, by omega, by omega, rfl, .nil⟩
  · refine VRet.mk [] .nil ?_
    exact ⟨rfl, rfl⟩
end Go.Proofs.YtbmplclnondfnaaDoor

namespace Go.Proofs.YtbmplclnondfnaaDoor
open Go Go.Av
structure Ch where
  r : Nat
  a : Nat
  z : Nat
  bad : Bool
def chL (i : Nat) : List (Nat × Nat) → List Ch
  | [] => []
  | (r, k) :: rs => ⟨r, i, i + k, badB (r, k)⟩ :: chL (i + k) rs
def Ch.cells (c : Ch) : List AV := [.int .i32 c.r, .int .i64 c.a, .int .i64 c.z, .bool c.bad]
def chC (l : List Ch) : List AV := (l.map Ch.cells).flatten
@[simp] theorem chC_length (l : List Ch) : (chC l).length = l.length * 4 := by
  induction l with
  | nil => rfl
  | cons t l ih => show (t.cells ++ chC l).length = _; rw [List.length_append, ih]; simp [Ch.cells]; omega
theorem chC_snoc (l : List Ch) (t : Ch) : chC (l ++ [t]) = chC l ++ t.cells := by simp [chC]
theorem take_chC (l : List Ch) : (chC l).take (l.length * 4) = chC l := List.take_of_length_le (by simp)
theorem chC_at : ∀ {l : List Ch} {r : List AV} {i : Nat} {t : Ch}, l[i]? = some t → ((chC l ++ r).drop (i * 4)).take 4 = t.cells
  | [], _, _, _, h => by simp at h
  | x :: l, r, 0, t, h => by simp at h; subst h; rfl
  | x :: l, r, i + 1, t, h => by
    have := chC_at (l := l) (r := r) (i := i) (t := t) (by simpa using h)
    rw [← this, show (i + 1) * 4 = 4 + i * 4 by omega, ← List.drop_drop]; rfl
theorem chL_length : ∀ (i : Nat) (rs : List (Nat × Nat)), (chL i rs).length = rs.length
  | _, [] => rfl
  | i, (r, k) :: rs => by simp [chL, chL_length]
theorem chL_append : ∀ (i : Nat) (a b : List (Nat × Nat)), chL i (a ++ b) = chL i a ++ chL (i + (a.map (·.2)).sum) b
  | i, [], b => by simp [chL]
  | i, (r, k) :: a, b => by simp [chL, chL_append (i + k) a b, Nat.add_assoc]
theorem runes_len (l : List UInt8) : (runes l).length ≤ l.length := by
  induction l using runes_ind with
  | h0 => simp
  | h1 l hl ih =>
    obtain ⟨h1, h2, _⟩ := dec_pos l hl
    rw [runes_cons hl, List.length_cons]
    rw [List.length_drop] at ih; omega
/-- How long a character's own bytes are. -/
def encN (r : Nat) : Nat := (Utf8.encode (r : Int)).data.toList.length
theorem enc_len (r : Nat) : encN r = if r ≤ 1114111 ∧ ¬ (55296 ≤ r ∧ r ≤ 57343) then (if r < 128 then 1 else if r < 2048 then 2 else if r < 65536 then 3 else 4) else 3 := by
  unfold encN
  have hv : Utf8.valid (r : Int) = decide (r ≤ 1114111 ∧ ¬ (55296 ≤ r ∧ r ≤ 57343)) := by
    simp only [Utf8.valid]
    rw [Bool.eq_iff_iff]; simp; omega
  by_cases h : r ≤ 1114111 ∧ ¬ (55296 ≤ r ∧ r ≤ 57343)
  · rw [if_pos h]
    rw [decide_eq_true h] at hv
    simp only [Utf8.encode, hv, if_true, Int.toNat_natCast]
    by_cases h1 : r < 128
    · rw [if_pos h1, if_pos h1]; rfl
    rw [if_neg h1, if_neg h1]
    by_cases h2 : r < 2048
    · rw [if_pos h2, if_pos h2]; rfl
    rw [if_neg h2, if_neg h2]
    by_cases h3 : r < 65536
    · rw [if_pos h3, if_pos h3]; rfl
    rw [if_neg h3, if_neg h3]; rfl
  · rw [if_neg h]
    rw [decide_eq_false h] at hv
    simp only [Utf8.encode, hv, Bool.false_eq_true, if_false]
    rw [if_neg (by decide), if_neg (by decide), if_pos (by decide)]; rfl
theorem dec_enc {l : List UInt8} (h : l ≠ []) : badB (dec l) = false → encN (dec l).1 = (dec l).2 := by
  have hl : 1 ≤ l.length := by cases l with | nil => exact absurd rfl h | cons => simp
  rw [enc_len, dec_N]
  generalize (l.getD 0 0).toNat = a
  generalize (l.getD 1 0).toNat = b
  generalize (l.getD 2 0).toNat = c
  generalize (l.getD 3 0).toNat = d
  intro hb
  unfold Lib.decodeN at hb ⊢
  repeat' split
  all_goals first | (simp [badB] at hb; done) | (dsimp only at *; omega) | skip
  all_goals simp_all [badB]
  all_goals omega
def charsR (l : List UInt8) : List Ch := chL 0 (runes l)
structure ChI where
  o : Option Nat
  i : Nat
  out : List Ch
set_option maxHeartbeats 800000 in
theorem f_Chars (l : List UInt8) (hl : l.length ≤ 1000000000) : Av.Fn Tryd.prog 26 [.str l] (.fz (chC (charsR l)) (charsR l).length false) := by
  refine ACalls.of_W tb_ok (fn := Tryd.f26) (n := 45) (by kernel_rfl) rfl (by kernel_rfl) rfl rfl (by simp) (go ?_)
  refine VAll.mk (fun b => go ?_)
  refine VLoop.mk [3] ChI (fun i => [accV i.o i.out.length]) (fun i => (b, .siter l i.i) :: accS i.o 4 (chC i.out))
    (fun i => i.i ≤ l.length ∧ i.out.length ≤ i.i ∧ (i.o = none → i.out = []) ∧ i.out ++ chL i.i (runes (l.drop i.i)) = charsR l) (fun i => l.length - i.i) ⟨none, 0, []⟩ ?_ ?_
  · exact ⟨⟨by simp, by simp, by simp, by simp [charsR]⟩, rfl, .cons 0 rfl .nil⟩
  rintro ⟨o, i, out⟩ ⟨hi, hol, ho, hI⟩
  dsimp only at hi hol ho hI ⊢
  cases o with
  | none =>
    have hacc := ho rfl
    subst hacc
    refine go ?_
    refine fork (fun hlt => go ?_) (fun hlt => go ?_)
    · have hlt : i < l.length := by omega
      have hne' : l.drop i ≠ [] := by simp; omega
      have hc := dec_pos _ hne'
      have hbad := dec_bad hne'
      have henc := dec_enc hne'
      have hru := runes_cons hne'
      rw [← dec_at] at hc hbad henc hru
      generalize hdc : Utf8.decode ⟨⟨l⟩⟩ i = c at hc hbad henc hru
      rw [List.drop_drop] at hru
      obtain ⟨r, k⟩ := c
      dsimp only at hc hbad henc hru ⊢
      rw [List.length_drop] at hc hbad
      rw [show (Utf8.encode (r : Int)).data.toList.length = encN r from rfl]
      cases hbb : badB (r, k) with
      | true =>
        have hrk : r = 65533 ∧ k = 1 := by simpa [badB] using hbb
        obtain ⟨rfl, rfl⟩ := hrk
        have he3 : encN 65533 = 3 := by rw [enc_len]; rfl
        rw [he3]
        rw [hbb, decide_eq_true rfl, Bool.true_and, Bool.not_eq_true', Bool.and_eq_false_iff] at hbad
        refine VInt.to ((i + 3 : Nat) : Int) (by omega) (by omega) (by omega) (go ?_)
        by_cases h3 : i + 3 ≤ l.length
        · have h4 : ¬ (l.drop i).take 3 = [239, 191, 189] := by
            rcases hbad with h | h
            · simp at h; omega
            · simpa using h
          refine VIf.no (decide_eq_false (by omega)) (go ?_)
          refine VIf.yes (by rw [List.drop_take, Nat.add_sub_cancel_left]; simp [h4]) (go ?_)
          refine VAll.mk (fun b2 => go ?_)
          refine ⟨⟨some b2, i + 1, [⟨65533, i, i + 1, true⟩]⟩, ⟨?_, ?_, ?_, ?_⟩, ?_, ?_, ?_⟩
          · dsimp only; omega
          · simp; try omega
          · intro h; cases h
          · dsimp only; rw [← hI, hru, chL, hbb]; rfl
          · dsimp only; omega
          · simp [accV]
          · exact .cons 1 rfl (.cons 0 rfl .nil)
        · refine VIf.yes (decide_eq_true (by omega)) (go ?_)
          refine VAll.mk (fun b2 => go ?_)
          refine ⟨⟨some b2, i + 1, [⟨65533, i, i + 1, true⟩]⟩, ⟨?_, ?_, ?_, ?_⟩, ?_, ?_, ?_⟩
          · dsimp only; omega
          · simp; try omega
          · intro h; cases h
          · dsimp only; rw [← hI, hru, chL, hbb]; rfl
          · dsimp only; omega
          · simp [accV]
          · exact .cons 1 rfl (.cons 0 rfl .nil)
      | false =>
        rw [henc hbb]
        refine VInt.to ((i + k : Nat) : Int) (by omega) (by omega) (by omega) (go ?_)
        by_cases hr : r = 65533
        · subst hr
          have hk3 : k = 3 := by rw [← henc hbb, enc_len]; rfl
          subst hk3
          rw [hbb, decide_eq_true rfl, Bool.true_and, Bool.not_eq_false', Bool.and_eq_true, decide_eq_true_eq, decide_eq_true_eq] at hbad
          refine go ?_
          refine VIf.no (decide_eq_false (by omega)) (go ?_)
          refine VIf.no (by rw [List.drop_take, Nat.add_sub_cancel_left, hbad.2]; rfl) (go ?_)
          refine VAll.mk (fun b2 => go ?_)
          refine ⟨⟨some b2, i + 3, [⟨65533, i, i + 3, false⟩]⟩, ⟨?_, ?_, ?_, ?_⟩, ?_, ?_, ?_⟩
          · dsimp only; omega
          · simp; try omega
          · intro h; cases h
          · dsimp only; rw [← hI, hru, chL, hbb]; rfl
          · dsimp only; omega
          · simp [accV]
          · exact .cons 1 rfl (.cons 0 rfl .nil)
        · refine VIf.no (decide_eq_false (by omega)) (go ?_)
          refine VAll.mk (fun b2 => go ?_)
          refine ⟨⟨some b2, i + k, [⟨r, i, i + k, false⟩]⟩, ⟨?_, ?_, ?_, ?_⟩, ?_, ?_, ?_⟩
          · dsimp only; omega
          · simp; try omega
          · intro h; cases h
          · dsimp only; rw [← hI, hru, chL, hbb]; rfl
          · dsimp only; omega
          · simp [accV]
          · exact .cons 1 rfl (.cons 0 rfl .nil)
    · rw [List.drop_eq_nil_of_le (by omega)] at hI
      refine VRet.mk [] .nil ?_
      rw [← hI]; simp [chL, chC]; try rfl
  | some bo =>
    refine go ?_
    refine fork (fun hlt => go ?_) (fun hlt => go ?_)
    · have hlt : i < l.length := by omega
      have hne' : l.drop i ≠ [] := by simp; omega
      have hc := dec_pos _ hne'
      have hbad := dec_bad hne'
      have henc := dec_enc hne'
      have hru := runes_cons hne'
      rw [← dec_at] at hc hbad henc hru
      generalize hdc : Utf8.decode ⟨⟨l⟩⟩ i = c at hc hbad henc hru
      rw [List.drop_drop] at hru
      obtain ⟨r, k⟩ := c
      dsimp only at hc hbad henc hru ⊢
      rw [List.length_drop] at hc hbad
      rw [show (Utf8.encode (r : Int)).data.toList.length = encN r from rfl]
      cases hbb : badB (r, k) with
      | true =>
        have hrk : r = 65533 ∧ k = 1 := by simpa [badB] using hbb
        obtain ⟨rfl, rfl⟩ := hrk
        have he3 : encN 65533 = 3 := by rw [enc_len]; rfl
        rw [he3]
        rw [hbb, decide_eq_true rfl, Bool.true_and, Bool.not_eq_true', Bool.and_eq_false_iff] at hbad
        refine VInt.to ((i + 3 : Nat) : Int) (by omega) (by omega) (by omega) (go ?_)
        by_cases h3 : i + 3 ≤ l.length
        · have h4 : ¬ (l.drop i).take 3 = [239, 191, 189] := by
            rcases hbad with h | h
            · simp at h; omega
            · simpa using h
          refine VIf.no (decide_eq_false (by omega)) (go ?_)
          refine VIf.yes (by rw [List.drop_take, Nat.add_sub_cancel_left]; simp [h4]) (go ?_)
          refine VGd.mk (by simp; omega) (go ?_)
          refine VAll.mk (fun b2 => go ?_)
          refine ⟨⟨some b2, i + 1, out ++ [⟨65533, i, i + 1, true⟩]⟩, ⟨?_, ?_, ?_, ?_⟩, ?_, ?_, ?_⟩
          · dsimp only; omega
          · simp; try omega
          · intro h; cases h
          · dsimp only; rw [List.append_assoc, ← hI, hru, chL, hbb]; rfl
          · dsimp only; omega
          · simp [accV]
          · simp only [accS, chC_snoc]; rw [mulN_eq, take_chC]; exact .cons 1 rfl (.cons 0 rfl .nil)
        · refine VIf.yes (decide_eq_true (by omega)) (go ?_)
          refine VGd.mk (by simp; omega) (go ?_)
          refine VAll.mk (fun b2 => go ?_)
          refine ⟨⟨some b2, i + 1, out ++ [⟨65533, i, i + 1, true⟩]⟩, ⟨?_, ?_, ?_, ?_⟩, ?_, ?_, ?_⟩
          · dsimp only; omega
          · simp; try omega
          · intro h; cases h
          · dsimp only; rw [List.append_assoc, ← hI, hru, chL, hbb]; rfl
          · dsimp only; omega
          · simp [accV]
          · simp only [accS, chC_snoc]; rw [mulN_eq, take_chC]; exact .cons 1 rfl (.cons 0 rfl .nil)
      | false =>
        rw [henc hbb]
        refine VInt.to ((i + k : Nat) : Int) (by omega) (by omega) (by omega) (go ?_)
        by_cases hr : r = 65533
        · subst hr
          have hk3 : k = 3 := by rw [← henc hbb, enc_len]; rfl
          subst hk3
          rw [hbb, decide_eq_true rfl, Bool.true_and, Bool.not_eq_false', Bool.and_eq_true, decide_eq_true_eq, decide_eq_true_eq] at hbad
          refine go ?_
          refine VIf.no (decide_eq_false (by omega)) (go ?_)
          refine VIf.no (by rw [List.drop_take, Nat.add_sub_cancel_left, hbad.2]; rfl) (go ?_)
          refine VGd.mk (by simp; omega) (go ?_)
          refine VAll.mk (fun b2 => go ?_)
          refine ⟨⟨some b2, i + 3, out ++ [⟨65533, i, i + 3, false⟩]⟩, ⟨?_, ?_, ?_, ?_⟩, ?_, ?_, ?_⟩
          · dsimp only; omega
          · simp; try omega
          · intro h; cases h
          · dsimp only; rw [List.append_assoc, ← hI, hru, chL, hbb]; rfl
          · dsimp only; omega
          · simp [accV]
          · simp only [accS, chC_snoc]; rw [mulN_eq, take_chC]; exact .cons 1 rfl (.cons 0 rfl .nil)
        · refine VIf.no (decide_eq_false (by omega)) (go ?_)
          refine VGd.mk (by simp; omega) (go ?_)
          refine VAll.mk (fun b2 => go ?_)
          refine ⟨⟨some b2, i + k, out ++ [⟨r, i, i + k, false⟩]⟩, ⟨?_, ?_, ?_, ?_⟩, ?_, ?_, ?_⟩
          · dsimp only; omega
          · simp; try omega
          · intro h; cases h
          · dsimp only; rw [List.append_assoc, ← hI, hru, chL, hbb]; rfl
          · dsimp only; omega
          · simp [accV]
          · simp only [accS, chC_snoc]; rw [mulN_eq, take_chC]; exact .cons 1 rfl (.cons 0 rfl .nil)
    · rw [List.drop_eq_nil_of_le (by omega)] at hI
      refine VRet.mk [] .nil ?_
      rw [← hI]; simp [chL, take_chC]; try rfl
def fb : List Ch → Int
  | [] => -1
  | c :: r => if c.bad then (c.a : Int) else fb r
theorem fb_chL : ∀ (a : Nat) (rs : List (Nat × Nat)), fb (chL a rs) = match faultL rs with
    | none => -1
    | some j => ((a + j : Nat) : Int)
  | a, [] => rfl
  | a, (r, k) :: rs => by
    rw [chL, fb, faultL, fb_chL (a + k) rs]
    cases badB (r, k) with
    | true => simp
    | false =>
      cases faultL rs with
      | none => simp
      | some j => simp [Nat.add_assoc]
theorem f_Bad (l : List UInt8) (hl : l.length ≤ 1000000000) : Av.Fn Tryd.prog 18 [.str l] (.int .i64 (faultV l)) := by
  have hfb : fb (charsR l) = faultV l := by
    unfold charsR faultV faultR
    rw [fb_chL]
    cases faultL (runes l) <;> simp
  have hcl : (charsR l).length ≤ 1000000000 := by
    have := runes_len l
    unfold charsR; rw [chL_length]; omega
  have fc := f_Chars l hl
  generalize charsR l = cs at fc hfb hcl
  refine ACalls.of_W tb_ok (fn := Tryd.f18) (n := 23) (by kernel_rfl) rfl (by kernel_rfl) rfl rfl (by simp) (go ?_)
  refine Fn.use (fc) (go ?_)
  refine VLoop.mk [4] Nat (fun i => [.int .i64 i]) (fun _ => []) (fun i => i ≤ cs.length ∧ fb (cs.drop i) = faultV l) (fun i => cs.length - i) 0 ?_ ?_
  · exact ⟨⟨by omega, hfb⟩, rfl, .nil⟩
  intro i ⟨hi, hI⟩
  refine go ?_
  refine fork (fun hlt => go ?_) (fun hlt => go ?_)
  · have hlt : i < cs.length := by omega
    have hdl : cs.drop i = cs[i] :: cs.drop (i + 1) := List.drop_eq_getElem_cons hlt
    have hx : cs[i]? = some cs[i] := by simp [hlt]
    generalize cs[i] = x at hx hdl
    have e1 := chC_at (r := []) hx
    rw [List.append_nil] at e1
    obtain ⟨r, a, z, bad⟩ := x
    rw [hdl, fb] at hI
    have hcells : (cs.length * 4) = (chC cs).length := by simp
    have n3 : ((chC cs).drop (i * 4))[3]? = some (.bool bad) := by
      have := congrArg (·[3]?) e1
      simpa [List.getElem?_take, Ch.cells] using this
    have n1 : ((chC cs).drop (i * 4))[1]? = some (.int .i64 a) := by
      have := congrArg (·[1]?) e1
      simpa [List.getElem?_take, Ch.cells] using this
    refine VNth.mk (.bool bad) (by simpa using n3) (go ?_)
    dsimp only at hI
    cases bad with
    | true =>
      refine go ?_
      refine VNth.mk (.int .i64 a) (by simpa using n1) (go ?_)
      refine VRet.mk [] .nil ?_
      rw [← hI]; exact ⟨rfl, rfl⟩
    | false =>
      refine go ?_
      exact ⟨i + 1, ⟨by omega, by simpa using hI⟩, by omega, rfl, .nil⟩
  · rw [List.drop_eq_nil_of_le (by omega)] at hI
    refine VRet.mk [] .nil ?_
    rw [← hI]; exact ⟨rfl, rfl⟩
end Go.Proofs.YtbmplclnondfnaaDoor

namespace Go.Proofs.YtbmplclnondfnaaDoor
open Go Go.Av
theorem f_refBlank (r : Int) : Av.Fn Tryd.prog 27 [.int .i32 r] (.bool (blankB r)) := by
  refine ACalls.of_W tb_ok (fn := Tryd.f27) (n := 25) (by kernel_rfl) rfl (by kernel_rfl) rfl rfl (by simp) (go ?_)
  refine fork (fun h1 => go ?_) (fun h1 => go ?_)
  · refine VRet.mk [] .nil ?_
    simp [blankB, h1]
  refine fork (fun h2 => go ?_) (fun h2 => go ?_)
  · refine VRet.mk [] .nil ?_
    simp [blankB, h2]
  refine fork (fun h3 => go ?_) (fun h3 => go ?_)
  · refine VRet.mk [] .nil ?_
    simp [blankB, h3]
  refine fork (fun h4 => go ?_) (fun h4 => go ?_)
  · refine VRet.mk [] .nil ?_
    simp [blankB, h4]
  refine fork (fun h5 => go ?_) (fun h5 => go ?_)
  · refine VRet.mk [] .nil ?_
    simp [blankB, h5]
  refine VRet.mk [] .nil ?_
  simp [blankB, h1, h2, h3, h4, h5]
end Go.Proofs.YtbmplclnondfnaaDoor

namespace Go.Proofs.YtbmplclnondfnaaDoor
open Go Go.Av
def scrR (r : Nat) : Int := if 48 ≤ r ∧ r ≤ 57 then 48 else if 1632 ≤ r ∧ r ≤ 1641 then 1632 else if 65296 ≤ r ∧ r ≤ 65305 then 65296 else 0
theorem f_script (r : Nat) : Av.Fn Tryd.prog 60 [.int .i32 r] (.int .i32 (scrR r)) := by
  refine ACalls.of_W tb_ok (fn := Tryd.f60) (n := 21) (by kernel_rfl) rfl (by kernel_rfl) rfl rfl (by simp) (go ?_)
  repeat' (refine fork (fun _ => go ?_) (fun _ => go ?_))
  all_goals
    refine VRet.mk [] .nil ?_
    refine ⟨congrArg (fun x => AOut.ret (.int .i32 x)) ?_, rfl⟩
    unfold scrR
    repeat' split
    all_goals omega
def numLoop (z : Int) : List Nat → Nat → Option Nat
  | [], n => some n
  | r :: rs, n => if scrR r ≠ z then none else numLoop z rs (min (10 * n + (r - z.toNat)) 1152921504606846977)
def minusR : List Nat → Bool
  | [] => false
  | r :: _ => decide (r = 45 ∨ r = 8722)
def numR' (l : List Nat) : Option Nat := match l with
  | [] => none
  | r :: rs => if scrR r = 0 then none else numLoop (scrR r) (r :: rs) 0
def numR (l : List Nat) : Option Nat := numR' (if minusR l then l.drop 1 else l)
def numV (m : Bool) (o : Option Nat) : AV := match o with
  | none => .tup [.int .u64 0, .bool m, .bool false]
  | some n => .tup [.int .u64 n, .bool m, .bool true]
theorem numLoop_le {z : Int} : ∀ {l : List Nat} {n m : Nat}, n ≤ 1152921504606846977 → numLoop z l n = some m → m ≤ 1152921504606846977
  | [], n, m, h, e => by cases e; exact h
  | r :: rs, n, m, h, e => by
    rw [numLoop] at e
    split at e
    · cases e
    · exact numLoop_le (Nat.min_le_right _ _) e
theorem chC_r {l : List Ch} {ra : List AV} {i : Nat} {x : Ch} (h : l[i]? = some x) : ((chC l ++ ra).drop (i * 4))[0]? = some (.int .i32 x.r) := by
  have e1 := chC_at (r := ra) h
  have := congrArg (·[0]?) e1
  simpa [List.getElem?_take, Ch.cells] using this
theorem scrR_bound {r : Nat} (h : scrR r ≠ 0) : (scrR r).toNat ≤ r ∧ r ≤ (scrR r).toNat + 9 ∧ 48 ≤ scrR r ∧ scrR r ≤ 65296 := by
  unfold scrR at h ⊢
  repeat' split
  all_goals (first | (exfalso; simp_all; done) | omega)
theorem f_number (cs : List Ch) (ra : List AV) (fl : Bool) (hb : ∀ c ∈ cs, c.r ≤ 1114111) (hl : cs.length ≤ 1000000000) :
    Av.Fn Tryd.prog 29 [.fz (chC cs ++ ra) cs.length fl] (numV (minusR (cs.map (·.r))) (numR (cs.map (·.r)))) := by
  unfold numR
  refine ACalls.of_W tb_ok (fn := Tryd.f29) (n := 75) (by kernel_rfl) rfl (by kernel_rfl) rfl rfl (by simp) (go ?_)
  cases cs with
  | nil =>
    refine go ?_
    refine VRet.mk [] .nil ?_
    exact ⟨rfl, rfl⟩
  | cons c cs =>
    have hcell : List.drop (mulN 1 4) (List.take (mulN (c :: cs).length 4) (chC (c :: cs) ++ ra)) = chC cs := by
      rw [mulN_eq, mulN_eq, List.take_append_of_le_length (by simp), take_chC]; rfl
    have hmin : minusR ((c :: cs).map (·.r)) = decide (c.r = 45 ∨ c.r = 8722) := rfl
    rw [hmin]
    refine VIf.yes (by simp) (go ?_)
    refine fork (fun h45 => go ?_) (fun h45 => go ?_)
    · rw [hcell]
      have hmm : decide (c.r = 45 ∨ c.r = 8722) = true := decide_eq_true (by omega)
      rw [hmm]
      rw [show (c :: cs).length - 1 = cs.length from rfl]
      cases cs with
      | nil =>
        refine go ?_
        refine VRet.mk [] .nil ?_
        exact ⟨rfl, rfl⟩
      | cons c cs =>
        refine VIf.no (by simp; try omega) (go ?_)
        rw [show ∀ q : Ch, numR' (if true = true then List.drop 1 ((q :: c :: cs).map (·.r)) else (q :: c :: cs).map (·.r)) = numR' ((c :: cs).map (·.r)) from fun _ => rfl]
        have e1 : ∀ {i : Nat} {x : Ch}, (c :: cs)[i]? = some x → ((chC (c :: cs)).drop (i * 4))[0]? = some (.int .i32 x.r) := fun h => by simpa using chC_r (ra := []) h
        refine Fn.use (f_script c.r) (go ?_)
        refine fork (fun h0 => go ?_) (fun h0 => go ?_)
        · refine VRet.mk [] .nil ?_
          rw [List.map_cons, numR', if_pos (by omega)]; exact ⟨rfl, rfl⟩
        · rw [List.map_cons, numR', if_neg (by omega), ← List.map_cons]
          have h0 : scrR c.r ≠ 0 := by omega
          have hsb := scrR_bound h0
          have hll : (c :: cs).length ≤ 1000000000 := (by simp at hl ⊢; omega)
          have hbb : ∀ x ∈ c :: cs, x.r ≤ 1114111 := (fun x hx => hb x (List.mem_cons_of_mem _ hx))
          refine VLoop.mk [5, 2, 3] (Nat × Nat) (fun x => [.int .i64 x.1, .int .u64 x.2, .bool true]) (fun _ => []) (fun x => x.1 ≤ (c :: cs).length ∧ x.2 ≤ 1152921504606846977 ∧ numLoop (scrR c.r) (((c :: cs).map (·.r)).drop x.1) x.2 = numLoop (scrR c.r) ((c :: cs).map (·.r)) 0) (fun x => (c :: cs).length - x.1) (0, 0) ?_ ?_
          · exact ⟨⟨by simp, by simp, by simp⟩, rfl, .nil⟩
          rintro ⟨i, n⟩ ⟨hi, hn, hI⟩
          dsimp only at hi hn hI ⊢
          refine go ?_
          refine fork (fun hlt => go ?_) (fun hlt => go ?_)
          · have hlt : i < (c :: cs).length := by simp at hlt ⊢; omega
            obtain ⟨x, hx⟩ : ∃ x, (c :: cs)[i]? = some x := ⟨(c :: cs)[i], by simp [hlt]⟩
            have hxr := hbb x (List.mem_of_getElem? hx)
            have hd : ((c :: cs).map (·.r)).drop i = x.r :: ((c :: cs).map (·.r)).drop (i + 1) := by
              obtain ⟨h1, h2⟩ := List.getElem?_eq_some_iff.1 hx
              rw [List.drop_eq_getElem_cons (by simpa using hlt), List.getElem_map, h2]
            have e0 := e1 hx
            rw [hd, numLoop] at hI
            refine VQ.mk (.int .i32 x.r) (by refine go ?_; exact VNth.mk _ (by simpa using e0) ⟨rfl, rfl⟩) (go ?_)
            refine VQ.mk (.int .i32 (scrR x.r)) (by refine go ?_; refine Fn.use (f_script x.r) (go ?_); exact ⟨congrArg _ (rfl), rfl⟩) (go ?_)
            refine VQ.mk (.int .i32 (scrR c.r)) (by refine go ?_; refine Fn.use (f_script c.r) (go ?_); exact ⟨congrArg _ (rfl), rfl⟩) (go ?_)
            refine fork (fun hne => go ?_) (fun hne => go ?_)
            · refine VRet.mk [] .nil ?_
              rw [if_pos (by omega)] at hI
              rw [← hI]; exact ⟨rfl, rfl⟩
            · rw [if_neg (by omega)] at hI
              have hsx := scrR_bound (r := x.r) (by omega)
              refine VQ.mk (.int .i32 x.r) (by refine go ?_; exact VNth.mk _ (by simpa using e0) ⟨rfl, rfl⟩) (go ?_)
              refine VQ.mk (.int .i32 x.r) (by refine go ?_; exact VNth.mk _ (by simpa using e0) ⟨rfl, rfl⟩) (go ?_)
              refine VQ.mk (.int .i32 (scrR x.r)) (by refine go ?_; refine Fn.use (f_script x.r) (go ?_); exact ⟨congrArg _ (rfl), rfl⟩) (go ?_)
              refine ⟨(i + 1, min (10 * n + (x.r - (scrR c.r).toNat)) 1152921504606846977), ⟨?_, Nat.min_le_right _ _, hI⟩, ?_, ?_, .nil⟩
              · dsimp only; omega
              · dsimp only; omega
              · dsimp only
                rw [show ((i + 1 : Nat) : Int) = (i : Int) + 1 by omega, show min (10 * (n : Int) + ((x.r : Int) - scrR x.r)) 1152921504606846977 = ((min (10 * n + (x.r - (scrR c.r).toNat)) 1152921504606846977 : Nat) : Int) by omega]
          · refine VRet.mk [] .nil ?_
            rw [List.drop_eq_nil_of_le (by simp at hlt ⊢; omega), numLoop] at hI
            rw [← hI]; exact ⟨rfl, rfl⟩
    · refine fork (fun h87 => go ?_) (fun h87 => go ?_)
      · rw [hcell]
        have hmm : decide (c.r = 45 ∨ c.r = 8722) = true := decide_eq_true (by omega)
        rw [hmm]
        rw [show (c :: cs).length - 1 = cs.length from rfl]
        cases cs with
        | nil =>
          refine go ?_
          refine VRet.mk [] .nil ?_
          exact ⟨rfl, rfl⟩
        | cons c cs =>
          refine VIf.no (by simp; try omega) (go ?_)
          rw [show ∀ q : Ch, numR' (if true = true then List.drop 1 ((q :: c :: cs).map (·.r)) else (q :: c :: cs).map (·.r)) = numR' ((c :: cs).map (·.r)) from fun _ => rfl]
          have e1 : ∀ {i : Nat} {x : Ch}, (c :: cs)[i]? = some x → ((chC (c :: cs)).drop (i * 4))[0]? = some (.int .i32 x.r) := fun h => by simpa using chC_r (ra := []) h
          refine Fn.use (f_script c.r) (go ?_)
          refine fork (fun h0 => go ?_) (fun h0 => go ?_)
          · refine VRet.mk [] .nil ?_
            rw [List.map_cons, numR', if_pos (by omega)]; exact ⟨rfl, rfl⟩
          · rw [List.map_cons, numR', if_neg (by omega), ← List.map_cons]
            have h0 : scrR c.r ≠ 0 := by omega
            have hsb := scrR_bound h0
            have hll : (c :: cs).length ≤ 1000000000 := (by simp at hl ⊢; omega)
            have hbb : ∀ x ∈ c :: cs, x.r ≤ 1114111 := (fun x hx => hb x (List.mem_cons_of_mem _ hx))
            refine VLoop.mk [5, 2, 3] (Nat × Nat) (fun x => [.int .i64 x.1, .int .u64 x.2, .bool true]) (fun _ => []) (fun x => x.1 ≤ (c :: cs).length ∧ x.2 ≤ 1152921504606846977 ∧ numLoop (scrR c.r) (((c :: cs).map (·.r)).drop x.1) x.2 = numLoop (scrR c.r) ((c :: cs).map (·.r)) 0) (fun x => (c :: cs).length - x.1) (0, 0) ?_ ?_
            · exact ⟨⟨by simp, by simp, by simp⟩, rfl, .nil⟩
            rintro ⟨i, n⟩ ⟨hi, hn, hI⟩
            dsimp only at hi hn hI ⊢
            refine go ?_
            refine fork (fun hlt => go ?_) (fun hlt => go ?_)
            · have hlt : i < (c :: cs).length := by simp at hlt ⊢; omega
              obtain ⟨x, hx⟩ : ∃ x, (c :: cs)[i]? = some x := ⟨(c :: cs)[i], by simp [hlt]⟩
              have hxr := hbb x (List.mem_of_getElem? hx)
              have hd : ((c :: cs).map (·.r)).drop i = x.r :: ((c :: cs).map (·.r)).drop (i + 1) := by
                obtain ⟨h1, h2⟩ := List.getElem?_eq_some_iff.1 hx
                rw [List.drop_eq_getElem_cons (by simpa using hlt), List.getElem_map, h2]
              have e0 := e1 hx
              rw [hd, numLoop] at hI
              refine VQ.mk (.int .i32 x.r) (by refine go ?_; exact VNth.mk _ (by simpa using e0) ⟨rfl, rfl⟩) (go ?_)
              refine VQ.mk (.int .i32 (scrR x.r)) (by refine go ?_; refine Fn.use (f_script x.r) (go ?_); exact ⟨congrArg _ (rfl), rfl⟩) (go ?_)
              refine VQ.mk (.int .i32 (scrR c.r)) (by refine go ?_; refine Fn.use (f_script c.r) (go ?_); exact ⟨congrArg _ (rfl), rfl⟩) (go ?_)
              refine fork (fun hne => go ?_) (fun hne => go ?_)
              · refine VRet.mk [] .nil ?_
                rw [if_pos (by omega)] at hI
                rw [← hI]; exact ⟨rfl, rfl⟩
              · rw [if_neg (by omega)] at hI
                have hsx := scrR_bound (r := x.r) (by omega)
                refine VQ.mk (.int .i32 x.r) (by refine go ?_; exact VNth.mk _ (by simpa using e0) ⟨rfl, rfl⟩) (go ?_)
                refine VQ.mk (.int .i32 x.r) (by refine go ?_; exact VNth.mk _ (by simpa using e0) ⟨rfl, rfl⟩) (go ?_)
                refine VQ.mk (.int .i32 (scrR x.r)) (by refine go ?_; refine Fn.use (f_script x.r) (go ?_); exact ⟨congrArg _ (rfl), rfl⟩) (go ?_)
                refine ⟨(i + 1, min (10 * n + (x.r - (scrR c.r).toNat)) 1152921504606846977), ⟨?_, Nat.min_le_right _ _, hI⟩, ?_, ?_, .nil⟩
                · dsimp only; omega
                · dsimp only; omega
                · dsimp only
                  rw [show ((i + 1 : Nat) : Int) = (i : Int) + 1 by omega, show min (10 * (n : Int) + ((x.r : Int) - scrR x.r)) 1152921504606846977 = ((min (10 * n + (x.r - (scrR c.r).toNat)) 1152921504606846977 : Nat) : Int) by omega]
            · refine VRet.mk [] .nil ?_
              rw [List.drop_eq_nil_of_le (by simp at hlt ⊢; omega), numLoop] at hI
              rw [← hI]; exact ⟨rfl, rfl⟩
      · have hmm : decide (c.r = 45 ∨ c.r = 8722) = false := decide_eq_false (by omega)
        rw [hmm]
        rw [if_neg Bool.false_ne_true]
        have e1 : ∀ {i : Nat} {x : Ch}, (c :: cs)[i]? = some x → ((chC (c :: cs) ++ ra).drop (i * 4))[0]? = some (.int .i32 x.r) := fun h => chC_r h
        refine Fn.use (f_script c.r) (go ?_)
        refine fork (fun h0 => go ?_) (fun h0 => go ?_)
        · refine VRet.mk [] .nil ?_
          rw [List.map_cons, numR', if_pos (by omega)]; exact ⟨rfl, rfl⟩
        · rw [List.map_cons, numR', if_neg (by omega), ← List.map_cons]
          have h0 : scrR c.r ≠ 0 := by omega
          have hsb := scrR_bound h0
          have hll : (c :: cs).length ≤ 1000000000 := hl
          have hbb : ∀ x ∈ c :: cs, x.r ≤ 1114111 := hb
          refine VLoop.mk [5, 2, 3] (Nat × Nat) (fun x => [.int .i64 x.1, .int .u64 x.2, .bool false]) (fun _ => []) (fun x => x.1 ≤ (c :: cs).length ∧ x.2 ≤ 1152921504606846977 ∧ numLoop (scrR c.r) (((c :: cs).map (·.r)).drop x.1) x.2 = numLoop (scrR c.r) ((c :: cs).map (·.r)) 0) (fun x => (c :: cs).length - x.1) (0, 0) ?_ ?_
          · exact ⟨⟨by simp, by simp, by simp⟩, rfl, .nil⟩
          rintro ⟨i, n⟩ ⟨hi, hn, hI⟩
          dsimp only at hi hn hI ⊢
          refine go ?_
          refine fork (fun hlt => go ?_) (fun hlt => go ?_)
          · have hlt : i < (c :: cs).length := by simp at hlt ⊢; omega
            obtain ⟨x, hx⟩ : ∃ x, (c :: cs)[i]? = some x := ⟨(c :: cs)[i], by simp [hlt]⟩
            have hxr := hbb x (List.mem_of_getElem? hx)
            have hd : ((c :: cs).map (·.r)).drop i = x.r :: ((c :: cs).map (·.r)).drop (i + 1) := by
              obtain ⟨h1, h2⟩ := List.getElem?_eq_some_iff.1 hx
              rw [List.drop_eq_getElem_cons (by simpa using hlt), List.getElem_map, h2]
            have e0 := e1 hx
            rw [hd, numLoop] at hI
            refine VQ.mk (.int .i32 x.r) (by refine go ?_; exact VNth.mk _ (by simpa using e0) ⟨rfl, rfl⟩) (go ?_)
            refine VQ.mk (.int .i32 (scrR x.r)) (by refine go ?_; refine Fn.use (f_script x.r) (go ?_); exact ⟨congrArg _ (rfl), rfl⟩) (go ?_)
            refine VQ.mk (.int .i32 (scrR c.r)) (by refine go ?_; refine Fn.use (f_script c.r) (go ?_); exact ⟨congrArg _ (rfl), rfl⟩) (go ?_)
            refine fork (fun hne => go ?_) (fun hne => go ?_)
            · refine VRet.mk [] .nil ?_
              rw [if_pos (by omega)] at hI
              rw [← hI]; exact ⟨rfl, rfl⟩
            · rw [if_neg (by omega)] at hI
              have hsx := scrR_bound (r := x.r) (by omega)
              refine VQ.mk (.int .i32 x.r) (by refine go ?_; exact VNth.mk _ (by simpa using e0) ⟨rfl, rfl⟩) (go ?_)
              refine VQ.mk (.int .i32 x.r) (by refine go ?_; exact VNth.mk _ (by simpa using e0) ⟨rfl, rfl⟩) (go ?_)
              refine VQ.mk (.int .i32 (scrR x.r)) (by refine go ?_; refine Fn.use (f_script x.r) (go ?_); exact ⟨congrArg _ (rfl), rfl⟩) (go ?_)
              refine ⟨(i + 1, min (10 * n + (x.r - (scrR c.r).toNat)) 1152921504606846977), ⟨?_, Nat.min_le_right _ _, hI⟩, ?_, ?_, .nil⟩
              · dsimp only; omega
              · dsimp only; omega
              · dsimp only
                rw [show ((i + 1 : Nat) : Int) = (i : Int) + 1 by omega, show min (10 * (n : Int) + ((x.r : Int) - scrR x.r)) 1152921504606846977 = ((min (10 * n + (x.r - (scrR c.r).toNat)) 1152921504606846977 : Nat) : Int) by omega]
          · refine VRet.mk [] .nil ?_
            rw [List.drop_eq_nil_of_le (by simp at hlt ⊢; omega), numLoop] at hI
            rw [← hI]; exact ⟨rfl, rfl⟩
theorem charsR_r (l : List UInt8) : (charsR l).map (·.r) = chars l := by
  unfold charsR chars
  generalize 0 = i
  induction runes l generalizing i with
  | nil => rfl
  | cons x rs ih => obtain ⟨r, k⟩ := x; simp [chL, ih]
theorem charsR_le (l : List UInt8) : ∀ c ∈ charsR l, c.r ≤ 1114111 := by
  intro c hc
  have : c.r ∈ chars l := by rw [← charsR_r]; exact List.mem_map_of_mem hc
  clear hc
  generalize c.r = r at this
  revert this
  induction l using runes_ind with
  | h0 => simp [chars]
  | h1 l hl ih =>
    rw [chars_cons hl, List.mem_cons]
    rintro (h | h)
    · rw [h]; exact (dec_pos l hl).2.2.2
    · exact ih h
theorem charsR_len (l : List UInt8) : (charsR l).length ≤ l.length := by
  have := runes_len l
  unfold charsR; rw [chL_length]; exact this
theorem f_number' (l : List UInt8) (hl : l.length ≤ 1000000000) : Av.Fn Tryd.prog 29 [.fz (chC (charsR l)) (charsR l).length false] (numV (minusR (chars l)) (numR (chars l))) := by
  have := f_number (charsR l) [] false (charsR_le l) (by have := charsR_len l; omega)
  rwa [List.append_nil, charsR_r] at this
/-- What the reference's Number says. -/
def refNumR (l : List Nat) : Int × Int := match numR l with
  | none => (0, 9)
  | some n => if minusR l ∧ n ≤ 1152921504606846976 then (-n, 0) else if 1152921504606846975 < n then (0, 11) else (n, 0)
theorem numR_le {l : List Nat} {n : Nat} (h : numR l = some n) : n ≤ 1152921504606846977 := by
  unfold numR numR' at h
  split at h
  · cases h
  · split at h
    · cases h
    · exact numLoop_le (by omega) h
theorem f_refNumber (l : List UInt8) (hl : l.length ≤ 1000000000) : Av.Fn Tryd.prog 30 [.str l] (.tup [.int .i64 (refNumR (chars l)).1, .int .i64 (refNumR (chars l)).2]) := by
  have h1 := f_Chars l hl
  have h2 := f_number' l hl
  unfold refNumR
  have hle : ∀ n, numR (chars l) = some n → n ≤ 1152921504606846977 := fun n h => numR_le h
  generalize numR (chars l) = o at h2 hle
  generalize minusR (chars l) = m at h2
  refine ACalls.of_W tb_ok (fn := Tryd.f30) (n := 28) (by kernel_rfl) rfl (by kernel_rfl) rfl rfl (by simp) (go ?_)
  refine Fn.use (h1) (go ?_)
  refine Fn.use (h2) (go ?_)
  cases o with
  | none =>
    refine go ?_
    refine VRet.mk [] .nil ?_
    exact ⟨rfl, rfl⟩
  | some n =>
    have hle := hle n rfl
    cases m with
    | true =>
      refine go ?_
      refine fork (fun h3 => go ?_) (fun h3 => go ?_)
      · refine VRet.mk [] .nil ?_
        dsimp only
        rw [if_pos ⟨rfl, by omega⟩]; simp
      · refine VIf.yes (by exact decide_eq_true (by omega)) (go ?_)
        refine VRet.mk [] .nil ?_
        dsimp only
        rw [if_neg (by simp; omega), if_pos (by omega)]; exact ⟨rfl, rfl⟩
    | false =>
      refine go ?_
      refine fork (fun h3 => go ?_) (fun h3 => go ?_)
      · refine VRet.mk [] .nil ?_
        dsimp only
        rw [if_neg (by simp), if_pos (by omega)]; exact ⟨rfl, rfl⟩
      · refine VRet.mk [] .nil ?_
        dsimp only
        rw [if_neg (by simp), if_neg (by omega)]; exact ⟨rfl, rfl⟩
end Go.Proofs.YtbmplclnondfnaaDoor

namespace Go.Proofs.YtbmplclnondfnaaDoor
open Go Go.Av
/-- What the reference's Name says. -/
def refNameR (l : List UInt8) : Bool := decide (1 ≤ (chars l).length ∧ (chars l).length ≤ 32) && !decide ((chars l).head? = some 34) && !decide (l = [33]) && (chars l).all (okCh false) && (numR (chars l)).isNone
theorem chC_cons (c : Ch) (r : List Ch) : chC (c :: r) = c.cells ++ chC r := by simp [chC]
theorem f_refName (l : List UInt8) (hl : l.length ≤ 1000000000) : Av.Fn Tryd.prog 31 [.str l] (.bool (refNameR l)) := by
  have h1 := f_Chars l hl
  have h2 := f_number' l hl
  have hr := charsR_r l
  have hle := charsR_le l
  have hlen := charsR_len l
  unfold refNameR
  rw [← hr] at h2 ⊢
  clear hr
  generalize charsR l = cs at h1 h2 hle hlen ⊢
  refine ACalls.of_W tb_ok (fn := Tryd.f31) (n := 73) (by kernel_rfl) rfl (by kernel_rfl) rfl rfl (by simp) (go ?_)
  refine Fn.use (h1) (go ?_)
  cases cs with
  | nil =>
    refine go ?_
    refine VRet.mk [] .nil ?_
    exact ⟨rfl, rfl⟩
  | cons c cs =>
    refine VIf.no (by simp; try omega) (go ?_)
    refine fork (fun h4 => go ?_) (fun h4 => go ?_)
    · refine VRet.mk [] .nil ?_
      simp at h4 ⊢; omega
    refine fork (fun h5 => go ?_) (fun h5 => go ?_)
    · refine VRet.mk [] .nil ?_
      simp at h5 ⊢; omega
    refine fork (fun h6 => go ?_) (fun h6 => go ?_)
    · refine VRet.mk [] .nil ?_
      simp at h6 ⊢; simp [h6]
    refine VLoop.mk [4] Nat (fun i => [.int .i64 i]) (fun _ => []) (fun i => i ≤ (c :: cs).length ∧ (((c :: cs).map (·.r)).drop i).all (okCh false) = ((c :: cs).map (·.r)).all (okCh false)) (fun i => (c :: cs).length - i) 0 ?_ ?_
    · exact ⟨⟨by simp, by simp⟩, rfl, .nil⟩
    rintro i ⟨hi, hI⟩
    refine go ?_
    refine fork (fun hlt => go ?_) (fun hlt => go ?_)
    · have hlt : i < (c :: cs).length := by omega
      obtain ⟨x, hx⟩ : ∃ x, (c :: cs)[i]? = some x := ⟨(c :: cs)[i], by simp [hlt]⟩
      have hxr := hle x (List.mem_of_getElem? hx)
      have hd : ((c :: cs).map (·.r)).drop i = x.r :: ((c :: cs).map (·.r)).drop (i + 1) := by
        obtain ⟨h1, h2⟩ := List.getElem?_eq_some_iff.1 hx
        rw [List.drop_eq_getElem_cons (by simpa using hlt), List.getElem_map, h2]
      have e0 := chC_r (ra := []) hx
      rw [List.append_nil] at e0
      rw [hd, List.all_cons] at hI
      refine VNth.mk (.int .i32 x.r) (by simpa using e0) (go ?_)
      refine Fn.use (f_refBlank x.r) (go ?_)
      refine fork (fun a1 => go ?_) (fun a1 => go ?_)
      · refine VRet.mk [] .nil ?_
        rw [← hI]; simp [okCh, a1]
      refine VNth.mk (.int .i32 x.r) (by simpa using e0) (go ?_)
      refine fork (fun a2 => go ?_) (fun a2 => go ?_)
      · refine VRet.mk [] .nil ?_
        have a2 : x.r < 32 := by omega
        rw [← hI]; simp [okCh, a2]
      refine VNth.mk (.int .i32 x.r) (by simpa using e0) (go ?_)
      refine fork (fun a3 => go ?_) (fun a3 => go ?_)
      · refine VRet.mk [] .nil ?_
        have a3 : x.r = 127 := by omega
        rw [← hI]; simp [okCh, a3]
      refine VNth.mk (.int .i32 x.r) (by simpa using e0) (go ?_)
      refine fork (fun a4 => go ?_) (fun a4 => go ?_)
      · refine VRet.mk [] .nil ?_
        have a4 : x.r = 65533 := by omega
        rw [← hI]; simp [okCh, a4]
      refine ⟨i + 1, ⟨by omega, ?_⟩, by omega, rfl, .nil⟩
      have hok : okCh false x.r = true := by simp [okCh, a1]; omega
      rw [hok, Bool.true_and] at hI
      exact hI
    · rw [List.drop_eq_nil_of_le (by simp; simp at hlt; omega)] at hI
      rw [← hI]
      refine Fn.use (h2) (go ?_)
      cases hn : numR ((c :: cs).map (·.r)) with
      | none =>
        refine go ?_
        refine VRet.mk [] .nil ?_
        simp at h4 h5 ⊢; simp [h6]; omega
      | some n =>
        refine go ?_
        refine VRet.mk [] .nil ?_
        simp
/-! Numbers: as the program has them. -/
theorem digR_scrR (r : Nat) : digR r = if scrR r = 0 then none else some ((r : Int) - scrR r, scrR r) := by
  unfold digR scrR
  repeat' split
  all_goals first | rfl | omega
theorem num_dig {z : Int} (hz : 48 ≤ z) : ∀ (rs : List Nat) (n : Nat) (n' : Int) (ok : Bool), ((ok = true ∧ n' = n ∧ n ≤ 1152921504606846976) ∨ (ok = false ∧ n = 1152921504606846977)) →
    (numLoop z rs n = none ∧ digLoop rs n' ok z = none) ∨ ∃ m m' ok', numLoop z rs n = some m ∧ digLoop rs n' ok z = some (m', ok', z) ∧ ((ok' = true ∧ m' = m ∧ m ≤ 1152921504606846976) ∨ (ok' = false ∧ m = 1152921504606846977))
  | [], n, n', ok, h => .inr ⟨n, n', ok, rfl, rfl, h⟩
  | r :: rs, n, n', ok, h => by
    rw [numLoop, digLoop, digR_scrR]
    by_cases h0 : scrR r = 0
    · rw [if_pos (by omega), if_pos h0]; exact .inl ⟨rfl, rfl⟩
    rw [if_neg h0]
    have hb := scrR_bound h0
    dsimp only
    by_cases h1 : scrR r = z
    · rw [if_neg (by omega), if_neg (by omega)]
      by_cases h2 : n' > (1152921504606846976 - ((r : Int) - scrR r)) / 10
      · rw [if_pos h2, h1]
        refine num_dig hz rs _ _ _ (.inr ⟨rfl, ?_⟩)
        rcases h with ⟨_, h, _⟩ | ⟨_, h⟩ <;> omega
      · rw [if_neg h2, h1]
        refine num_dig hz rs _ _ _ ?_
        rcases h with ⟨e, h, _⟩ | ⟨e, h⟩
        · exact .inl ⟨e, by omega, by omega⟩
        · exact .inr ⟨e, by omega⟩
    · rw [if_pos h1, if_pos (by omega)]; exact .inl ⟨rfl, rfl⟩
theorem num_dig0 (l : List Nat) : (numR' l = none ∧ (digLoop l 0 true (-1) = none ∨ l = [])) ∨ ∃ m m' ok' z, 48 ≤ z ∧ numR' l = some m ∧ digLoop l 0 true (-1) = some (m', ok', z) ∧ ((ok' = true ∧ m' = m ∧ m ≤ 1152921504606846976) ∨ (ok' = false ∧ m = 1152921504606846977)) := by
  cases l with
  | nil => exact .inl ⟨rfl, .inr rfl⟩
  | cons r rs =>
    rw [numR', digLoop, digR_scrR]
    by_cases h0 : scrR r = 0
    · rw [if_pos h0, if_pos h0]; exact .inl ⟨rfl, .inl rfl⟩
    · rw [if_neg h0, if_neg h0]
      have hb := scrR_bound h0
      dsimp only
      rw [if_neg (by omega), if_neg (by omega)]
      have := num_dig (z := scrR r) (by omega) rs (min (10 * 0 + (r - (scrR r).toNat)) 1152921504606846977) (10 * 0 + ((r : Int) - scrR r)) true (.inl ⟨rfl, by omega, by omega⟩)
      rw [numLoop, if_neg (by simp)]
      rcases this with h | ⟨m, m', ok', h1, h2, h3⟩
      · exact .inl ⟨h.1, .inl h.2⟩
      · exact .inr ⟨m, m', ok', _, by omega, h1, h2, h3⟩
theorem minus_eq (l : List UInt8) : minusB l = minusR (chars l) := by
  by_cases hl : l = []
  · subst hl; rfl
  rw [chars_cons hl, minusR]
  have hlen : 1 ≤ l.length := by cases l with | nil => exact absurd rfl hl | cons => simp
  have hs : minusB l = (decide ((l.getD 0 0).toNat = 45) || decide ((l.getD 0 0).toNat = 226 ∧ (l.getD 1 0).toNat = 136 ∧ (l.getD 2 0).toNat = 146)) := by
    unfold minusB begins
    match l with
    | [] => simp at hlen
    | [a] => simp [← UInt8.toNat_inj]
    | [a, b] => simp [← UInt8.toNat_inj]
    | a :: b :: d :: r => simp [← UInt8.toNat_inj]
  rw [hs, dec_N]
  have b0 := (l.getD 0 0).toNat_lt
  have b1 := (l.getD 1 0).toNat_lt
  have b2 := (l.getD 2 0).toNat_lt
  have b3 := (l.getD 3 0).toNat_lt
  have hlen2 : (l.getD 2 0).toNat ≠ 0 → 2 < l.length := by
    intro h; refine Decidable.byContradiction fun hn => h ?_
    rw [List.getD_eq_getElem?_getD, List.getElem?_eq_none (by omega)]; rfl
  generalize (l.getD 0 0).toNat = a at *
  generalize (l.getD 1 0).toNat = b at *
  generalize (l.getD 2 0).toNat = c at *
  generalize (l.getD 3 0).toNat = d at *
  generalize l.length = n at *
  rw [Bool.eq_iff_iff]
  simp only [Bool.or_eq_true, decide_eq_true_eq]
  unfold Lib.decodeN
  repeat' split
  all_goals (dsimp only; omega)
theorem digits_num (l : List UInt8) : (digitsR l).2.1 = (numR (chars l)).isSome ∧ ((digitsR l).2.1 = true → ((digitsR l).2.2 = true ↔ (refNumR (chars l)).2 = 0) ∧ ((digitsR l).2.2 = true → (digitsR l).1 = (refNumR (chars l)).1)) := by
  have hc : (runes (if minusB l then l.drop (dec l).2 else l)).map (·.1) = if minusR (chars l) then (chars l).drop 1 else chars l := by
    rw [minus_eq]
    by_cases hm : minusR (chars l) = true
    · rw [if_pos hm, if_pos hm]
      by_cases hl : l = []
      · subst hl; rfl
      · rw [chars_cons hl]; rfl
    · rw [if_neg hm, if_neg hm]; rfl
  unfold digitsR refNumR numR
  rw [hc, minus_eq]
  generalize (if minusR (chars l) then (chars l).drop 1 else chars l) = cs
  generalize minusR (chars l) = m
  rcases num_dig0 cs with ⟨h1, h2 | h2⟩ | ⟨n, n', ok, z, hz, h1, h2, h3⟩
  · rw [h1, h2]; simp
  · subst h2; rw [h1]; simp [digLoop]
  · rw [h1, h2]
    dsimp only
    rcases h3 with ⟨rfl, rfl, h3⟩ | ⟨rfl, rfl⟩
    · cases m with
      | true => simp [h3]; omega
      | false =>
        by_cases h4 : 1152921504606846975 < n
        · simp [h4]; omega
        · simp [h4]; omega
    · cases m with
      | true => simp; omega
      | false => simp; omega
theorem okAll_all : ∀ (f : Bool) (l : List Nat), okAll f l = (l.all (okCh false) && !(f && decide (l.head? = some 34)))
  | f, [] => by simp [okAll]
  | f, r :: rs => by
    rw [okAll, okAll_all false rs]
    simp only [List.all_cons, List.head?_cons, Option.some.injEq, Bool.false_and, Bool.not_false, Bool.and_true]
    have : okCh f r = (okCh false r && !(f && decide (r = 34))) := by
      unfold okCh
      cases decide (r = 65533) <;> cases blankB r <;> cases decide (r < 32) <;> cases decide (r = 127) <;> cases f <;> simp
    rw [this]
    cases okCh false r <;> cases (f && decide (r = 34)) <;> simp
theorem refName_eq (l : List UInt8) : refNameR l = nameR l := by
  unfold refNameR nameR
  rw [okAll_all, (digits_num l).1]
  have h1 : decide (1 ≤ (chars l).length ∧ (chars l).length ≤ 32) = (decide (1 ≤ (chars l).length) && decide ((chars l).length ≤ 32)) := by simp
  rw [h1]
  have h2 : decide (l ≠ [33]) = !decide (l = [33]) := by simp
  rw [h2]
  have h3 : (numR (chars l)).isNone = !(numR (chars l)).isSome := by cases numR (chars l) <;> rfl
  rw [h3]
  generalize decide (1 ≤ (chars l).length) = a
  generalize decide ((chars l).length ≤ 32) = b
  generalize decide ((chars l).head? = some 34) = c
  generalize decide (l = [33]) = d
  generalize (chars l).all (okCh false) = e
  generalize (numR (chars l)).isSome = f
  revert a b c d e f
  decide
theorem f_refName' (l : List UInt8) (hl : l.length ≤ 1000000000) : Av.Fn Tryd.prog 31 [.str l] (.bool (nameR l)) := by
  rw [← refName_eq]; exact f_refName l hl
end Go.Proofs.YtbmplclnondfnaaDoor

namespace Go.Proofs.YtbmplclnondfnaaDoor
open Go Go.Av
theorem dec_low (c : UInt8) (r : List UInt8) (k : Nat) (hk : k < 128) : (dec (c :: r)).1 = k ↔ c.toNat = k := by
  constructor
  · intro h
    by_cases hc : c.toNat < 128
    · rw [dec_ascii c r hc] at h; exact h
    · exfalso
      rw [dec_N] at h
      unfold Lib.decodeN at h
      simp only [List.getD_cons_zero] at h
      repeat' split at h
      all_goals first | (simp only at h; omega) | omega
  · intro h; rw [dec_ascii c r (by omega)]; exact h
structure Placed (s : List UInt8) (t : Tok) : Prop where
  pos0 : 0 ≤ t.pos
  posN : t.pos < s.length
  blank : blankB (dec (s.drop t.pos.toNat)).1 = false
  quote : t.kind = 3 ↔ (dec (s.drop t.pos.toNat)).1 = 34
  word : t.kind = 1 → t.text.length ≤ s.length - t.pos.toNat ∧ (s.drop t.pos.toNat).take t.text.length = t.text ∧ nameR t.text = true
theorem tokAt_placed {s : List UInt8} {p : Nat} {t : Tok} {l' : List UInt8} (hp : p ≤ s.length) (hb : s.drop p ≠ [] → blankB (dec (s.drop p)).1 = false) (h : tokAt s.length (s.drop p) = .tok t l') : Placed s t ∧ t.pos = p := by
  have hn : s.length - (s.drop p).length = p := by simp; omega
  unfold tokAt at h
  rw [hn] at h
  have hw := wlen_le (s.drop p)
  rw [List.length_drop] at hw
  generalize wlen (s.drop p) = w at h hw
  split at h
  · split at h <;> cases h
  · cases hx : (s.drop p).take w with
    | nil => rw [hx] at h; cases h
    | cons c q =>
      have hc : ∃ r, s.drop p = c :: r := by
        cases hd : s.drop p with
        | nil => rw [hd] at hx; simp at hx
        | cons d r =>
          cases w with
          | zero => simp at hx
          | succ w => rw [hd] at hx; simp at hx; exact ⟨r, by rw [hx.1]⟩
      obtain ⟨r, hc⟩ := hc
      have hbl := hb (by rw [hc]; simp)
      have hlt : p < s.length := by
        have := congrArg List.length hc
        rw [List.length_drop] at this; simp at this; omega
      have hq := dec_low c r 34 (by decide)
      rw [← hc] at hq
      have h34 : c.toNat = 34 ↔ c = 34 := by rw [← UInt8.toNat_inj]; rfl
      rw [hx] at h
      dsimp only at h
      split at h
      · rename_i hc34
        split at h
        · injection h with h _
          subst h
          exact ⟨⟨by dsimp only; omega, by dsimp only; omega, by simpa using hbl, by simp; rw [hq, h34]; exact hc34, by simp⟩, rfl⟩
        · cases h
      · rename_i hc34
        split at h
        · split at h
          · injection h with h _
            subst h
            exact ⟨⟨by dsimp only; omega, by dsimp only; omega, by simpa using hbl, by simp; rw [hq, h34]; exact hc34, by simp⟩, rfl⟩
          · cases h
        · split at h
          · rename_i hnm
            injection h with h _
            subst h
            refine ⟨⟨by dsimp only; omega, by dsimp only; omega, by simpa using hbl, by simp; rw [hq, h34]; exact hc34, fun _ => ?_⟩, rfl⟩
            have hl := congrArg List.length hx
            rw [List.length_take, List.length_drop, Nat.min_eq_left hw] at hl
            dsimp only
            rw [Int.toNat_natCast, ← hl]
            exact ⟨hw, by rw [hx], hnm⟩
          · cases h
theorem textL_place (a : Nat) : ∀ (r acc : List UInt8) (i : Nat), a ≤ i → (a : Int) ≤ (textL a r acc i).2.1 ∧ (textL a r acc i).2.1 ≤ i + r.length
  | [], acc, i, h => by simp [textL]; omega
  | c :: r, acc, i, h => by
    rw [textL_cons]
    by_cases h1 : c = 34
    · rw [if_pos h1]
      by_cases h2 : acc.length > 4096
      · rw [if_pos h2]; simp; omega
      · rw [if_neg h2]; simp; omega
    · rw [if_neg h1]
      by_cases h2 : c = 92
      · rw [if_pos h2]
        match r with
        | [] => simp; omega
        | d :: r' =>
          dsimp only
          cases he : esc d with
          | none => simp; omega
          | some e =>
            have := textL_place a r' (acc ++ [e]) (i + 2) (by omega)
            simp; omega
      · rw [if_neg h2]
        have := textL_place a r (acc ++ [c]) (i + 1) (by omega)
        simp; omega
theorem tokAt_badPlace {n : Nat} {r : List UInt8} {p e : Int} (hr : r.length ≤ n) (h : tokAt n r = .bad p e) : 0 ≤ p ∧ p ≤ n := by
  unfold tokAt at h
  split at h
  · split at h <;> cases h
  · cases hx : r.take (wlen r) with
    | nil => rw [hx] at h; cases h
    | cons c q =>
      have h0 : r ≠ [] := by intro h0; rw [h0] at hx; simp at hx
      have h0 : 1 ≤ r.length := by cases r with | nil => exact absurd rfl h0 | cons => simp
      rw [hx] at h
      dsimp only at h
      split at h
      · split at h
        · cases h
        · injection h with h _
          have := textL_place (n - r.length) (r.drop 1) [] (n - r.length + 1) (by omega)
          rw [List.length_drop] at this
          omega
      · split at h
        · split at h
          · cases h
          · injection h with h _; omega
        · split at h
          · cases h
          · injection h with h _; omega
def Stand (s : List UInt8) (out : List Tok) (p : Nat) : Prop := (∀ t ∈ out, Placed s t ∧ t.pos < p) ∧ out.Pairwise (fun a b => a.pos < b.pos)
theorem toks_place (s : List UInt8) : ∀ (m p : Nat) (out : List Tok), s.length - p ≤ m → p ≤ s.length → Stand s out p →
    ((toks s.length (s.drop p) out).2.2 = 0 → ∃ q, Stand s (toks s.length (s.drop p) out).1 q) ∧ ((toks s.length (s.drop p) out).2.2 ≠ 0 → (toks s.length (s.drop p) out).1 = [] ∧ 0 ≤ (toks s.length (s.drop p) out).2.1 ∧ (toks s.length (s.drop p) out).2.1 ≤ s.length) := by
  intro m
  induction m with
  | zero =>
    intro p out hm hp hS
    rw [List.drop_eq_nil_of_le (by omega)]
    rw [toks_step, if_pos rfl]
    exact ⟨fun _ => ⟨p, hS⟩, fun h => absurd rfl h⟩
  | succ m ih =>
    intro p out hm hp hS
    rw [toks_run]
    have hsp := spanR_le (fun r => !blankB r) (s.drop p)
    rw [List.length_drop] at hsp
    obtain ⟨p', h1, h2, h3⟩ : ∃ p', p ≤ p' ∧ p' ≤ s.length ∧ trimL (s.drop p) = s.drop p' :=
      ⟨p + spanR (fun r => !blankB r) (runes (s.drop p)), by omega, by omega, by unfold trimL; rw [List.drop_drop]⟩
    have hb : s.drop p' ≠ [] → blankB (dec (s.drop p')).1 = false := by rw [← h3]; exact trimL_first
    rw [h3]
    cases hs : tokAt s.length (s.drop p') with
    | stop => exact ⟨fun _ => ⟨p, hS⟩, fun h => absurd rfl h⟩
    | bad q e => exact ⟨fun h => absurd hs (by rw [show e = 0 from h]; exact tokAt_bad _ _ _), fun _ => ⟨rfl, tokAt_badPlace (by simp) hs⟩⟩
    | skip l' =>
      obtain ⟨hl, k, rfl⟩ := tokAt_less (.inl hs)
      rw [List.drop_drop] at hl ⊢
      rw [List.length_drop, List.length_drop] at hl
      dsimp only
      by_cases hk : p' + k ≤ s.length
      · exact ih (p' + k) out (by omega) hk ⟨fun t ht => ⟨(hS.1 t ht).1, by have := (hS.1 t ht).2; omega⟩, hS.2⟩
      · rw [List.drop_eq_nil_of_le (by omega), toks_step, if_pos rfl]
        exact ⟨fun _ => ⟨p, hS⟩, fun h => absurd rfl h⟩
    | tok t l' =>
      obtain ⟨hl, k, rfl⟩ := tokAt_less (.inr ⟨t, hs⟩)
      obtain ⟨ht, htp⟩ := tokAt_placed h2 hb hs
      have htN := ht.posN
      rw [List.drop_drop] at hl ⊢
      rw [List.length_drop, List.length_drop] at hl
      dsimp only
      by_cases hbig : out.length ≥ 4096
      · rw [if_pos hbig]
        exact ⟨fun h => absurd h (by simp), fun _ => ⟨rfl, by dsimp only; omega, by dsimp only; omega⟩⟩
      · rw [if_neg hbig]
        have hS' : ∀ q : Nat, t.pos < q → Stand s (out ++ [t]) q := by
          intro q hq
          refine ⟨fun x hx => ?_, ?_⟩
          · rcases List.mem_append.1 hx with hx | hx
            · exact ⟨(hS.1 x hx).1, by have := (hS.1 x hx).2; omega⟩
            · rw [List.mem_singleton.1 hx]; exact ⟨ht, hq⟩
          · rw [List.pairwise_append]
            refine ⟨hS.2, List.pairwise_singleton _ _, fun x hx y hy => ?_⟩
            rw [List.mem_singleton.1 hy]
            have := (hS.1 x hx).2; omega
        by_cases hk : p' + k ≤ s.length
        · exact ih (p' + k) _ (by omega) hk (hS' _ (by omega))
        · rw [List.drop_eq_nil_of_le (by omega), toks_step, if_pos rfl]
          exact ⟨fun _ => ⟨_, hS' (t.pos.toNat + 1) (by omega)⟩, fun h => absurd rfl h⟩
theorem faultL_le : ∀ {rs : List (Nat × Nat)} {i : Nat}, faultL rs = some i → i ≤ (rs.map (·.2)).sum
  | [], i, h => by simp [faultL] at h
  | c :: rs, i, h => by
    rw [faultL] at h
    split at h
    · simp at h; omega
    · cases hf : faultL rs with
      | none => rw [hf] at h; simp at h
      | some j =>
        rw [hf] at h
        simp at h
        have := faultL_le hf
        simp; omega
theorem tokens_place (s : List UInt8) : ((tokensR s).2.2 = 0 → (∀ t ∈ (tokensR s).1, Placed s t) ∧ (tokensR s).1.Pairwise (fun a b => a.pos < b.pos)) ∧
    ((tokensR s).2.2 ≠ 0 → (tokensR s).1 = [] ∧ 0 ≤ (tokensR s).2.1 ∧ (tokensR s).2.1 ≤ s.length) := by
  unfold tokensR
  by_cases hs : s.length > 65536
  · rw [if_pos hs]
    exact ⟨fun h => absurd h (by simp), fun _ => ⟨rfl, by simp, by simp⟩⟩
  · rw [if_neg hs]
    cases hf : faultR s with
    | some i =>
      have := faultL_le hf
      rw [sum_runes] at this
      exact ⟨fun h => absurd h (by simp), fun _ => ⟨rfl, by simp, by dsimp only; omega⟩⟩
    | none =>
      have := toks_place s s.length 0 [] (by omega) (by omega) ⟨by simp, by simp⟩
      rw [List.drop_zero] at this
      refine ⟨fun h => ?_, this.2⟩
      obtain ⟨q, hq⟩ := this.1 h
      exact ⟨fun t ht => (hq.1 t ht).1, hq.2⟩
end Go.Proofs.YtbmplclnondfnaaDoor

namespace Go.Proofs.YtbmplclnondfnaaDoor
open Go Go.Av
structure PlaceC (s : List UInt8) (k p : Nat) : Prop where
  le : p ≤ s.length
  dr : (charsR s).drop k = chL p (runes (s.drop p))
  kl : k ≤ (charsR s).length
theorem PlaceC.zero (s : List UInt8) : PlaceC s 0 0 := ⟨by omega, rfl, by omega⟩
theorem PlaceC.lt {s : List UInt8} {k p : Nat} (h : PlaceC s k p) : k < (charsR s).length ↔ p < s.length := by
  have hl := congrArg List.length h.dr
  rw [List.length_drop, chL_length] at hl
  have := h.le
  by_cases hp : p < s.length
  · have : s.drop p ≠ [] := by simp; omega
    rw [runes_cons this, List.length_cons] at hl
    exact ⟨fun _ => hp, fun _ => by omega⟩
  · rw [List.drop_eq_nil_of_le (by omega)] at hl
    simp at hl
    exact ⟨fun _ => by omega, fun _ => by omega⟩
theorem PlaceC.at {s : List UInt8} {k p : Nat} (h : PlaceC s k p) (hp : p < s.length) : (charsR s)[k]? = some ⟨(dec (s.drop p)).1, p, p + (dec (s.drop p)).2, badB (dec (s.drop p))⟩ ∧ PlaceC s (k + 1) (p + (dec (s.drop p)).2) := by
  have hne : s.drop p ≠ [] := by simp; omega
  have hd := h.dr
  have hk := h.lt.2 hp
  have hdp := dec_pos _ hne
  rw [List.length_drop] at hdp
  rw [runes_cons hne] at hd
  have h1 : (charsR s)[k]? = ((charsR s).drop k)[0]? := by simp
  refine ⟨by rw [h1, hd]; rfl, ⟨by omega, ?_, hk⟩⟩
  rw [← List.drop_drop, hd, ← List.drop_drop]; rfl
theorem notBad {s : List UInt8} (h : faultR s = none) : ∀ c ∈ runes s, badB c = false := by
  unfold faultR at h
  generalize runes s = rs at h
  induction rs with
  | nil => simp
  | cons c rs ih =>
    rw [faultL] at h
    intro d hd
    rcases List.mem_cons.1 hd with rfl | hd
    · cases hb : badB d with
      | false => rfl
      | true => rw [hb] at h; simp at h
    · refine ih ?_ d hd
      cases hb : badB c with
      | true => rw [hb] at h; simp at h
      | false => rw [hb] at h; simpa using h
theorem PlaceC.good {s : List UInt8} {k p : Nat} (h : PlaceC s k p) (hf : faultR s = none) : ∀ c ∈ runes (s.drop p), badB c = false := by
  have h1 : ∀ c ∈ charsR s, c.bad = false := by
    have := notBad hf
    unfold charsR
    generalize runes s = rs at this
    generalize 0 = i
    induction rs generalizing i with
    | nil => simp [chL]
    | cons x rs ih =>
      obtain ⟨r, k⟩ := x
      intro c hc
      rw [chL] at hc
      rcases List.mem_cons.1 hc with rfl | hc
      · exact this (r, k) (by simp)
      · exact ih (fun c hc => this c (List.mem_cons_of_mem _ hc)) _ c hc
  have h2 : ∀ c ∈ chL p (runes (s.drop p)), c.bad = false := fun c hc => h1 c (List.mem_of_mem_drop (by rw [h.dr]; exact hc))
  generalize runes (s.drop p) = rs at h2
  generalize p = i at h2
  clear h h1 hf
  induction rs generalizing i with
  | nil => simp
  | cons x rs ih =>
    obtain ⟨r, k⟩ := x
    intro c hc
    rw [chL] at h2
    rcases List.mem_cons.1 hc with rfl | hc
    · exact h2 _ (List.mem_cons_self)
    · exact ih _ (fun c hc => h2 c (List.mem_cons_of_mem _ hc)) c hc
/-- In a character that is not ASCII, no byte is. -/
theorem dec_plain {l : List UInt8} (h : l ≠ []) (hb : badB (dec l) = false) {v : Nat} (hv : v < 128) (h1 : (dec l).1 ≠ v) : ∀ b ∈ l.take (dec l).2, b.toNat ≠ v := by
  have hl : 1 ≤ l.length := by cases l with | nil => exact absurd rfl h | cons => simp
  suffices H : ∀ j, j < (dec l).2 → (l.getD j 0).toNat ≠ v by
    intro b hbm
    obtain ⟨j, hj⟩ := List.getElem?_of_mem hbm
    rw [List.getElem?_take] at hj
    split at hj
    · have := H j (by assumption)
      rw [List.getD_eq_getElem?_getD, hj] at this
      exact this
    · cases hj
  intro j hj
  have h4 := (dec_pos l h).2.2.1
  rw [dec_N] at hb h1 hj h4
  obtain rfl | rfl | rfl | rfl : j = 0 ∨ j = 1 ∨ j = 2 ∨ j = 3 := by omega
  all_goals
    generalize (l.getD 0 0).toNat = a at *
    generalize (l.getD 1 0).toNat = b at *
    generalize (l.getD 2 0).toNat = c at *
    generalize (l.getD 3 0).toNat = d at *
    unfold Lib.decodeN at hb h1 hj
    repeat' split at hj
    all_goals (simp_all [badB]; try omega)
theorem dec_take {l : List UInt8} (h : l ≠ []) (hb : badB (dec l) = false) {n : Nat} (hn : (dec l).2 ≤ n) : dec (l.take n) = dec l := by
  have hl : 1 ≤ l.length := by cases l with | nil => exact absurd rfl h | cons => simp
  have h4 := dec_pos l h
  have g : ∀ j, j < n → (l.take n).getD j 0 = l.getD j 0 := fun j hj => by
    rw [List.getD_eq_getElem?_getD, List.getElem?_take, if_pos hj, List.getD_eq_getElem?_getD]
  have g' : ∀ j, ¬ j < n → (l.take n).getD j 0 = 0 := fun j hj => by
    rw [List.getD_eq_getElem?_getD, List.getElem?_take, if_neg hj]; rfl
  have h0 := g 0 (by omega)
  have e1 : n ≤ 1 → (l.take n).getD 1 0 = 0 := fun h => g' 1 (by omega)
  have e2 : n ≤ 2 → (l.take n).getD 2 0 = 0 := fun h => g' 2 (by omega)
  have e3 : n ≤ 3 → (l.take n).getD 3 0 = 0 := fun h => g' 3 (by omega)
  have f1 : ¬ n ≤ 1 → (l.take n).getD 1 0 = l.getD 1 0 := fun h => g 1 (by omega)
  have f2 : ¬ n ≤ 2 → (l.take n).getD 2 0 = l.getD 2 0 := fun h => g 2 (by omega)
  have f3 : ¬ n ≤ 3 → (l.take n).getD 3 0 = l.getD 3 0 := fun h => g 3 (by omega)
  rw [dec_N] at hb hn h4
  rw [dec_N, dec_N, h0, List.length_take]
  clear g g' h0
  by_cases q1 : n ≤ 1
  · have q2 : n ≤ 2 := by omega
    have q3 : n ≤ 3 := by omega
    rw [e1 q1, e2 q2, e3 q3]
    clear e1 e2 e3 f1 f2 f3
    generalize (l.getD 0 0).toNat = a at *
    generalize (l.getD 1 0).toNat = b at *
    generalize (l.getD 2 0).toNat = c at *
    generalize (l.getD 3 0).toNat = d at *
    simp only [show (0 : UInt8).toNat = 0 from rfl]
    unfold Lib.decodeN at *
    repeat' split at hn
    all_goals (simp_all [badB] <;> (repeat' split) <;> first | (exfalso; omega) | rfl)
  by_cases q2 : n ≤ 2
  · have q3 : n ≤ 3 := by omega
    rw [f1 q1, e2 q2, e3 q3]
    clear e1 e2 e3 f1 f2 f3
    generalize (l.getD 0 0).toNat = a at *
    generalize (l.getD 1 0).toNat = b at *
    generalize (l.getD 2 0).toNat = c at *
    generalize (l.getD 3 0).toNat = d at *
    simp only [show (0 : UInt8).toNat = 0 from rfl]
    unfold Lib.decodeN at *
    repeat' split at hn
    all_goals (simp_all [badB] <;> (repeat' split) <;> first | (exfalso; omega) | rfl)
  by_cases q3 : n ≤ 3
  · rw [f1 q1, f2 q2, e3 q3]
    clear e1 e2 e3 f1 f2 f3
    generalize (l.getD 0 0).toNat = a at *
    generalize (l.getD 1 0).toNat = b at *
    generalize (l.getD 2 0).toNat = c at *
    generalize (l.getD 3 0).toNat = d at *
    simp only [show (0 : UInt8).toNat = 0 from rfl]
    unfold Lib.decodeN at *
    repeat' split at hn
    all_goals (simp_all [badB] <;> (repeat' split) <;> first | (exfalso; omega) | rfl)
  · rw [f1 q1, f2 q2, f3 q3]
    clear e1 e2 e3 f1 f2 f3
    generalize (l.getD 0 0).toNat = a at *
    generalize (l.getD 1 0).toNat = b at *
    generalize (l.getD 2 0).toNat = c at *
    generalize (l.getD 3 0).toNat = d at *
    unfold Lib.decodeN at *
    repeat' split at hn
    all_goals (simp_all [badB] <;> (repeat' split) <;> first | (exfalso; omega) | rfl)
def sizes (rs : List (Nat × Nat)) : Nat := (rs.map (·.2)).sum
theorem runes_take : ∀ (m : Nat) (l : List UInt8), (∀ c ∈ runes l, badB c = false) → runes (l.take (sizes ((runes l).take m))) = (runes l).take m
  | 0, l, _ => by simp [sizes]
  | m + 1, l, hb => by
    by_cases hl : l = []
    · subst hl; simp
    · have hd := dec_pos l hl
      rw [runes_cons hl] at hb ⊢
      rw [List.take_succ_cons]
      have e : sizes (dec l :: (runes (l.drop (dec l).2)).take m) = (dec l).2 + sizes ((runes (l.drop (dec l).2)).take m) := by simp only [sizes, List.map_cons, List.sum_cons]
      rw [e]
      generalize hn : sizes ((runes (l.drop (dec l).2)).take m) = n
      have hne : l.take ((dec l).2 + n) ≠ [] := by
        intro h
        have h2 := congrArg List.length h
        rw [List.length_take, List.length_nil] at h2
        clear e hn
        omega
      rw [runes_cons hne, dec_take hl (hb _ (List.mem_cons_self)) (by omega)]
      congr 1
      rw [List.drop_take, Nat.add_sub_cancel_left, ← hn]
      exact runes_take m _ (fun c hc => hb c (List.mem_cons_of_mem _ hc))
theorem trimL_blank {l : List UInt8} (h : l ≠ []) (hb : blankB (dec l).1 = true) : trimL l = trimL (l.drop (dec l).2) := by
  unfold trimL
  rw [runes_cons h, spanR, if_neg (by simp [hb]), ← List.drop_drop]
theorem trimL_none {l : List UInt8} (h : l ≠ []) (hb : blankB (dec l).1 = false) : trimL l = l := by
  unfold trimL
  rw [runes_cons h, spanR, if_pos (by simp [hb])]; rfl
theorem wlen_blank {l : List UInt8} (h : l ≠ []) (hb : blankB (dec l).1 = true) : wlen l = 0 := by
  unfold wlen
  rw [runes_cons h, spanR, if_pos hb]
theorem wlen_cons {l : List UInt8} (h : l ≠ []) (hb : blankB (dec l).1 = false) : wlen l = (dec l).2 + wlen (l.drop (dec l).2) := by
  unfold wlen
  rw [runes_cons h, spanR, if_neg (by simp [hb])]
theorem textL_plain (a : Nat) (z : List UInt8) : ∀ (y acc : List UInt8) (i : Nat), (∀ b ∈ y, b ≠ 34 ∧ b ≠ 92) → textL a (y ++ z) acc i = textL a z (acc ++ y) (i + y.length)
  | [], acc, i, _ => by simp
  | c :: y, acc, i, h => by
    obtain ⟨h1, h2⟩ := h c (List.mem_cons_self)
    rw [List.cons_append, textL_cons, if_neg h1, if_neg h2, textL_plain a z y _ _ (fun b hb => h b (List.mem_cons_of_mem _ hb))]
    rw [List.length_cons, List.append_assoc, List.singleton_append]; congr 1; omega
theorem textL_char (a : Nat) {l acc : List UInt8} {i : Nat} (h : l ≠ []) (hb : badB (dec l) = false) (h1 : (dec l).1 ≠ 34) (h2 : (dec l).1 ≠ 92) : textL a l acc i = textL a (l.drop (dec l).2) (acc ++ l.take (dec l).2) (i + (dec l).2) := by
  have hd := dec_pos l h
  have p1 := dec_plain h hb (v := 34) (by omega) h1
  have p2 := dec_plain h hb (v := 92) (by omega) h2
  have := textL_plain a (l.drop (dec l).2) (l.take (dec l).2) acc i (fun b hb => ⟨fun e => p1 b hb (by rw [e]; rfl), fun e => p2 b hb (by rw [e]; rfl)⟩)
  rw [List.take_append_drop] at this
  rw [this, List.length_take, Nat.min_eq_left (by omega)]
theorem indexByte_plain (c : UInt8) (z : List UInt8) : ∀ (y : List UInt8), (∀ b ∈ y, b ≠ c) → Lib.indexByte (y ++ z) c = if Lib.indexByte z c < 0 then -1 else y.length + Lib.indexByte z c
  | [], _ => by
    have := indexByte_lt z c
    simp; omega
  | b :: y, h => by
    have h1 := h b (List.mem_cons_self)
    have := indexByte_lt z c
    rw [List.cons_append, Lib.indexByte, indexByte_plain c z y (fun b hb => h b (List.mem_cons_of_mem _ hb))]
    rw [if_neg (by simpa using h1)]
    split <;> split <;> simp_all <;> omega
theorem indexByte_char (c : UInt8) {l : List UInt8} (h : l ≠ []) (hb : badB (dec l) = false) (hc : c.toNat < 128) (h1 : (dec l).1 ≠ c.toNat) : Lib.indexByte l c = if Lib.indexByte (l.drop (dec l).2) c < 0 then -1 else (dec l).2 + Lib.indexByte (l.drop (dec l).2) c := by
  have hd := dec_pos l h
  have p1 := dec_plain h hb hc h1
  have := indexByte_plain c (l.drop (dec l).2) (l.take (dec l).2) (fun b hb e => p1 b hb (by rw [e]))
  rw [List.take_append_drop] at this
  rw [this, List.length_take, Nat.min_eq_left (by omega)]
theorem chC_app (a b : List Ch) : chC (a ++ b) = chC a ++ chC b := by simp [chC]
theorem chC_take (l : List Ch) (n : Nat) : (chC l).take (n * 4) = chC (l.take n) := by
  by_cases h : n ≤ l.length
  · have e : chC l = chC (l.take n) ++ chC (l.drop n) := by rw [← chC_app, List.take_append_drop]
    rw [e, List.take_append_of_le_length (by simp; omega), List.take_of_length_le (by simp; omega)]
  · rw [List.take_of_length_le (by simp; omega), List.take_of_length_le (by omega)]
theorem chC_drop (l : List Ch) (n : Nat) : (chC l).drop (n * 4) = chC (l.drop n) := by
  by_cases h : n ≤ l.length
  · have e : chC l = chC (l.take n) ++ chC (l.drop n) := by rw [← chC_app, List.take_append_drop]
    rw [e, List.drop_append_of_le_length (by simp; omega), List.drop_eq_nil_of_le (by simp; omega)]; rfl
  · rw [List.drop_eq_nil_of_le (by simp; omega), List.drop_eq_nil_of_le (by omega)]; rfl
theorem chL_take : ∀ (m i : Nat) (rs : List (Nat × Nat)), (chL i rs).take m = chL i (rs.take m)
  | 0, _, _ => by simp [chL]
  | m + 1, _, [] => by simp [chL]
  | m + 1, i, (r, k) :: rs => by rw [chL, List.take_succ_cons, List.take_succ_cons, chL, chL_take]
end Go.Proofs.YtbmplclnondfnaaDoor

namespace Go.Proofs.YtbmplclnondfnaaDoor
open Go Go.Av
structure TokOk (t : Tok) : Prop where
  num : t.kind = 2 → -1152921504606846976 ≤ t.n ∧ t.n ≤ 1152921504606846975
  str : t.kind = 3 → t.text.length ≤ 4096 ∧ faultR t.text = none
  word : t.kind = 1 → nameR t.text = true
  kind : t.kind = 1 ∨ t.kind = 2 ∨ t.kind = 3
theorem fault_nil : faultR [] = none := rfl
theorem fault_span (p : Nat → Bool) (l : List UInt8) (h : faultR l = none) : faultR (l.drop (spanR p (runes l))) = none := by
  induction l using runes_ind with
  | h0 => exact h
  | h1 l hl ih =>
    rw [runes_cons hl, spanR]
    split
    · exact h
    · rw [← List.drop_drop]
      refine ih ?_
      unfold faultR at h ⊢
      rw [runes_cons hl, faultL] at h
      split at h
      · cases h
      · simpa using h
theorem fault_take_span (p : Nat → Bool) (l : List UInt8) (h : faultR l = none) : (∀ c ∈ runes l, badB c = false) := notBad h
theorem esc_low {d e : UInt8} (h : esc d = some e) : d.toNat < 128 ∧ e.toNat < 128 := by
  unfold esc at h
  split at h
  · cases h; subst_vars; decide
  · split at h
    · cases h; subst_vars; decide
    · split at h
      · cases h; subst_vars; decide
      · cases h
theorem textL_valid (a : Nat) : ∀ (r acc : List UInt8) (i : Nat), faultR (acc ++ r) = none → (textL a r acc i).2.2 = 0 →
    faultR (textL a r acc i).1 = none ∧ (textL a r acc i).1.length ≤ 4096 ∧ faultR (r.drop ((textL a r acc i).2.1 - (i : Nat)).toNat) = none
  | [], acc, i, _, h => by simp [textL] at h
  | c :: r, acc, i, hv, h => by
    rw [textL_cons] at h ⊢
    by_cases h1 : c = 34
    · rw [if_pos h1] at h ⊢
      by_cases h2 : acc.length > 4096
      · rw [if_pos h2] at h; simp at h
      · rw [if_neg h2]
        subst h1
        have := (faultR_app acc 34 r (by decide)).1 hv
        refine ⟨this.1, by dsimp only; omega, ?_⟩
        rw [show (((i + 1 : Int)) - (i : Nat)).toNat = 1 by omega]
        exact this.2
    · rw [if_neg h1] at h ⊢
      by_cases h2 : c = 92
      · rw [if_pos h2] at h ⊢
        match r with
        | [] => simp at h
        | d :: r' =>
          dsimp only at h ⊢
          cases he : esc d with
          | none => rw [he] at h; simp at h
          | some e =>
            rw [he] at h
            dsimp only at h ⊢
            obtain ⟨hd, hE⟩ := esc_low he
            subst h2
            have h3 := (faultR_app acc 92 (d :: r') (by decide)).1 hv
            have h4 := (faultR_app [] d r' hd).1 h3.2
            have h5 := (faultR_app acc e r' hE).2 ⟨h3.1, h4.2⟩
            have ih := textL_valid a r' (acc ++ [e]) (i + 2) (by simpa using h5) h
            have hn := textL_next a r' (acc ++ [e]) (i + 2) h
            refine ⟨ih.1, ih.2.1, ?_⟩
            have := ih.2.2
            rw [show ((textL a r' (acc ++ [e]) (i + 2)).2.1 - (i : Nat)).toNat = ((textL a r' (acc ++ [e]) (i + 2)).2.1 - ((i + 2 : Nat) : Int)).toNat + 1 + 1 by omega]
            exact this
      · rw [if_neg h2] at h ⊢
        have ih := textL_valid a r (acc ++ [c]) (i + 1) (by simpa using hv) h
        have hn := textL_next a r (acc ++ [c]) (i + 1) h
        refine ⟨ih.1, ih.2.1, ?_⟩
        have := ih.2.2
        rw [show ((textL a r (acc ++ [c]) (i + 1)).2.1 - (i : Nat)).toNat = ((textL a r (acc ++ [c]) (i + 1)).2.1 - ((i + 1 : Nat) : Int)).toNat + 1 by omega]
        exact this
theorem digits_range {l : List UInt8} (h1 : (digitsR l).2.1 = true) (h2 : (digitsR l).2.2 = true) : -1152921504606846976 ≤ (digitsR l).1 ∧ (digitsR l).1 ≤ 1152921504606846975 := by
  obtain ⟨h3, h4⟩ := (digits_num l).2 h1
  rw [h4 h2]
  have h5 := h3.1 h2
  unfold refNumR at h5 ⊢
  split at h5
  · simp at h5
  · rename_i n hn
    split at h5
    · rename_i h; rw [if_pos h]; dsimp only; omega
    · rename_i h
      rw [if_neg h]
      split at h5
      · simp at h5
      · rename_i h6; rw [if_neg h6]; dsimp only; omega
theorem fault_index {r : List UInt8} (h : faultR r = none) (hi : ¬ Lib.indexByte r 10 < 0) : faultR (r.drop (Lib.indexByte r 10).toNat) = none := by
  have : ∀ (r : List UInt8), ¬ Lib.indexByte r 10 < 0 → ∃ x t, r = x ++ 10 :: t ∧ r.drop (Lib.indexByte r 10).toNat = 10 :: t := by
    intro r
    induction r with
    | nil => intro h; exact absurd (by decide) h
    | cons b r ih =>
      intro h
      have hb := indexByte_lt r 10
      rw [Lib.indexByte] at h ⊢
      by_cases hb10 : b = 10
      · subst hb10; exact ⟨[], r, rfl, rfl⟩
      · rw [if_neg (by simpa using hb10)] at h ⊢
        have h' : ¬ Lib.indexByte r 10 < 0 := by
          intro hc
          rw [if_pos (by simp; omega)] at h
          exact h (by decide)
        rw [if_neg (by simp; omega)]
        obtain ⟨x, t, e1, e2⟩ := ih h'
        refine ⟨b :: x, t, by rw [e1]; rfl, ?_⟩
        rw [show (Lib.indexByte r 10 + 1).toNat = (Lib.indexByte r 10).toNat + 1 by omega]
        exact e2
  obtain ⟨x, t, e1, e2⟩ := this r hi
  rw [e2]
  rw [e1] at h
  exact (faultR_app [] 10 t (by decide)).2 ⟨rfl, ((faultR_app x 10 t (by decide)).1 h).2⟩
theorem tokAt_good {N : Nat} {r l' : List UInt8} (hN : r.length ≤ N) (hv : faultR r = none) : (∀ t, tokAt N r = .tok t l' → TokOk t ∧ faultR l' = none) ∧ (tokAt N r = .skip l' → faultR l' = none) := by
  unfold tokAt
  by_cases h1 : r.take (wlen r) = [33]
  · rw [if_pos h1]
    refine ⟨fun t h => ?_, fun h => ?_⟩
    · split at h <;> cases h
    · split at h
      · cases h
      · cases h; exact fault_index hv (by assumption)
  · rw [if_neg h1]
    refine ⟨fun t h => ?_, fun h => ?_⟩
    · cases hr : r.take (wlen r) with
      | nil => rw [hr] at h; cases h
      | cons c q =>
        rw [hr] at h
        dsimp only at h
        by_cases hq : c = 34
        · rw [if_pos hq] at h
          split at h
          · rename_i he
            injection h with h2 h3
            subst h2 h3
            obtain ⟨r', rfl⟩ : ∃ r', r = 34 :: r' := by
              cases r with
              | nil => simp at hr
              | cons b r' =>
                cases hn : wlen (b :: r') with
                | zero => rw [hn] at hr; simp at hr
                | succ n => rw [hn, List.take_succ_cons] at hr; injection hr with h4 _; exact ⟨r', by rw [h4, hq]⟩
            have hv2 := ((faultR_app [] 34 r' (by decide)).1 hv).2
            have := textL_valid (N - (34 :: r').length) r' [] (N - (34 :: r').length + 1) hv2 he
            have hn := textL_next _ _ _ _ he
            rw [List.drop_succ_cons, List.drop_zero] at hn ⊢
            refine ⟨⟨fun h => by simp at h, fun _ => ⟨this.2.1, this.1⟩, fun h => by simp at h, .inr (.inr rfl)⟩, ?_⟩
            have h6 := this.2.2
            generalize (textL (N - (34 :: r').length) r' [] (N - (34 :: r').length + 1)).2.1 = nx at h6 hn ⊢
            rw [show (nx - ((N - (34 :: r').length : Nat) : Int)).toNat = (nx - ((N - (34 :: r').length + 1 : Nat) : Int)).toNat + 1 by omega]
            exact h6
          · cases h
        · rw [if_neg hq, ← hr] at h
          split at h
          · rename_i hd
            split at h
            · rename_i hd2
              injection h with h2 h3
              subst h2 h3
              exact ⟨⟨fun _ => digits_range hd hd2, fun h => by simp at h, fun h => by simp at h, .inr (.inl rfl)⟩, fault_span _ _ hv⟩
            · cases h
          · split at h
            · rename_i hn
              injection h with h2 h3
              subst h2 h3
              exact ⟨⟨fun h => by simp at h, fun h => by simp at h, fun _ => hn, .inl rfl⟩, fault_span _ _ hv⟩
            · cases h
    · cases hr : r.take (wlen r) with
      | nil => rw [hr] at h; cases h
      | cons c q =>
        rw [hr] at h
        dsimp only at h
        repeat' split at h
        all_goals cases h
theorem toks_good (n : Nat) : ∀ (m : Nat) (l : List UInt8) (out : List Tok), l.length ≤ m → l.length ≤ n → faultR l = none → (∀ t ∈ out, TokOk t) → ∀ t ∈ (toks n l out).1, TokOk t := by
  intro m
  induction m with
  | zero =>
    intro l out hm hn hv ho
    obtain rfl : l = [] := List.length_eq_zero_iff.1 (by omega)
    exact ho
  | succ m ih =>
    intro l out hm hn hv ho
    rw [toks_step]
    by_cases e : l = []
    · rw [if_pos e]; exact ho
    · rw [if_neg e]
      have hl := trimL_le l
      have hvt : faultR (trimL l) = none := fault_span _ _ hv
      cases hs : tokAt n (trimL l) with
      | stop => exact ho
      | bad p e' => simp
      | skip l' =>
        have := (tokAt_less (.inl hs)).1
        exact ih l' out (by omega) (by omega) ((tokAt_good (by omega) hvt).2 hs) ho
      | tok t l' =>
        have := (tokAt_less (.inr ⟨t, hs⟩)).1
        dsimp only
        split
        · simp
        · have hg := (tokAt_good (by omega) hvt).1 t hs
          refine ih l' _ (by omega) (by omega) hg.2 ?_
          intro x hx
          rcases List.mem_append.1 hx with hx | hx
          · exact ho x hx
          · rw [List.mem_singleton.1 hx]; exact hg.1
theorem tokens_good (s : List UInt8) : ∀ t ∈ (tokensR s).1, TokOk t := by
  unfold tokensR
  split
  · simp
  · split
    · simp
    · exact toks_good _ s.length s [] (Nat.le_refl _) (Nat.le_refl _) (by assumption) (by simp)
end Go.Proofs.YtbmplclnondfnaaDoor
