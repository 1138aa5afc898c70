/- The trees that are read: their sizes, depths and leaves. Plain Lean. Conditions: as each says. The forms that are read are sound; items alone. Plain Lean. Conditions: as each says. Two sources, one on each line: plain Lean. Conditions: as each says. parse: Parse. Conditions: as each says. parse: Parse, and what the law's awake answers. Conditions: as each says. The reference's strings: where they end well. The reference's tokens, where there are some: as many as the program's. ParseJoins: the walk. -/
import Derived.Test.YtbmplclnondfnaaDoorX6
import Derived.Test.YtbmplclnondfnaaDoorX5
set_option linter.all false
namespace Go.Proofs.YtbmplclnondfnaaDoor
open Go Go.Av
def Tree.isCall : Tree → Bool
  | .call _ => true
  | _ => false
mutual
def Tree.okT : Tree → Bool
  | .int n => decide (-1152921504606846976 ≤ n) && decide (n ≤ 1152921504606846975)
  | .str s => decide (s.length ≤ 4096) && decide (faultR s = none)
  | .bool _ => true
  | .list l => okVals l
  | .quot l => okItems l
  | .call s => nameR s && !reservedR s
  | _ => false
def okVals : List Tree → Bool
  | [] => true
  | t :: r => t.okT && !t.isCall && okVals r
def okItems : List Tree → Bool
  | [] => true
  | t :: r => t.okT && okItems r
end
mutual
def Tree.size : Tree → Nat
  | .list l => sizeAll l + 1
  | .quot l => sizeAll l + 1
  | _ => 1
def sizeAll : List Tree → Nat
  | [] => 0
  | t :: r => t.size + sizeAll r
end
theorem size_pos (t : Tree) : 1 ≤ t.size := by cases t <;> simp [Tree.size]
theorem sizeAll_app (a b : List Tree) : sizeAll (a ++ b) = sizeAll a + sizeAll b := by
  induction a with
  | nil => simp [sizeAll]
  | cons t a ih => simp only [List.cons_append, sizeAll, ih]; omega
theorem sizeAll_len (l : List Tree) : l.length ≤ sizeAll l := by
  induction l with
  | nil => simp
  | cons t l ih => have := size_pos t; simp only [List.length_cons, sizeAll]; omega
theorem countR_sz {p : Int} {s s' : RS} (h : countR p s = .ok s') : s'.l = s.l ∧ s'.opn = s.opn ∧ (0 < s.opn → s'.sz = s.sz + 1 ∧ s'.sz ≤ 1024) ∧ (s.opn = 0 → s'.sz = s.sz) := by
  unfold countR at h
  split at h
  · split at h
    · cases h
    · cases h
      exact ⟨rfl, rfl, fun _ => ⟨rfl, by dsimp only; omega⟩, fun h => by omega⟩
  · cases h
    exact ⟨rfl, rfl, fun h => by omega, fun _ => rfl⟩
theorem enterR_sz {p : Int} {s s' : RS} (h : enterR p s = .ok s') : s'.l = s.l ∧ s'.opn = s.opn + 1 ∧ s.opn + 1 ≤ 32 ∧ s'.sz ≤ 1024 ∧ (0 < s.opn → s'.sz = s.sz + 1) ∧ (s.opn = 0 → s'.sz = 1) := by
  unfold enterR at h
  split at h
  · cases h
  · have := countR_sz h
    dsimp only at this
    obtain ⟨h1, h2, h3, _⟩ := this
    obtain ⟨h4, h5⟩ := h3 (by omega)
    refine ⟨h1, h2, by omega, h5, fun ho => ?_, fun ho => ?_⟩
    · rw [h4, if_neg (by omega)]
    · rw [h4, if_pos (by omega)]
def Good (s : RS) : Prop := (∀ t ∈ s.l, TokOk t) ∧ s.opn ≤ 32 ∧ s.sz ≤ 1024
structure One (v : Tree) (s s' : RS) : Prop where
  ok : v.okT = true
  deep : v.depth + s.opn ≤ 32
  sz : 0 < s.opn → s'.sz = s.sz + v.size
  small : v.size ≤ 1024
  left : s'.sz ≤ 1024
  sub : ∀ t ∈ s'.l, t ∈ s.l
structure Many (ok : List Tree → Bool) (ys : List Tree) (s s' : RS) : Prop where
  ok : ok ys = true
  deep : depthAll ys + s.opn ≤ 32
  sz : s'.sz = s.sz + sizeAll ys
  left : s'.sz ≤ 1024
  sub : ∀ t ∈ s'.l, t ∈ s.l
theorem parse_sound (fin : Int) : ∀ k,
    (∀ s v s', Good s → litR fin k s = .ok (some v, s') → One v s s' ∧ v.isCall = false) ∧
    (∀ s v s', Good s → itemR fin k s = .ok (some v, s') → One v s s') ∧
    (∀ shut s acc v s', Good s → 0 < s.opn → itemsR fin k shut s acc = .ok (v, s') → ∃ ys, v = acc ++ ys ∧ Many okItems ys s s') ∧
    (∀ s acc v s', Good s → 0 < s.opn → valsR fin k s acc = .ok (v, s') → ∃ ys, v = acc ++ ys ∧ Many okVals ys s s') := by
  intro k
  induction k with
  | zero =>
    refine ⟨?_, ?_, ?_, ?_⟩
    · intro s v s' _ h; simp [litR] at h
    · intro s v s' _ h; simp [itemR] at h
    · intro shut s acc v s' _ _ h; simp [itemsR] at h
    · intro s acc v s' _ _ h; simp [valsR] at h
  | succ k ih =>
    obtain ⟨ih1, ih2, ih3, ih4⟩ := ih
    refine ⟨?_, ?_, ?_, ?_⟩
    · intro s v s' hg h
      rw [litR] at h
      split at h
      · cases h
      · rename_i t r hl
        obtain ⟨hg1, hg2, hg3⟩ := hg
        have ht : TokOk t := hg1 t (by rw [hl]; exact List.mem_cons_self)
        have cnt : ∀ {w : Tree}, w.okT = true → w.depth = 0 → w.size = 1 → w.isCall = false → (match countR t.pos { s with l := r } with
            | .error e => (.error e : PR (Option Tree))
            | .ok s' => .ok (some w, s')) = .ok (some v, s') → One v s s' ∧ v.isCall = false := by
          intro w h1 h2 h3 h4 h
          split at h
          · cases h
          · rename_i s3 hc
            cases h
            obtain ⟨c1, c2, c3, c4⟩ := countR_sz hc
            dsimp only at c1 c2 c3 c4
            refine ⟨⟨h1, by omega, fun ho => by have := (c3 ho).1; omega, by omega, ?_, fun x hx => by rw [hl, ← c1]; exact List.mem_cons_of_mem _ hx⟩, h4⟩
            rcases Nat.eq_zero_or_pos s.opn with h0 | h0
            · rw [c4 h0]; exact hg3
            · exact (c3 h0).2
        have brk : ∀ {ok : List Tree → Bool} {ys : List Tree} {w : Tree} {s1 s2 : RS}, w.okT = ok ys → w.depth = depthAll ys + 1 → w.size = sizeAll ys + 1 → w.isCall = false →
            enterR t.pos { s with l := r } = .ok s1 → Many ok ys s1 s2 → One w s { s2 with opn := s2.opn - 1 } ∧ w.isCall = false := by
          intro ok ys w s1 s2 h1 h2 h3 h4 he m
          obtain ⟨e1, e2, e3, e4, e5, e6⟩ := enterR_sz he
          dsimp only at e1 e2 e3 e5 e6
          obtain ⟨m1, m2, m3, m4, m5⟩ := m
          refine ⟨⟨by rw [h1]; exact m1, by omega, fun ho => by have := e5 ho; dsimp only; omega, ?_, by dsimp only; omega, fun x hx => by rw [hl, ← e1]; exact List.mem_cons_of_mem _ (m5 x hx)⟩, h4⟩
          rcases Nat.eq_zero_or_pos s.opn with h0 | h0
          · have := e6 h0; omega
          · have := e5 h0; omega
        have good1 : ∀ {s1 : RS}, enterR t.pos { s with l := r } = .ok s1 → Good s1 ∧ 0 < s1.opn := by
          intro s1 he
          obtain ⟨e1, e2, e3, e4, e5, e6⟩ := enterR_sz he
          dsimp only at e1 e2 e3
          exact ⟨⟨fun x hx => hg1 x (by rw [hl, ← e1]; exact List.mem_cons_of_mem _ hx), by omega, e4⟩, by omega⟩
        split at h
        · rename_i h1
          exact cnt (by have := ht.num h1; simp [Tree.okT]; omega) rfl rfl rfl h
        · split at h
          · rename_i h1
            exact cnt (by have := ht.str h1; simp [Tree.okT]; exact this) rfl rfl rfl h
          · split at h
            · exact cnt (by simp [Tree.okT]) rfl rfl rfl h
            · split at h
              · split at h
                · cases h
                · rename_i s1 he
                  split at h
                  · cases h
                  · rename_i ys s2 hi
                    cases h
                    obtain ⟨q1, q2⟩ := good1 he
                    obtain ⟨zs, e, m⟩ := ih3 _ _ _ _ _ q1 q2 hi
                    rw [List.nil_append] at e
                    subst e
                    exact brk rfl rfl rfl rfl he m
              · split at h
                · split at h
                  · cases h
                  · rename_i s1 he
                    split at h
                    · cases h
                    · rename_i ys s2 hi
                      cases h
                      obtain ⟨q1, q2⟩ := good1 he
                      obtain ⟨zs, e, m⟩ := ih4 _ _ _ _ q1 q2 hi
                      rw [List.nil_append] at e
                      subst e
                      exact brk rfl rfl rfl rfl he m
                · cases h
    · intro s v s' hg h
      rw [itemR] at h
      split at h
      · cases h
      · rename_i v1 s1 hl
        cases h
        exact (ih1 _ _ _ hg hl).1
      · rename_i s1 hl
        have hs := ((parse_less fin k).1 s _ hl).2 rfl
        dsimp only at hs
        subst hs
        split at h
        · cases h
        · rename_i w hp
          split at h
          · cases h
          · rename_i hr
            split at h
            · cases h
            · rename_i t s2 ht
              split at h
              · cases h
              · rename_i s3 hc
                cases h
                obtain ⟨c1, c2, c3, c4⟩ := countR_sz hc
                unfold takeR at ht
                split at ht
                · cases ht
                · rename_i t' r hl'
                  cases ht
                  obtain ⟨hg1, hg2, hg3⟩ := hg
                  have hto : TokOk t := hg1 t (by rw [hl']; exact List.mem_cons_self)
                  dsimp only at c1 c2 c3 c4
                  rw [hl'] at hp
                  simp only [peekR] at hp
                  split at hp
                  · rename_i hk
                    cases hp
                    refine ⟨by simp only [Tree.okT, hto.word hk, Bool.true_and, Bool.not_eq_true']; simpa using hr, by simp only [Tree.depth]; omega, fun ho => by simp only [Tree.size]; have := (c3 ho).1; omega, by simp [Tree.size], ?_, fun x hx => by rw [hl', ← c1]; exact List.mem_cons_of_mem _ hx⟩
                    rcases Nat.eq_zero_or_pos s1.opn with h0 | h0
                    · rw [c4 h0]; exact hg3
                    · exact (c3 h0).2
                  · cases hp
    · intro shut s acc v s' hg ho h
      rw [itemsR] at h
      split at h
      · split at h
        · cases h
        · rename_i t s1 ht
          cases h
          unfold takeR at ht
          split at ht
          · cases ht
          · rename_i t' r hl
            cases ht
            exact ⟨[], by simp, rfl, by simp only [depthAll]; have := hg.2.1; omega, rfl, hg.2.2, fun x hx => by rw [hl]; exact List.mem_cons_of_mem _ hx⟩
      · split at h
        · cases h
        · cases h
        · rename_i y s1 hi
          have o := ih2 _ _ _ hg hi
          have hless := ((parse_less fin k).2.1 s _ hi).1.opn
          dsimp only at hless
          obtain ⟨zs, e, m⟩ := ih3 shut s1 _ _ _ ⟨fun x hx => hg.1 x (o.sub x hx), by rw [hless]; exact hg.2.1, o.left⟩ (by omega) h
          refine ⟨y :: zs, by rw [e]; simp, by simp only [okItems, o.ok, m.ok]; rfl, ?_, ?_, m.left, fun x hx => o.sub x (m.sub x hx)⟩
          · have h1 := o.deep; have h2 := m.deep
            simp only [depthAll]; omega
          · rw [m.sz, o.sz ho, sizeAll]; omega
    · intro s acc v s' hg ho h
      rw [valsR] at h
      split at h
      · split at h
        · cases h
        · rename_i t s1 ht
          cases h
          unfold takeR at ht
          split at ht
          · cases ht
          · rename_i t' r hl
            cases ht
            exact ⟨[], by simp, rfl, by simp only [depthAll]; have := hg.2.1; omega, rfl, hg.2.2, fun x hx => by rw [hl]; exact List.mem_cons_of_mem _ hx⟩
      · split at h
        · cases h
        · cases h
        · rename_i y s1 hi
          obtain ⟨o, hcall⟩ := ih1 _ _ _ hg hi
          have hless := ((parse_less fin k).1 s _ hi).1.opn
          dsimp only at hless
          obtain ⟨zs, e, m⟩ := ih4 s1 _ _ _ ⟨fun x hx => hg.1 x (o.sub x hx), by rw [hless]; exact hg.2.1, o.left⟩ (by omega) h
          refine ⟨y :: zs, by rw [e]; simp, by simp only [okVals, o.ok, m.ok, hcall]; rfl, ?_, ?_, m.left, fun x hx => o.sub x (m.sub x hx)⟩
          · have h1 := o.deep; have h2 := m.deep
            simp only [depthAll]; omega
          · rw [m.sz, o.sz ho, sizeAll]; omega
end Go.Proofs.YtbmplclnondfnaaDoor

namespace Go.Proofs.YtbmplclnondfnaaDoor
open Go Go.Av
structure DefOk (d : DefT) : Prop where
  name : nameR d.name = true
  res : reservedR d.name = false
  inn : d.inn ≤ 16
  out : d.out ≤ 16
  body : okItems d.body = true
  deep : depthAll d.body ≤ 31
  size : sizeAll d.body ≤ 1023
structure ItOk (t : Tree) : Prop where
  ok : t.okT = true
  deep : t.depth ≤ 32
  size : t.size ≤ 1024
def FormOk : FormT → Prop
  | .define d => DefOk d
  | .item t => ItOk t
theorem takeR_sub {fin : Int} {s : RS} {x : Tok × RS} (h : takeR fin s = .ok x) : x.2.opn = s.opn ∧ x.2.sz = s.sz ∧ ∀ t ∈ x.2.l, t ∈ s.l := by
  unfold takeR at h
  split at h
  · cases h
  · rename_i t r hl
    cases h
    exact ⟨rfl, rfl, fun t ht => by rw [hl]; exact List.mem_cons_of_mem _ ht⟩
theorem wordR_sub {fin : Int} {want : List UInt8} {s : RS} {w : List UInt8} {s' : RS} (hg : ∀ t ∈ s.l, TokOk t) (h : wordR fin want s = .ok (w, s')) :
    s'.opn = s.opn ∧ s'.sz = s.sz ∧ (∀ t ∈ s'.l, t ∈ s.l) ∧ nameR w = true ∧ (want = [] → reservedR w = false) := by
  unfold wordR at h
  split at h
  · cases h
  · rename_i w' hp
    split at h
    · cases h
    · rename_i hc
      split at h
      · cases h
      · rename_i t s1 ht
        cases h
        obtain ⟨h1, h2, h3⟩ := takeR_sub ht
        refine ⟨h1, h2, h3, ?_, fun hw => ?_⟩
        · cases hl : s.l with
          | nil => rw [hl] at hp; cases hp
          | cons t' r =>
            rw [hl] at hp
            simp only [peekR] at hp
            split at hp
            · rename_i hk
              cases hp
              exact (hg t' (by rw [hl]; exact List.mem_cons_self)).word hk
            · cases hp
        · cases hr : reservedR w with
          | false => rfl
          | true => exact absurd (.inr ⟨hw, hr⟩) hc
theorem namesR_sub {fin : Int} {shut : List UInt8} : ∀ (k : Nat) (s : RS) (n v : Nat) (s' : RS), (∀ t ∈ s.l, TokOk t) → n ≤ 16 → namesR fin shut k s n = .ok (v, s') →
    s'.opn = s.opn ∧ s'.sz = s.sz ∧ (∀ t ∈ s'.l, t ∈ s.l) ∧ v ≤ 16
  | 0, _, _, _, _, _, _, h => by simp [namesR] at h
  | k + 1, s, n, v, s', hg, hn, h => by
    rw [namesR] at h
    split at h
    · split at h
      · cases h
      · rename_i t s1 ht
        cases h
        obtain ⟨h1, h2, h3⟩ := takeR_sub ht
        exact ⟨h1, h2, h3, hn⟩
    · split at h
      · cases h
      · rename_i w s1 hw
        split at h
        · cases h
        · obtain ⟨h1, h2, h3, _⟩ := wordR_sub hg hw
          obtain ⟨q1, q2, q3, q4⟩ := namesR_sub k s1 (n + 1) v s' (fun t ht => hg t (h3 t ht)) (by omega) h
          exact ⟨by rw [q1, h1], by rw [q2, h2], fun t ht => h3 t (q3 t ht), q4⟩
theorem defineR_sound {fin p : Int} {s : RS} {d : DefT} {s' : RS} (hg : ∀ t ∈ s.l, TokOk t) (ho : s.opn = 0) (h : defineR fin p s = .ok (d, s')) : DefOk d ∧ s'.opn = 0 ∧ s'.sz ≤ 1024 ∧ ∀ t ∈ s'.l, t ∈ s.l := by
  unfold defineR at h
  split at h
  · cases h
  · rename_i s1 h1
    obtain ⟨a1, a2, a3, a4, a5, a6⟩ := enterR_sz h1
    split at h
    · cases h
    · rename_i nm s2 h2
      obtain ⟨b1, b2, b3, b4, b5⟩ := wordR_sub (fun t ht => hg t (by rw [← a1]; exact ht)) h2
      have g2 : ∀ t ∈ s2.l, TokOk t := fun t ht => hg t (by rw [← a1]; exact b3 t ht)
      split at h
      · cases h
      · rename_i w3 s3 h3
        obtain ⟨c1, c2, c3, _, _⟩ := wordR_sub g2 h3
        split at h
        · cases h
        · rename_i i s4 h4
          obtain ⟨d1, d2, d3, d4⟩ := namesR_sub _ _ _ _ _ (fun t ht => g2 t (c3 t ht)) (by omega) h4
          split at h
          · cases h
          · rename_i o s5 h5
            obtain ⟨e1, e2, e3, e4⟩ := namesR_sub _ _ _ _ _ (fun t ht => g2 t (c3 t (d3 t ht))) (by omega) h5
            split at h
            · cases h
            · rename_i b s6 h6
              cases h
              have ho5 : s5.opn = 1 := by omega
              have hs5 : s5.sz = 1 := by have := a6 ho; omega
              obtain ⟨ys, e, m⟩ := (parse_sound fin _).2.2.1 _ _ _ _ _ ⟨fun t ht => g2 t (c3 t (d3 t (e3 t ht))), by omega, by omega⟩ (by omega) h6
              rw [List.nil_append] at e
              subst e
              have hop := ((parse_less fin _).2.2.1 _ _ _ _ h6).opn
              have m2 := m.deep; have m3 := m.sz; have m4 := m.left
              dsimp only at hop
              exact ⟨⟨b4, b5 rfl, d4, e4, m.ok, by dsimp only; omega, by dsimp only; omega⟩, by dsimp only; omega, m4, fun t ht => by rw [← a1]; exact b3 t (c3 t (d3 t (e3 t (m.sub t ht))))⟩
theorem formsR_sound {fin : Int} : ∀ (k : Nat) (s : RS) (acc l : List FormT) (s' : RS), (∀ t ∈ s.l, TokOk t) → s.opn = 0 → s.sz ≤ 1024 → (∀ f ∈ acc, FormOk f) → formsR fin k s acc = .ok (l, s') → ∀ f ∈ l, FormOk f
  | 0, _, _, _, _, _, _, _, _, h => by simp [formsR] at h
  | k + 1, s, acc, l, s', hg, ho, hz, ha, h => by
    rw [formsR] at h
    split at h
    · split at h
      · cases h
      · rename_i t s1 ht
        obtain ⟨h1, h2, h3⟩ := takeR_sub ht
        dsimp only at h1 h2 h3
        split at h
        · cases h
        · rename_i d s2 hd
          obtain ⟨q1, q2, q3, q4⟩ := defineR_sound (fun t ht => hg t (h3 t ht)) (by omega) hd
          refine formsR_sound k s2 _ l s' (fun t ht => hg t (h3 t (q4 t ht))) q2 q3 ?_ h
          intro f hf
          rcases List.mem_append.1 hf with hf | hf
          · exact ha f hf
          · rw [List.mem_singleton.1 hf]; exact q1
    · split at h
      · cases h
      · cases h; exact ha
      · rename_i y s1 hi
        have o := (parse_sound fin _).2.1 _ _ _ ⟨hg, by omega, hz⟩ hi
        have hop := ((parse_less fin _).2.1 s _ hi).1.opn
        dsimp only at hop
        refine formsR_sound k s1 _ l s' (fun t ht => hg t (o.sub t ht)) (by omega) o.left ?_ h
        intro f hf
        rcases List.mem_append.1 hf with hf | hf
        · exact ha f hf
        · rw [List.mem_singleton.1 hf]
          have := o.deep
          exact ⟨o.ok, by omega, o.small⟩
theorem parseR_sound (s : List UInt8) : ∀ f ∈ (parseR s).1, FormOk f := by
  unfold parseR readR
  split
  · simp
  · unfold finR
    split
    · simp
    · rename_i x hx
      split
      · simp
      · obtain ⟨l, q⟩ := x
        exact formsR_sound _ _ _ _ _ (tokens_good s) rfl (by dsimp only; omega) (by simp) hx
mutual
theorem ok_clean : ∀ (t : Tree), t.okT = true → t.size ≤ 1099511627776 → t.clean = true
  | .int _, _, _ => rfl
  | .str _, _, _ => rfl
  | .bool _, _, _ => rfl
  | .call _, _, _ => rfl
  | .list l, h, hs => by
    have := sizeAll_len l
    simp only [Tree.size] at hs
    simp only [Tree.clean, Bool.and_eq_true, decide_eq_true_eq]
    exact ⟨by omega, ok_cleanV l h (by omega)⟩
  | .quot l, h, hs => by
    have := sizeAll_len l
    simp only [Tree.size] at hs
    simp only [Tree.clean, Bool.and_eq_true, decide_eq_true_eq]
    exact ⟨by omega, ok_cleanI l h (by omega)⟩
  | .none, h, _ => by simp [Tree.okT] at h
  | .box _, h, _ => by simp [Tree.okT] at h
  | .odd _ _, h, _ => by simp [Tree.okT] at h
theorem ok_cleanV : ∀ (l : List Tree), okVals l = true → sizeAll l ≤ 1099511627776 → cleanAll l = true
  | [], _, _ => rfl
  | t :: r, h, hs => by
    simp only [okVals, Bool.and_eq_true] at h
    simp only [sizeAll] at hs
    simp only [cleanAll, Bool.and_eq_true]
    exact ⟨ok_clean t h.1.1 (by omega), ok_cleanV r h.2 (by omega)⟩
theorem ok_cleanI : ∀ (l : List Tree), okItems l = true → sizeAll l ≤ 1099511627776 → cleanAll l = true
  | [], _, _ => rfl
  | t :: r, h, hs => by
    simp only [okItems, Bool.and_eq_true] at h
    simp only [sizeAll] at hs
    simp only [cleanAll, Bool.and_eq_true]
    exact ⟨ok_clean t h.1 (by omega), ok_cleanI r h.2 (by omega)⟩
end
theorem item_val {t : Tree} (h : t.isCall = false) : itemRV t = valRV t := by
  cases t <;> first | rfl | (simp [Tree.isCall] at h)
mutual
theorem clean_small : ∀ (t : Tree), t.clean = true → (valRV t).small = true
  | .int _, _ => by simp [valRV, RV.small, smallAll]
  | .str _, _ => by simp [valRV, RV.small, smallAll]
  | .bool _, _ => by simp [valRV, RV.small, smallAll]
  | .call _, _ => by simp [valRV, RV.small, smallAll]
  | .none, _ => by simp [valRV, RV.small, smallAll]
  | .box _, _ => by simp [valRV, RV.small, smallAll]
  | .odd _ _, h => by simp [Tree.clean] at h
  | .list l, h => by
    simp only [Tree.clean, Bool.and_eq_true, decide_eq_true_eq] at h
    simp only [valRV, RV.small, Bool.and_eq_true, decide_eq_true_eq, valRVs_length]
    exact ⟨h.1, clean_smallV l h.2⟩
  | .quot l, h => by
    simp only [Tree.clean, Bool.and_eq_true, decide_eq_true_eq] at h
    simp only [valRV, RV.small, Bool.and_eq_true, decide_eq_true_eq, itemRVs_length]
    exact ⟨h.1, clean_smallI l h.2⟩
theorem clean_smallV : ∀ (l : List Tree), cleanAll l = true → smallAll (valRVs l) = true
  | [], _ => by simp [valRVs, smallAll]
  | t :: r, h => by
    simp only [cleanAll, Bool.and_eq_true] at h
    simp only [valRVs, smallAll, Bool.and_eq_true]
    exact ⟨clean_small t h.1, clean_smallV r h.2⟩
theorem clean_smallI : ∀ (l : List Tree), cleanAll l = true → smallAll (itemRVs l) = true
  | [], _ => by simp [itemRVs, smallAll]
  | t :: r, h => by
    simp only [cleanAll, Bool.and_eq_true] at h
    rw [itemRVs_cons]
    simp only [smallAll, Bool.and_eq_true]
    refine ⟨?_, clean_smallI r h.2⟩
    cases hc : t.isCall with
    | false => rw [item_val hc]; exact clean_small t h.1
    | true => cases t <;> first | (simp [itemRV, RV.small, smallAll]; done) | (simp [Tree.isCall] at hc)
end
theorem small_item {t : Tree} (h : t.clean = true) : (itemRV t).small = true := by
  cases hc : t.isCall with
  | false => rw [item_val hc]; exact clean_small t h
  | true => cases t <;> first | (simp [itemRV, RV.small, smallAll]; done) | (simp [Tree.isCall] at hc)
theorem form_clean {f : FormT} (h : FormOk f) : f.clean = true := by
  cases f with
  | define d =>
    have h : DefOk d := h
    have h1 := h.size
    have := sizeAll_len d.body
    simp only [FormT.clean, Bool.and_eq_true, decide_eq_true_eq]
    exact ⟨ok_cleanI _ h.body (by omega), by omega⟩
  | item t =>
    have h : ItOk t := h
    have h1 := h.size
    simp only [FormT.clean, Bool.and_eq_true]
    refine ⟨ok_clean t h.ok (by omega), ?_⟩
    have := h.ok
    cases t <;> first | rfl | (simp [Tree.okT] at this)
theorem form_small {f : FormT} (h : FormOk f) : (formRV f).small = true := by
  cases f with
  | define d =>
    have h : DefOk d := h
    have h1 := h.size
    have := sizeAll_len d.body
    simp only [formRV, defRV, RForm.small, Bool.and_eq_true, decide_eq_true_eq, itemRVs_length]
    exact ⟨clean_smallI _ (ok_cleanI _ h.body (by omega)), by omega⟩
  | item t =>
    have h : ItOk t := h
    have h1 := h.size
    exact small_item (ok_clean t h.ok (by omega))
end Go.Proofs.YtbmplclnondfnaaDoor

namespace Go.Proofs.YtbmplclnondfnaaDoor
open Go Go.Av
/-- Where the tokens of both are too many. -/
theorem toks_many (n d : Nat) : ∀ (m : Nat) (l : List UInt8) (out pre : List Tok), l.length ≤ m → l.length ≤ n → (toks n l out).2.2 = 0 → pre.length + out.length ≤ 4096 → 4096 < pre.length + (toks n l out).1.length →
    (toks (d + n) l (pre ++ out.map (Tok.shift d))).2.2 = 11 := by
  intro m
  induction m with
  | zero =>
    intro l out pre hm hn h ho hc
    obtain rfl : l = [] := List.length_eq_zero_iff.1 (by omega)
    rw [toks_step, if_pos rfl] at hc
    dsimp only at hc
    omega
  | succ m ih =>
    intro l out pre hm hn h ho hc
    rw [toks_step] at h hc ⊢
    by_cases e : l = []
    · rw [if_pos e] at hc; dsimp only at hc; omega
    · rw [if_neg e] at h hc ⊢
      have hl := trimL_le l
      rw [tokAt_shift n d (trimL l) (by omega)]
      cases hs : tokAt n (trimL l) with
      | stop => rw [hs] at hc; dsimp only at hc; omega
      | bad p e' => rw [hs] at hc; dsimp only at hc; simp at hc; omega
      | skip l' =>
        rw [hs] at h hc
        have := (tokAt_less (.inl hs)).1
        exact ih l' out pre (by omega) (by omega) h ho hc
      | tok t l' =>
        rw [hs] at h hc
        have := (tokAt_less (.inr ⟨t, hs⟩)).1
        dsimp only [stepShift] at h hc ⊢
        by_cases hb : out.length ≥ 4096
        · rw [if_pos hb] at h; simp at h
        · rw [if_neg hb] at h hc
          by_cases hb2 : (pre ++ out.map (Tok.shift d)).length ≥ 4096
          · rw [if_pos hb2]
          · rw [if_neg hb2]
            have := ih l' (out ++ [t]) pre (by omega) (by omega) h (by simp at hb2 ⊢; omega) hc
            simpa using this
theorem tokens_many {s t : List UInt8} (hs : (tokensR s).2.2 = 0) (ht : (tokensR t).2.2 = 0) (hlen : s.length + t.length < 65536) (hcnt : 4096 < (tokensR s).1.length + (tokensR t).1.length) :
    (tokensR (s ++ 10 :: t)).2.2 = 11 := by
  have h4 := (tokens_ok s hs).2.2.1
  unfold tokensR at hs ht hcnt h4 ⊢
  rw [if_neg (by omega)] at hs ht h4
  rw [if_neg (show ¬ s.length > 65536 by omega), if_neg (show ¬ t.length > 65536 by omega)] at hcnt
  rw [if_neg (by simp; omega)]
  cases f1 : faultR s with
  | some i => rw [f1] at hs; simp at hs
  | none =>
    cases f2 : faultR t with
    | some i => rw [f2] at ht; simp at ht
    | none =>
      rw [f1] at hs hcnt h4
      rw [f2] at ht hcnt
      rw [(faultR_app s 10 t (by decide)).2 ⟨f1, f2⟩]
      dsimp only at hs ht hcnt h4 ⊢
      have h1 := toks_join s.length t s.length s [] (Nat.le_refl _) (Nat.le_refl _) hs
      rw [show (s ++ 10 :: t).length = s.length + 1 + t.length by simp; omega, h1]
      have h2 := toks_many t.length (s.length + 1) t.length t [] (toks s.length s []).1 (Nat.le_refl _) (Nat.le_refl _) ht (by simpa using h4) hcnt
      simpa using h2
theorem parse_ok {s : List UInt8} (h : (parseR s).2.2 = 0) : (tokensR s).2.2 = 0 ∧ ∃ q : RS, q.l = [] ∧ formsR s.length ((tokensR s).1.length + 1) ⟨(tokensR s).1, 0, 0⟩ [] = .ok ((parseR s).1, q) := by
  unfold parseR readR at h ⊢
  by_cases ht : (tokensR s).2.2 ≠ 0
  · rw [if_pos ht] at h; exact absurd h ht
  · rw [if_neg ht] at h ⊢
    refine ⟨by simpa using ht, ?_⟩
    dsimp only at h ⊢
    cases hf : formsR s.length ((tokensR s).1.length + 1) ⟨(tokensR s).1, 0, 0⟩ [] with
    | error e => rw [hf] at h; exact absurd h (formsR_err hf)
    | ok x =>
      obtain ⟨l, q⟩ := x
      rw [hf] at h
      unfold finR at h ⊢
      dsimp only at h ⊢
      by_cases hl : q.l ≠ []
      · rw [if_pos hl] at h; simp at h
      · rw [if_neg hl]; exact ⟨q, by simpa using hl, rfl⟩
theorem formsR_len {fin : Int} : ∀ (k : Nat) (s : RS) (acc l : List FormT) (s' : RS), formsR fin k s acc = .ok (l, s') → l.length ≤ acc.length + s.l.length
  | 0, _, _, _, _, h => by simp [formsR] at h
  | k + 1, s, acc, l, s', h => by
    rw [formsR] at h
    split at h
    · split at h
      · cases h
      · rename_i t s1 ht
        split at h
        · cases h
        · rename_i d s2 hd
          have h1 := (takeR_ok ht).1.lt trivial
          have h2 := (defineR_less hd).le
          dsimp only at h1 h2
          have := formsR_len k s2 _ l s' h
          simp at this
          omega
    · split at h
      · cases h
      · cases h; omega
      · rename_i y s1 hi
        have h1 := ((parse_less fin _).2.1 s _ hi).1.lt (by simp)
        dsimp only at h1
        have := formsR_len k s1 _ l s' h
        simp at this
        omega
theorem parseR_len (s : List UInt8) : (parseR s).1.length ≤ 4096 := by
  by_cases h : (parseR s).2.2 = 0
  · obtain ⟨ht, q, hq, hf⟩ := parse_ok h
    have := formsR_len _ _ _ _ _ hf
    have h2 := (tokens_ok s ht).2.2.1
    simp at this
    omega
  · unfold parseR readR at h ⊢
    split
    · simp
    · rename_i ht
      rw [if_neg ht] at h
      unfold finR at h ⊢
      split
      · simp
      · rename_i x hx
        rw [hx] at h
        dsimp only at h
        split
        · simp
        · rename_i hl; rw [if_neg hl] at h; exact absurd rfl h
theorem parse_err0 {s : List UInt8} (h : (parseR s).2.2 ≠ 0) : (parseR s).1 = [] := by
  unfold parseR readR at h ⊢
  split
  · rfl
  · rename_i ht
    rw [if_neg ht] at h
    unfold finR at h ⊢
    split
    · rfl
    · rename_i x hx
      rw [hx] at h
      dsimp only at h
      split
      · rfl
      · rename_i hl; rw [if_neg hl] at h; exact absurd rfl h
theorem parse_join {s t : List UInt8} (hs : (parseR s).2.2 = 0) (ht : (parseR t).2.2 = 0) :
    parseR (s ++ 10 :: t) = ((parseR s).1 ++ (parseR t).1, 0, 0) ∨ ((parseR (s ++ 10 :: t)).2.2 = 11 ∧ (65536 ≤ s.length + t.length ∨ 4096 < (tokensR s).1.length + (tokensR t).1.length)) := by
  obtain ⟨ts, q1, l1, f1⟩ := parse_ok hs
  obtain ⟨tt, q2, l2, f2⟩ := parse_ok ht
  generalize (parseR s).1 = A at f1 ⊢
  generalize (parseR t).1 = B at f2 ⊢
  by_cases hlen : 65536 ≤ s.length + t.length
  · right
    refine ⟨?_, .inl hlen⟩
    unfold parseR readR tokensR
    rw [if_pos (show (s ++ 10 :: t).length > 65536 by simp; omega)]
    rfl
  by_cases hcnt : 4096 < (tokensR s).1.length + (tokensR t).1.length
  · right
    refine ⟨?_, .inr hcnt⟩
    have := tokens_many ts tt (by omega) hcnt
    unfold parseR readR
    rw [if_pos (by omega)]
    exact this
  left
  have hj := tokens_join ts tt (by omega) (by omega)
  unfold parseR readR
  rw [hj, if_neg (by simp)]
  dsimp only
  have a1 : Alike (fun t => t) := fun t => ⟨rfl, rfl, rfl⟩
  have a2 : Alike (Tok.shift (s.length + 1)) := fun t => ⟨rfl, rfl, rfl⟩
  obtain ⟨p1, k2, z, e1, hk2, hall⟩ := forms_more (fin' := (s ++ 10 :: t).length) a1 ((tokensR s).1.length + 1) (((tokensR s).1 ++ (tokensR t).1.map (Tok.shift (s.length + 1))).length + 1) ⟨(tokensR s).1, 0, 0⟩
    ⟨(tokensR s).1 ++ (tokensR t).1.map (Tok.shift (s.length + 1)), 0, 0⟩ [] A q1 (r := (tokensR t).1.map (Tok.shift (s.length + 1))) ⟨by simp, rfl, .inl rfl⟩ rfl (by simp) f1 l1
  rw [hall]
  obtain ⟨p2, k3, z2, e2, hk3, hall2⟩ := forms_more (fin' := (s ++ 10 :: t).length) a2 ((tokensR t).1.length + 1) k2 ⟨(tokensR t).1, 0, 0⟩
    ⟨(tokensR t).1.map (Tok.shift (s.length + 1)), 0, z⟩ [] B q2 (r := []) ⟨by simp, rfl, .inl rfl⟩ rfl (by simp at hk2 ⊢; omega) f2 l2
  rw [hall2]
  rw [List.nil_append] at e1 e2
  subst e1 e2
  obtain ⟨k3, rfl⟩ : ∃ j, k3 = j + 1 := ⟨k3 - 1, by simp at hk3; omega⟩
  rw [forms_nil _ _ _ rfl, List.nil_append]
  rfl
end Go.Proofs.YtbmplclnondfnaaDoor

namespace Go.Proofs.YtbmplclnondfnaaDoor
open Go Go.Av
set_option maxHeartbeats 1600000 in
theorem f_Parse1 (fin b bl : Nat) (s : RS) (hs : RsOk s) : ACalls Tryd.prog 21 [.ptr b 0, .ptr bl 0] [rbox fin b s, (bl, .box [.nils])] (WhatR fin b (formsR fin (s.l.length + 1) s []) (FormsSt bl)) := by
  obtain ⟨R, hR⟩ : ∃ R, R = formsR fin (s.l.length + 1) s [] := ⟨_, rfl⟩
  rw [← hR]
  refine ACalls.of_W tb_ok (fn := Tryd.f21) (n := 38) (by kernel_rfl) rfl (by kernel_rfl) rfl rfl (by simp) (go ?_)
  refine VLoop.mk [] FoI (fun i => []) (fun i => rbox fin b i.s :: (bl, .box [accV i.o i.acc.length]) :: accS i.o 6 (formsC i.acc))
    (fun i => R = formsR fin i.k i.s i.acc ∧ i.s.l.length < i.k ∧ RsOk i.s ∧ (i.o = none → i.acc = []) ∧ i.acc.length + i.s.l.length ≤ 4096) (fun i => i.k) ⟨s.l.length + 1, s, [], none⟩ ?_ ?_
  · exact ⟨⟨hR, by simp, hs, by simp, by have := hs.cnt; simp; omega⟩, rfl, .cons 0 rfl (.cons 0 rfl .nil)⟩
  clear hR
  rintro ⟨j, q, acc, o⟩ ⟨hI, hq, hqs, ho, hac⟩
  dsimp only at hI hq hqs ho hac ⊢
  obtain ⟨j, rfl⟩ : ∃ m, j = m + 1 := ⟨j - 1, by omega⟩
  rw [formsR] at hI
  refine go ?_
  refine (f_peek fin b q).use (.refl _) ?_
  cases hpk : peekR q.l with
  | none =>
    rw [hpk, if_neg (by simp)] at hI
    refine go ?_
    refine (f_item fin b q hqs).use (.refl _) ?_
    cases hlr : itemR fin (fuel q) q with
    | error e =>
      rw [hlr] at hI
      dsimp only at hI
      subst hI
      refine go ?_
      exact VRet.mk [] .nil ⟨rfl, rfl⟩
    | ok x =>
      obtain ⟨y, q'⟩ := x
      rw [hlr] at hI
      obtain ⟨hls, hsame⟩ := (parse_less fin _).2.1 _ _ hlr
      cases y with
      | none =>
        dsimp only at hI
        subst hI
        refine go ?_
        exact VRet.mk (rbox fin b q' :: (bl, .box [accV o acc.length]) :: accS o 6 (formsC acc)) (VSel.refl _) ⟨rfl, _, rfl, o, rfl, ho⟩
      | some y =>
        dsimp only at hI
        have hlt := hls.lt (by simp)
        have hop := hls.opn
        dsimp only at hlt hop
        refine go ?_
        cases o with
        | none =>
          have hacc := ho rfl
          subst hacc
          refine go ?_
          refine VOne.mk (itemAV_one y) (go ?_)
          refine VAll.mk (fun b2 => go ?_)
          refine ⟨⟨j, q', [.item y], some b2⟩, ⟨hI, by dsimp only; omega, ⟨by rw [hop]; exact hqs.opn, hls.sz hqs.sz, by have := hqs.cnt; dsimp only; omega⟩, by simp, by simp at hac ⊢; omega⟩, by dsimp only; omega, rfl, ?_⟩
          exact .cons 1 rfl (.cons 1 rfl (.cons 0 rfl .nil))
        | some bo =>
          refine go ?_
          refine VOne.mk (itemAV_one y) (go ?_)
          refine VGd.mk (by simp; omega) (go ?_)
          refine VAll.mk (fun b2 => go ?_)
          refine ⟨⟨j, q', acc ++ [.item y], some b2⟩, ⟨hI, by dsimp only; omega, ⟨by rw [hop]; exact hqs.opn, hls.sz hqs.sz, by have := hqs.cnt; dsimp only; omega⟩, by simp, by simp at hac ⊢; omega⟩, by dsimp only; omega, rfl, ?_⟩
          exact .cons 1 rfl (.cons 1 (by simp [accV]) (.cons 0 (by rw [formsC_snoc, mulN_eq, take_formsC]; rfl) .nil))
  | some w =>
    rw [hpk] at hI
    refine go ?_
    refine fork (fun hw => go ?_) (fun hw => go ?_)
    · rw [if_pos (by rw [hw])] at hI
      obtain ⟨t, r, hl⟩ : ∃ t r, q.l = t :: r := by
        cases hql : q.l with
        | nil => rw [hql] at hpk; cases hpk
        | cons t r => exact ⟨t, r, rfl⟩
      have htk : takeR fin q = .ok (t, ⟨r, q.opn, q.sz⟩) := by unfold takeR; rw [hl]
      have ht := f_take fin b q
      rw [htk] at ht hI
      dsimp only at hI
      rw [hl, List.length_cons] at hac hq
      have hq1 : RsOk ⟨r, q.opn, q.sz⟩ := ⟨hqs.opn, hqs.sz, by dsimp only; omega⟩
      have hd := f_define fin b t.pos ⟨r, q.opn, q.sz⟩ hq1
      refine VDraw.all (go ?_)
      cases hdr : defineR fin t.pos ⟨r, q.opn, q.sz⟩ with
      | error e =>
        rw [hdr] at hd hI
        dsimp only at hI
        subst hI
        refine VAny.mk Empty [] (fun _ => []) (fun _ => []) ?_ fun i => nomatch i
        repeat' ((conv => whnf); first | refine VAnd.mk ?_ ?_ | exact VRet.mk [] .nil ⟨rfl, rfl⟩ | refine ht.use (.refl _) ?_ | refine hd.use (.refl _) ?_ | refine VOne.mk rfl ?_ | refine VObj.mk 1 _ rfl ?_ | refine VNth.mk _ rfl ?_ | refine VFz.nil ?_ | refine VFz.keep ?_)
      | ok x =>
        obtain ⟨d, s2⟩ := x
        rw [hdr] at hd hI
        dsimp only at hI
        have hls := defineR_less hdr
        have hlt := hls.lt trivial
        have hop := hls.opn
        dsimp only at hlt hop
        cases o with
        | none =>
          have hacc := ho rfl
          subst hacc
          refine VAny.mk Nat [] (fun _ => []) (fun i => [rbox fin b s2, (bl, .box [.own i 1]), (i, .arr 6 (FormT.define d).cells 0)]) ?_ fun b2 => ?_
          · repeat' ((conv => whnf); first | refine VAnd.mk ?_ ?_ | exact Exists.intro _ (And.intro rfl (.cons 1 rfl (.cons 1 rfl (.cons 0 rfl .nil)))) | refine ht.use (.refl _) ?_ | refine hd.use (.refl _) ?_ | refine VAll.mk (fun b2 => ?_) | refine VOne.mk rfl ?_ | refine VObj.mk 1 _ rfl ?_ | refine VObj.mk 2 _ rfl ?_ | refine VNth.mk _ rfl ?_ | refine VIf.ff ?_ | refine VGd.mk rfl ?_ | refine VGd.mk (by decide) ?_ | refine VGd.mk (by simp; omega) ?_ | refine VFz.nil ?_ | refine VFz.keep ?_ | refine VTake.mk _ rfl rfl ?_)
          · refine go ?_
            exact ⟨⟨j, s2, [.define d], some b2⟩, ⟨hI, by dsimp only; omega, ⟨by rw [hop]; exact hqs.opn, hls.sz hqs.sz, by dsimp only; omega⟩, by simp, by simp at hac ⊢; omega⟩, by dsimp only; omega, rfl, .cons 0 rfl (.cons 0 rfl (.cons 0 (by simp [formsC]) .nil))⟩
        | some bo =>
          refine VAny.mk Nat [] (fun _ => []) (fun i => [rbox fin b s2, (bl, .box [.own i (acc.length + 1)]), (i, .arr 6 (List.take (acc.length * 6) (formsC acc) ++ (FormT.define d).cells) 0)]) ?_ fun b2 => ?_
          · repeat' ((conv => whnf); first | refine VAnd.mk ?_ ?_ | exact Exists.intro _ (And.intro rfl (.cons 1 rfl (.cons 1 rfl (.cons 0 rfl .nil)))) | refine ht.use (.refl _) ?_ | refine hd.use (.refl _) ?_ | refine VAll.mk (fun b2 => ?_) | refine VOne.mk rfl ?_ | refine VObj.mk 1 _ rfl ?_ | refine VObj.mk 2 _ rfl ?_ | refine VNth.mk _ rfl ?_ | refine VIf.ff ?_ | refine VGd.mk rfl ?_ | refine VGd.mk (by decide) ?_ | refine VGd.mk (by simp; omega) ?_ | refine VFz.nil ?_ | refine VFz.keep ?_ | refine VTake.mk _ rfl rfl ?_)
          · refine go ?_
            refine ⟨⟨j, s2, acc ++ [.define d], some b2⟩, ⟨hI, by dsimp only; omega, ⟨by rw [hop]; exact hqs.opn, hls.sz hqs.sz, by dsimp only; omega⟩, by simp, by simp at hac ⊢; omega⟩, by dsimp only; omega, rfl, .cons 0 rfl (.cons 0 (by simp [accV]) (.cons 0 (by rw [take_formsC, ← formsC_snoc]; rfl) .nil))⟩
    · rw [if_neg (by simpa using hw)] at hI
      refine (f_item fin b q hqs).use (.refl _) ?_
      cases hlr : itemR fin (fuel q) q with
      | error e =>
        rw [hlr] at hI
        dsimp only at hI
        subst hI
        refine go ?_
        exact VRet.mk [] .nil ⟨rfl, rfl⟩
      | ok x =>
        obtain ⟨y, q'⟩ := x
        rw [hlr] at hI
        obtain ⟨hls, hsame⟩ := (parse_less fin _).2.1 _ _ hlr
        cases y with
        | none =>
          dsimp only at hI
          subst hI
          refine go ?_
          exact VRet.mk (rbox fin b q' :: (bl, .box [accV o acc.length]) :: accS o 6 (formsC acc)) (VSel.refl _) ⟨rfl, _, rfl, o, rfl, ho⟩
        | some y =>
          dsimp only at hI
          have hlt := hls.lt (by simp)
          have hop := hls.opn
          dsimp only at hlt hop
          refine go ?_
          cases o with
          | none =>
            have hacc := ho rfl
            subst hacc
            refine go ?_
            refine VOne.mk (itemAV_one y) (go ?_)
            refine VAll.mk (fun b2 => go ?_)
            refine ⟨⟨j, q', [.item y], some b2⟩, ⟨hI, by dsimp only; omega, ⟨by rw [hop]; exact hqs.opn, hls.sz hqs.sz, by have := hqs.cnt; dsimp only; omega⟩, by simp, by simp at hac ⊢; omega⟩, by dsimp only; omega, rfl, ?_⟩
            exact .cons 1 rfl (.cons 1 rfl (.cons 0 rfl .nil))
          | some bo =>
            refine go ?_
            refine VOne.mk (itemAV_one y) (go ?_)
            refine VGd.mk (by simp; omega) (go ?_)
            refine VAll.mk (fun b2 => go ?_)
            refine ⟨⟨j, q', acc ++ [.item y], some b2⟩, ⟨hI, by dsimp only; omega, ⟨by rw [hop]; exact hqs.opn, hls.sz hqs.sz, by have := hqs.cnt; dsimp only; omega⟩, by simp, by simp at hac ⊢; omega⟩, by dsimp only; omega, rfl, ?_⟩
            exact .cons 1 rfl (.cons 1 (by simp [accV]) (.cons 0 (by rw [formsC_snoc, mulN_eq, take_formsC]; rfl) .nil))
end Go.Proofs.YtbmplclnondfnaaDoor

namespace Go.Proofs.YtbmplclnondfnaaDoor
open Go Go.Av
set_option maxHeartbeats 800000 in
theorem f_Parse (s : List UInt8) (hsl : s.length ≤ 140737488351232) : Av.Fn Tryd.prog 8 [.str s] (.tup [.fz (formsC (parseR s).1) (parseR s).1.length false, .int .i64 (parseR s).2.1, .int .i64 (parseR s).2.2]) := by
  refine ACalls.of_W tb_ok (fn := Tryd.f8) (n := 19) (by kernel_rfl) rfl (by kernel_rfl) rfl rfl (by simp) (go ?_)
  refine VAll.mk (fun bl => go ?_)
  have hr := f_read (α := List FormT) s 21 [.ptr bl 0] [(bl, .box [.nils])] (fun r => formsR s.length (r.l.length + 1) r []) (FormsSt bl) hsl (fun b h => f_Parse1 s.length b bl _ (start_ok s h (tokens_ok s h).2.2.1))
  refine ACalls.use (R := []) hr (.refl _) ?_
  intro out s' hq
  unfold ReadR at hq
  by_cases he : (tokensR s).2.2 ≠ 0
  · rw [if_pos he] at hq
    have hI : parseR s = ([], (tokensR s).2.1, (tokensR s).2.2) := by rw [parseR, readR, if_pos he]
    obtain ⟨rfl, rfl⟩ := hq
    refine go ?_
    refine VIf.yes (by simpa using he) (go ?_)
    refine VRet.mk [] .nil ?_
    rw [hI]; exact ⟨rfl, rfl⟩
  · rw [if_neg he] at hq
    dsimp only at hq
    have hI : parseR s = finR s.length (formsR s.length ((tokensR s).1.length + 1) ⟨(tokensR s).1, 0, 0⟩ []) := by rw [parseR, readR, if_neg he]
    cases hw : formsR s.length ((tokensR s).1.length + 1) ⟨(tokensR s).1, 0, 0⟩ [] with
    | error e =>
      rw [hw] at hq hI
      obtain ⟨rfl, rfl⟩ := hq
      refine go ?_
      have hne : e.2 ≠ 0 := formsR_err hw
      refine VIf.yes (by simpa using hne) (go ?_)
      refine VRet.mk [] .nil ?_
      rw [hI]; exact ⟨rfl, rfl⟩
    | ok x =>
      obtain ⟨l, q⟩ := x
      rw [hw] at hq hI
      unfold finR at hI
      dsimp only at hq hI
      by_cases hl : q.l ≠ []
      · rw [if_pos hl] at hq hI
        obtain ⟨rfl, rfl⟩ := hq
        refine go ?_
        refine VRet.mk [] .nil ?_
        rw [hI]; exact ⟨rfl, rfl⟩
      · rw [if_neg hl] at hq hI
        obtain ⟨rfl, o, rfl, ho⟩ := hq
        cases o with
        | none =>
          have ho := ho rfl
          subst ho
          refine go ?_
          refine VRet.mk [] .nil ?_
          rw [hI]; exact ⟨by simp [formsC], rfl⟩
        | some bo =>
          refine go ?_
          refine VRet.mk [] .nil ?_
          rw [hI]; exact ⟨by simp [List.take_of_length_le], rfl⟩
theorem items_7 : itemsOnlyR [55] = ([.int 7], 0, 0) := by rfl
theorem f_awake07 : Av.Fn Tryd.prog 7 [] (.bool true) := by
  have h := f_ItemsAll [55] (by simp)
  rw [items_7] at h
  refine ACalls.of_W tb_ok (fn := Tryd.f7) (n := 16) (by kernel_rfl) rfl (by kernel_rfl) rfl rfl (by simp) (go ?_)
  refine Fn.use (h) (go ?_)
  refine VRet.mk [] .nil ?_
  exact ⟨rfl, rfl⟩
end Go.Proofs.YtbmplclnondfnaaDoor

namespace Go.Proofs.YtbmplclnondfnaaDoor
open Go Go.Av
structure StrI where
  i : Nat
  q : Nat
  x : List UInt8
  acc : List UInt8
theorem chC_n {l : List Ch} {i : Nat} {x : Ch} (h : l[i]? = some x) : ((chC l).drop (i * 4))[0]? = some (.int .i32 x.r) ∧ ((chC l).drop (i * 4))[1]? = some (.int .i64 x.a) ∧ ((chC l).drop (i * 4))[2]? = some (.int .i64 x.z) := by
  have e1 := chC_at (r := []) h
  rw [List.append_nil] at e1
  refine ⟨?_, ?_, ?_⟩
  · have := congrArg (·[0]?) e1
    simpa [List.getElem?_take, Ch.cells] using this
  · have := congrArg (·[1]?) e1
    simpa [List.getElem?_take, Ch.cells] using this
  · have := congrArg (·[2]?) e1
    simpa [List.getElem?_take, Ch.cells] using this
theorem drop_cons {s : List UInt8} {q : Nat} (hq : q < s.length) : ∃ c, s.drop q = c :: s.drop (q + 1) := ⟨_, drop_getD hq⟩
theorem enc_le (r : Nat) : (Utf8.encode (r : Int)).data.toList.length ≤ 4 := by
  have := enc_len r
  unfold encN at this
  rw [this]
  repeat' split
  all_goals omega
theorem f_str (s : List UInt8) (hl : s.length ≤ 65536) (hf : faultR s = none) {k p : Nat} (pl : PlaceC s k p) (pl1 : PlaceC s (k + 1) (p + 1)) {y : List UInt8} {nx : Int} (ht : textL p (s.drop (p + 1)) [] (p + 1) = (y, nx, 0)) :
    Av.ACalls Tryd.prog 28 [.fz (chC (charsR s)) (charsR s).length false, .int .i64 k] [] (fun out st => ∃ x k' p', PlaceC s k' p' ∧ nx = (p' : Nat) ∧ out = .ret (.tup [.str x, .int .i64 (k' : Nat), .int .i64 0]) ∧ st = []) := by
  have hp : p < s.length := by have := pl1.le; omega
  have hlen := charsR_len s
  have hk := pl.lt.2 hp
  have hat := (pl.at hp).1
  have n0 := chC_n hat
  refine ACalls.of_W tb_ok (fn := Tryd.f28) (n := 103) (by kernel_rfl) rfl (by kernel_rfl) rfl rfl (by simp) (go ?_)
  refine VNth.mk (.int .i64 p) (by simpa using n0.2.1) (go ?_)
  refine VLoop.mk [9, 7] StrI (fun i => [.int .i64 i.i, .str i.x]) (fun _ => []) (fun i => PlaceC s i.i i.q ∧ i.x.length = i.acc.length ∧ i.acc.length ≤ i.q ∧ textL p (s.drop i.q) i.acc i.q = (y, nx, 0)) (fun i => s.length - i.q) ⟨k + 1, p + 1, [], []⟩ ?_ ?_
  · exact ⟨⟨pl1, rfl, Nat.zero_le _, ht⟩, rfl, .nil⟩
  rintro ⟨i, q, x, acc⟩ ⟨hI, hx, hxq, hT⟩
  dsimp only at hI hx hxq hT ⊢
  refine go ?_
  refine fork (fun hlt => go ?_) (fun hlt => go ?_)
  · have hlt : i < (charsR s).length := by omega
    have hq := hI.lt.1 hlt
    have hne : s.drop q ≠ [] := by simp; omega
    obtain ⟨c1, pl2⟩ := hI.at hq
    have hbad := hI.good hf
    have hb := hbad (dec (s.drop q)) (by rw [runes_cons hne]; exact List.mem_cons_self)
    have henc := dec_enc hne hb
    have hd := dec_pos _ hne
    rw [List.length_drop] at hd
    have m0 := chC_n c1
    refine VNth.mk (.int .i32 (dec (s.drop q)).1) (by simpa using m0.1) (go ?_)
    obtain ⟨c, hc⟩ := drop_cons hq
    have lowc : ∀ v, v < 128 → ((dec (s.drop q)).1 = v ↔ c.toNat = v) := fun v hv => by rw [hc]; exact dec_low c _ v hv
    have one : ∀ v, v < 128 → (dec (s.drop q)).1 = v → (dec (s.drop q)).2 = 1 := fun v hv h => by
      have := (lowc v hv).1 h
      rw [hc, dec_ascii c _ (by omega)]
    refine fork (fun h1 => go ?_) (fun h1 => go ?_)
    · have h1 : (dec (s.drop q)).1 = 34 := by omega
      have hc34 : c = 34 := by rw [← UInt8.toNat_inj]; exact (lowc 34 (by omega)).1 h1
      rw [hc, textL_cons, if_pos hc34] at hT
      rw [one 34 (by omega) h1] at pl2
      refine fork (fun h2 => go ?_) (fun h2 => go ?_)
      · rw [if_pos (by omega)] at hT; simp at hT
      · rw [if_neg (by omega)] at hT
        refine VRet.mk [] .nil ?_
        simp only [Prod.mk.injEq, and_true] at hT
        exact ⟨x, i + 1, q + 1, pl2, by omega, by simp, rfl⟩
    refine fork (fun h2 => go ?_) (fun h2 => go ?_)
    · have h2 : (dec (s.drop q)).1 = 92 := by omega
      have hc92 : c = 92 := by rw [← UInt8.toNat_inj]; exact (lowc 92 (by omega)).1 h2
      rw [hc, textL_cons, if_neg (by rw [hc92]; decide), if_pos hc92] at hT
      rw [one 92 (by omega) h2] at pl2
      refine fork (fun h3 => go ?_) (fun h3 => go ?_)
      · have : ¬ q + 1 < s.length := fun h => by have := pl2.lt.2 h; omega
        rw [List.drop_eq_nil_of_le (by omega)] at hT
        simp at hT
      · have hq1 : q + 1 < s.length := pl2.lt.1 (by omega)
        obtain ⟨d, hd1⟩ := drop_cons hq1
        have hne1 : s.drop (q + 1) ≠ [] := by simp; omega
        obtain ⟨c2, pl3⟩ := pl2.at hq1
        have m1 := chC_n c2
        have lowd : ∀ v, v < 128 → ((dec (s.drop (q + 1))).1 = v ↔ d.toNat = v) := fun v hv => by rw [hd1]; exact dec_low d _ v hv
        have oned : ∀ v, v < 128 → (dec (s.drop (q + 1))).1 = v → (dec (s.drop (q + 1))).2 = 1 := fun v hv h => by
          have := (lowd v hv).1 h
          rw [hd1, dec_ascii d _ (by omega)]
        rw [hd1] at hT
        dsimp only at hT
        refine VNth.mk (.int .i32 (dec (s.drop (q + 1))).1) (by simpa using m1.1) (go ?_)
        refine fork (fun g1 => go ?_) (fun g1 => go ?_)
        · refine VNth.mk (.int .i32 (dec (s.drop (q + 1))).1) (by simpa using m1.1) (go ?_)
          refine fork (fun g2 => go ?_) (fun g2 => go ?_)
          · refine VNth.mk (.int .i32 (dec (s.drop (q + 1))).1) (by simpa using m1.1) (go ?_)
            refine fork (fun g3 => go ?_) (fun g3 => go ?_)
            · have e1 : ¬ d = 110 := fun e => g1 (by have := (lowd 110 (by omega)).2 (by rw [e]; rfl); omega)
              have e2 : ¬ d = 34 := fun e => g2 (by have := (lowd 34 (by omega)).2 (by rw [e]; rfl); omega)
              have e3 : ¬ d = 92 := fun e => g3 (by have := (lowd 92 (by omega)).2 (by rw [e]; rfl); omega)
              rw [show esc d = none by unfold esc; rw [if_neg e1, if_neg e2, if_neg e3]] at hT
              simp at hT
            · have hr : (dec (s.drop (q + 1))).1 = 92 := by omega
              have hdv : d = 92 := by rw [← UInt8.toNat_inj]; exact (lowd 92 (by omega)).1 hr
              rw [hdv, show esc 92 = some 92 from rfl] at hT
              dsimp only at hT
              rw [oned 92 (by omega) hr] at pl3
              refine VNth.mk (.int .i32 (dec (s.drop (q + 1))).1) (by simpa using m1.1) (go ?_)
              refine VIf.no (by simp [hr]) (go ?_)
              refine VNth.mk (.int .i32 (dec (s.drop (q + 1))).1) (by simpa using m1.1) (go ?_)
              have hel := enc_le (dec (s.drop (q + 1))).1
              refine VGd.mk (show _ ≤ _ by omega) (go ?_)
              refine ⟨⟨i + 1 + 1, q + 2, x ++ (Utf8.encode ((dec (s.drop (q + 1))).1 : Int)).data.toList, acc ++ [92]⟩, ⟨pl3, ?_, ?_, hT⟩, ?_, rfl, .nil⟩
              · rw [hr, List.length_append, List.length_append, hx]; rfl
              · simp; omega
              · dsimp only; omega
          · have hr : (dec (s.drop (q + 1))).1 = 34 := by omega
            have hdv : d = 34 := by rw [← UInt8.toNat_inj]; exact (lowd 34 (by omega)).1 hr
            rw [hdv, show esc 34 = some 34 from rfl] at hT
            dsimp only at hT
            rw [oned 34 (by omega) hr] at pl3
            refine VNth.mk (.int .i32 (dec (s.drop (q + 1))).1) (by simpa using m1.1) (go ?_)
            refine VIf.no (by simp [hr]) (go ?_)
            refine VNth.mk (.int .i32 (dec (s.drop (q + 1))).1) (by simpa using m1.1) (go ?_)
            have hel := enc_le (dec (s.drop (q + 1))).1
            refine VGd.mk (show _ ≤ _ by omega) (go ?_)
            refine ⟨⟨i + 1 + 1, q + 2, x ++ (Utf8.encode ((dec (s.drop (q + 1))).1 : Int)).data.toList, acc ++ [34]⟩, ⟨pl3, ?_, ?_, hT⟩, ?_, rfl, .nil⟩
            · rw [hr, List.length_append, List.length_append, hx]; rfl
            · simp; omega
            · dsimp only; omega
        · have hr : (dec (s.drop (q + 1))).1 = 110 := by omega
          have hd110 : d = 110 := by rw [← UInt8.toNat_inj]; exact (lowd 110 (by omega)).1 hr
          rw [hd110, show esc 110 = some 10 from rfl] at hT
          dsimp only at hT
          rw [oned 110 (by omega) hr] at pl3
          refine VNth.mk (.int .i32 (dec (s.drop (q + 1))).1) (by simpa using m1.1) (go ?_)
          refine VIf.yes (by simp [hr]) (go ?_)
          refine VGd.mk (show _ ≤ _ by simp; omega) (go ?_)
          refine ⟨⟨i + 1 + 1, q + 2, x ++ [10], acc ++ [10]⟩, ⟨pl3, by simp [hx], by simp; omega, hT⟩, ?_, rfl, .nil⟩
          dsimp only; omega
    · have h1 : ¬ (dec (s.drop q)).1 = 34 := by omega
      have h2 : ¬ (dec (s.drop q)).1 = 92 := by omega
      refine VNth.mk (.int .i32 (dec (s.drop q)).1) (by simpa using m0.1) (go ?_)
      have hel := enc_le (dec (s.drop q)).1
      refine VGd.mk (show _ ≤ _ by omega) (go ?_)
      rw [textL_char p hne hb h1 h2, List.drop_drop] at hT
      refine ⟨⟨i + 1, q + (dec (s.drop q)).2, x ++ (Utf8.encode ((dec (s.drop q)).1 : Int)).data.toList, acc ++ (s.drop q).take (dec (s.drop q)).2⟩, ⟨pl2, ?_, ?_, hT⟩, ?_, rfl, .nil⟩
      · rw [List.length_append, List.length_append, hx, List.length_take, List.length_drop, Nat.min_eq_left (by omega), ← henc]; rfl
      · simp; omega
      · dsimp only; omega
  · have hq : ¬ q < s.length := fun h => hlt (by have := hI.lt.2 h; omega)
    rw [List.drop_eq_nil_of_le (by omega), textL] at hT
    simp at hT
end Go.Proofs.YtbmplclnondfnaaDoor

namespace Go.Proofs.YtbmplclnondfnaaDoor
open Go Go.Av
structure RTI where
  o : Option Nat
  k : Nat
  p : Nat
  out : List Tok
  out0 : List Tok
/-- A word, character by character. -/
structure WordI where
  j : Nat
  q : Nat
  m : Nat
theorem tokAt_ok {N : Nat} {l : List UInt8} {out : List Tok} (h : (toks N l out).2.2 = 0) : ∀ p e, tokAt N (trimL l) ≠ .bad p e := by
  intro p e he
  rw [toks_run, he] at h
  dsimp only at h
  subst h
  exact tokAt_bad _ _ _ he
theorem sizes_succ {rs : List (Nat × Nat)} {m : Nat} {x : Nat × Nat} (h : rs[m]? = some x) : sizes (rs.take (m + 1)) = sizes (rs.take m) + x.2 := by
  rw [take_succ_at' h]
  simp [sizes]
where
  take_succ_at' {rs : List (Nat × Nat)} {m : Nat} {x : Nat × Nat} (h : rs[m]? = some x) : rs.take (m + 1) = rs.take m ++ [x] := by
    rw [List.take_succ, h]; rfl
theorem runes_drop : ∀ (m : Nat) (l : List UInt8), runes (l.drop (sizes ((runes l).take m))) = (runes l).drop m
  | 0, l => by simp [sizes]
  | m + 1, l => by
    by_cases hl : l = []
    · subst hl; simp
    · rw [runes_cons hl, List.take_succ_cons, List.drop_succ_cons]
      have e : sizes (dec l :: (runes (l.drop (dec l).2)).take m) = (dec l).2 + sizes ((runes (l.drop (dec l).2)).take m) := by simp only [sizes, List.map_cons, List.sum_cons]
      rw [e, ← List.drop_drop]
      exact runes_drop m _
theorem tokAt_34 {N : Nat} {l' : List UInt8} : tokAt N (34 :: l') =
    if (textL (N - (34 :: l').length) l' [] (N - (34 :: l').length + 1)).2.2 = 0
      then .tok ⟨3, (textL (N - (34 :: l').length) l' [] (N - (34 :: l').length + 1)).1, 0, (N - (34 :: l').length : Nat)⟩ ((34 :: l').drop ((textL (N - (34 :: l').length) l' [] (N - (34 :: l').length + 1)).2.1 - (N - (34 :: l').length : Nat)).toNat)
      else .bad (textL (N - (34 :: l').length) l' [] (N - (34 :: l').length + 1)).2.1 (textL (N - (34 :: l').length) l' [] (N - (34 :: l').length + 1)).2.2 := by
  have hw : wlen (34 :: l') = 1 + wlen l' := by
    rw [wlen_cons (by simp) (by rw [dec_ascii 34 l' (by decide)]; decide), dec_ascii 34 l' (by decide)]; rfl
  have ht : (34 :: l').take (wlen (34 :: l')) = 34 :: l'.take (wlen l') := by rw [hw, Nat.add_comm, List.take_succ_cons]
  unfold tokAt
  rw [ht, if_neg (by simp)]
  dsimp only
  rw [if_pos rfl]; rfl
theorem chL_r : ∀ (i : Nat) (rs : List (Nat × Nat)), (chL i rs).map (·.r) = rs.map (·.1)
  | _, [] => rfl
  | i, (r, k) :: rs => by simp [chL, chL_r]
/-- One more token. -/
theorem toks_more {N : Nat} {l l' : List UInt8} {out : List Tok} {t : Tok} {T : List Tok × Int × Int} (ht : tokAt N l = .tok t l')
    (hT : (match tokAt N l with
    | .stop => (out, 0, 0)
    | .skip l' => toks N l' out
    | .bad p e => ([], p, e)
    | .tok t l' => if out.length ≥ 4096 then (([], t.pos, 11) : List Tok × Int × Int) else toks N l' (out ++ [t])) = T) (h0 : T.2.2 = 0) : out.length < 4096 ∧ toks N l' (out ++ [t]) = T := by
  rw [ht] at hT
  dsimp only at hT
  split at hT
  · rw [← hT] at h0; simp at h0
  · exact ⟨by omega, hT⟩
set_option maxHeartbeats 3200000 in
theorem f_refTokens (s : List UInt8) (h0 : (tokensR s).2.2 = 0) :
    Av.ACalls Tryd.prog 9 [.str s] [] (fun out st => ∃ o : List Tok, o.length = (tokensR s).1.length ∧ out = .ret (.tup [.fz (toksC o) o.length false, .int .i64 0, .int .i64 0]) ∧ st = []) := by
  unfold tokensR at h0 ⊢
  by_cases hl : s.length > 65536
  · rw [if_pos hl] at h0; simp at h0
  rw [if_neg hl] at h0 ⊢
  cases hf : faultR s with
  | some i => rw [hf] at h0; simp at h0
  | none =>
    rw [hf] at h0
    dsimp only at h0 ⊢
    have hbad := f_Bad s (by omega)
    rw [show faultV s = -1 by unfold faultV; rw [hf]] at hbad
    have hch := f_Chars s (by omega)
    have hlen := charsR_len s
    refine ACalls.of_W tb_ok (fn := Tryd.f9) (n := 155) (by kernel_rfl) rfl (by kernel_rfl) rfl rfl (by simp) (go ?_)
    refine VIf.no (by simp; try omega) (go ?_)
    refine Fn.use (hbad) (go ?_)
    refine Fn.use (hch) (go ?_)
    refine VLoop.mk [7, 6] RTI (fun i => [.int .i64 i.k, accV i.o i.out.length]) (fun i => accS i.o 4 (toksC i.out))
      (fun i => PlaceC s i.k i.p ∧ i.out.length = i.out0.length ∧ (i.o = none → i.out = []) ∧ toks s.length (s.drop i.p) i.out0 = toks s.length s []) (fun i => s.length - i.p) ⟨none, 0, 0, [], []⟩ ?_ ?_
    · exact ⟨⟨.zero s, rfl, by simp, rfl⟩, rfl, .nil⟩
    rintro ⟨o, k, p, out, out0⟩ ⟨pl, hol, ho, hT⟩
    dsimp only at pl hol ho hT ⊢
    cases o with
    | none =>
      have hacc : out = [] := ho rfl
      refine go ?_
      refine fork (fun hlt => go ?_) (fun hlt => go ?_)
      · have hlt : k < (charsR s).length := by omega
        have hq := pl.lt.1 hlt
        have hne : s.drop p ≠ [] := by simp; omega
        obtain ⟨c1, pl2⟩ := pl.at hq
        have hgood := pl.good hf
        have hb := hgood (dec (s.drop p)) (by rw [runes_cons hne]; exact List.mem_cons_self)
        have hd := dec_pos _ hne
        rw [List.length_drop] at hd
        have m0 := chC_n c1
        refine VNth.mk (.int .i32 (dec (s.drop p)).1) (by simpa using m0.1) (go ?_)
        refine Fn.use (f_refBlank (dec (s.drop p)).1) (go ?_)
        refine fork (fun hbl => go ?_) (fun hbl => go ?_)
        · refine ⟨⟨none, k + 1, p + (dec (s.drop p)).2, out, out0⟩, ⟨pl2, hol, ho, ?_⟩, ?_, rfl, .nil⟩
          · dsimp only
            rw [← hT, toks_run, toks_run _ (s.drop p), trimL_blank hne hbl, List.drop_drop]
          · dsimp only; omega
        · have htr := trimL_none hne hbl
          refine VNth.mk (.int .i64 p) (by simpa using m0.2.1) (go ?_)
          refine VAll.mk (fun bt => go ?_)
          refine VNth.mk (.int .i32 (dec (s.drop p)).1) (by simpa using m0.1) (go ?_)
          have hnb := tokAt_ok (N := s.length) (l := s.drop p) (out := out0) (by rw [hT]; exact h0)
          rw [toks_run, htr] at hT
          rw [htr] at hnb
          refine fork (fun h34 => go ?_) (fun h34 => go ?_)
          · have h34 : (dec (s.drop p)).1 = 34 := by omega
            obtain ⟨c, hc⟩ := drop_cons hq
            have hc34 : c = 34 := by rw [← UInt8.toNat_inj]; exact (by rw [hc] at h34; exact (dec_low c _ 34 (by omega)).1 h34)
            rw [hc34] at hc
            have hp2 : (dec (s.drop p)).2 = 1 := by rw [hc, dec_ascii 34 _ (by decide)]
            rw [hp2] at pl2
            have hta := tokAt_34 (N := s.length) (l' := s.drop (p + 1))
            rw [← hc, List.length_drop, show s.length - (s.length - p) = p by omega] at hta
            have he : (textL p (s.drop (p + 1)) [] (p + 1)).2.2 = 0 := by
              refine Decidable.byContradiction fun h => ?_
              rw [if_neg h] at hta
              exact hnb _ _ hta
            rw [if_pos he] at hta
            obtain ⟨ho4, hT⟩ := toks_more hta hT h0
            have hnx := textL_next _ _ _ _ he
            rcases hx : textL p (s.drop (p + 1)) [] (p + 1) with ⟨y, nx, e⟩
            rw [hx] at he hT hnx
            dsimp only at he hT hnx
            subst he
            refine ACalls.use (f_str s (by omega) hf pl pl2 hx) (List.Perm.refl _) ?_
            rintro _ _ ⟨x, k', p', pl3, rfl, rfl, rfl⟩
            refine go ?_
            rw [List.drop_drop, show p + ((p' : Int) - (p : Nat)).toNat = p' by omega] at hT
            subst hacc
            refine VAll.mk (fun b2 => go ?_)
            refine ⟨⟨some b2, k', p', [⟨3, x, 0, p⟩], out0 ++ [_]⟩, ⟨pl3, ?_, ?_, hT⟩, ?_, rfl, .cons 0 rfl .nil⟩
            · rw [List.length_append, ← hol]; rfl
            · intro h; cases h
            · dsimp only; omega
          · refine VLoop.mk [12] WordI (fun i => [.int .i64 i.j]) (fun _ => (bt, .box [.int .i64 0, .str [], .int .i64 0, .int .i64 p]) :: accS none 4 (toksC out))
              (fun i => PlaceC s i.j i.q ∧ i.j = k + i.m ∧ i.q = p + sizes ((runes (s.drop p)).take i.m) ∧ i.q - p + wlen (s.drop i.q) = wlen (s.drop p) ∧ (i.m = 0 ∨ ∃ x, (charsR s)[i.j - 1]? = some x ∧ x.z = i.q)) (fun i => s.length - i.q) ⟨k, p, 0⟩ ?_ ?_
            · exact ⟨⟨pl, rfl, rfl, by simp, .inl rfl⟩, rfl, .cons 0 rfl .nil⟩
            rintro ⟨j, q, m⟩ ⟨plq, hj, hqm, hw, hz⟩
            dsimp only at plq hj hqm hw hz ⊢
            refine go ?_
            refine fork (fun hlt2 => go ?_) (fun hlt2 => go ?_)
            · have hlt2 : j < (charsR s).length := by omega
              have hq2 := plq.lt.1 hlt2
              have hne2 : s.drop q ≠ [] := by simp; omega
              obtain ⟨c2, plq2⟩ := plq.at hq2
              have m2 := chC_n c2
              refine VNth.mk (.int .i32 (dec (s.drop q)).1) (by simpa using m2.1) (go ?_)
              refine Fn.use (f_refBlank (dec (s.drop q)).1) (go ?_)
              cases hbl2 : blankB ((dec (s.drop q)).1 : Int) with
              | true =>
                refine go ?_
                rw [wlen_blank hne2 hbl2] at hw
                have hw1 := wlen_cons hne hbl
                have hm : m ≠ 0 := by
                  intro e; subst e; simp [sizes] at hqm; omega
                obtain ⟨x, hx1, hx2⟩ := hz.resolve_left hm
                obtain ⟨j', rfl⟩ : ∃ j', j = j' + 1 := ⟨j - 1, by omega⟩
                rw [Nat.add_sub_cancel] at hx1
                have hjl := (List.getElem?_eq_some_iff.1 hx1).1
                have hx := chC_n hx1
                rw [hx2] at hx
                refine VQ.mk (.int .i64 p) (by refine go ?_; exact VNth.mk _ (by simpa using m0.2.1) ⟨rfl, rfl⟩) (go ?_)
                have hqp : p ≤ q := by rw [hqm]; exact Nat.le_add_right _ _
                have hql := plq.le
                refine VQ.mk (.fzp (List.drop (mulN j' 4) (chC (charsR s)))) (by refine go ?_; exact VIdx.at j' (by omega) (by omega) ⟨rfl, rfl⟩) (go ?_)
                refine VQ.mk (.int .i64 q) (by refine go ?_; exact VNth.mk _ (by simpa using hx.2.2) ⟨rfl, rfl⟩) (go ?_)
                have hwq : q - p = wlen (s.drop p) := by omega
                have hword : List.drop p (List.take q s) = (s.drop p).take (wlen (s.drop p)) := by rw [List.drop_take, hwq]
                rw [hword]
                have hmq : sizes ((runes (s.drop p)).take m) = wlen (s.drop p) := by rw [← hwq, hqm, Nat.add_sub_cancel_left]
                have hchs : ((charsR s).take (j' + 1)).drop k = chL p ((runes (s.drop p)).take m) := by
                  rw [List.drop_take, pl.dr, chL_take, show j' + 1 - k = m by rw [hj, Nat.add_sub_cancel_left]]
                have hcr : ((runes (s.drop p)).take m).map (·.1) = chars ((s.drop p).take (wlen (s.drop p))) := by
                  have := runes_take m (s.drop p) hgood
                  rw [hmq] at this
                  rw [← this]; rfl
                have hdrop : (s.drop p).drop (wlen (s.drop p)) = s.drop q := by rw [List.drop_drop, ← hwq]; congr 1; omega
                have hw0 : (s.drop p).take (wlen (s.drop p)) ≠ [] := by
                  intro e
                  have := congrArg List.length e
                  rw [List.length_take, List.length_drop, List.length_nil] at this; omega
                refine fork (fun h33 => go ?_) (fun h33 => go ?_)
                · have hta : tokAt s.length (s.drop p) = if Lib.indexByte (s.drop p) 10 < 0 then .stop else .skip ((s.drop p).drop (Lib.indexByte (s.drop p) 10).toNat) := by
                    unfold tokAt; rw [if_pos h33]
                  rw [hta] at hT
                  refine VLoop.mk [7] (Nat × Nat) (fun i => [.int .i64 i.1]) (fun _ => (bt, .box [.int .i64 0, .str [], .int .i64 0, .int .i64 p]) :: accS none 4 (toksC out))
                    (fun i => PlaceC s i.1 i.2 ∧ p ≤ i.2 ∧ Lib.indexByte (s.drop p) 10 = if Lib.indexByte (s.drop i.2) 10 < 0 then -1 else ((i.2 - p : Nat) : Int) + Lib.indexByte (s.drop i.2) 10) (fun i => s.length - i.2) (k, p) ?_ ?_
                  · refine ⟨⟨pl, Nat.le_refl _, ?_⟩, rfl, .cons 0 rfl .nil⟩
                    have := indexByte_lt (s.drop p) 10
                    dsimp only
                    split <;> omega
                  rintro ⟨j, r⟩ ⟨plr, hpr, hix⟩
                  dsimp only at plr hpr hix ⊢
                  refine go ?_
                  refine fork (fun hlt3 => go ?_) (fun hlt3 => go ?_)
                  · have hlt3 : j < (charsR s).length := by omega
                    have hr := plr.lt.1 hlt3
                    have hne3 : s.drop r ≠ [] := by simp; omega
                    obtain ⟨c3, plr2⟩ := plr.at hr
                    have m3 := chC_n c3
                    refine VNth.mk (.int .i32 (dec (s.drop r)).1) (by simpa using m3.1) (go ?_)
                    have hd3 := dec_pos _ hne3
                    rw [List.length_drop] at hd3
                    refine fork (fun h10 => go ?_) (fun h10 => go ?_)
                    · have h10 : (dec (s.drop r)).1 ≠ 10 := by omega
                      have hb3 := plr.good hf (dec (s.drop r)) (by rw [runes_cons hne3]; exact List.mem_cons_self)
                      rw [indexByte_char 10 hne3 hb3 (by decide) h10, List.drop_drop] at hix
                      refine ⟨(j + 1, r + (dec (s.drop r)).2), ⟨plr2, ?_, ?_⟩, ?_, rfl, .cons 0 rfl .nil⟩
                      · dsimp only; omega
                      · dsimp only
                        rw [hix]
                        have := indexByte_lt (s.drop (r + (dec (s.drop r)).2)) 10
                        repeat' split
                        all_goals omega
                      · dsimp only; omega
                    · have h10 : (dec (s.drop r)).1 = 10 := by omega
                      obtain ⟨c, hc⟩ := drop_cons hr
                      have hc10 : c = 10 := by rw [← UInt8.toNat_inj]; exact (by rw [hc] at h10; exact (dec_low c _ 10 (by omega)).1 h10)
                      have hi0 : Lib.indexByte (s.drop r) 10 = 0 := by rw [hc, hc10]; unfold Lib.indexByte; rfl
                      rw [hi0, if_neg (by decide)] at hix
                      have hrp : r ≠ p := by
                        intro e
                        rw [e] at h10
                        rw [h10] at hbl
                        exact absurd hbl (by decide)
                      rw [hix, if_neg (by omega)] at hT
                      dsimp only at hT
                      rw [List.drop_drop, show p + (((r - p : Nat) : Int) + 0).toNat = r by omega] at hT
                      refine ⟨⟨none, j, r, out, out0⟩, ⟨plr, hol, ho, hT⟩, ?_, rfl, .nil⟩
                      dsimp only; omega
                  · have hr : ¬ r < s.length := fun h => hlt3 (by have := plr.lt.2 h; omega)
                    rw [show s.drop r = [] from List.drop_eq_nil_of_le (by omega)] at hix
                    rw [if_pos (show Lib.indexByte [] 10 < 0 by decide)] at hix
                    rw [hix, if_pos (by decide)] at hT
                    refine ⟨⟨none, j, r, out, out0⟩, ⟨plr, hol, ho, ?_⟩, ?_, rfl, ?_⟩
                    · dsimp only; rw [show s.drop r = [] from List.drop_eq_nil_of_le (by omega)]; exact hT
                    · dsimp only; omega
                    · exact .nil
                · have hta : tokAt s.length (s.drop p) = (if (digitsR ((s.drop p).take (wlen (s.drop p)))).2.1 then
                        (if (digitsR ((s.drop p).take (wlen (s.drop p)))).2.2 then .tok ⟨2, [], (digitsR ((s.drop p).take (wlen (s.drop p)))).1, (p : Nat)⟩ (s.drop q) else .bad (p : Nat) 11)
                      else if nameR ((s.drop p).take (wlen (s.drop p))) then .tok ⟨1, (s.drop p).take (wlen (s.drop p)), 0, (p : Nat)⟩ (s.drop q) else .bad (p : Nat) 10 : TStep) := by
                    unfold tokAt
                    rw [if_neg h33, hdrop, List.length_drop, Nat.sub_sub_self (Nat.le_of_lt hq)]
                    cases hcw : (s.drop p).take (wlen (s.drop p)) with
                    | nil => exact absurd hcw hw0
                    | cons c y =>
                      dsimp only
                      rw [if_neg]
                      intro e
                      obtain ⟨c', hc'⟩ := drop_cons hq
                      rw [hc'] at hcw
                      cases hwn : wlen (s.drop p) with
                      | zero => omega
                      | succ n =>
                        rw [hc'] at hwn
                        rw [hwn, List.take_succ_cons] at hcw
                        injection hcw with h1 h2
                        apply h34
                        have := (dec_low c' (s.drop (p + 1)) 34 (by omega)).2 (by rw [h1, e]; rfl)
                        rw [hc', this]; rfl
                  have hdn := digits_num ((s.drop p).take (wlen (s.drop p)))
                  have hwl : ((s.drop p).take (wlen (s.drop p))).length ≤ 65536 := by rw [List.length_take, List.length_drop]; omega
                  have fnu := f_refNumber ((s.drop p).take (wlen (s.drop p))) (by omega)
                  have fna := f_refName' ((s.drop p).take (wlen (s.drop p))) (by omega)
                  have hln : (((charsR s).take (j' + 1)).drop k).length = j' + 1 - k := by rw [List.length_drop, List.length_take, Nat.min_eq_left hjl]
                  have fnm := f_number (((charsR s).take (j' + 1)).drop k) [] false (fun c hc => charsR_le s c (List.mem_of_mem_take (List.mem_of_mem_drop hc))) (by rw [hln]; omega)
                  rw [List.append_nil, ← chC_drop, ← chC_take] at fnm
                  rw [show (((charsR s).take (j' + 1)).drop k).map (·.r) = chars ((s.drop p).take (wlen (s.drop p))) by rw [hchs, ← hcr, chL_r]] at fnm
                  rw [hln] at fnm
                  rw [← mulN_eq, ← mulN_eq] at fnm
                  generalize (s.drop p).take (wlen (s.drop p)) = w at hta hdn fnu fna fnm hw0 h33 hwl
                  refine Fn.use (fnm) (go ?_)
                  cases hn : numR (chars w) with
                  | none =>
                    rw [hn, Option.isSome_none] at hdn
                    rw [hdn.1, if_neg (by simp)] at hta
                    have hnm : nameR w = true := by
                      cases hnm : nameR w with
                      | true => rfl
                      | false => rw [hnm, if_neg (by simp)] at hta; exact absurd hta (hnb _ _)
                    rw [hnm, if_pos rfl] at hta
                    rw [hnm] at fna
                    obtain ⟨ho4, hT⟩ := toks_more hta hT h0
                    refine go ?_
                    refine Fn.use (fna) (go ?_)
                    subst hacc
                    refine VAll.mk (fun b2 => go ?_)
                    refine ⟨⟨some b2, j' + 1, q, [⟨1, w, 0, p⟩], out0 ++ [_]⟩, ⟨plq, ?_, ?_, hT⟩, ?_, rfl, .cons 0 rfl .nil⟩
                    · rw [List.length_append, ← hol]; rfl
                    · intro h; cases h
                    · dsimp only; omega
                  | some n =>
                    rw [hn, Option.isSome_some] at hdn
                    rw [hdn.1, if_pos rfl] at hta
                    have hok : (digitsR w).2.2 = true := by
                      cases hok : (digitsR w).2.2 with
                      | true => rfl
                      | false => rw [hok, if_neg (by simp)] at hta; exact absurd hta (hnb _ _)
                    rw [hok, if_pos rfl] at hta
                    rw [((hdn.2 hdn.1).1).1 hok] at fnu
                    obtain ⟨ho4, hT⟩ := toks_more hta hT h0
                    refine go ?_
                    refine Fn.use (fnu) (go ?_)
                    subst hacc
                    refine VAll.mk (fun b2 => go ?_)
                    refine ⟨⟨some b2, j' + 1, q, [⟨2, [], (refNumR (chars w)).1, p⟩], out0 ++ [_]⟩, ⟨plq, ?_, ?_, hT⟩, ?_, rfl, .cons 0 rfl .nil⟩
                    · rw [List.length_append, ← hol]; rfl
                    · intro h; cases h
                    · dsimp only; omega
              | false =>
                refine go ?_
                have hd2 := dec_pos _ hne2
                rw [List.length_drop] at hd2
                rw [wlen_cons hne2 hbl2, List.drop_drop] at hw
                have hrm : (runes (s.drop p))[m]? = some (dec (s.drop q)) := by
                  have := runes_drop m (s.drop p)
                  rw [List.drop_drop, ← hqm, runes_cons hne2] at this
                  have := congrArg (·[0]?) this
                  simpa using this.symm
                refine ⟨⟨j + 1, q + (dec (s.drop q)).2, m + 1⟩, ⟨plq2, ?_, ?_, ?_, .inr ⟨_, by simpa using c2, rfl⟩⟩, ?_, rfl, .cons 0 rfl .nil⟩
                · dsimp only; omega
                · dsimp only; rw [sizes_succ hrm]; omega
                · dsimp only
                  have hqp : p ≤ q := by rw [hqm]; exact Nat.le_add_right _ _
                  rw [← hw, show q + (dec (s.drop q)).2 - p = (q - p) + (dec (s.drop q)).2 from Nat.sub_add_comm hqp, Nat.add_assoc]
                · dsimp only; omega
            · have hq2 : ¬ q < s.length := fun h => hlt2 (by have := plq.lt.2 h; omega)
              rw [show s.drop q = [] from List.drop_eq_nil_of_le (by omega), show wlen [] = 0 from rfl] at hw
              have hw1 := wlen_cons hne hbl
              have hm : m ≠ 0 := by
                intro e; subst e; simp [sizes] at hqm; omega
              obtain ⟨x, hx1, hx2⟩ := hz.resolve_left hm
              obtain ⟨j', rfl⟩ : ∃ j', j = j' + 1 := ⟨j - 1, by omega⟩
              rw [Nat.add_sub_cancel] at hx1
              have hjl := (List.getElem?_eq_some_iff.1 hx1).1
              have hx := chC_n hx1
              rw [hx2] at hx
              refine VQ.mk (.int .i64 p) (by refine go ?_; exact VNth.mk _ (by simpa using m0.2.1) ⟨rfl, rfl⟩) (go ?_)
              have hqp : p ≤ q := by rw [hqm]; exact Nat.le_add_right _ _
              have hql := plq.le
              refine VQ.mk (.fzp (List.drop (mulN j' 4) (chC (charsR s)))) (by refine go ?_; exact VIdx.at j' (by omega) (by omega) ⟨rfl, rfl⟩) (go ?_)
              refine VQ.mk (.int .i64 q) (by refine go ?_; exact VNth.mk _ (by simpa using hx.2.2) ⟨rfl, rfl⟩) (go ?_)
              have hwq : q - p = wlen (s.drop p) := by omega
              have hword : List.drop p (List.take q s) = (s.drop p).take (wlen (s.drop p)) := by rw [List.drop_take, hwq]
              rw [hword]
              have hmq : sizes ((runes (s.drop p)).take m) = wlen (s.drop p) := by rw [← hwq, hqm, Nat.add_sub_cancel_left]
              have hchs : ((charsR s).take (j' + 1)).drop k = chL p ((runes (s.drop p)).take m) := by
                rw [List.drop_take, pl.dr, chL_take, show j' + 1 - k = m by rw [hj, Nat.add_sub_cancel_left]]
              have hcr : ((runes (s.drop p)).take m).map (·.1) = chars ((s.drop p).take (wlen (s.drop p))) := by
                have := runes_take m (s.drop p) hgood
                rw [hmq] at this
                rw [← this]; rfl
              have hdrop : (s.drop p).drop (wlen (s.drop p)) = s.drop q := by rw [List.drop_drop, ← hwq]; congr 1; omega
              have hw0 : (s.drop p).take (wlen (s.drop p)) ≠ [] := by
                intro e
                have := congrArg List.length e
                rw [List.length_take, List.length_drop, List.length_nil] at this; omega
              refine fork (fun h33 => go ?_) (fun h33 => go ?_)
              · have hta : tokAt s.length (s.drop p) = if Lib.indexByte (s.drop p) 10 < 0 then .stop else .skip ((s.drop p).drop (Lib.indexByte (s.drop p) 10).toNat) := by
                  unfold tokAt; rw [if_pos h33]
                rw [hta] at hT
                refine VLoop.mk [7] (Nat × Nat) (fun i => [.int .i64 i.1]) (fun _ => (bt, .box [.int .i64 0, .str [], .int .i64 0, .int .i64 p]) :: accS none 4 (toksC out))
                  (fun i => PlaceC s i.1 i.2 ∧ p ≤ i.2 ∧ Lib.indexByte (s.drop p) 10 = if Lib.indexByte (s.drop i.2) 10 < 0 then -1 else ((i.2 - p : Nat) : Int) + Lib.indexByte (s.drop i.2) 10) (fun i => s.length - i.2) (k, p) ?_ ?_
                · refine ⟨⟨pl, Nat.le_refl _, ?_⟩, rfl, .cons 0 rfl .nil⟩
                  have := indexByte_lt (s.drop p) 10
                  dsimp only
                  split <;> omega
                rintro ⟨j, r⟩ ⟨plr, hpr, hix⟩
                dsimp only at plr hpr hix ⊢
                refine go ?_
                refine fork (fun hlt3 => go ?_) (fun hlt3 => go ?_)
                · have hlt3 : j < (charsR s).length := by omega
                  have hr := plr.lt.1 hlt3
                  have hne3 : s.drop r ≠ [] := by simp; omega
                  obtain ⟨c3, plr2⟩ := plr.at hr
                  have m3 := chC_n c3
                  refine VNth.mk (.int .i32 (dec (s.drop r)).1) (by simpa using m3.1) (go ?_)
                  have hd3 := dec_pos _ hne3
                  rw [List.length_drop] at hd3
                  refine fork (fun h10 => go ?_) (fun h10 => go ?_)
                  · have h10 : (dec (s.drop r)).1 ≠ 10 := by omega
                    have hb3 := plr.good hf (dec (s.drop r)) (by rw [runes_cons hne3]; exact List.mem_cons_self)
                    rw [indexByte_char 10 hne3 hb3 (by decide) h10, List.drop_drop] at hix
                    refine ⟨(j + 1, r + (dec (s.drop r)).2), ⟨plr2, ?_, ?_⟩, ?_, rfl, .cons 0 rfl .nil⟩
                    · dsimp only; omega
                    · dsimp only
                      rw [hix]
                      have := indexByte_lt (s.drop (r + (dec (s.drop r)).2)) 10
                      repeat' split
                      all_goals omega
                    · dsimp only; omega
                  · have h10 : (dec (s.drop r)).1 = 10 := by omega
                    obtain ⟨c, hc⟩ := drop_cons hr
                    have hc10 : c = 10 := by rw [← UInt8.toNat_inj]; exact (by rw [hc] at h10; exact (dec_low c _ 10 (by omega)).1 h10)
                    have hi0 : Lib.indexByte (s.drop r) 10 = 0 := by rw [hc, hc10]; unfold Lib.indexByte; rfl
                    rw [hi0, if_neg (by decide)] at hix
                    have hrp : r ≠ p := by
                      intro e
                      rw [e] at h10
                      rw [h10] at hbl
                      exact absurd hbl (by decide)
                    rw [hix, if_neg (by omega)] at hT
                    dsimp only at hT
                    rw [List.drop_drop, show p + (((r - p : Nat) : Int) + 0).toNat = r by omega] at hT
                    refine ⟨⟨none, j, r, out, out0⟩, ⟨plr, hol, ho, hT⟩, ?_, rfl, .nil⟩
                    dsimp only; omega
                · have hr : ¬ r < s.length := fun h => hlt3 (by have := plr.lt.2 h; omega)
                  rw [show s.drop r = [] from List.drop_eq_nil_of_le (by omega)] at hix
                  rw [if_pos (show Lib.indexByte [] 10 < 0 by decide)] at hix
                  rw [hix, if_pos (by decide)] at hT
                  refine ⟨⟨none, j, r, out, out0⟩, ⟨plr, hol, ho, ?_⟩, ?_, rfl, ?_⟩
                  · dsimp only; rw [show s.drop r = [] from List.drop_eq_nil_of_le (by omega)]; exact hT
                  · dsimp only; omega
                  · exact .nil
              · have hta : tokAt s.length (s.drop p) = (if (digitsR ((s.drop p).take (wlen (s.drop p)))).2.1 then
                      (if (digitsR ((s.drop p).take (wlen (s.drop p)))).2.2 then .tok ⟨2, [], (digitsR ((s.drop p).take (wlen (s.drop p)))).1, (p : Nat)⟩ (s.drop q) else .bad (p : Nat) 11)
                    else if nameR ((s.drop p).take (wlen (s.drop p))) then .tok ⟨1, (s.drop p).take (wlen (s.drop p)), 0, (p : Nat)⟩ (s.drop q) else .bad (p : Nat) 10 : TStep) := by
                  unfold tokAt
                  rw [if_neg h33, hdrop, List.length_drop, Nat.sub_sub_self (Nat.le_of_lt hq)]
                  cases hcw : (s.drop p).take (wlen (s.drop p)) with
                  | nil => exact absurd hcw hw0
                  | cons c y =>
                    dsimp only
                    rw [if_neg]
                    intro e
                    obtain ⟨c', hc'⟩ := drop_cons hq
                    rw [hc'] at hcw
                    cases hwn : wlen (s.drop p) with
                    | zero => omega
                    | succ n =>
                      rw [hc'] at hwn
                      rw [hwn, List.take_succ_cons] at hcw
                      injection hcw with h1 h2
                      apply h34
                      have := (dec_low c' (s.drop (p + 1)) 34 (by omega)).2 (by rw [h1, e]; rfl)
                      rw [hc', this]; rfl
                have hdn := digits_num ((s.drop p).take (wlen (s.drop p)))
                have hwl : ((s.drop p).take (wlen (s.drop p))).length ≤ 65536 := by rw [List.length_take, List.length_drop]; omega
                have fnu := f_refNumber ((s.drop p).take (wlen (s.drop p))) (by omega)
                have fna := f_refName' ((s.drop p).take (wlen (s.drop p))) (by omega)
                have hln : (((charsR s).take (j' + 1)).drop k).length = j' + 1 - k := by rw [List.length_drop, List.length_take, Nat.min_eq_left hjl]
                have fnm := f_number (((charsR s).take (j' + 1)).drop k) [] false (fun c hc => charsR_le s c (List.mem_of_mem_take (List.mem_of_mem_drop hc))) (by rw [hln]; omega)
                rw [List.append_nil, ← chC_drop, ← chC_take] at fnm
                rw [show (((charsR s).take (j' + 1)).drop k).map (·.r) = chars ((s.drop p).take (wlen (s.drop p))) by rw [hchs, ← hcr, chL_r]] at fnm
                rw [hln] at fnm
                rw [← mulN_eq, ← mulN_eq] at fnm
                generalize (s.drop p).take (wlen (s.drop p)) = w at hta hdn fnu fna fnm hw0 h33 hwl
                refine Fn.use (fnm) (go ?_)
                cases hn : numR (chars w) with
                | none =>
                  rw [hn, Option.isSome_none] at hdn
                  rw [hdn.1, if_neg (by simp)] at hta
                  have hnm : nameR w = true := by
                    cases hnm : nameR w with
                    | true => rfl
                    | false => rw [hnm, if_neg (by simp)] at hta; exact absurd hta (hnb _ _)
                  rw [hnm, if_pos rfl] at hta
                  rw [hnm] at fna
                  obtain ⟨ho4, hT⟩ := toks_more hta hT h0
                  refine go ?_
                  refine Fn.use (fna) (go ?_)
                  subst hacc
                  refine VAll.mk (fun b2 => go ?_)
                  refine ⟨⟨some b2, j' + 1, q, [⟨1, w, 0, p⟩], out0 ++ [_]⟩, ⟨plq, ?_, ?_, hT⟩, ?_, rfl, .cons 0 rfl .nil⟩
                  · rw [List.length_append, ← hol]; rfl
                  · intro h; cases h
                  · dsimp only; omega
                | some n =>
                  rw [hn, Option.isSome_some] at hdn
                  rw [hdn.1, if_pos rfl] at hta
                  have hok : (digitsR w).2.2 = true := by
                    cases hok : (digitsR w).2.2 with
                    | true => rfl
                    | false => rw [hok, if_neg (by simp)] at hta; exact absurd hta (hnb _ _)
                  rw [hok, if_pos rfl] at hta
                  rw [((hdn.2 hdn.1).1).1 hok] at fnu
                  obtain ⟨ho4, hT⟩ := toks_more hta hT h0
                  refine go ?_
                  refine Fn.use (fnu) (go ?_)
                  subst hacc
                  refine VAll.mk (fun b2 => go ?_)
                  refine ⟨⟨some b2, j' + 1, q, [⟨2, [], (refNumR (chars w)).1, p⟩], out0 ++ [_]⟩, ⟨plq, ?_, ?_, hT⟩, ?_, rfl, .cons 0 rfl .nil⟩
                  · rw [List.length_append, ← hol]; rfl
                  · intro h; cases h
                  · dsimp only; omega
      · have hq : ¬ p < s.length := fun h => hlt (by have := pl.lt.2 h; omega)
        rw [List.drop_eq_nil_of_le (by omega), show toks s.length [] out0 = (out0, 0, 0) from rfl] at hT
        refine VRet.mk [] .nil ?_
        rw [← hT]
        exact ⟨out, hol, by rw [hacc]; rfl, rfl⟩
    | some bo =>
      refine go ?_
      refine fork (fun hlt => go ?_) (fun hlt => go ?_)
      · have hlt : k < (charsR s).length := by omega
        have hq := pl.lt.1 hlt
        have hne : s.drop p ≠ [] := by simp; omega
        obtain ⟨c1, pl2⟩ := pl.at hq
        have hgood := pl.good hf
        have hb := hgood (dec (s.drop p)) (by rw [runes_cons hne]; exact List.mem_cons_self)
        have hd := dec_pos _ hne
        rw [List.length_drop] at hd
        have m0 := chC_n c1
        refine VNth.mk (.int .i32 (dec (s.drop p)).1) (by simpa using m0.1) (go ?_)
        refine Fn.use (f_refBlank (dec (s.drop p)).1) (go ?_)
        refine fork (fun hbl => go ?_) (fun hbl => go ?_)
        · refine ⟨⟨(some bo), k + 1, p + (dec (s.drop p)).2, out, out0⟩, ⟨pl2, hol, ho, ?_⟩, ?_, rfl, .cons 0 rfl .nil⟩
          · dsimp only
            rw [← hT, toks_run, toks_run _ (s.drop p), trimL_blank hne hbl, List.drop_drop]
          · dsimp only; omega
        · have htr := trimL_none hne hbl
          refine VNth.mk (.int .i64 p) (by simpa using m0.2.1) (go ?_)
          refine VAll.mk (fun bt => go ?_)
          refine VNth.mk (.int .i32 (dec (s.drop p)).1) (by simpa using m0.1) (go ?_)
          have hnb := tokAt_ok (N := s.length) (l := s.drop p) (out := out0) (by rw [hT]; exact h0)
          rw [toks_run, htr] at hT
          rw [htr] at hnb
          refine fork (fun h34 => go ?_) (fun h34 => go ?_)
          · have h34 : (dec (s.drop p)).1 = 34 := by omega
            obtain ⟨c, hc⟩ := drop_cons hq
            have hc34 : c = 34 := by rw [← UInt8.toNat_inj]; exact (by rw [hc] at h34; exact (dec_low c _ 34 (by omega)).1 h34)
            rw [hc34] at hc
            have hp2 : (dec (s.drop p)).2 = 1 := by rw [hc, dec_ascii 34 _ (by decide)]
            rw [hp2] at pl2
            have hta := tokAt_34 (N := s.length) (l' := s.drop (p + 1))
            rw [← hc, List.length_drop, show s.length - (s.length - p) = p by omega] at hta
            have he : (textL p (s.drop (p + 1)) [] (p + 1)).2.2 = 0 := by
              refine Decidable.byContradiction fun h => ?_
              rw [if_neg h] at hta
              exact hnb _ _ hta
            rw [if_pos he] at hta
            obtain ⟨ho4, hT⟩ := toks_more hta hT h0
            have hnx := textL_next _ _ _ _ he
            rcases hx : textL p (s.drop (p + 1)) [] (p + 1) with ⟨y, nx, e⟩
            rw [hx] at he hT hnx
            dsimp only at he hT hnx
            subst he
            refine ACalls.use (f_str s (by omega) hf pl pl2 hx) (List.Perm.refl _) ?_
            rintro _ _ ⟨x, k', p', pl3, rfl, rfl, rfl⟩
            refine go ?_
            rw [List.drop_drop, show p + ((p' : Int) - (p : Nat)).toNat = p' by omega] at hT
            refine VIf.no (by simp; try omega) (go ?_)
            refine VGd.mk (by simp; omega) (go ?_)
            refine VAll.mk (fun b2 => go ?_)
            refine ⟨⟨some b2, k', p', out ++ [⟨3, x, 0, p⟩], out0 ++ [_]⟩, ⟨pl3, ?_, ?_, hT⟩, ?_, ?_, ?_⟩
            · simp; omega
            · intro h; cases h
            · dsimp only; omega
            · simp [accV]
            · simp only [accS, toksC_snoc]; rw [mulN_eq, take_toksC]; exact .cons 0 rfl .nil
          · refine VLoop.mk [12] WordI (fun i => [.int .i64 i.j]) (fun _ => (bt, .box [.int .i64 0, .str [], .int .i64 0, .int .i64 p]) :: accS (some bo) 4 (toksC out))
              (fun i => PlaceC s i.j i.q ∧ i.j = k + i.m ∧ i.q = p + sizes ((runes (s.drop p)).take i.m) ∧ i.q - p + wlen (s.drop i.q) = wlen (s.drop p) ∧ (i.m = 0 ∨ ∃ x, (charsR s)[i.j - 1]? = some x ∧ x.z = i.q)) (fun i => s.length - i.q) ⟨k, p, 0⟩ ?_ ?_
            · exact ⟨⟨pl, rfl, rfl, by simp, .inl rfl⟩, rfl, .cons 0 rfl (.cons 0 rfl .nil)⟩
            rintro ⟨j, q, m⟩ ⟨plq, hj, hqm, hw, hz⟩
            dsimp only at plq hj hqm hw hz ⊢
            refine go ?_
            refine fork (fun hlt2 => go ?_) (fun hlt2 => go ?_)
            · have hlt2 : j < (charsR s).length := by omega
              have hq2 := plq.lt.1 hlt2
              have hne2 : s.drop q ≠ [] := by simp; omega
              obtain ⟨c2, plq2⟩ := plq.at hq2
              have m2 := chC_n c2
              refine VNth.mk (.int .i32 (dec (s.drop q)).1) (by simpa using m2.1) (go ?_)
              refine Fn.use (f_refBlank (dec (s.drop q)).1) (go ?_)
              cases hbl2 : blankB ((dec (s.drop q)).1 : Int) with
              | true =>
                refine go ?_
                rw [wlen_blank hne2 hbl2] at hw
                have hw1 := wlen_cons hne hbl
                have hm : m ≠ 0 := by
                  intro e; subst e; simp [sizes] at hqm; omega
                obtain ⟨x, hx1, hx2⟩ := hz.resolve_left hm
                obtain ⟨j', rfl⟩ : ∃ j', j = j' + 1 := ⟨j - 1, by omega⟩
                rw [Nat.add_sub_cancel] at hx1
                have hjl := (List.getElem?_eq_some_iff.1 hx1).1
                have hx := chC_n hx1
                rw [hx2] at hx
                refine VQ.mk (.int .i64 p) (by refine go ?_; exact VNth.mk _ (by simpa using m0.2.1) ⟨rfl, rfl⟩) (go ?_)
                have hqp : p ≤ q := by rw [hqm]; exact Nat.le_add_right _ _
                have hql := plq.le
                refine VQ.mk (.fzp (List.drop (mulN j' 4) (chC (charsR s)))) (by refine go ?_; exact VIdx.at j' (by omega) (by omega) ⟨rfl, rfl⟩) (go ?_)
                refine VQ.mk (.int .i64 q) (by refine go ?_; exact VNth.mk _ (by simpa using hx.2.2) ⟨rfl, rfl⟩) (go ?_)
                have hwq : q - p = wlen (s.drop p) := by omega
                have hword : List.drop p (List.take q s) = (s.drop p).take (wlen (s.drop p)) := by rw [List.drop_take, hwq]
                rw [hword]
                have hmq : sizes ((runes (s.drop p)).take m) = wlen (s.drop p) := by rw [← hwq, hqm, Nat.add_sub_cancel_left]
                have hchs : ((charsR s).take (j' + 1)).drop k = chL p ((runes (s.drop p)).take m) := by
                  rw [List.drop_take, pl.dr, chL_take, show j' + 1 - k = m by rw [hj, Nat.add_sub_cancel_left]]
                have hcr : ((runes (s.drop p)).take m).map (·.1) = chars ((s.drop p).take (wlen (s.drop p))) := by
                  have := runes_take m (s.drop p) hgood
                  rw [hmq] at this
                  rw [← this]; rfl
                have hdrop : (s.drop p).drop (wlen (s.drop p)) = s.drop q := by rw [List.drop_drop, ← hwq]; congr 1; omega
                have hw0 : (s.drop p).take (wlen (s.drop p)) ≠ [] := by
                  intro e
                  have := congrArg List.length e
                  rw [List.length_take, List.length_drop, List.length_nil] at this; omega
                refine fork (fun h33 => go ?_) (fun h33 => go ?_)
                · have hta : tokAt s.length (s.drop p) = if Lib.indexByte (s.drop p) 10 < 0 then .stop else .skip ((s.drop p).drop (Lib.indexByte (s.drop p) 10).toNat) := by
                    unfold tokAt; rw [if_pos h33]
                  rw [hta] at hT
                  refine VLoop.mk [7] (Nat × Nat) (fun i => [.int .i64 i.1]) (fun _ => (bt, .box [.int .i64 0, .str [], .int .i64 0, .int .i64 p]) :: accS (some bo) 4 (toksC out))
                    (fun i => PlaceC s i.1 i.2 ∧ p ≤ i.2 ∧ Lib.indexByte (s.drop p) 10 = if Lib.indexByte (s.drop i.2) 10 < 0 then -1 else ((i.2 - p : Nat) : Int) + Lib.indexByte (s.drop i.2) 10) (fun i => s.length - i.2) (k, p) ?_ ?_
                  · refine ⟨⟨pl, Nat.le_refl _, ?_⟩, rfl, .cons 0 rfl (.cons 0 rfl .nil)⟩
                    have := indexByte_lt (s.drop p) 10
                    dsimp only
                    split <;> omega
                  rintro ⟨j, r⟩ ⟨plr, hpr, hix⟩
                  dsimp only at plr hpr hix ⊢
                  refine go ?_
                  refine fork (fun hlt3 => go ?_) (fun hlt3 => go ?_)
                  · have hlt3 : j < (charsR s).length := by omega
                    have hr := plr.lt.1 hlt3
                    have hne3 : s.drop r ≠ [] := by simp; omega
                    obtain ⟨c3, plr2⟩ := plr.at hr
                    have m3 := chC_n c3
                    refine VNth.mk (.int .i32 (dec (s.drop r)).1) (by simpa using m3.1) (go ?_)
                    have hd3 := dec_pos _ hne3
                    rw [List.length_drop] at hd3
                    refine fork (fun h10 => go ?_) (fun h10 => go ?_)
                    · have h10 : (dec (s.drop r)).1 ≠ 10 := by omega
                      have hb3 := plr.good hf (dec (s.drop r)) (by rw [runes_cons hne3]; exact List.mem_cons_self)
                      rw [indexByte_char 10 hne3 hb3 (by decide) h10, List.drop_drop] at hix
                      refine ⟨(j + 1, r + (dec (s.drop r)).2), ⟨plr2, ?_, ?_⟩, ?_, rfl, .cons 0 rfl (.cons 0 rfl .nil)⟩
                      · dsimp only; omega
                      · dsimp only
                        rw [hix]
                        have := indexByte_lt (s.drop (r + (dec (s.drop r)).2)) 10
                        repeat' split
                        all_goals omega
                      · dsimp only; omega
                    · have h10 : (dec (s.drop r)).1 = 10 := by omega
                      obtain ⟨c, hc⟩ := drop_cons hr
                      have hc10 : c = 10 := by rw [← UInt8.toNat_inj]; exact (by rw [hc] at h10; exact (dec_low c _ 10 (by omega)).1 h10)
                      have hi0 : Lib.indexByte (s.drop r) 10 = 0 := by rw [hc, hc10]; unfold Lib.indexByte; rfl
                      rw [hi0, if_neg (by decide)] at hix
                      have hrp : r ≠ p := by
                        intro e
                        rw [e] at h10
                        rw [h10] at hbl
                        exact absurd hbl (by decide)
                      rw [hix, if_neg (by omega)] at hT
                      dsimp only at hT
                      rw [List.drop_drop, show p + (((r - p : Nat) : Int) + 0).toNat = r by omega] at hT
                      refine ⟨⟨(some bo), j, r, out, out0⟩, ⟨plr, hol, ho, hT⟩, ?_, rfl, .cons 1 rfl .nil⟩
                      dsimp only; omega
                  · have hr : ¬ r < s.length := fun h => hlt3 (by have := plr.lt.2 h; omega)
                    rw [show s.drop r = [] from List.drop_eq_nil_of_le (by omega)] at hix
                    rw [if_pos (show Lib.indexByte [] 10 < 0 by decide)] at hix
                    rw [hix, if_pos (by decide)] at hT
                    refine ⟨⟨(some bo), j, r, out, out0⟩, ⟨plr, hol, ho, ?_⟩, ?_, rfl, ?_⟩
                    · dsimp only; rw [show s.drop r = [] from List.drop_eq_nil_of_le (by omega)]; exact hT
                    · dsimp only; omega
                    · exact .cons 1 rfl .nil
                · have hta : tokAt s.length (s.drop p) = (if (digitsR ((s.drop p).take (wlen (s.drop p)))).2.1 then
                        (if (digitsR ((s.drop p).take (wlen (s.drop p)))).2.2 then .tok ⟨2, [], (digitsR ((s.drop p).take (wlen (s.drop p)))).1, (p : Nat)⟩ (s.drop q) else .bad (p : Nat) 11)
                      else if nameR ((s.drop p).take (wlen (s.drop p))) then .tok ⟨1, (s.drop p).take (wlen (s.drop p)), 0, (p : Nat)⟩ (s.drop q) else .bad (p : Nat) 10 : TStep) := by
                    unfold tokAt
                    rw [if_neg h33, hdrop, List.length_drop, Nat.sub_sub_self (Nat.le_of_lt hq)]
                    cases hcw : (s.drop p).take (wlen (s.drop p)) with
                    | nil => exact absurd hcw hw0
                    | cons c y =>
                      dsimp only
                      rw [if_neg]
                      intro e
                      obtain ⟨c', hc'⟩ := drop_cons hq
                      rw [hc'] at hcw
                      cases hwn : wlen (s.drop p) with
                      | zero => omega
                      | succ n =>
                        rw [hc'] at hwn
                        rw [hwn, List.take_succ_cons] at hcw
                        injection hcw with h1 h2
                        apply h34
                        have := (dec_low c' (s.drop (p + 1)) 34 (by omega)).2 (by rw [h1, e]; rfl)
                        rw [hc', this]; rfl
                  have hdn := digits_num ((s.drop p).take (wlen (s.drop p)))
                  have hwl : ((s.drop p).take (wlen (s.drop p))).length ≤ 65536 := by rw [List.length_take, List.length_drop]; omega
                  have fnu := f_refNumber ((s.drop p).take (wlen (s.drop p))) (by omega)
                  have fna := f_refName' ((s.drop p).take (wlen (s.drop p))) (by omega)
                  have hln : (((charsR s).take (j' + 1)).drop k).length = j' + 1 - k := by rw [List.length_drop, List.length_take, Nat.min_eq_left hjl]
                  have fnm := f_number (((charsR s).take (j' + 1)).drop k) [] false (fun c hc => charsR_le s c (List.mem_of_mem_take (List.mem_of_mem_drop hc))) (by rw [hln]; omega)
                  rw [List.append_nil, ← chC_drop, ← chC_take] at fnm
                  rw [show (((charsR s).take (j' + 1)).drop k).map (·.r) = chars ((s.drop p).take (wlen (s.drop p))) by rw [hchs, ← hcr, chL_r]] at fnm
                  rw [hln] at fnm
                  rw [← mulN_eq, ← mulN_eq] at fnm
                  generalize (s.drop p).take (wlen (s.drop p)) = w at hta hdn fnu fna fnm hw0 h33 hwl
                  refine Fn.use (fnm) (go ?_)
                  cases hn : numR (chars w) with
                  | none =>
                    rw [hn, Option.isSome_none] at hdn
                    rw [hdn.1, if_neg (by simp)] at hta
                    have hnm : nameR w = true := by
                      cases hnm : nameR w with
                      | true => rfl
                      | false => rw [hnm, if_neg (by simp)] at hta; exact absurd hta (hnb _ _)
                    rw [hnm, if_pos rfl] at hta
                    rw [hnm] at fna
                    obtain ⟨ho4, hT⟩ := toks_more hta hT h0
                    refine go ?_
                    refine Fn.use (fna) (go ?_)
                    refine VIf.no (by simp; try omega) (go ?_)
                    refine VGd.mk (by simp; omega) (go ?_)
                    refine VAll.mk (fun b2 => go ?_)
                    refine ⟨⟨some b2, j' + 1, q, out ++ [⟨1, w, 0, p⟩], out0 ++ [_]⟩, ⟨plq, ?_, ?_, hT⟩, ?_, ?_, ?_⟩
                    · simp; omega
                    · intro h; cases h
                    · dsimp only; omega
                    · simp [accV]
                    · simp only [accS, toksC_snoc]; rw [mulN_eq, take_toksC]; exact .cons 0 rfl .nil
                  | some n =>
                    rw [hn, Option.isSome_some] at hdn
                    rw [hdn.1, if_pos rfl] at hta
                    have hok : (digitsR w).2.2 = true := by
                      cases hok : (digitsR w).2.2 with
                      | true => rfl
                      | false => rw [hok, if_neg (by simp)] at hta; exact absurd hta (hnb _ _)
                    rw [hok, if_pos rfl] at hta
                    rw [((hdn.2 hdn.1).1).1 hok] at fnu
                    obtain ⟨ho4, hT⟩ := toks_more hta hT h0
                    refine go ?_
                    refine Fn.use (fnu) (go ?_)
                    refine VIf.no (by simp; try omega) (go ?_)
                    refine VGd.mk (by simp; omega) (go ?_)
                    refine VAll.mk (fun b2 => go ?_)
                    refine ⟨⟨some b2, j' + 1, q, out ++ [⟨2, [], (refNumR (chars w)).1, p⟩], out0 ++ [_]⟩, ⟨plq, ?_, ?_, hT⟩, ?_, ?_, ?_⟩
                    · simp; omega
                    · intro h; cases h
                    · dsimp only; omega
                    · simp [accV]
                    · simp only [accS, toksC_snoc]; rw [mulN_eq, take_toksC]; exact .cons 0 rfl .nil
              | false =>
                refine go ?_
                have hd2 := dec_pos _ hne2
                rw [List.length_drop] at hd2
                rw [wlen_cons hne2 hbl2, List.drop_drop] at hw
                have hrm : (runes (s.drop p))[m]? = some (dec (s.drop q)) := by
                  have := runes_drop m (s.drop p)
                  rw [List.drop_drop, ← hqm, runes_cons hne2] at this
                  have := congrArg (·[0]?) this
                  simpa using this.symm
                refine ⟨⟨j + 1, q + (dec (s.drop q)).2, m + 1⟩, ⟨plq2, ?_, ?_, ?_, .inr ⟨_, by simpa using c2, rfl⟩⟩, ?_, rfl, .cons 0 rfl (.cons 0 rfl .nil)⟩
                · dsimp only; omega
                · dsimp only; rw [sizes_succ hrm]; omega
                · dsimp only
                  have hqp : p ≤ q := by rw [hqm]; exact Nat.le_add_right _ _
                  rw [← hw, show q + (dec (s.drop q)).2 - p = (q - p) + (dec (s.drop q)).2 from Nat.sub_add_comm hqp, Nat.add_assoc]
                · dsimp only; omega
            · have hq2 : ¬ q < s.length := fun h => hlt2 (by have := plq.lt.2 h; omega)
              rw [show s.drop q = [] from List.drop_eq_nil_of_le (by omega), show wlen [] = 0 from rfl] at hw
              have hw1 := wlen_cons hne hbl
              have hm : m ≠ 0 := by
                intro e; subst e; simp [sizes] at hqm; omega
              obtain ⟨x, hx1, hx2⟩ := hz.resolve_left hm
              obtain ⟨j', rfl⟩ : ∃ j', j = j' + 1 := ⟨j - 1, by omega⟩
              rw [Nat.add_sub_cancel] at hx1
              have hjl := (List.getElem?_eq_some_iff.1 hx1).1
              have hx := chC_n hx1
              rw [hx2] at hx
              refine VQ.mk (.int .i64 p) (by refine go ?_; exact VNth.mk _ (by simpa using m0.2.1) ⟨rfl, rfl⟩) (go ?_)
              have hqp : p ≤ q := by rw [hqm]; exact Nat.le_add_right _ _
              have hql := plq.le
              refine VQ.mk (.fzp (List.drop (mulN j' 4) (chC (charsR s)))) (by refine go ?_; exact VIdx.at j' (by omega) (by omega) ⟨rfl, rfl⟩) (go ?_)
              refine VQ.mk (.int .i64 q) (by refine go ?_; exact VNth.mk _ (by simpa using hx.2.2) ⟨rfl, rfl⟩) (go ?_)
              have hwq : q - p = wlen (s.drop p) := by omega
              have hword : List.drop p (List.take q s) = (s.drop p).take (wlen (s.drop p)) := by rw [List.drop_take, hwq]
              rw [hword]
              have hmq : sizes ((runes (s.drop p)).take m) = wlen (s.drop p) := by rw [← hwq, hqm, Nat.add_sub_cancel_left]
              have hchs : ((charsR s).take (j' + 1)).drop k = chL p ((runes (s.drop p)).take m) := by
                rw [List.drop_take, pl.dr, chL_take, show j' + 1 - k = m by rw [hj, Nat.add_sub_cancel_left]]
              have hcr : ((runes (s.drop p)).take m).map (·.1) = chars ((s.drop p).take (wlen (s.drop p))) := by
                have := runes_take m (s.drop p) hgood
                rw [hmq] at this
                rw [← this]; rfl
              have hdrop : (s.drop p).drop (wlen (s.drop p)) = s.drop q := by rw [List.drop_drop, ← hwq]; congr 1; omega
              have hw0 : (s.drop p).take (wlen (s.drop p)) ≠ [] := by
                intro e
                have := congrArg List.length e
                rw [List.length_take, List.length_drop, List.length_nil] at this; omega
              refine fork (fun h33 => go ?_) (fun h33 => go ?_)
              · have hta : tokAt s.length (s.drop p) = if Lib.indexByte (s.drop p) 10 < 0 then .stop else .skip ((s.drop p).drop (Lib.indexByte (s.drop p) 10).toNat) := by
                  unfold tokAt; rw [if_pos h33]
                rw [hta] at hT
                refine VLoop.mk [7] (Nat × Nat) (fun i => [.int .i64 i.1]) (fun _ => (bt, .box [.int .i64 0, .str [], .int .i64 0, .int .i64 p]) :: accS (some bo) 4 (toksC out))
                  (fun i => PlaceC s i.1 i.2 ∧ p ≤ i.2 ∧ Lib.indexByte (s.drop p) 10 = if Lib.indexByte (s.drop i.2) 10 < 0 then -1 else ((i.2 - p : Nat) : Int) + Lib.indexByte (s.drop i.2) 10) (fun i => s.length - i.2) (k, p) ?_ ?_
                · refine ⟨⟨pl, Nat.le_refl _, ?_⟩, rfl, .cons 0 rfl (.cons 0 rfl .nil)⟩
                  have := indexByte_lt (s.drop p) 10
                  dsimp only
                  split <;> omega
                rintro ⟨j, r⟩ ⟨plr, hpr, hix⟩
                dsimp only at plr hpr hix ⊢
                refine go ?_
                refine fork (fun hlt3 => go ?_) (fun hlt3 => go ?_)
                · have hlt3 : j < (charsR s).length := by omega
                  have hr := plr.lt.1 hlt3
                  have hne3 : s.drop r ≠ [] := by simp; omega
                  obtain ⟨c3, plr2⟩ := plr.at hr
                  have m3 := chC_n c3
                  refine VNth.mk (.int .i32 (dec (s.drop r)).1) (by simpa using m3.1) (go ?_)
                  have hd3 := dec_pos _ hne3
                  rw [List.length_drop] at hd3
                  refine fork (fun h10 => go ?_) (fun h10 => go ?_)
                  · have h10 : (dec (s.drop r)).1 ≠ 10 := by omega
                    have hb3 := plr.good hf (dec (s.drop r)) (by rw [runes_cons hne3]; exact List.mem_cons_self)
                    rw [indexByte_char 10 hne3 hb3 (by decide) h10, List.drop_drop] at hix
                    refine ⟨(j + 1, r + (dec (s.drop r)).2), ⟨plr2, ?_, ?_⟩, ?_, rfl, .cons 0 rfl (.cons 0 rfl .nil)⟩
                    · dsimp only; omega
                    · dsimp only
                      rw [hix]
                      have := indexByte_lt (s.drop (r + (dec (s.drop r)).2)) 10
                      repeat' split
                      all_goals omega
                    · dsimp only; omega
                  · have h10 : (dec (s.drop r)).1 = 10 := by omega
                    obtain ⟨c, hc⟩ := drop_cons hr
                    have hc10 : c = 10 := by rw [← UInt8.toNat_inj]; exact (by rw [hc] at h10; exact (dec_low c _ 10 (by omega)).1 h10)
                    have hi0 : Lib.indexByte (s.drop r) 10 = 0 := by rw [hc, hc10]; unfold Lib.indexByte; rfl
                    rw [hi0, if_neg (by decide)] at hix
                    have hrp : r ≠ p := by
                      intro e
                      rw [e] at h10
                      rw [h10] at hbl
                      exact absurd hbl (by decide)
                    rw [hix, if_neg (by omega)] at hT
                    dsimp only at hT
                    rw [List.drop_drop, show p + (((r - p : Nat) : Int) + 0).toNat = r by omega] at hT
                    refine ⟨⟨(some bo), j, r, out, out0⟩, ⟨plr, hol, ho, hT⟩, ?_, rfl, .cons 1 rfl .nil⟩
                    dsimp only; omega
                · have hr : ¬ r < s.length := fun h => hlt3 (by have := plr.lt.2 h; omega)
                  rw [show s.drop r = [] from List.drop_eq_nil_of_le (by omega)] at hix
                  rw [if_pos (show Lib.indexByte [] 10 < 0 by decide)] at hix
                  rw [hix, if_pos (by decide)] at hT
                  refine ⟨⟨(some bo), j, r, out, out0⟩, ⟨plr, hol, ho, ?_⟩, ?_, rfl, ?_⟩
                  · dsimp only; rw [show s.drop r = [] from List.drop_eq_nil_of_le (by omega)]; exact hT
                  · dsimp only; omega
                  · exact .cons 1 rfl .nil
              · have hta : tokAt s.length (s.drop p) = (if (digitsR ((s.drop p).take (wlen (s.drop p)))).2.1 then
                      (if (digitsR ((s.drop p).take (wlen (s.drop p)))).2.2 then .tok ⟨2, [], (digitsR ((s.drop p).take (wlen (s.drop p)))).1, (p : Nat)⟩ (s.drop q) else .bad (p : Nat) 11)
                    else if nameR ((s.drop p).take (wlen (s.drop p))) then .tok ⟨1, (s.drop p).take (wlen (s.drop p)), 0, (p : Nat)⟩ (s.drop q) else .bad (p : Nat) 10 : TStep) := by
                  unfold tokAt
                  rw [if_neg h33, hdrop, List.length_drop, Nat.sub_sub_self (Nat.le_of_lt hq)]
                  cases hcw : (s.drop p).take (wlen (s.drop p)) with
                  | nil => exact absurd hcw hw0
                  | cons c y =>
                    dsimp only
                    rw [if_neg]
                    intro e
                    obtain ⟨c', hc'⟩ := drop_cons hq
                    rw [hc'] at hcw
                    cases hwn : wlen (s.drop p) with
                    | zero => omega
                    | succ n =>
                      rw [hc'] at hwn
                      rw [hwn, List.take_succ_cons] at hcw
                      injection hcw with h1 h2
                      apply h34
                      have := (dec_low c' (s.drop (p + 1)) 34 (by omega)).2 (by rw [h1, e]; rfl)
                      rw [hc', this]; rfl
                have hdn := digits_num ((s.drop p).take (wlen (s.drop p)))
                have hwl : ((s.drop p).take (wlen (s.drop p))).length ≤ 65536 := by rw [List.length_take, List.length_drop]; omega
                have fnu := f_refNumber ((s.drop p).take (wlen (s.drop p))) (by omega)
                have fna := f_refName' ((s.drop p).take (wlen (s.drop p))) (by omega)
                have hln : (((charsR s).take (j' + 1)).drop k).length = j' + 1 - k := by rw [List.length_drop, List.length_take, Nat.min_eq_left hjl]
                have fnm := f_number (((charsR s).take (j' + 1)).drop k) [] false (fun c hc => charsR_le s c (List.mem_of_mem_take (List.mem_of_mem_drop hc))) (by rw [hln]; omega)
                rw [List.append_nil, ← chC_drop, ← chC_take] at fnm
                rw [show (((charsR s).take (j' + 1)).drop k).map (·.r) = chars ((s.drop p).take (wlen (s.drop p))) by rw [hchs, ← hcr, chL_r]] at fnm
                rw [hln] at fnm
                rw [← mulN_eq, ← mulN_eq] at fnm
                generalize (s.drop p).take (wlen (s.drop p)) = w at hta hdn fnu fna fnm hw0 h33 hwl
                refine Fn.use (fnm) (go ?_)
                cases hn : numR (chars w) with
                | none =>
                  rw [hn, Option.isSome_none] at hdn
                  rw [hdn.1, if_neg (by simp)] at hta
                  have hnm : nameR w = true := by
                    cases hnm : nameR w with
                    | true => rfl
                    | false => rw [hnm, if_neg (by simp)] at hta; exact absurd hta (hnb _ _)
                  rw [hnm, if_pos rfl] at hta
                  rw [hnm] at fna
                  obtain ⟨ho4, hT⟩ := toks_more hta hT h0
                  refine go ?_
                  refine Fn.use (fna) (go ?_)
                  refine VIf.no (by simp; try omega) (go ?_)
                  refine VGd.mk (by simp; omega) (go ?_)
                  refine VAll.mk (fun b2 => go ?_)
                  refine ⟨⟨some b2, j' + 1, q, out ++ [⟨1, w, 0, p⟩], out0 ++ [_]⟩, ⟨plq, ?_, ?_, hT⟩, ?_, ?_, ?_⟩
                  · simp; omega
                  · intro h; cases h
                  · dsimp only; omega
                  · simp [accV]
                  · simp only [accS, toksC_snoc]; rw [mulN_eq, take_toksC]; exact .cons 0 rfl .nil
                | some n =>
                  rw [hn, Option.isSome_some] at hdn
                  rw [hdn.1, if_pos rfl] at hta
                  have hok : (digitsR w).2.2 = true := by
                    cases hok : (digitsR w).2.2 with
                    | true => rfl
                    | false => rw [hok, if_neg (by simp)] at hta; exact absurd hta (hnb _ _)
                  rw [hok, if_pos rfl] at hta
                  rw [((hdn.2 hdn.1).1).1 hok] at fnu
                  obtain ⟨ho4, hT⟩ := toks_more hta hT h0
                  refine go ?_
                  refine Fn.use (fnu) (go ?_)
                  refine VIf.no (by simp; try omega) (go ?_)
                  refine VGd.mk (by simp; omega) (go ?_)
                  refine VAll.mk (fun b2 => go ?_)
                  refine ⟨⟨some b2, j' + 1, q, out ++ [⟨2, [], (refNumR (chars w)).1, p⟩], out0 ++ [_]⟩, ⟨plq, ?_, ?_, hT⟩, ?_, ?_, ?_⟩
                  · simp; omega
                  · intro h; cases h
                  · dsimp only; omega
                  · simp [accV]
                  · simp only [accS, toksC_snoc]; rw [mulN_eq, take_toksC]; exact .cons 0 rfl .nil
      · have hq : ¬ p < s.length := fun h => hlt (by have := pl.lt.2 h; omega)
        rw [List.drop_eq_nil_of_le (by omega), show toks s.length [] out0 = (out0, 0, 0) from rfl] at hT
        refine VRet.mk [] .nil ?_
        rw [← hT]
        exact ⟨out, hol, by rw [take_toksC], rfl⟩
end Go.Proofs.YtbmplclnondfnaaDoor

namespace Go.Proofs.YtbmplclnondfnaaDoor
open Go Go.Av
theorem f_ParseJoins (s t : List UInt8) (hs : s.length ≤ 140737488351232) (ht : t.length ≤ 140737488351232) : Av.Fn Tryd.prog 3 [.str s, .str t] (.bool true) := by
  have fs := f_Parse s hs
  have ft := f_Parse t ht
  have e0s := parse_err0 (s := s)
  have hj := parse_join (s := s) (t := t)
  have oks := parse_ok (s := s)
  have okt := parse_ok (s := t)
  have sos := parseR_sound s
  have sot := parseR_sound t
  have las := parseR_len s
  have lbt := parseR_len t
  generalize parseR s = a at fs hj oks sos e0s las
  generalize parseR t = b at ft hj okt sot lbt
  obtain ⟨A, i, e⟩ := a
  obtain ⟨B, k, f⟩ := b
  dsimp only at fs ft hj oks okt sos sot e0s las lbt
  refine ACalls.of_W tb_ok (fn := Tryd.f3) (n := 101) (by kernel_rfl) rfl (by kernel_rfl) rfl rfl (by simp) (go ?_)
  refine Fn.use (f_awake07) (go ?_)
  refine Fn.use (fs) (go ?_)
  refine Fn.use (ft) (go ?_)
  refine fork (fun he => go ?_) (fun he => go ?_)
  · have he : e ≠ 0 := by omega
    rw [e0s he]
    refine VIf.no (by simpa using he) (go ?_)
    refine VRet.mk [] .nil ?_
    exact ⟨rfl, rfl⟩
  refine fork (fun hf => go ?_) (fun hf => go ?_)
  · refine VIf.yes (by simp; omega) (go ?_)
    refine VRet.mk [] .nil ?_
    exact ⟨rfl, rfl⟩
  have hj := hj (by omega) (by omega)
  obtain ⟨ts, _⟩ := oks (by omega)
  obtain ⟨tt, _⟩ := okt (by omega)
  have ls := (tokens_ok s ts).1
  have ms := (tokens_ok s ts).2.2.1
  have mt := (tokens_ok t tt).2.2.1
  have lt := (tokens_ok t tt).1
  have fj := f_Parse (s ++ 10 :: t) (by simp; omega)
  refine VGd.mk (by simp; omega) (go ?_)
  refine VGd.mk (by simp; omega) (go ?_)
  rw [show s ++ [10] ++ t = s ++ 10 :: t by simp]
  refine Fn.use (fj) (go ?_)
  rcases hj with hj | ⟨hj, hwhy⟩
  · rw [hj]
    refine go ?_
    have hcA : ∀ f ∈ A, f.clean = true := fun f hf => form_clean (sos f hf)
    have hcB : ∀ f ∈ B, f.clean = true := fun f hf => form_clean (sot f hf)
    have hcX : ∀ f ∈ A ++ B, f.clean = true := fun f hf => (List.mem_append.1 hf).elim (hcA f) (hcB f)
    have hsX : ∀ f ∈ (A ++ B).map formRV, f.small = true := by
      intro f hf
      obtain ⟨x, hx, rfl⟩ := List.mem_map.1 hf
      exact form_small ((List.mem_append.1 hx).elim (sos x) (sot x))
    refine ACalls.use (f_FormTrees A hcA (by omega)) (List.Perm.refl _) ?_
    rintro _ _ ⟨oA, rfl, rfl, hoA⟩
    refine go ?_
    refine ACalls.use (f_FormTrees B hcB (by omega)) (List.Perm.refl _) ?_
    rintro _ _ ⟨oB, rfl, rfl, hoB⟩
    cases oA with
    | none =>
      obtain rfl := hoA rfl
      cases oB with
      | none =>
        obtain rfl := hoB rfl
        refine go ?_
        refine ACalls.use (f_FormTrees ([] ++ []) hcX (by simp; try omega)) (List.Perm.refl _) ?_
        rintro _ _ ⟨oX, rfl, rfl, hoX⟩
        have hX := f_SameForms (([] ++ []).map formRV) hsX (by simp; try omega) [] [] false false
        rw [List.append_nil, List.length_map] at hX
        cases oX with
        | none =>
          have hX0 := hoX rfl
          refine go ?_
          refine Fn.use (v := .bool true) (by exact hX) (go ?_)
          refine VRet.mk [] .nil ?_
          exact ⟨rfl, rfl⟩
        | some bX =>
          refine go ?_
          refine Fn.use (v := .bool true) (by simpa [mulN_eq, rformsC] using hX) (go ?_)
          refine VRet.mk [] .nil ?_
          exact ⟨rfl, rfl⟩
      | some b2 =>
        refine go ?_
        refine VGd.mk (by simp [mulN_eq]) (go ?_)
        refine VGd.mk (by simp; omega) (go ?_)
        refine fork (fun hB0 => go ?_) (fun hB0 => go ?_)
        · have hB0 : B = [] := List.length_eq_zero_iff.1 (by omega)
          subst hB0
          refine go ?_
          refine ACalls.use (f_FormTrees ([] ++ []) hcX (by simp; try omega)) (List.Perm.refl _) ?_
          rintro _ _ ⟨oX, rfl, rfl, hoX⟩
          have hX := f_SameForms (([] ++ []).map formRV) hsX (by simp; try omega) [] [] false false
          rw [List.append_nil, List.length_map] at hX
          cases oX with
          | none =>
            have hX0 := hoX rfl
            refine go ?_
            refine Fn.use (v := .bool true) (by exact hX) (go ?_)
            refine VRet.mk [] .nil ?_
            exact ⟨rfl, rfl⟩
          | some bX =>
            refine go ?_
            refine Fn.use (v := .bool true) (by simpa [mulN_eq, rformsC] using hX) (go ?_)
            refine VRet.mk [] .nil ?_
            exact ⟨rfl, rfl⟩
        · refine VAll.mk (fun b3 => go ?_)
          refine ACalls.use (f_FormTrees ([] ++ B) hcX (by simp; try omega)) (List.Perm.refl _) ?_
          rintro _ _ ⟨oX, rfl, rfl, hoX⟩
          have hX := f_SameForms (([] ++ B).map formRV) hsX (by simp; try omega) [] [] false false
          rw [List.append_nil, List.length_map] at hX
          cases oX with
          | none =>
            have hX0 := hoX rfl
            refine go ?_
            refine Fn.use (v := .bool true) (by (exfalso; simp at hX0; simp [hX0] at hB0)) (go ?_)
            refine VRet.mk [] .nil ?_
            exact ⟨rfl, rfl⟩
          | some bX =>
            refine go ?_
            refine Fn.use (v := .bool true) (by (simpa [mulN_eq, List.take_of_length_le] using hX)) (go ?_)
            refine VRet.mk [] .nil ?_
            exact ⟨rfl, rfl⟩
    | some b1 =>
      cases oB with
      | none =>
        obtain rfl := hoB rfl
        refine go ?_
        refine VGd.mk (by simp [mulN_eq]; omega) (go ?_)
        refine VAll.mk (fun b3 => go ?_)
        refine ACalls.use (f_FormTrees (A ++ []) hcX (by simp; try omega)) (List.Perm.refl _) ?_
        rintro _ _ ⟨oX, rfl, rfl, hoX⟩
        have hX := f_SameForms ((A ++ []).map formRV) hsX (by simp; try omega) [] [] false false
        rw [List.append_nil, List.length_map] at hX
        cases oX with
        | none =>
          have hX0 := hoX rfl
          refine go ?_
          refine Fn.use (v := .bool true) (by (simp at hX0; subst hX0; simpa [mulN_eq, rformsC] using hX)) (go ?_)
          refine VRet.mk [] .nil ?_
          exact ⟨rfl, rfl⟩
        | some bX =>
          refine go ?_
          refine Fn.use (v := .bool true) (by (simpa [mulN_eq, List.take_of_length_le] using hX)) (go ?_)
          refine VRet.mk [] .nil ?_
          exact ⟨rfl, rfl⟩
      | some b2 =>
        refine go ?_
        refine VGd.mk (by simp [mulN_eq]) (go ?_)
        refine VGd.mk (by simp [mulN_eq]; omega) (go ?_)
        refine VAll.mk (fun b3 => go ?_)
        have hcat : List.take (mulN A.length 9) (rformsC (A.map formRV)) ++ List.take (mulN B.length 9) (rformsC (B.map formRV)) = rformsC ((A ++ B).map formRV) := by
          simp [mulN_eq, List.take_of_length_le, rformsC_app]
        rw [hcat]
        refine ACalls.use (f_FormTrees (A ++ B) hcX (by simp; try omega)) (List.Perm.refl _) ?_
        rintro _ _ ⟨oX, rfl, rfl, hoX⟩
        have hX := f_SameForms ((A ++ B).map formRV) hsX (by simp; try omega) [] [] false false
        rw [List.append_nil, List.length_map] at hX
        cases oX with
        | none =>
          have hX0 := hoX rfl
          refine go ?_
          refine Fn.use (v := .bool true) (by (simp at hX0; obtain ⟨rfl, rfl⟩ := hX0; simpa [mulN_eq, rformsC] using hX)) (go ?_)
          refine VRet.mk [] .nil ?_
          exact ⟨rfl, rfl⟩
        | some bX =>
          refine go ?_
          refine Fn.use (v := .bool true) (by (simpa [mulN_eq, List.take_of_length_le, rformsC_app, Nat.add_mul] using hX)) (go ?_)
          refine VRet.mk [] .nil ?_
          exact ⟨rfl, rfl⟩
  · rw [hj]
    refine go ?_
    refine ACalls.use (f_refTokens s ts) (List.Perm.refl _) ?_
    rintro _ _ ⟨m, hm, rfl, rfl⟩
    refine go ?_
    refine ACalls.use (f_refTokens t tt) (List.Perm.refl _) ?_
    rintro _ _ ⟨n, hn, rfl, rfl⟩
    refine go ?_
    refine fork (fun h65 => go ?_) (fun h65 => go ?_)
    · refine VRet.mk [] .nil ?_
      exact ⟨rfl, rfl⟩
    · refine VRet.mk [] .nil ?_
      have : 4096 < m.length + n.length := by omega
      exact ⟨by simp; omega, rfl⟩
end Go.Proofs.YtbmplclnondfnaaDoor
