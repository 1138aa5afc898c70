/- The trees that are read: their sizes, depths and leaves. Plain Lean. Conditions: as each says. The forms that are read are sound; items alone. Plain Lean. Conditions: as each says. Two sources, one on each line: plain Lean. Conditions: as each says. parse: Parse. Conditions: as each says. parse: Parse, and what the law's awake answers. Conditions: as each says. The reference's Measure, Sound, Bare, Name. Conditions: as each says. ParseSound: the plain law and the walk. -/
import Derived.Test.YtbmplclnondfnaaDoorX6
import Derived.Test.YtbmplclnondfnaaDoorX5
import Derived.Test.YtbmplclnondfnaaDoorX4
set_option linter.all false
namespace Go.Proofs.YtbmplclnondfnaaDoor
open Go Go.Av
def Tree.isCall : Tree → Bool
  | .call _ => true
  | _ => false
mutual
def Tree.okT : Tree → Bool
  | .int n => decide (-1152921504606846976 ≤ n) && decide (n ≤ 1152921504606846975)
  | .str s => decide (s.length ≤ 4096) && decide (faultR s = none)
  | .bool _ => true
  | .list l => okVals l
  | .quot l => okItems l
  | .call s => nameR s && !reservedR s
  | _ => false
def okVals : List Tree → Bool
  | [] => true
  | t :: r => t.okT && !t.isCall && okVals r
def okItems : List Tree → Bool
  | [] => true
  | t :: r => t.okT && okItems r
end
mutual
def Tree.size : Tree → Nat
  | .list l => sizeAll l + 1
  | .quot l => sizeAll l + 1
  | _ => 1
def sizeAll : List Tree → Nat
  | [] => 0
  | t :: r => t.size + sizeAll r
end
theorem size_pos (t : Tree) : 1 ≤ t.size := by cases t <;> simp [Tree.size]
theorem sizeAll_app (a b : List Tree) : sizeAll (a ++ b) = sizeAll a + sizeAll b := by
  induction a with
  | nil => simp [sizeAll]
  | cons t a ih => simp only [List.cons_append, sizeAll, ih]; omega
theorem sizeAll_len (l : List Tree) : l.length ≤ sizeAll l := by
  induction l with
  | nil => simp
  | cons t l ih => have := size_pos t; simp only [List.length_cons, sizeAll]; omega
theorem countR_sz {p : Int} {s s' : RS} (h : countR p s = .ok s') : s'.l = s.l ∧ s'.opn = s.opn ∧ (0 < s.opn → s'.sz = s.sz + 1 ∧ s'.sz ≤ 1024) ∧ (s.opn = 0 → s'.sz = s.sz) := by
  unfold countR at h
  split at h
  · split at h
    · cases h
    · cases h
      exact ⟨rfl, rfl, fun _ => ⟨rfl, by dsimp only; omega⟩, fun h => by omega⟩
  · cases h
    exact ⟨rfl, rfl, fun h => by omega, fun _ => rfl⟩
theorem enterR_sz {p : Int} {s s' : RS} (h : enterR p s = .ok s') : s'.l = s.l ∧ s'.opn = s.opn + 1 ∧ s.opn + 1 ≤ 32 ∧ s'.sz ≤ 1024 ∧ (0 < s.opn → s'.sz = s.sz + 1) ∧ (s.opn = 0 → s'.sz = 1) := by
  unfold enterR at h
  split at h
  · cases h
  · have := countR_sz h
    dsimp only at this
    obtain ⟨h1, h2, h3, _⟩ := this
    obtain ⟨h4, h5⟩ := h3 (by omega)
    refine ⟨h1, h2, by omega, h5, fun ho => ?_, fun ho => ?_⟩
    · rw [h4, if_neg (by omega)]
    · rw [h4, if_pos (by omega)]
def Good (s : RS) : Prop := (∀ t ∈ s.l, TokOk t) ∧ s.opn ≤ 32 ∧ s.sz ≤ 1024
structure One (v : Tree) (s s' : RS) : Prop where
  ok : v.okT = true
  deep : v.depth + s.opn ≤ 32
  sz : 0 < s.opn → s'.sz = s.sz + v.size
  small : v.size ≤ 1024
  left : s'.sz ≤ 1024
  sub : ∀ t ∈ s'.l, t ∈ s.l
structure Many (ok : List Tree → Bool) (ys : List Tree) (s s' : RS) : Prop where
  ok : ok ys = true
  deep : depthAll ys + s.opn ≤ 32
  sz : s'.sz = s.sz + sizeAll ys
  left : s'.sz ≤ 1024
  sub : ∀ t ∈ s'.l, t ∈ s.l
theorem parse_sound (fin : Int) : ∀ k,
    (∀ s v s', Good s → litR fin k s = .ok (some v, s') → One v s s' ∧ v.isCall = false) ∧
    (∀ s v s', Good s → itemR fin k s = .ok (some v, s') → One v s s') ∧
    (∀ shut s acc v s', Good s → 0 < s.opn → itemsR fin k shut s acc = .ok (v, s') → ∃ ys, v = acc ++ ys ∧ Many okItems ys s s') ∧
    (∀ s acc v s', Good s → 0 < s.opn → valsR fin k s acc = .ok (v, s') → ∃ ys, v = acc ++ ys ∧ Many okVals ys s s') := by
  intro k
  induction k with
  | zero =>
    refine ⟨?_, ?_, ?_, ?_⟩
    · intro s v s' _ h; simp [litR] at h
    · intro s v s' _ h; simp [itemR] at h
    · intro shut s acc v s' _ _ h; simp [itemsR] at h
    · intro s acc v s' _ _ h; simp [valsR] at h
  | succ k ih =>
    obtain ⟨ih1, ih2, ih3, ih4⟩ := ih
    refine ⟨?_, ?_, ?_, ?_⟩
    · intro s v s' hg h
      rw [litR] at h
      split at h
      · cases h
      · rename_i t r hl
        obtain ⟨hg1, hg2, hg3⟩ := hg
        have ht : TokOk t := hg1 t (by rw [hl]; exact List.mem_cons_self)
        have cnt : ∀ {w : Tree}, w.okT = true → w.depth = 0 → w.size = 1 → w.isCall = false → (match countR t.pos { s with l := r } with
            | .error e => (.error e : PR (Option Tree))
            | .ok s' => .ok (some w, s')) = .ok (some v, s') → One v s s' ∧ v.isCall = false := by
          intro w h1 h2 h3 h4 h
          split at h
          · cases h
          · rename_i s3 hc
            cases h
            obtain ⟨c1, c2, c3, c4⟩ := countR_sz hc
            dsimp only at c1 c2 c3 c4
            refine ⟨⟨h1, by omega, fun ho => by have := (c3 ho).1; omega, by omega, ?_, fun x hx => by rw [hl, ← c1]; exact List.mem_cons_of_mem _ hx⟩, h4⟩
            rcases Nat.eq_zero_or_pos s.opn with h0 | h0
            · rw [c4 h0]; exact hg3
            · exact (c3 h0).2
        have brk : ∀ {ok : List Tree → Bool} {ys : List Tree} {w : Tree} {s1 s2 : RS}, w.okT = ok ys → w.depth = depthAll ys + 1 → w.size = sizeAll ys + 1 → w.isCall = false →
            enterR t.pos { s with l := r } = .ok s1 → Many ok ys s1 s2 → One w s { s2 with opn := s2.opn - 1 } ∧ w.isCall = false := by
          intro ok ys w s1 s2 h1 h2 h3 h4 he m
          obtain ⟨e1, e2, e3, e4, e5, e6⟩ := enterR_sz he
          dsimp only at e1 e2 e3 e5 e6
          obtain ⟨m1, m2, m3, m4, m5⟩ := m
          refine ⟨⟨by rw [h1]; exact m1, by omega, fun ho => by have := e5 ho; dsimp only; omega, ?_, by dsimp only; omega, fun x hx => by rw [hl, ← e1]; exact List.mem_cons_of_mem _ (m5 x hx)⟩, h4⟩
          rcases Nat.eq_zero_or_pos s.opn with h0 | h0
          · have := e6 h0; omega
          · have := e5 h0; omega
        have good1 : ∀ {s1 : RS}, enterR t.pos { s with l := r } = .ok s1 → Good s1 ∧ 0 < s1.opn := by
          intro s1 he
          obtain ⟨e1, e2, e3, e4, e5, e6⟩ := enterR_sz he
          dsimp only at e1 e2 e3
          exact ⟨⟨fun x hx => hg1 x (by rw [hl, ← e1]; exact List.mem_cons_of_mem _ hx), by omega, e4⟩, by omega⟩
        split at h
        · rename_i h1
          exact cnt (by have := ht.num h1; simp [Tree.okT]; omega) rfl rfl rfl h
        · split at h
          · rename_i h1
            exact cnt (by have := ht.str h1; simp [Tree.okT]; exact this) rfl rfl rfl h
          · split at h
            · exact cnt (by simp [Tree.okT]) rfl rfl rfl h
            · split at h
              · split at h
                · cases h
                · rename_i s1 he
                  split at h
                  · cases h
                  · rename_i ys s2 hi
                    cases h
                    obtain ⟨q1, q2⟩ := good1 he
                    obtain ⟨zs, e, m⟩ := ih3 _ _ _ _ _ q1 q2 hi
                    rw [List.nil_append] at e
                    subst e
                    exact brk rfl rfl rfl rfl he m
              · split at h
                · split at h
                  · cases h
                  · rename_i s1 he
                    split at h
                    · cases h
                    · rename_i ys s2 hi
                      cases h
                      obtain ⟨q1, q2⟩ := good1 he
                      obtain ⟨zs, e, m⟩ := ih4 _ _ _ _ q1 q2 hi
                      rw [List.nil_append] at e
                      subst e
                      exact brk rfl rfl rfl rfl he m
                · cases h
    · intro s v s' hg h
      rw [itemR] at h
      split at h
      · cases h
      · rename_i v1 s1 hl
        cases h
        exact (ih1 _ _ _ hg hl).1
      · rename_i s1 hl
        have hs := ((parse_less fin k).1 s _ hl).2 rfl
        dsimp only at hs
        subst hs
        split at h
        · cases h
        · rename_i w hp
          split at h
          · cases h
          · rename_i hr
            split at h
            · cases h
            · rename_i t s2 ht
              split at h
              · cases h
              · rename_i s3 hc
                cases h
                obtain ⟨c1, c2, c3, c4⟩ := countR_sz hc
                unfold takeR at ht
                split at ht
                · cases ht
                · rename_i t' r hl'
                  cases ht
                  obtain ⟨hg1, hg2, hg3⟩ := hg
                  have hto : TokOk t := hg1 t (by rw [hl']; exact List.mem_cons_self)
                  dsimp only at c1 c2 c3 c4
                  rw [hl'] at hp
                  simp only [peekR] at hp
                  split at hp
                  · rename_i hk
                    cases hp
                    refine ⟨by simp only [Tree.okT, hto.word hk, Bool.true_and, Bool.not_eq_true']; simpa using hr, by simp only [Tree.depth]; omega, fun ho => by simp only [Tree.size]; have := (c3 ho).1; omega, by simp [Tree.size], ?_, fun x hx => by rw [hl', ← c1]; exact List.mem_cons_of_mem _ hx⟩
                    rcases Nat.eq_zero_or_pos s1.opn with h0 | h0
                    · rw [c4 h0]; exact hg3
                    · exact (c3 h0).2
                  · cases hp
    · intro shut s acc v s' hg ho h
      rw [itemsR] at h
      split at h
      · split at h
        · cases h
        · rename_i t s1 ht
          cases h
          unfold takeR at ht
          split at ht
          · cases ht
          · rename_i t' r hl
            cases ht
            exact ⟨[], by simp, rfl, by simp only [depthAll]; have := hg.2.1; omega, rfl, hg.2.2, fun x hx => by rw [hl]; exact List.mem_cons_of_mem _ hx⟩
      · split at h
        · cases h
        · cases h
        · rename_i y s1 hi
          have o := ih2 _ _ _ hg hi
          have hless := ((parse_less fin k).2.1 s _ hi).1.opn
          dsimp only at hless
          obtain ⟨zs, e, m⟩ := ih3 shut s1 _ _ _ ⟨fun x hx => hg.1 x (o.sub x hx), by rw [hless]; exact hg.2.1, o.left⟩ (by omega) h
          refine ⟨y :: zs, by rw [e]; simp, by simp only [okItems, o.ok, m.ok]; rfl, ?_, ?_, m.left, fun x hx => o.sub x (m.sub x hx)⟩
          · have h1 := o.deep; have h2 := m.deep
            simp only [depthAll]; omega
          · rw [m.sz, o.sz ho, sizeAll]; omega
    · intro s acc v s' hg ho h
      rw [valsR] at h
      split at h
      · split at h
        · cases h
        · rename_i t s1 ht
          cases h
          unfold takeR at ht
          split at ht
          · cases ht
          · rename_i t' r hl
            cases ht
            exact ⟨[], by simp, rfl, by simp only [depthAll]; have := hg.2.1; omega, rfl, hg.2.2, fun x hx => by rw [hl]; exact List.mem_cons_of_mem _ hx⟩
      · split at h
        · cases h
        · cases h
        · rename_i y s1 hi
          obtain ⟨o, hcall⟩ := ih1 _ _ _ hg hi
          have hless := ((parse_less fin k).1 s _ hi).1.opn
          dsimp only at hless
          obtain ⟨zs, e, m⟩ := ih4 s1 _ _ _ ⟨fun x hx => hg.1 x (o.sub x hx), by rw [hless]; exact hg.2.1, o.left⟩ (by omega) h
          refine ⟨y :: zs, by rw [e]; simp, by simp only [okVals, o.ok, m.ok, hcall]; rfl, ?_, ?_, m.left, fun x hx => o.sub x (m.sub x hx)⟩
          · have h1 := o.deep; have h2 := m.deep
            simp only [depthAll]; omega
          · rw [m.sz, o.sz ho, sizeAll]; omega
end Go.Proofs.YtbmplclnondfnaaDoor

namespace Go.Proofs.YtbmplclnondfnaaDoor
open Go Go.Av
structure DefOk (d : DefT) : Prop where
  name : nameR d.name = true
  res : reservedR d.name = false
  inn : d.inn ≤ 16
  out : d.out ≤ 16
  body : okItems d.body = true
  deep : depthAll d.body ≤ 31
  size : sizeAll d.body ≤ 1023
structure ItOk (t : Tree) : Prop where
  ok : t.okT = true
  deep : t.depth ≤ 32
  size : t.size ≤ 1024
def FormOk : FormT → Prop
  | .define d => DefOk d
  | .item t => ItOk t
theorem takeR_sub {fin : Int} {s : RS} {x : Tok × RS} (h : takeR fin s = .ok x) : x.2.opn = s.opn ∧ x.2.sz = s.sz ∧ ∀ t ∈ x.2.l, t ∈ s.l := by
  unfold takeR at h
  split at h
  · cases h
  · rename_i t r hl
    cases h
    exact ⟨rfl, rfl, fun t ht => by rw [hl]; exact List.mem_cons_of_mem _ ht⟩
theorem wordR_sub {fin : Int} {want : List UInt8} {s : RS} {w : List UInt8} {s' : RS} (hg : ∀ t ∈ s.l, TokOk t) (h : wordR fin want s = .ok (w, s')) :
    s'.opn = s.opn ∧ s'.sz = s.sz ∧ (∀ t ∈ s'.l, t ∈ s.l) ∧ nameR w = true ∧ (want = [] → reservedR w = false) := by
  unfold wordR at h
  split at h
  · cases h
  · rename_i w' hp
    split at h
    · cases h
    · rename_i hc
      split at h
      · cases h
      · rename_i t s1 ht
        cases h
        obtain ⟨h1, h2, h3⟩ := takeR_sub ht
        refine ⟨h1, h2, h3, ?_, fun hw => ?_⟩
        · cases hl : s.l with
          | nil => rw [hl] at hp; cases hp
          | cons t' r =>
            rw [hl] at hp
            simp only [peekR] at hp
            split at hp
            · rename_i hk
              cases hp
              exact (hg t' (by rw [hl]; exact List.mem_cons_self)).word hk
            · cases hp
        · cases hr : reservedR w with
          | false => rfl
          | true => exact absurd (.inr ⟨hw, hr⟩) hc
theorem namesR_sub {fin : Int} {shut : List UInt8} : ∀ (k : Nat) (s : RS) (n v : Nat) (s' : RS), (∀ t ∈ s.l, TokOk t) → n ≤ 16 → namesR fin shut k s n = .ok (v, s') →
    s'.opn = s.opn ∧ s'.sz = s.sz ∧ (∀ t ∈ s'.l, t ∈ s.l) ∧ v ≤ 16
  | 0, _, _, _, _, _, _, h => by simp [namesR] at h
  | k + 1, s, n, v, s', hg, hn, h => by
    rw [namesR] at h
    split at h
    · split at h
      · cases h
      · rename_i t s1 ht
        cases h
        obtain ⟨h1, h2, h3⟩ := takeR_sub ht
        exact ⟨h1, h2, h3, hn⟩
    · split at h
      · cases h
      · rename_i w s1 hw
        split at h
        · cases h
        · obtain ⟨h1, h2, h3, _⟩ := wordR_sub hg hw
          obtain ⟨q1, q2, q3, q4⟩ := namesR_sub k s1 (n + 1) v s' (fun t ht => hg t (h3 t ht)) (by omega) h
          exact ⟨by rw [q1, h1], by rw [q2, h2], fun t ht => h3 t (q3 t ht), q4⟩
theorem defineR_sound {fin p : Int} {s : RS} {d : DefT} {s' : RS} (hg : ∀ t ∈ s.l, TokOk t) (ho : s.opn = 0) (h : defineR fin p s = .ok (d, s')) : DefOk d ∧ s'.opn = 0 ∧ s'.sz ≤ 1024 ∧ ∀ t ∈ s'.l, t ∈ s.l := by
  unfold defineR at h
  split at h
  · cases h
  · rename_i s1 h1
    obtain ⟨a1, a2, a3, a4, a5, a6⟩ := enterR_sz h1
    split at h
    · cases h
    · rename_i nm s2 h2
      obtain ⟨b1, b2, b3, b4, b5⟩ := wordR_sub (fun t ht => hg t (by rw [← a1]; exact ht)) h2
      have g2 : ∀ t ∈ s2.l, TokOk t := fun t ht => hg t (by rw [← a1]; exact b3 t ht)
      split at h
      · cases h
      · rename_i w3 s3 h3
        obtain ⟨c1, c2, c3, _, _⟩ := wordR_sub g2 h3
        split at h
        · cases h
        · rename_i i s4 h4
          obtain ⟨d1, d2, d3, d4⟩ := namesR_sub _ _ _ _ _ (fun t ht => g2 t (c3 t ht)) (by omega) h4
          split at h
          · cases h
          · rename_i o s5 h5
            obtain ⟨e1, e2, e3, e4⟩ := namesR_sub _ _ _ _ _ (fun t ht => g2 t (c3 t (d3 t ht))) (by omega) h5
            split at h
            · cases h
            · rename_i b s6 h6
              cases h
              have ho5 : s5.opn = 1 := by omega
              have hs5 : s5.sz = 1 := by have := a6 ho; omega
              obtain ⟨ys, e, m⟩ := (parse_sound fin _).2.2.1 _ _ _ _ _ ⟨fun t ht => g2 t (c3 t (d3 t (e3 t ht))), by omega, by omega⟩ (by omega) h6
              rw [List.nil_append] at e
              subst e
              have hop := ((parse_less fin _).2.2.1 _ _ _ _ h6).opn
              have m2 := m.deep; have m3 := m.sz; have m4 := m.left
              dsimp only at hop
              exact ⟨⟨b4, b5 rfl, d4, e4, m.ok, by dsimp only; omega, by dsimp only; omega⟩, by dsimp only; omega, m4, fun t ht => by rw [← a1]; exact b3 t (c3 t (d3 t (e3 t (m.sub t ht))))⟩
theorem formsR_sound {fin : Int} : ∀ (k : Nat) (s : RS) (acc l : List FormT) (s' : RS), (∀ t ∈ s.l, TokOk t) → s.opn = 0 → s.sz ≤ 1024 → (∀ f ∈ acc, FormOk f) → formsR fin k s acc = .ok (l, s') → ∀ f ∈ l, FormOk f
  | 0, _, _, _, _, _, _, _, _, h => by simp [formsR] at h
  | k + 1, s, acc, l, s', hg, ho, hz, ha, h => by
    rw [formsR] at h
    split at h
    · split at h
      · cases h
      · rename_i t s1 ht
        obtain ⟨h1, h2, h3⟩ := takeR_sub ht
        dsimp only at h1 h2 h3
        split at h
        · cases h
        · rename_i d s2 hd
          obtain ⟨q1, q2, q3, q4⟩ := defineR_sound (fun t ht => hg t (h3 t ht)) (by omega) hd
          refine formsR_sound k s2 _ l s' (fun t ht => hg t (h3 t (q4 t ht))) q2 q3 ?_ h
          intro f hf
          rcases List.mem_append.1 hf with hf | hf
          · exact ha f hf
          · rw [List.mem_singleton.1 hf]; exact q1
    · split at h
      · cases h
      · cases h; exact ha
      · rename_i y s1 hi
        have o := (parse_sound fin _).2.1 _ _ _ ⟨hg, by omega, hz⟩ hi
        have hop := ((parse_less fin _).2.1 s _ hi).1.opn
        dsimp only at hop
        refine formsR_sound k s1 _ l s' (fun t ht => hg t (o.sub t ht)) (by omega) o.left ?_ h
        intro f hf
        rcases List.mem_append.1 hf with hf | hf
        · exact ha f hf
        · rw [List.mem_singleton.1 hf]
          have := o.deep
          exact ⟨o.ok, by omega, o.small⟩
theorem parseR_sound (s : List UInt8) : ∀ f ∈ (parseR s).1, FormOk f := by
  unfold parseR readR
  split
  · simp
  · unfold finR
    split
    · simp
    · rename_i x hx
      split
      · simp
      · obtain ⟨l, q⟩ := x
        exact formsR_sound _ _ _ _ _ (tokens_good s) rfl (by dsimp only; omega) (by simp) hx
mutual
theorem ok_clean : ∀ (t : Tree), t.okT = true → t.size ≤ 1099511627776 → t.clean = true
  | .int _, _, _ => rfl
  | .str _, _, _ => rfl
  | .bool _, _, _ => rfl
  | .call _, _, _ => rfl
  | .list l, h, hs => by
    have := sizeAll_len l
    simp only [Tree.size] at hs
    simp only [Tree.clean, Bool.and_eq_true, decide_eq_true_eq]
    exact ⟨by omega, ok_cleanV l h (by omega)⟩
  | .quot l, h, hs => by
    have := sizeAll_len l
    simp only [Tree.size] at hs
    simp only [Tree.clean, Bool.and_eq_true, decide_eq_true_eq]
    exact ⟨by omega, ok_cleanI l h (by omega)⟩
  | .none, h, _ => by simp [Tree.okT] at h
  | .box _, h, _ => by simp [Tree.okT] at h
  | .odd _ _, h, _ => by simp [Tree.okT] at h
theorem ok_cleanV : ∀ (l : List Tree), okVals l = true → sizeAll l ≤ 1099511627776 → cleanAll l = true
  | [], _, _ => rfl
  | t :: r, h, hs => by
    simp only [okVals, Bool.and_eq_true] at h
    simp only [sizeAll] at hs
    simp only [cleanAll, Bool.and_eq_true]
    exact ⟨ok_clean t h.1.1 (by omega), ok_cleanV r h.2 (by omega)⟩
theorem ok_cleanI : ∀ (l : List Tree), okItems l = true → sizeAll l ≤ 1099511627776 → cleanAll l = true
  | [], _, _ => rfl
  | t :: r, h, hs => by
    simp only [okItems, Bool.and_eq_true] at h
    simp only [sizeAll] at hs
    simp only [cleanAll, Bool.and_eq_true]
    exact ⟨ok_clean t h.1 (by omega), ok_cleanI r h.2 (by omega)⟩
end
theorem item_val {t : Tree} (h : t.isCall = false) : itemRV t = valRV t := by
  cases t <;> first | rfl | (simp [Tree.isCall] at h)
mutual
theorem clean_small : ∀ (t : Tree), t.clean = true → (valRV t).small = true
  | .int _, _ => by simp [valRV, RV.small, smallAll]
  | .str _, _ => by simp [valRV, RV.small, smallAll]
  | .bool _, _ => by simp [valRV, RV.small, smallAll]
  | .call _, _ => by simp [valRV, RV.small, smallAll]
  | .none, _ => by simp [valRV, RV.small, smallAll]
  | .box _, _ => by simp [valRV, RV.small, smallAll]
  | .odd _ _, h => by simp [Tree.clean] at h
  | .list l, h => by
    simp only [Tree.clean, Bool.and_eq_true, decide_eq_true_eq] at h
    simp only [valRV, RV.small, Bool.and_eq_true, decide_eq_true_eq, valRVs_length]
    exact ⟨h.1, clean_smallV l h.2⟩
  | .quot l, h => by
    simp only [Tree.clean, Bool.and_eq_true, decide_eq_true_eq] at h
    simp only [valRV, RV.small, Bool.and_eq_true, decide_eq_true_eq, itemRVs_length]
    exact ⟨h.1, clean_smallI l h.2⟩
theorem clean_smallV : ∀ (l : List Tree), cleanAll l = true → smallAll (valRVs l) = true
  | [], _ => by simp [valRVs, smallAll]
  | t :: r, h => by
    simp only [cleanAll, Bool.and_eq_true] at h
    simp only [valRVs, smallAll, Bool.and_eq_true]
    exact ⟨clean_small t h.1, clean_smallV r h.2⟩
theorem clean_smallI : ∀ (l : List Tree), cleanAll l = true → smallAll (itemRVs l) = true
  | [], _ => by simp [itemRVs, smallAll]
  | t :: r, h => by
    simp only [cleanAll, Bool.and_eq_true] at h
    rw [itemRVs_cons]
    simp only [smallAll, Bool.and_eq_true]
    refine ⟨?_, clean_smallI r h.2⟩
    cases hc : t.isCall with
    | false => rw [item_val hc]; exact clean_small t h.1
    | true => cases t <;> first | (simp [itemRV, RV.small, smallAll]; done) | (simp [Tree.isCall] at hc)
end
theorem small_item {t : Tree} (h : t.clean = true) : (itemRV t).small = true := by
  cases hc : t.isCall with
  | false => rw [item_val hc]; exact clean_small t h
  | true => cases t <;> first | (simp [itemRV, RV.small, smallAll]; done) | (simp [Tree.isCall] at hc)
theorem form_clean {f : FormT} (h : FormOk f) : f.clean = true := by
  cases f with
  | define d =>
    have h : DefOk d := h
    have h1 := h.size
    have := sizeAll_len d.body
    simp only [FormT.clean, Bool.and_eq_true, decide_eq_true_eq]
    exact ⟨ok_cleanI _ h.body (by omega), by omega⟩
  | item t =>
    have h : ItOk t := h
    have h1 := h.size
    simp only [FormT.clean, Bool.and_eq_true]
    refine ⟨ok_clean t h.ok (by omega), ?_⟩
    have := h.ok
    cases t <;> first | rfl | (simp [Tree.okT] at this)
theorem form_small {f : FormT} (h : FormOk f) : (formRV f).small = true := by
  cases f with
  | define d =>
    have h : DefOk d := h
    have h1 := h.size
    have := sizeAll_len d.body
    simp only [formRV, defRV, RForm.small, Bool.and_eq_true, decide_eq_true_eq, itemRVs_length]
    exact ⟨clean_smallI _ (ok_cleanI _ h.body (by omega)), by omega⟩
  | item t =>
    have h : ItOk t := h
    have h1 := h.size
    exact small_item (ok_clean t h.ok (by omega))
end Go.Proofs.YtbmplclnondfnaaDoor

namespace Go.Proofs.YtbmplclnondfnaaDoor
open Go Go.Av
/-- Where the tokens of both are too many. -/
theorem toks_many (n d : Nat) : ∀ (m : Nat) (l : List UInt8) (out pre : List Tok), l.length ≤ m → l.length ≤ n → (toks n l out).2.2 = 0 → pre.length + out.length ≤ 4096 → 4096 < pre.length + (toks n l out).1.length →
    (toks (d + n) l (pre ++ out.map (Tok.shift d))).2.2 = 11 := by
  intro m
  induction m with
  | zero =>
    intro l out pre hm hn h ho hc
    obtain rfl : l = [] := List.length_eq_zero_iff.1 (by omega)
    rw [toks_step, if_pos rfl] at hc
    dsimp only at hc
    omega
  | succ m ih =>
    intro l out pre hm hn h ho hc
    rw [toks_step] at h hc ⊢
    by_cases e : l = []
    · rw [if_pos e] at hc; dsimp only at hc; omega
    · rw [if_neg e] at h hc ⊢
      have hl := trimL_le l
      rw [tokAt_shift n d (trimL l) (by omega)]
      cases hs : tokAt n (trimL l) with
      | stop => rw [hs] at hc; dsimp only at hc; omega
      | bad p e' => rw [hs] at hc; dsimp only at hc; simp at hc; omega
      | skip l' =>
        rw [hs] at h hc
        have := (tokAt_less (.inl hs)).1
        exact ih l' out pre (by omega) (by omega) h ho hc
      | tok t l' =>
        rw [hs] at h hc
        have := (tokAt_less (.inr ⟨t, hs⟩)).1
        dsimp only [stepShift] at h hc ⊢
        by_cases hb : out.length ≥ 4096
        · rw [if_pos hb] at h; simp at h
        · rw [if_neg hb] at h hc
          by_cases hb2 : (pre ++ out.map (Tok.shift d)).length ≥ 4096
          · rw [if_pos hb2]
          · rw [if_neg hb2]
            have := ih l' (out ++ [t]) pre (by omega) (by omega) h (by simp at hb2 ⊢; omega) hc
            simpa using this
theorem tokens_many {s t : List UInt8} (hs : (tokensR s).2.2 = 0) (ht : (tokensR t).2.2 = 0) (hlen : s.length + t.length < 65536) (hcnt : 4096 < (tokensR s).1.length + (tokensR t).1.length) :
    (tokensR (s ++ 10 :: t)).2.2 = 11 := by
  have h4 := (tokens_ok s hs).2.2.1
  unfold tokensR at hs ht hcnt h4 ⊢
  rw [if_neg (by omega)] at hs ht h4
  rw [if_neg (show ¬ s.length > 65536 by omega), if_neg (show ¬ t.length > 65536 by omega)] at hcnt
  rw [if_neg (by simp; omega)]
  cases f1 : faultR s with
  | some i => rw [f1] at hs; simp at hs
  | none =>
    cases f2 : faultR t with
    | some i => rw [f2] at ht; simp at ht
    | none =>
      rw [f1] at hs hcnt h4
      rw [f2] at ht hcnt
      rw [(faultR_app s 10 t (by decide)).2 ⟨f1, f2⟩]
      dsimp only at hs ht hcnt h4 ⊢
      have h1 := toks_join s.length t s.length s [] (Nat.le_refl _) (Nat.le_refl _) hs
      rw [show (s ++ 10 :: t).length = s.length + 1 + t.length by simp; omega, h1]
      have h2 := toks_many t.length (s.length + 1) t.length t [] (toks s.length s []).1 (Nat.le_refl _) (Nat.le_refl _) ht (by simpa using h4) hcnt
      simpa using h2
theorem parse_ok {s : List UInt8} (h : (parseR s).2.2 = 0) : (tokensR s).2.2 = 0 ∧ ∃ q : RS, q.l = [] ∧ formsR s.length ((tokensR s).1.length + 1) ⟨(tokensR s).1, 0, 0⟩ [] = .ok ((parseR s).1, q) := by
  unfold parseR readR at h ⊢
  by_cases ht : (tokensR s).2.2 ≠ 0
  · rw [if_pos ht] at h; exact absurd h ht
  · rw [if_neg ht] at h ⊢
    refine ⟨by simpa using ht, ?_⟩
    dsimp only at h ⊢
    cases hf : formsR s.length ((tokensR s).1.length + 1) ⟨(tokensR s).1, 0, 0⟩ [] with
    | error e => rw [hf] at h; exact absurd h (formsR_err hf)
    | ok x =>
      obtain ⟨l, q⟩ := x
      rw [hf] at h
      unfold finR at h ⊢
      dsimp only at h ⊢
      by_cases hl : q.l ≠ []
      · rw [if_pos hl] at h; simp at h
      · rw [if_neg hl]; exact ⟨q, by simpa using hl, rfl⟩
theorem formsR_len {fin : Int} : ∀ (k : Nat) (s : RS) (acc l : List FormT) (s' : RS), formsR fin k s acc = .ok (l, s') → l.length ≤ acc.length + s.l.length
  | 0, _, _, _, _, h => by simp [formsR] at h
  | k + 1, s, acc, l, s', h => by
    rw [formsR] at h
    split at h
    · split at h
      · cases h
      · rename_i t s1 ht
        split at h
        · cases h
        · rename_i d s2 hd
          have h1 := (takeR_ok ht).1.lt trivial
          have h2 := (defineR_less hd).le
          dsimp only at h1 h2
          have := formsR_len k s2 _ l s' h
          simp at this
          omega
    · split at h
      · cases h
      · cases h; omega
      · rename_i y s1 hi
        have h1 := ((parse_less fin _).2.1 s _ hi).1.lt (by simp)
        dsimp only at h1
        have := formsR_len k s1 _ l s' h
        simp at this
        omega
theorem parseR_len (s : List UInt8) : (parseR s).1.length ≤ 4096 := by
  by_cases h : (parseR s).2.2 = 0
  · obtain ⟨ht, q, hq, hf⟩ := parse_ok h
    have := formsR_len _ _ _ _ _ hf
    have h2 := (tokens_ok s ht).2.2.1
    simp at this
    omega
  · unfold parseR readR at h ⊢
    split
    · simp
    · rename_i ht
      rw [if_neg ht] at h
      unfold finR at h ⊢
      split
      · simp
      · rename_i x hx
        rw [hx] at h
        dsimp only at h
        split
        · simp
        · rename_i hl; rw [if_neg hl] at h; exact absurd rfl h
theorem parse_err0 {s : List UInt8} (h : (parseR s).2.2 ≠ 0) : (parseR s).1 = [] := by
  unfold parseR readR at h ⊢
  split
  · rfl
  · rename_i ht
    rw [if_neg ht] at h
    unfold finR at h ⊢
    split
    · rfl
    · rename_i x hx
      rw [hx] at h
      dsimp only at h
      split
      · rfl
      · rename_i hl; rw [if_neg hl] at h; exact absurd rfl h
theorem parse_join {s t : List UInt8} (hs : (parseR s).2.2 = 0) (ht : (parseR t).2.2 = 0) :
    parseR (s ++ 10 :: t) = ((parseR s).1 ++ (parseR t).1, 0, 0) ∨ ((parseR (s ++ 10 :: t)).2.2 = 11 ∧ (65536 ≤ s.length + t.length ∨ 4096 < (tokensR s).1.length + (tokensR t).1.length)) := by
  obtain ⟨ts, q1, l1, f1⟩ := parse_ok hs
  obtain ⟨tt, q2, l2, f2⟩ := parse_ok ht
  generalize (parseR s).1 = A at f1 ⊢
  generalize (parseR t).1 = B at f2 ⊢
  by_cases hlen : 65536 ≤ s.length + t.length
  · right
    refine ⟨?_, .inl hlen⟩
    unfold parseR readR tokensR
    rw [if_pos (show (s ++ 10 :: t).length > 65536 by simp; omega)]
    rfl
  by_cases hcnt : 4096 < (tokensR s).1.length + (tokensR t).1.length
  · right
    refine ⟨?_, .inr hcnt⟩
    have := tokens_many ts tt (by omega) hcnt
    unfold parseR readR
    rw [if_pos (by omega)]
    exact this
  left
  have hj := tokens_join ts tt (by omega) (by omega)
  unfold parseR readR
  rw [hj, if_neg (by simp)]
  dsimp only
  have a1 : Alike (fun t => t) := fun t => ⟨rfl, rfl, rfl⟩
  have a2 : Alike (Tok.shift (s.length + 1)) := fun t => ⟨rfl, rfl, rfl⟩
  obtain ⟨p1, k2, z, e1, hk2, hall⟩ := forms_more (fin' := (s ++ 10 :: t).length) a1 ((tokensR s).1.length + 1) (((tokensR s).1 ++ (tokensR t).1.map (Tok.shift (s.length + 1))).length + 1) ⟨(tokensR s).1, 0, 0⟩
    ⟨(tokensR s).1 ++ (tokensR t).1.map (Tok.shift (s.length + 1)), 0, 0⟩ [] A q1 (r := (tokensR t).1.map (Tok.shift (s.length + 1))) ⟨by simp, rfl, .inl rfl⟩ rfl (by simp) f1 l1
  rw [hall]
  obtain ⟨p2, k3, z2, e2, hk3, hall2⟩ := forms_more (fin' := (s ++ 10 :: t).length) a2 ((tokensR t).1.length + 1) k2 ⟨(tokensR t).1, 0, 0⟩
    ⟨(tokensR t).1.map (Tok.shift (s.length + 1)), 0, z⟩ [] B q2 (r := []) ⟨by simp, rfl, .inl rfl⟩ rfl (by simp at hk2 ⊢; omega) f2 l2
  rw [hall2]
  rw [List.nil_append] at e1 e2
  subst e1 e2
  obtain ⟨k3, rfl⟩ : ∃ j, k3 = j + 1 := ⟨k3 - 1, by simp at hk3; omega⟩
  rw [forms_nil _ _ _ rfl, List.nil_append]
  rfl
end Go.Proofs.YtbmplclnondfnaaDoor

namespace Go.Proofs.YtbmplclnondfnaaDoor
open Go Go.Av
set_option maxHeartbeats 1600000 in
theorem f_Parse1 (fin b bl : Nat) (s : RS) (hs : RsOk s) : ACalls Tryd.prog 21 [.ptr b 0, .ptr bl 0] [rbox fin b s, (bl, .box [.nils])] (WhatR fin b (formsR fin (s.l.length + 1) s []) (FormsSt bl)) := by
  obtain ⟨R, hR⟩ : ∃ R, R = formsR fin (s.l.length + 1) s [] := ⟨_, rfl⟩
  rw [← hR]
  refine ACalls.of_W tb_ok (fn := Tryd.f21) (n := 38) (by kernel_rfl) rfl (by kernel_rfl) rfl rfl (by simp) (go ?_)
  refine VLoop.mk [] FoI (fun i => []) (fun i => rbox fin b i.s :: (bl, .box [accV i.o i.acc.length]) :: accS i.o 6 (formsC i.acc))
    (fun i => R = formsR fin i.k i.s i.acc ∧ i.s.l.length < i.k ∧ RsOk i.s ∧ (i.o = none → i.acc = []) ∧ i.acc.length + i.s.l.length ≤ 4096) (fun i => i.k) ⟨s.l.length + 1, s, [], none⟩ ?_ ?_
  · exact ⟨⟨hR, by simp, hs, by simp, by have := hs.cnt; simp; omega⟩, rfl, .cons 0 rfl (.cons 0 rfl .nil)⟩
  clear hR
  rintro ⟨j, q, acc, o⟩ ⟨hI, hq, hqs, ho, hac⟩
  dsimp only at hI hq hqs ho hac ⊢
  obtain ⟨j, rfl⟩ : ∃ m, j = m + 1 := ⟨j - 1, by omega⟩
  rw [formsR] at hI
  refine go ?_
  refine (f_peek fin b q).use (.refl _) ?_
  cases hpk : peekR q.l with
  | none =>
    rw [hpk, if_neg (by simp)] at hI
    refine go ?_
    refine (f_item fin b q hqs).use (.refl _) ?_
    cases hlr : itemR fin (fuel q) q with
    | error e =>
      rw [hlr] at hI
      dsimp only at hI
      subst hI
      refine go ?_
      exact VRet.mk [] .nil ⟨rfl, rfl⟩
    | ok x =>
      obtain ⟨y, q'⟩ := x
      rw [hlr] at hI
      obtain ⟨hls, hsame⟩ := (parse_less fin _).2.1 _ _ hlr
      cases y with
      | none =>
        dsimp only at hI
        subst hI
        refine go ?_
        exact VRet.mk (rbox fin b q' :: (bl, .box [accV o acc.length]) :: accS o 6 (formsC acc)) (VSel.refl _) ⟨rfl, _, rfl, o, rfl, ho⟩
      | some y =>
        dsimp only at hI
        have hlt := hls.lt (by simp)
        have hop := hls.opn
        dsimp only at hlt hop
        refine go ?_
        cases o with
        | none =>
          have hacc := ho rfl
          subst hacc
          refine go ?_
          refine VOne.mk (itemAV_one y) (go ?_)
          refine VAll.mk (fun b2 => go ?_)
          refine ⟨⟨j, q', [.item y], some b2⟩, ⟨hI, by dsimp only; omega, ⟨by rw [hop]; exact hqs.opn, hls.sz hqs.sz, by have := hqs.cnt; dsimp only; omega⟩, by simp, by simp at hac ⊢; omega⟩, by dsimp only; omega, rfl, ?_⟩
          exact .cons 1 rfl (.cons 1 rfl (.cons 0 rfl .nil))
        | some bo =>
          refine go ?_
          refine VOne.mk (itemAV_one y) (go ?_)
          refine VGd.mk (by simp; omega) (go ?_)
          refine VAll.mk (fun b2 => go ?_)
          refine ⟨⟨j, q', acc ++ [.item y], some b2⟩, ⟨hI, by dsimp only; omega, ⟨by rw [hop]; exact hqs.opn, hls.sz hqs.sz, by have := hqs.cnt; dsimp only; omega⟩, by simp, by simp at hac ⊢; omega⟩, by dsimp only; omega, rfl, ?_⟩
          exact .cons 1 rfl (.cons 1 (by simp [accV]) (.cons 0 (by rw [formsC_snoc, mulN_eq, take_formsC]; rfl) .nil))
  | some w =>
    rw [hpk] at hI
    refine go ?_
    refine fork (fun hw => go ?_) (fun hw => go ?_)
    · rw [if_pos (by rw [hw])] at hI
      obtain ⟨t, r, hl⟩ : ∃ t r, q.l = t :: r := by
        cases hql : q.l with
        | nil => rw [hql] at hpk; cases hpk
        | cons t r => exact ⟨t, r, rfl⟩
      have htk : takeR fin q = .ok (t, ⟨r, q.opn, q.sz⟩) := by unfold takeR; rw [hl]
      have ht := f_take fin b q
      rw [htk] at ht hI
      dsimp only at hI
      rw [hl, List.length_cons] at hac hq
      have hq1 : RsOk ⟨r, q.opn, q.sz⟩ := ⟨hqs.opn, hqs.sz, by dsimp only; omega⟩
      have hd := f_define fin b t.pos ⟨r, q.opn, q.sz⟩ hq1
      refine VDraw.all (go ?_)
      cases hdr : defineR fin t.pos ⟨r, q.opn, q.sz⟩ with
      | error e =>
        rw [hdr] at hd hI
        dsimp only at hI
        subst hI
        refine VAny.mk Empty [] (fun _ => []) (fun _ => []) ?_ fun i => nomatch i
        repeat' ((conv => whnf); first | refine VAnd.mk ?_ ?_ | exact VRet.mk [] .nil ⟨rfl, rfl⟩ | refine ht.use (.refl _) ?_ | refine hd.use (.refl _) ?_ | refine VOne.mk rfl ?_ | refine VObj.mk 1 _ rfl ?_ | refine VNth.mk _ rfl ?_ | refine VFz.nil ?_ | refine VFz.keep ?_)
      | ok x =>
        obtain ⟨d, s2⟩ := x
        rw [hdr] at hd hI
        dsimp only at hI
        have hls := defineR_less hdr
        have hlt := hls.lt trivial
        have hop := hls.opn
        dsimp only at hlt hop
        cases o with
        | none =>
          have hacc := ho rfl
          subst hacc
          refine VAny.mk Nat [] (fun _ => []) (fun i => [rbox fin b s2, (bl, .box [.own i 1]), (i, .arr 6 (FormT.define d).cells 0)]) ?_ fun b2 => ?_
          · repeat' ((conv => whnf); first | refine VAnd.mk ?_ ?_ | exact Exists.intro _ (And.intro rfl (.cons 1 rfl (.cons 1 rfl (.cons 0 rfl .nil)))) | refine ht.use (.refl _) ?_ | refine hd.use (.refl _) ?_ | refine VAll.mk (fun b2 => ?_) | refine VOne.mk rfl ?_ | refine VObj.mk 1 _ rfl ?_ | refine VObj.mk 2 _ rfl ?_ | refine VNth.mk _ rfl ?_ | refine VIf.ff ?_ | refine VGd.mk rfl ?_ | refine VGd.mk (by decide) ?_ | refine VGd.mk (by simp; omega) ?_ | refine VFz.nil ?_ | refine VFz.keep ?_ | refine VTake.mk _ rfl rfl ?_)
          · refine go ?_
            exact ⟨⟨j, s2, [.define d], some b2⟩, ⟨hI, by dsimp only; omega, ⟨by rw [hop]; exact hqs.opn, hls.sz hqs.sz, by dsimp only; omega⟩, by simp, by simp at hac ⊢; omega⟩, by dsimp only; omega, rfl, .cons 0 rfl (.cons 0 rfl (.cons 0 (by simp [formsC]) .nil))⟩
        | some bo =>
          refine VAny.mk Nat [] (fun _ => []) (fun i => [rbox fin b s2, (bl, .box [.own i (acc.length + 1)]), (i, .arr 6 (List.take (acc.length * 6) (formsC acc) ++ (FormT.define d).cells) 0)]) ?_ fun b2 => ?_
          · repeat' ((conv => whnf); first | refine VAnd.mk ?_ ?_ | exact Exists.intro _ (And.intro rfl (.cons 1 rfl (.cons 1 rfl (.cons 0 rfl .nil)))) | refine ht.use (.refl _) ?_ | refine hd.use (.refl _) ?_ | refine VAll.mk (fun b2 => ?_) | refine VOne.mk rfl ?_ | refine VObj.mk 1 _ rfl ?_ | refine VObj.mk 2 _ rfl ?_ | refine VNth.mk _ rfl ?_ | refine VIf.ff ?_ | refine VGd.mk rfl ?_ | refine VGd.mk (by decide) ?_ | refine VGd.mk (by simp; omega) ?_ | refine VFz.nil ?_ | refine VFz.keep ?_ | refine VTake.mk _ rfl rfl ?_)
          · refine go ?_
            refine ⟨⟨j, s2, acc ++ [.define d], some b2⟩, ⟨hI, by dsimp only; omega, ⟨by rw [hop]; exact hqs.opn, hls.sz hqs.sz, by dsimp only; omega⟩, by simp, by simp at hac ⊢; omega⟩, by dsimp only; omega, rfl, .cons 0 rfl (.cons 0 (by simp [accV]) (.cons 0 (by rw [take_formsC, ← formsC_snoc]; rfl) .nil))⟩
    · rw [if_neg (by simpa using hw)] at hI
      refine (f_item fin b q hqs).use (.refl _) ?_
      cases hlr : itemR fin (fuel q) q with
      | error e =>
        rw [hlr] at hI
        dsimp only at hI
        subst hI
        refine go ?_
        exact VRet.mk [] .nil ⟨rfl, rfl⟩
      | ok x =>
        obtain ⟨y, q'⟩ := x
        rw [hlr] at hI
        obtain ⟨hls, hsame⟩ := (parse_less fin _).2.1 _ _ hlr
        cases y with
        | none =>
          dsimp only at hI
          subst hI
          refine go ?_
          exact VRet.mk (rbox fin b q' :: (bl, .box [accV o acc.length]) :: accS o 6 (formsC acc)) (VSel.refl _) ⟨rfl, _, rfl, o, rfl, ho⟩
        | some y =>
          dsimp only at hI
          have hlt := hls.lt (by simp)
          have hop := hls.opn
          dsimp only at hlt hop
          refine go ?_
          cases o with
          | none =>
            have hacc := ho rfl
            subst hacc
            refine go ?_
            refine VOne.mk (itemAV_one y) (go ?_)
            refine VAll.mk (fun b2 => go ?_)
            refine ⟨⟨j, q', [.item y], some b2⟩, ⟨hI, by dsimp only; omega, ⟨by rw [hop]; exact hqs.opn, hls.sz hqs.sz, by have := hqs.cnt; dsimp only; omega⟩, by simp, by simp at hac ⊢; omega⟩, by dsimp only; omega, rfl, ?_⟩
            exact .cons 1 rfl (.cons 1 rfl (.cons 0 rfl .nil))
          | some bo =>
            refine go ?_
            refine VOne.mk (itemAV_one y) (go ?_)
            refine VGd.mk (by simp; omega) (go ?_)
            refine VAll.mk (fun b2 => go ?_)
            refine ⟨⟨j, q', acc ++ [.item y], some b2⟩, ⟨hI, by dsimp only; omega, ⟨by rw [hop]; exact hqs.opn, hls.sz hqs.sz, by have := hqs.cnt; dsimp only; omega⟩, by simp, by simp at hac ⊢; omega⟩, by dsimp only; omega, rfl, ?_⟩
            exact .cons 1 rfl (.cons 1 (by simp [accV]) (.cons 0 (by rw [formsC_snoc, mulN_eq, take_formsC]; rfl) .nil))
end Go.Proofs.YtbmplclnondfnaaDoor

namespace Go.Proofs.YtbmplclnondfnaaDoor
open Go Go.Av
set_option maxHeartbeats 800000 in
theorem f_Parse (s : List UInt8) (hsl : s.length ≤ 140737488351232) : Av.Fn Tryd.prog 8 [.str s] (.tup [.fz (formsC (parseR s).1) (parseR s).1.length false, .int .i64 (parseR s).2.1, .int .i64 (parseR s).2.2]) := by
  refine ACalls.of_W tb_ok (fn := Tryd.f8) (n := 19) (by kernel_rfl) rfl (by kernel_rfl) rfl rfl (by simp) (go ?_)
  refine VAll.mk (fun bl => go ?_)
  have hr := f_read (α := List FormT) s 21 [.ptr bl 0] [(bl, .box [.nils])] (fun r => formsR s.length (r.l.length + 1) r []) (FormsSt bl) hsl (fun b h => f_Parse1 s.length b bl _ (start_ok s h (tokens_ok s h).2.2.1))
  refine ACalls.use (R := []) hr (.refl _) ?_
  intro out s' hq
  unfold ReadR at hq
  by_cases he : (tokensR s).2.2 ≠ 0
  · rw [if_pos he] at hq
    have hI : parseR s = ([], (tokensR s).2.1, (tokensR s).2.2) := by rw [parseR, readR, if_pos he]
    obtain ⟨rfl, rfl⟩ := hq
    refine go ?_
    refine VIf.yes (by simpa using he) (go ?_)
    refine VRet.mk [] .nil ?_
    rw [hI]; exact ⟨rfl, rfl⟩
  · rw [if_neg he] at hq
    dsimp only at hq
    have hI : parseR s = finR s.length (formsR s.length ((tokensR s).1.length + 1) ⟨(tokensR s).1, 0, 0⟩ []) := by rw [parseR, readR, if_neg he]
    cases hw : formsR s.length ((tokensR s).1.length + 1) ⟨(tokensR s).1, 0, 0⟩ [] with
    | error e =>
      rw [hw] at hq hI
      obtain ⟨rfl, rfl⟩ := hq
      refine go ?_
      have hne : e.2 ≠ 0 := formsR_err hw
      refine VIf.yes (by simpa using hne) (go ?_)
      refine VRet.mk [] .nil ?_
      rw [hI]; exact ⟨rfl, rfl⟩
    | ok x =>
      obtain ⟨l, q⟩ := x
      rw [hw] at hq hI
      unfold finR at hI
      dsimp only at hq hI
      by_cases hl : q.l ≠ []
      · rw [if_pos hl] at hq hI
        obtain ⟨rfl, rfl⟩ := hq
        refine go ?_
        refine VRet.mk [] .nil ?_
        rw [hI]; exact ⟨rfl, rfl⟩
      · rw [if_neg hl] at hq hI
        obtain ⟨rfl, o, rfl, ho⟩ := hq
        cases o with
        | none =>
          have ho := ho rfl
          subst ho
          refine go ?_
          refine VRet.mk [] .nil ?_
          rw [hI]; exact ⟨by simp [formsC], rfl⟩
        | some bo =>
          refine go ?_
          refine VRet.mk [] .nil ?_
          rw [hI]; exact ⟨by simp [List.take_of_length_le], rfl⟩
theorem items_7 : itemsOnlyR [55] = ([.int 7], 0, 0) := by rfl
theorem f_awake07 : Av.Fn Tryd.prog 7 [] (.bool true) := by
  have h := f_ItemsAll [55] (by simp)
  rw [items_7] at h
  refine ACalls.of_W tb_ok (fn := Tryd.f7) (n := 16) (by kernel_rfl) rfl (by kernel_rfl) rfl rfl (by simp) (go ?_)
  refine Fn.use (h) (go ?_)
  refine VRet.mk [] .nil ?_
  exact ⟨rfl, rfl⟩
end Go.Proofs.YtbmplclnondfnaaDoor

namespace Go.Proofs.YtbmplclnondfnaaDoor
open Go Go.Av
def RV.kind : RV → Int
  | .mk k _ _ _ => k
def inR (n : Int) : Bool := decide (-1152921504606846976 ≤ n) && decide (n ≤ 1152921504606846975)
mutual
/-- What Measure says: the size, the depth, is it sound? -/
def measR : RV → Int → Int → Int × Int × Bool
  | .mk k n s l, left, nest =>
    if left < 1 ∨ 32 < nest then (0, 0, false)
    else if k = 1 then (1, 0, inR n)
    else if k = 2 then (1, 0, decide (s.length ≤ 4096) && decide (faultV s < 0))
    else if k = 3 then (1, 0, true)
    else if k = 6 then (1, 0, decide (1 ≤ n) && decide (n ≤ 1048576))
    else if k = 7 then (1, 0, nameR s && !reservedR s)
    else if k = 4 ∨ k = 5 then measAll (decide (k = 4)) l left nest 1 0
    else (0, 0, false)
def measAll (vals : Bool) : List RV → Int → Int → Int → Int → Int × Int × Bool
  | [], _, _, size, depth => (size, depth + 1, decide (depth < 32))
  | v :: r, left, nest, size, depth =>
    if (vals && decide (v.kind = 7)) = true then (0, 0, false)
    else if (measR v (left - size) (nest + 1)).2.2 = true then measAll vals r left nest (size + (measR v (left - size) (nest + 1)).1) (max depth (measR v (left - size) (nest + 1)).2.1)
    else (0, 0, false)
end
mutual
/-- No list of more than 2^40, no name of more than 10^9 bytes. -/
def RV.fit : RV → Bool
  | .mk k _ s l => decide (l.length ≤ 1099511627776) && decide (k = 7 → s.length ≤ 1000000000) && fitAll l
def fitAll : List RV → Bool
  | [] => true
  | v :: r => v.fit && fitAll r
end
theorem fitAll_at : ∀ {l : List RV} {i : Nat} {t : RV}, fitAll l = true → l[i]? = some t → t.fit = true
  | [], _, _, _, h => by simp at h
  | x :: l, 0, t, hc, h => by simp at h; subst h; simp [fitAll] at hc; exact hc.1
  | x :: l, i + 1, t, hc, h => by simp [fitAll] at hc; exact fitAll_at hc.2 (by simpa using h)
mutual
theorem measR_le : ∀ (v : RV) (left nest : Int), (measR v left nest).2.2 = true → 1 ≤ (measR v left nest).1 ∧ (measR v left nest).1 ≤ left ∧ 0 ≤ (measR v left nest).2.1 ∧ (measR v left nest).2.1 ≤ 32
  | .mk k n s l, left, nest, h => by
    rw [measR] at h ⊢
    split at h
    · simp at h
    · rename_i h0
      rw [if_neg h0]
      repeat' split
      all_goals first
      | (dsimp only; omega)
      | skip
      · rename_i h1 h2 h3 h4 h5 h6
        rw [if_neg h1, if_neg h2, if_neg h3, if_neg h4, if_neg h5, if_pos h6] at h
        exact measAll_le _ l left nest 1 0 (by omega) (by omega) h
      · rename_i h1 h2 h3 h4 h5 h6
        rw [if_neg h1, if_neg h2, if_neg h3, if_neg h4, if_neg h5, if_neg h6] at h
        simp at h
theorem measAll_le : ∀ (vals : Bool) (l : List RV) (left nest size depth : Int), 1 ≤ size ∧ size ≤ left → 0 ≤ depth → (measAll vals l left nest size depth).2.2 = true →
    1 ≤ (measAll vals l left nest size depth).1 ∧ (measAll vals l left nest size depth).1 ≤ left ∧ 0 ≤ (measAll vals l left nest size depth).2.1 ∧ (measAll vals l left nest size depth).2.1 ≤ 32
  | vals, [], left, nest, size, depth, hs, hd, h => by
    rw [measAll] at h ⊢
    simp at h
    dsimp only
    omega
  | vals, v :: r, left, nest, size, depth, hs, hd, h => by
    rw [measAll] at h ⊢
    split at h
    · simp at h
    · rename_i h1
      rw [if_neg h1]
      split at h
      · rename_i h2
        rw [if_pos h2]
        have := measR_le v (left - size) (nest + 1) h2
        exact measAll_le vals r left nest _ _ (by omega) (by omega) h
      · simp at h
end
theorem f_refReserved (s : List UInt8) : Av.Fn Tryd.prog 64 [.str s] (.bool (reservedR s)) := by
  have e : reservedR s = decide (s = [58] ∨ s = [59] ∨ s = [40] ∨ s = [41] ∨ s = [45, 45] ∨ s = [91] ∨ s = [93] ∨ s = [123] ∨ s = [125] ∨ s = [116] ∨ s = [102]) := by
    rw [Bool.eq_iff_iff]
    simp [reservedR, reservedL]
  rw [e]
  refine ACalls.of_W tb_ok (fn := Tryd.f64) (n := 45) (by kernel_rfl) rfl (by kernel_rfl) rfl rfl (by simp) (go ?_)
  repeat' (refine fork (fun _ => go ?_) (fun _ => go ?_))
  all_goals
    refine VRet.mk [] .nil ?_
    refine ⟨congrArg (fun b => AOut.ret (.bool b)) ?_, rfl⟩
    simp_all
theorem f_ref07Name (s : List UInt8) (hl : s.length ≤ 1000000000) : Av.Fn Tryd.prog 36 [.str s] (.bool (nameR s && !reservedR s)) := by
  have h1 := f_refName' s hl
  have h2 := f_refReserved s
  refine ACalls.of_W tb_ok (fn := Tryd.f36) (n := 10) (by kernel_rfl) rfl (by kernel_rfl) rfl rfl (by simp) (go ?_)
  refine Fn.use (h1) (go ?_)
  cases nameR s with
  | true =>
    refine go ?_
    refine Fn.use (h2) (go ?_)
    refine VRet.mk [] .nil ?_
    exact ⟨rfl, rfl⟩
  | false =>
    refine go ?_
    refine VRet.mk [] .nil ?_
    exact ⟨rfl, rfl⟩
theorem f_In (n : Int) : Av.Fn Tryd.prog 66 [.int .i64 n] (.bool (inR n)) := by
  refine ACalls.of_W tb_ok (fn := Tryd.f66) (n := 9) (by kernel_rfl) rfl (by kernel_rfl) rfl rfl (by simp) (go ?_)
  refine fork (fun h => go ?_) (fun h => go ?_)
  · refine VRet.mk [] .nil ?_
    simp [inR, h]
  · refine VRet.mk [] .nil ?_
    simp [inR, h]
structure MeI where
  i : Nat
  size : Int
  depth : Int
theorem rvs_n {l : List RV} {i : Nat} {x : RV} (h : l[i]? = some x) : ((rvsC l).drop (i * 4))[0]? = some (.int .i64 x.kind) := by
  have e1 := rvsC_at (r := []) h
  rw [List.append_nil] at e1
  obtain ⟨k, n, s, l'⟩ := x
  have := congrArg (·[0]?) e1
  simpa [List.getElem?_take, rvAV, RV.kind] using this
theorem f_Measure (d : Nat) : ∀ (v : RV) (left nest : Int), v.deep ≤ d → v.fit = true → -1000000000 ≤ left ∧ left ≤ 1000000000 → 0 ≤ nest ∧ nest ≤ 1000000000 →
    Av.Fn Tryd.prog 38 [.agg (rvAV v), .int .i64 left, .int .i64 nest] (.tup [.int .i64 (measR v left nest).1, .int .i64 (measR v left nest).2.1, .bool (measR v left nest).2.2]) := by
  induction d with
  | zero =>
    intro v left nest hd
    obtain ⟨k, n, s, l⟩ := v
    rw [RV.deep] at hd; omega
  | succ d ih =>
    intro v left nest hd hf hl hn
    obtain ⟨k, n, s, l⟩ := v
    rw [RV.deep] at hd
    simp only [RV.fit, Bool.and_eq_true, decide_eq_true_eq] at hf
    obtain ⟨⟨hf1, hf2⟩, hf3⟩ := hf
    rw [rvAV]
    refine ACalls.of_W tb_ok (fn := Tryd.f38) (n := 105) (by kernel_rfl) rfl (by kernel_rfl) rfl rfl (by simp) (go ?_)
    refine VAll.mk (fun b => go ?_)
    refine fork (fun h1 => go ?_) (fun h1 => go ?_)
    · refine VRet.mk [] .nil ?_
      rw [measR, if_pos (by omega)]; exact ⟨rfl, rfl⟩
    refine fork (fun h2 => go ?_) (fun h2 => go ?_)
    · refine VRet.mk [] .nil ?_
      rw [measR, if_pos (by omega)]; exact ⟨rfl, rfl⟩
    rw [measR, if_neg (by omega)]
    refine fork (fun k1 => go ?_) (fun k1 => go ?_)
    · rw [if_pos k1]
      refine Fn.use (f_In n) (go ?_)
      refine VRet.mk [] .nil ?_
      exact ⟨rfl, rfl⟩
    rw [if_neg k1]
    refine fork (fun k2 => go ?_) (fun k2 => go ?_)
    · rw [if_pos k2]
      refine fork (fun h3 => go ?_) (fun h3 => go ?_)
      · refine Fn.use (f_Bad s (by omega)) (go ?_)
        refine VRet.mk [] .nil ?_
        rw [show decide (s.length ≤ 4096) = true from decide_eq_true (by omega)]; exact ⟨rfl, rfl⟩
      · refine VRet.mk [] .nil ?_
        rw [show decide (s.length ≤ 4096) = false from decide_eq_false (by omega)]; exact ⟨rfl, rfl⟩
    rw [if_neg k2]
    refine fork (fun k3 => go ?_) (fun k3 => go ?_)
    · rw [if_pos k3]
      refine VRet.mk [] .nil ?_
      exact ⟨rfl, rfl⟩
    rw [if_neg k3]
    refine fork (fun k6 => go ?_) (fun k6 => go ?_)
    · rw [if_pos k6]
      refine fork (fun h3 => go ?_) (fun h3 => go ?_)
      · refine VRet.mk [] .nil ?_
        rw [decide_eq_true h3]; exact ⟨rfl, rfl⟩
      · refine VRet.mk [] .nil ?_
        rw [decide_eq_false h3]; exact ⟨rfl, rfl⟩
    rw [if_neg k6]
    refine fork (fun k7 => go ?_) (fun k7 => go ?_)
    · rw [if_pos k7]
      refine Fn.use (f_ref07Name s (hf2 k7)) (go ?_)
      refine VRet.mk [] .nil ?_
      exact ⟨rfl, rfl⟩
    rw [if_neg k7]
    refine fork (fun k4 => go ?_) (fun k4 => go ?_)
    · rw [if_pos (.inl k4), decide_eq_true k4]
      subst k4
      refine go ?_
      refine VLoop.mk [6, 7, 9] MeI (fun i => [.int .i64 i.size, .int .i64 i.depth, .int .i64 i.i]) (fun _ => [(b, .box [.int .i64 4, .int .i64 n, .str s, .fz (rvsC l) l.length false])])
        (fun i => i.i ≤ l.length ∧ (1 ≤ i.size ∧ i.size ≤ left) ∧ (0 ≤ i.depth ∧ i.depth ≤ 32) ∧ measAll true (l.drop i.i) left nest i.size i.depth = measAll true l left nest 1 0) (fun i => l.length - i.i) ⟨0, 1, 0⟩ ?_ ?_
      · exact ⟨⟨by simp, by dsimp only; omega, by simp, by simp⟩, rfl, .cons 0 rfl .nil⟩
      rintro ⟨i, size, depth⟩ ⟨hi, hsz, hdp, hI⟩
      dsimp only at hi hsz hdp hI ⊢
      refine go ?_
      refine fork (fun hlt => go ?_) (fun hlt => go ?_)
      · have hlt : i < l.length := by omega
        obtain ⟨x, hx⟩ : ∃ x, l[i]? = some x := ⟨l[i], by simp [hlt]⟩
        have hda : l.drop i = x :: l.drop (i + 1) := by rw [List.drop_eq_getElem_cons hlt]; congr 1; rw [List.getElem?_eq_getElem hlt] at hx; exact Option.some.inj hx
        have hfx := ih x (left - size) (nest + 1) (by have := deepAll_at hx; omega) (fitAll_at hf3 hx) (by omega) (by omega)
        have hle := measR_le x (left - size) (nest + 1)
        have hk := rvs_n hx
        have ht := rvsC_at (r := []) hx
        rw [List.append_nil] at ht
        rw [hda, measAll] at hI
        refine VNth.mk _ (by simpa using hk) (go ?_)
        refine fork (fun h7 => go ?_) (fun h7 => go ?_)
        · rw [if_pos (by simp; omega)] at hI
          refine VRet.mk [] .nil ?_
          rw [← hI]; exact ⟨rfl, rfl⟩
        rw [if_neg (by simp; omega)] at hI
        refine VTake.mk (rvAV x) (by simpa using ht) (by simp) (go ?_)
        refine Fn.use (hfx) (go ?_)
        generalize measR x (left - size) (nest + 1) = m at hI hle
        obtain ⟨a, dd, c⟩ := m
        dsimp only at hI hle
        cases c with
        | false =>
          refine go ?_
          refine VRet.mk [] .nil ?_
          rw [← hI]; exact ⟨rfl, rfl⟩
        | true =>
          have hle := hle rfl
          rw [if_pos rfl] at hI
          refine go ?_
          refine ⟨⟨i + 1, size + a, max depth dd⟩, ⟨?_, ?_, ?_, hI⟩, ?_, rfl, .cons 0 rfl .nil⟩
          · dsimp only; omega
          · dsimp only; omega
          · dsimp only; omega
          · dsimp only; omega
      · rw [List.drop_eq_nil_of_le (by omega), measAll] at hI
        refine VRet.mk [] .nil ?_
        rw [← hI]; exact ⟨rfl, rfl⟩
    · refine fork (fun k5 => go ?_) (fun k5 => go ?_)
      · rw [if_pos (.inr k5), decide_eq_false k4]
        subst k5
        refine go ?_
        refine VLoop.mk [6, 7, 9] MeI (fun i => [.int .i64 i.size, .int .i64 i.depth, .int .i64 i.i]) (fun _ => [(b, .box [.int .i64 5, .int .i64 n, .str s, .fz (rvsC l) l.length false])])
          (fun i => i.i ≤ l.length ∧ (1 ≤ i.size ∧ i.size ≤ left) ∧ (0 ≤ i.depth ∧ i.depth ≤ 32) ∧ measAll false (l.drop i.i) left nest i.size i.depth = measAll false l left nest 1 0) (fun i => l.length - i.i) ⟨0, 1, 0⟩ ?_ ?_
        · exact ⟨⟨by simp, by dsimp only; omega, by simp, by simp⟩, rfl, .cons 0 rfl .nil⟩
        rintro ⟨i, size, depth⟩ ⟨hi, hsz, hdp, hI⟩
        dsimp only at hi hsz hdp hI ⊢
        refine go ?_
        refine fork (fun hlt => go ?_) (fun hlt => go ?_)
        · have hlt : i < l.length := by omega
          obtain ⟨x, hx⟩ : ∃ x, l[i]? = some x := ⟨l[i], by simp [hlt]⟩
          have hda : l.drop i = x :: l.drop (i + 1) := by rw [List.drop_eq_getElem_cons hlt]; congr 1; rw [List.getElem?_eq_getElem hlt] at hx; exact Option.some.inj hx
          have hfx := ih x (left - size) (nest + 1) (by have := deepAll_at hx; omega) (fitAll_at hf3 hx) (by omega) (by omega)
          have hle := measR_le x (left - size) (nest + 1)
          have hk := rvs_n hx
          have ht := rvsC_at (r := []) hx
          rw [List.append_nil] at ht
          rw [hda, measAll] at hI
          rw [if_neg (by simp)] at hI
          refine VTake.mk (rvAV x) (by simpa using ht) (by simp) (go ?_)
          refine Fn.use (hfx) (go ?_)
          generalize measR x (left - size) (nest + 1) = m at hI hle
          obtain ⟨a, dd, c⟩ := m
          dsimp only at hI hle
          cases c with
          | false =>
            refine go ?_
            refine VRet.mk [] .nil ?_
            rw [← hI]; exact ⟨rfl, rfl⟩
          | true =>
            have hle := hle rfl
            rw [if_pos rfl] at hI
            refine go ?_
            refine ⟨⟨i + 1, size + a, max depth dd⟩, ⟨?_, ?_, ?_, hI⟩, ?_, rfl, .cons 0 rfl .nil⟩
            · dsimp only; omega
            · dsimp only; omega
            · dsimp only; omega
            · dsimp only; omega
        · rw [List.drop_eq_nil_of_le (by omega), measAll] at hI
          refine VRet.mk [] .nil ?_
          rw [← hI]; exact ⟨rfl, rfl⟩
      · rw [if_neg (by omega)]
        refine VRet.mk [] .nil ?_
        exact ⟨rfl, rfl⟩
theorem f_Sound (v : RV) (hf : v.fit = true) : Av.Fn Tryd.prog 65 [.agg (rvAV v)] (.bool ((measR v 1024 0).2.2 && decide (v.kind ≠ 7))) := by
  have h := f_Measure v.deep v 1024 0 (Nat.le_refl _) hf (by omega) (by omega)
  obtain ⟨k, n, s, l⟩ := v
  rw [rvAV] at h ⊢
  rw [show (RV.mk k n s l).kind = k from rfl]
  generalize measR (.mk k n s l) 1024 0 = m at h ⊢
  obtain ⟨a, dd, c⟩ := m
  dsimp only at h ⊢
  refine ACalls.of_W tb_ok (fn := Tryd.f65) (n := 18) (by kernel_rfl) rfl (by kernel_rfl) rfl rfl (by simp) (go ?_)
  refine VAll.mk (fun b => go ?_)
  refine Fn.use (h) (go ?_)
  cases c with
  | true =>
    refine go ?_
    refine VRet.mk [] .nil ?_
    simp
  | false =>
    refine go ?_
    refine VRet.mk [] .nil ?_
    simp
theorem f_SoundItem (v : RV) (hf : v.fit = true) : Av.Fn Tryd.prog 13 [.agg (rvAV v)] (.bool (measR v 1024 0).2.2) := by
  have h := f_Measure v.deep v 1024 0 (Nat.le_refl _) hf (by omega) (by omega)
  obtain ⟨k, n, s, l⟩ := v
  rw [rvAV] at h ⊢
  refine ACalls.of_W tb_ok (fn := Tryd.f13) (n := 13) (by kernel_rfl) rfl (by kernel_rfl) rfl rfl (by simp) (go ?_)
  refine VAll.mk (fun b => go ?_)
  refine Fn.use (h) (go ?_)
  refine VRet.mk [] .nil ?_
  exact ⟨rfl, rfl⟩
theorem f_SoundItems (l : List RV) (hl : l.length ≤ 1099511627776) (hf : fitAll l = true) : Av.Fn Tryd.prog 37 [.fz (rvsC l) l.length false] (.bool (measR (.mk 5 0 [] l) 1024 0).2.2) := by
  have h := f_Sound (.mk 5 0 [] l) (by simp [RV.fit, hf, hl])
  rw [rvAV, show (RV.mk 5 0 [] l).kind = 5 from rfl, show decide ((5 : Int) ≠ 7) = true from rfl, Bool.and_true] at h
  refine ACalls.of_W tb_ok (fn := Tryd.f37) (n := 6) (by kernel_rfl) rfl (by kernel_rfl) rfl rfl (by simp) (go ?_)
  refine Fn.use (h) (go ?_)
  refine VRet.mk [] .nil ?_
  exact ⟨rfl, rfl⟩
mutual
/-- Does no box stand in a tree? -/
def bareR : RV → Bool
  | .mk k _ _ l => decide (k ≠ 6) && bareAll l
def bareAll : List RV → Bool
  | [] => true
  | v :: r => bareR v && bareAll r
end
theorem f_Bare (d : Nat) : ∀ (v : RV), v.deep ≤ d → v.small = true → Av.Fn Tryd.prog 14 [.agg (rvAV v)] (.bool (bareR v)) := by
  induction d with
  | zero =>
    intro v hd
    obtain ⟨k, n, s, l⟩ := v
    rw [RV.deep] at hd; omega
  | succ d ih =>
    intro v hd hs
    obtain ⟨k, n, s, l⟩ := v
    rw [RV.deep] at hd
    simp only [RV.small, Bool.and_eq_true, decide_eq_true_eq] at hs
    rw [rvAV, bareR]
    refine ACalls.of_W tb_ok (fn := Tryd.f14) (n := 21) (by kernel_rfl) rfl (by kernel_rfl) rfl rfl (by simp) (go ?_)
    refine VAll.mk (fun b => go ?_)
    refine fork (fun h6 => go ?_) (fun h6 => go ?_)
    · refine VRet.mk [] .nil ?_
      simp [h6]
    rw [show decide (k ≠ 6) = true by simpa using h6, Bool.true_and]
    refine VLoop.mk [3] Nat (fun i => [.int .i64 i]) (fun _ => [(b, .box [.int .i64 k, .int .i64 n, .str s, .fz (rvsC l) l.length false])]) (fun i => i ≤ l.length ∧ bareAll (l.drop i) = bareAll l) (fun i => l.length - i) 0 ?_ ?_
    · exact ⟨⟨by simp, by simp⟩, rfl, .cons 0 rfl .nil⟩
    rintro i ⟨hi, hI⟩
    refine go ?_
    refine fork (fun hlt => go ?_) (fun hlt => go ?_)
    · have hlt : i < l.length := by omega
      obtain ⟨x, hx⟩ : ∃ x, l[i]? = some x := ⟨l[i], by simp [hlt]⟩
      have hda : l.drop i = x :: l.drop (i + 1) := by rw [List.drop_eq_getElem_cons hlt]; congr 1; rw [List.getElem?_eq_getElem hlt] at hx; exact Option.some.inj hx
      have hfx := ih x (by have := deepAll_at hx; omega) (smallAll_at hs.2 hx)
      have ht := rvsC_at (r := []) hx
      rw [List.append_nil] at ht
      rw [hda, bareAll] at hI
      refine VTake.mk (rvAV x) (by simpa using ht) (by simp) (go ?_)
      refine Fn.use (hfx) (go ?_)
      cases hb : bareR x with
      | true =>
        rw [hb, Bool.true_and] at hI
        refine go ?_
        exact ⟨i + 1, ⟨by omega, hI⟩, by omega, rfl, .cons 0 rfl .nil⟩
      | false =>
        rw [hb, Bool.false_and] at hI
        refine go ?_
        refine VRet.mk [] .nil ?_
        rw [← hI]; exact ⟨rfl, rfl⟩
    · refine VRet.mk [] .nil ?_
      rw [List.drop_eq_nil_of_le (by omega), bareAll] at hI
      rw [← hI]; exact ⟨rfl, rfl⟩
def soundDefR (d : RDef) : Bool := nameR d.name && !reservedR d.name && (decide (0 ≤ d.inn) && decide (d.inn ≤ 16)) && (decide (0 ≤ d.out) && decide (d.out ≤ 16)) && (measR (.mk 5 0 [] d.body) 1024 0).2.2 && bareAll d.body
theorem f_SoundDef (d : RDef) (hn : d.name.length ≤ 1000000000) (hl : d.body.length ≤ 1099511627776) (hf : fitAll d.body = true) (hs : smallAll d.body = true) : Av.Fn Tryd.prog 12 [.agg d.cells] (.bool (soundDefR d)) := by
  have h1 := f_ref07Name d.name hn
  have h2 := f_SoundItems d.body hl hf
  have h3 := f_Bare (RV.mk 5 0 [] d.body).deep (.mk 5 0 [] d.body) (Nat.le_refl _) (by simp [RV.small, hs, hl])
  rw [rvAV, bareR, show decide ((5 : Int) ≠ 6) = true from rfl, Bool.true_and] at h3
  unfold soundDefR
  obtain ⟨nm, i, o, body⟩ := d
  dsimp only [RDef.cells] at h1 h2 h3 ⊢
  generalize (nameR nm && !reservedR nm) = q1 at h1 ⊢
  generalize (measR (.mk 5 0 [] body) 1024 0).2.2 = q2 at h2 ⊢
  generalize bareAll body = q3 at h3 ⊢
  refine ACalls.of_W tb_ok (fn := Tryd.f12) (n := 37) (by kernel_rfl) rfl (by kernel_rfl) rfl rfl (by simp) (go ?_)
  refine VAll.mk (fun b => go ?_)
  refine Fn.use (h1) (go ?_)
  cases q1 with
  | false =>
    refine go ?_
    refine VRet.mk [] .nil ?_
    simp
  | true =>
    refine go ?_
    refine fork (fun a1 => go ?_) (fun a1 => go ?_)
    · refine fork (fun a2 => go ?_) (fun a2 => go ?_)
      · refine fork (fun a3 => go ?_) (fun a3 => go ?_)
        · refine fork (fun a4 => go ?_) (fun a4 => go ?_)
          · refine Fn.use (h2) (go ?_)
            cases q2 with
            | false =>
              refine go ?_
              refine VRet.mk [] .nil ?_
              simp
            | true =>
              refine go ?_
              refine Fn.use (h3) (go ?_)
              refine VRet.mk [] .nil ?_
              simp [a1, a2, a3, a4]
          · refine VRet.mk [] .nil ?_
            simp; omega
        · refine VRet.mk [] .nil ?_
          simp; omega
      · refine VRet.mk [] .nil ?_
        simp; omega
    · refine VRet.mk [] .nil ?_
      simp; omega
end Go.Proofs.YtbmplclnondfnaaDoor

namespace Go.Proofs.YtbmplclnondfnaaDoor
open Go Go.Av
theorem okI_cons {t : Tree} {r : List Tree} (h : okItems (t :: r) = true) : t.okT = true ∧ okItems r = true := by simpa [okItems] using h
theorem kind_item (t : Tree) (h : t.okT = true) : ((itemRV t).kind = 7 ↔ t.isCall = true) ∧ bareR (.mk 3 0 [] []) = true := by
  refine ⟨?_, by simp [bareR, bareAll]⟩
  cases t <;> simp [itemRV, valRV, RV.kind, Tree.isCall]
mutual
theorem meas_ok : ∀ (t : Tree) (left nest : Int), t.okT = true → (t.size : Int) ≤ left → (t.depth : Int) + nest ≤ 32 → 0 ≤ nest → measR (itemRV t) left nest = ((t.size : Int), (t.depth : Int), true)
  | .int n, left, nest, h, hs, hd, hn => by
    simp only [Tree.okT, Bool.and_eq_true, decide_eq_true_eq] at h
    simp only [Tree.size, Tree.depth] at hs hd
    simp only [itemRV, valRV]
    rw [measR, if_neg (by omega), if_pos rfl]
    simp [inR, h, Tree.size, Tree.depth]
  | .str s, left, nest, h, hs, hd, hn => by
    simp only [Tree.okT, Bool.and_eq_true, decide_eq_true_eq] at h
    simp only [Tree.size, Tree.depth] at hs hd
    simp only [itemRV, valRV]
    rw [measR, if_neg (by omega), if_neg (by omega), if_pos rfl]
    simp [faultV, h, Tree.size, Tree.depth]
  | .bool b, left, nest, h, hs, hd, hn => by
    simp only [Tree.size, Tree.depth] at hs hd
    simp only [itemRV, valRV]
    rw [measR, if_neg (by omega), if_neg (by omega), if_neg (by omega), if_pos rfl]
    simp [Tree.size, Tree.depth]
  | .call s, left, nest, h, hs, hd, hn => by
    simp only [Tree.okT] at h
    simp only [Tree.size, Tree.depth] at hs hd
    simp only [itemRV]
    rw [measR, if_neg (by omega), if_neg (by omega), if_neg (by omega), if_neg (by omega), if_neg (by omega), if_pos rfl, h]
    simp [Tree.size, Tree.depth]
  | .list l, left, nest, h, hs, hd, hn => by
    simp only [Tree.okT] at h
    simp only [Tree.size, Tree.depth] at hs hd
    simp only [itemRV, valRV]
    rw [measR, if_neg (by omega), if_neg (by omega), if_neg (by omega), if_neg (by omega), if_neg (by omega), if_neg (by omega), if_pos (by omega), decide_eq_true rfl]
    rw [meas_okV l left nest 1 0 h (by omega) (by omega) (by omega) (by omega)]
    simp only [Tree.size, Tree.depth, Prod.mk.injEq, and_true]
    omega
  | .quot l, left, nest, h, hs, hd, hn => by
    simp only [Tree.okT] at h
    simp only [Tree.size, Tree.depth] at hs hd
    simp only [itemRV, valRV]
    rw [measR, if_neg (by omega), if_neg (by omega), if_neg (by omega), if_neg (by omega), if_neg (by omega), if_neg (by omega), if_pos (by omega), decide_eq_false (by omega)]
    rw [meas_okI l left nest 1 0 h (by omega) (by omega) (by omega) (by omega)]
    simp only [Tree.size, Tree.depth, Prod.mk.injEq, and_true]
    omega
  | .none, _, _, h, _, _, _ => by simp [Tree.okT] at h
  | .box _, _, _, h, _, _, _ => by simp [Tree.okT] at h
  | .odd _ _, _, _, h, _, _, _ => by simp [Tree.okT] at h
theorem meas_okV : ∀ (l : List Tree) (left nest size depth : Int), okVals l = true → (sizeAll l : Int) + size ≤ left → (depthAll l : Int) + nest + 1 ≤ 32 → 0 ≤ nest → (0 ≤ depth ∧ depth ≤ 31) →
    measAll true (valRVs l) left nest size depth = (size + sizeAll l, max depth (depthAll l) + 1, true)
  | [], left, nest, size, depth, _, _, _, _, h0 => by
    simp only [valRVs, measAll, sizeAll, depthAll]
    simp only [Prod.mk.injEq]
    exact ⟨by omega, by omega, decide_eq_true (by omega)⟩
  | t :: r, left, nest, size, depth, h, hs, hd, hn, h0 => by
    simp only [okVals, Bool.and_eq_true, Bool.not_eq_true'] at h
    simp only [sizeAll, depthAll] at hs hd
    have hm := meas_ok t (left - size) (nest + 1) h.1.1 (by omega) (by omega) (by omega)
    rw [item_val h.1.2] at hm
    rw [valRVs, measAll, hm, if_neg (by
      have := (kind_item t h.1.1).1
      rw [item_val h.1.2, h.1.2] at this
      simpa using this), if_pos rfl]
    dsimp only
    rw [meas_okV r left nest _ _ h.2 (by omega) (by omega) (by omega) (by omega)]
    simp only [sizeAll, depthAll]
    simp only [Prod.mk.injEq, and_true]
    omega
theorem meas_okI : ∀ (l : List Tree) (left nest size depth : Int), okItems l = true → (sizeAll l : Int) + size ≤ left → (depthAll l : Int) + nest + 1 ≤ 32 → 0 ≤ nest → (0 ≤ depth ∧ depth ≤ 31) →
    measAll false (itemRVs l) left nest size depth = (size + sizeAll l, max depth (depthAll l) + 1, true)
  | [], left, nest, size, depth, _, _, _, _, h0 => by
    simp only [itemRVs, measAll, sizeAll, depthAll]
    simp only [Prod.mk.injEq]
    exact ⟨by omega, by omega, decide_eq_true (by omega)⟩
  | t :: r, left, nest, size, depth, h, hs, hd, hn, h0 => by
    simp only [okItems, Bool.and_eq_true] at h
    simp only [sizeAll, depthAll] at hs hd
    have hm := meas_ok t (left - size) (nest + 1) h.1 (by omega) (by omega) (by omega)
    rw [itemRVs_cons, measAll, hm, if_neg (by simp), if_pos rfl]
    dsimp only
    rw [meas_okI r left nest _ _ h.2 (by omega) (by omega) (by omega) (by omega)]
    simp only [sizeAll, depthAll]
    simp only [Prod.mk.injEq, and_true]
    omega
end
mutual
theorem bare_ok : ∀ (t : Tree), t.okT = true → bareR (itemRV t) = true
  | .int _, _ => by simp [itemRV, valRV, bareR, bareAll]
  | .str _, _ => by simp [itemRV, valRV, bareR, bareAll]
  | .bool _, _ => by simp [itemRV, valRV, bareR, bareAll]
  | .call _, _ => by simp [itemRV, bareR, bareAll]
  | .list l, h => by simp only [itemRV, valRV, bareR, bare_okV l h]; decide
  | .quot l, h => by simp only [itemRV, valRV, bareR, bare_okI l h]; decide
  | .none, h => by simp [Tree.okT] at h
  | .box _, h => by simp [Tree.okT] at h
  | .odd _ _, h => by simp [Tree.okT] at h
theorem bare_okV : ∀ (l : List Tree), okVals l = true → bareAll (valRVs l) = true
  | [], _ => by simp [valRVs, bareAll]
  | t :: r, h => by
    simp only [okVals, Bool.and_eq_true, Bool.not_eq_true'] at h
    have := bare_ok t h.1.1
    rw [item_val h.1.2] at this
    rw [valRVs, bareAll, this, bare_okV r h.2]; rfl
theorem bare_okI : ∀ (l : List Tree), okItems l = true → bareAll (itemRVs l) = true
  | [], _ => by simp [itemRVs, bareAll]
  | t :: r, h => by
    simp only [okItems, Bool.and_eq_true] at h
    rw [itemRVs_cons, bareAll, bare_ok t h.1, bare_okI r h.2]; rfl
end
theorem name_len {l : List UInt8} (h : nameR l = true) : l.length ≤ 128 := by
  unfold nameR at h
  simp only [Bool.and_eq_true, decide_eq_true_eq] at h
  have h1 := h.2.1.1.2
  unfold chars at h1
  rw [List.length_map] at h1
  have h2 : ∀ (l : List UInt8), l.length ≤ 4 * (runes l).length := by
    intro l
    induction l using runes_ind with
    | h0 => simp
    | h1 l hl ih =>
      have := dec_pos l hl
      rw [runes_cons hl, List.length_cons]
      rw [List.length_drop] at ih
      omega
  have := h2 l
  omega
mutual
theorem ok_fit : ∀ (t : Tree), t.okT = true → t.size ≤ 1024 → (itemRV t).fit = true
  | .int _, _, _ => by simp [itemRV, valRV, RV.fit, fitAll]
  | .str _, _, _ => by simp [itemRV, valRV, RV.fit, fitAll]
  | .bool _, _, _ => by simp [itemRV, valRV, RV.fit, fitAll]
  | .call s, h, _ => by
    simp only [Tree.okT, Bool.and_eq_true] at h
    have := name_len h.1
    simp [itemRV, RV.fit, fitAll]; omega
  | .list l, h, hs => by
    have := sizeAll_len l
    simp only [Tree.size] at hs
    simp only [itemRV, valRV, RV.fit, ok_fitV l h (by omega), valRVs_length]
    simp; omega
  | .quot l, h, hs => by
    have := sizeAll_len l
    simp only [Tree.size] at hs
    simp only [itemRV, valRV, RV.fit, ok_fitI l h (by omega), itemRVs_length]
    simp; omega
  | .none, h, _ => by simp [Tree.okT] at h
  | .box _, h, _ => by simp [Tree.okT] at h
  | .odd _ _, h, _ => by simp [Tree.okT] at h
theorem ok_fitV : ∀ (l : List Tree), okVals l = true → sizeAll l ≤ 1024 → fitAll (valRVs l) = true
  | [], _, _ => by simp [valRVs, fitAll]
  | t :: r, h, hs => by
    simp only [okVals, Bool.and_eq_true, Bool.not_eq_true'] at h
    simp only [sizeAll] at hs
    have := ok_fit t h.1.1 (by omega)
    rw [item_val h.1.2] at this
    rw [valRVs, fitAll, this, ok_fitV r h.2 (by omega)]; rfl
theorem ok_fitI : ∀ (l : List Tree), okItems l = true → sizeAll l ≤ 1024 → fitAll (itemRVs l) = true
  | [], _, _ => by simp [itemRVs, fitAll]
  | t :: r, h, hs => by
    simp only [okItems, Bool.and_eq_true] at h
    simp only [sizeAll] at hs
    rw [itemRVs_cons, fitAll, ok_fit t h.1 (by omega), ok_fitI r h.2 (by omega)]; rfl
end
theorem def_sound {d : DefT} (h : DefOk d) : soundDefR (defRV d) = true := by
  have h1 := h.deep; have h2 := h.size; have h3 := h.inn; have h4 := h.out
  unfold soundDefR defRV
  dsimp only
  rw [h.name, h.res, bare_okI _ h.body, measR, if_neg (by omega), if_neg (by omega), if_neg (by omega), if_neg (by omega), if_neg (by omega), if_neg (by omega), if_pos (by omega), decide_eq_false (by omega : ¬ (5 : Int) = 4),
    meas_okI _ _ _ _ _ h.body (by omega) (by omega) (by omega) (by omega)]
  simp
  omega
theorem item_sound {t : Tree} (h : ItOk t) : (measR (itemRV t) 1024 0).2.2 = true := by
  have h1 := h.deep; have h2 := h.size
  rw [meas_ok t 1024 0 h.ok (by omega) (by omega) (by omega)]
/-! Items alone. -/
def FormT.isItem : FormT → Bool
  | .define _ => false
  | .item _ => true
theorem colon_none {fin : Int} {k : Nat} {s : RS} (hk : 2 ≤ k) (hp : peekR s.l = some [58]) : itemR fin k s = .ok (none, s) := by
  obtain ⟨k, rfl⟩ : ∃ j, k = j + 2 := ⟨k - 2, by omega⟩
  cases hl : s.l with
  | nil => rw [hl] at hp; cases hp
  | cons t r =>
    rw [hl] at hp
    simp only [peekR] at hp
    split at hp
    · rename_i hk1
      have ht : t.text = [58] := Option.some.inj hp
      rw [itemR, litR, hl]
      dsimp only
      rw [if_neg (by omega), if_neg (by omega), if_neg (by rw [ht]; simp), if_neg (by rw [ht]; simp), if_neg (by rw [ht]; simp)]
      dsimp only
      rw [hl]
      simp only [peekR, if_pos hk1, ht]
      rfl
    · cases hp
theorem formsR_acc {fin : Int} : ∀ (k : Nat) (s : RS) (acc l : List FormT) (s' : RS), formsR fin k s acc = .ok (l, s') → ∃ q, l = acc ++ q
  | 0, _, _, _, _, h => by simp [formsR] at h
  | k + 1, s, acc, l, s', h => by
    rw [formsR] at h
    split at h
    · split at h
      · cases h
      · split at h
        · cases h
        · obtain ⟨q, e⟩ := formsR_acc k _ _ l s' h
          exact ⟨_, by rw [e, List.append_assoc]⟩
    · split at h
      · cases h
      · cases h; exact ⟨[], by simp⟩
      · obtain ⟨q, e⟩ := formsR_acc k _ _ l s' h
        exact ⟨_, by rw [e, List.append_assoc]⟩
theorem only_forms {fin : Int} : ∀ (k : Nat) (s : RS) (acc q : List FormT) (accI : List Tree) (s' : RS), formsR fin k s acc = .ok (acc ++ q, s') →
    (q.all FormT.isItem = true → ∃ ys, onlyR fin k s accI = .ok (accI ++ ys, s') ∧ ys.length = q.length) ∧ (q.all FormT.isItem = false → ∃ ys s2, onlyR fin k s accI = .ok (ys, s2) ∧ s2.l ≠ [])
  | 0, _, _, _, _, _, h => by simp [formsR] at h
  | k + 1, s, acc, q, accI, s', h => by
    rw [formsR] at h
    rw [onlyR]
    split at h
    · rename_i hp
      have hne : s.l ≠ [] := by intro e; rw [e] at hp; cases hp
      rw [colon_none (by unfold fuel; omega) hp]
      dsimp only
      split at h
      · cases h
      · split at h
        · cases h
        · rename_i d s2 hd
          obtain ⟨q', e⟩ := formsR_acc k _ _ _ s' h
          rw [List.append_assoc] at e
          have e := List.append_cancel_left e
          subst e
          refine ⟨fun ha => ?_, fun _ => ⟨accI, s, rfl, hne⟩⟩
          simp [FormT.isItem] at ha
    · split at h
      · cases h
      · rename_i s1 hi
        injection h with h
        injection h with h1 h2
        have h1 : q = [] := by
          have := congrArg List.length h1
          rw [List.length_append] at this
          exact List.length_eq_zero_iff.1 (by omega)
        subst h1 h2
        exact ⟨fun _ => ⟨[], by simp, rfl⟩, fun ha => by simp at ha⟩
      · rename_i y s1 hi
        obtain ⟨q', e⟩ := formsR_acc k _ _ _ s' h
        rw [List.append_assoc] at e
        have e := List.append_cancel_left e
        subst e
        rw [← List.append_assoc] at h
        obtain ⟨h1, h2⟩ := only_forms k s1 (acc ++ [.item y]) q' (accI ++ [y]) s' h
        refine ⟨fun ha => ?_, fun ha => h2 (by simpa [FormT.isItem] using ha)⟩
        obtain ⟨ys, e1, e2⟩ := h1 (by simpa [FormT.isItem] using ha)
        exact ⟨y :: ys, by rw [e1]; simp, by simp [e2]⟩
theorem only_law {s : List UInt8} (h : (parseR s).2.2 = 0) : ((parseR s).1.all FormT.isItem = true → (itemsOnlyR s).2.2 = 0 ∧ (itemsOnlyR s).1.length = (parseR s).1.length) ∧ ((parseR s).1.all FormT.isItem = false → (itemsOnlyR s).2.2 ≠ 0) := by
  obtain ⟨ts, q, hq, hf⟩ := parse_ok h
  generalize (parseR s).1 = A at hf ⊢
  unfold itemsOnlyR readR
  rw [if_neg (by omega)]
  dsimp only
  obtain ⟨h1, h2⟩ := only_forms (accI := []) _ _ [] A _ hf
  refine ⟨fun ha => ?_, fun ha => ?_⟩
  · obtain ⟨ys, e1, e2⟩ := h1 ha
    rw [e1]
    unfold finR
    dsimp only
    rw [if_neg (by simp [hq])]
    exact ⟨rfl, e2⟩
  · obtain ⟨ys, s2, e1, e2⟩ := h2 ha
    rw [e1]
    unfold finR
    dsimp only
    rw [if_pos e2]
    simp
theorem isDef_item (f : FormT) : (formRV f).isDef = !f.isItem := by cases f <;> rfl
/-- What the law asks of each form. -/
def formGood (r : RForm) : Bool := !(r.isDef && (decide (r.vPart.kind ≠ 0) || !soundDefR r.dPart) || !r.isDef && (!(measR r.vPart 1024 0).2.2 || !bareR r.vPart))
theorem form_good {f : FormT} (h : FormOk f) : formGood (formRV f) = true := by
  cases f with
  | define d =>
    have h : DefOk d := h
    simp [formGood, formRV, RForm.isDef, RForm.vPart, RForm.dPart, RV.kind, def_sound h]
  | item t =>
    have h : ItOk t := h
    simp [formGood, formRV, RForm.isDef, RForm.vPart, item_sound h, bare_ok t h.ok]
theorem form_fit {f : FormT} (h : FormOk f) : (formRV f).vPart.fit = true ∧ (formRV f).dPart.name.length ≤ 1000000000 ∧ (formRV f).dPart.body.length ≤ 1099511627776 ∧ fitAll (formRV f).dPart.body = true ∧ smallAll (formRV f).dPart.body = true ∧ (formRV f).vPart.small = true := by
  cases f with
  | define d =>
    have h : DefOk d := h
    have h1 := h.size
    have := sizeAll_len d.body
    have hn := name_len h.name
    refine ⟨by simp [formRV, RForm.vPart, RV.fit, fitAll], by simp [formRV, RForm.dPart, defRV]; omega, by simp [formRV, RForm.dPart, defRV]; omega, ok_fitI _ h.body (by omega), clean_smallI _ (ok_cleanI _ h.body (by omega)), by simp [formRV, RForm.vPart, RV.small, smallAll]⟩
  | item t =>
    have h : ItOk t := h
    have h1 := h.size
    exact ⟨ok_fit t h.ok h1, by simp [formRV, RForm.dPart], by simp [formRV, RForm.dPart], by simp [formRV, RForm.dPart, fitAll], by simp [formRV, RForm.dPart, smallAll], small_item (ok_clean t h.ok (by omega))⟩
theorem f_ParseSound (s : List UInt8) (hs : s.length ≤ 140737488351232) : Av.Fn Tryd.prog 4 [.str s] (.bool true) := by
  have fs := f_Parse s hs
  have fi := f_ItemsAll s hs
  have e0s := parse_err0 (s := s)
  have sos := parseR_sound s
  have las := parseR_len s
  have hol := only_law (s := s)
  generalize parseR s = a at fs e0s sos las hol
  generalize itemsOnlyR s = b at fi hol
  obtain ⟨A, i, e⟩ := a
  obtain ⟨B, k, f⟩ := b
  dsimp only at fs e0s sos las hol fi
  have hcA : ∀ f ∈ A, f.clean = true := fun f hf => form_clean (sos f hf)
  refine ACalls.of_W tb_ok (fn := Tryd.f4) (n := 95) (by kernel_rfl) rfl (by kernel_rfl) rfl rfl (by simp) (go ?_)
  refine Fn.use (f_awake07) (go ?_)
  refine Fn.use (fs) (go ?_)
  refine fork (fun he => go ?_) (fun he => go ?_)
  · have he : e ≠ 0 := by omega
    rw [e0s he]
    refine go ?_
    refine VRet.mk [] .nil ?_
    exact ⟨rfl, rfl⟩
  have hol := hol (by omega)
  refine ACalls.use (f_FormTrees A hcA (by omega)) (List.Perm.refl _) ?_
  rintro _ _ ⟨oA, rfl, rfl, hoA⟩
  cases oA with
  | none =>
    have hA0 := hoA rfl
    refine go ?_
    refine VLoop.mk [8, 6] Nat (fun i => [.int .i64 i, .bool ((A.take i).all FormT.isItem)]) (fun _ => accS (none) 9 (rformsC (A.map formRV))) (fun i => i ≤ A.length) (fun i => A.length - i) 0 ?_ ?_
    · exact ⟨Nat.zero_le _, rfl, VSel.refl _⟩
    rintro i hi
    refine go ?_
    obtain rfl : i = A.length := by simp [hA0] at hi ⊢; omega
    rw [List.take_length]
    refine Fn.use (fi) (go ?_)
    cases hall : A.all FormT.isItem with
    | true =>
      obtain ⟨hol1, hol2⟩ := hol.1 hall
      subst hol1
      refine go ?_
      refine VRet.mk [] .nil ?_
      simp [hol2]
    | false =>
      have hol := hol.2 hall
      refine VIf.yes (by simpa using hol) (go ?_)
      refine VIf.yes (by simpa using hol) (go ?_)
      refine VRet.mk [] .nil ?_
      exact ⟨rfl, rfl⟩
  | some bA =>
    refine go ?_
    refine VLoop.mk [8, 6] Nat (fun i => [.int .i64 i, .bool ((A.take i).all FormT.isItem)]) (fun _ => accS (some bA) 9 (rformsC (A.map formRV))) (fun i => i ≤ A.length) (fun i => A.length - i) 0 ?_ ?_
    · exact ⟨Nat.zero_le _, rfl, VSel.refl _⟩
    rintro i hi
    refine go ?_
    refine fork (fun hlt => go ?_) (fun hlt => go ?_)
    · have hlt : i < A.length := by omega
      obtain ⟨f, hf⟩ : ∃ f, A[i]? = some f := ⟨A[i], by simp [hlt]⟩
      have hfo := sos f (List.mem_of_getElem? hf)
      have hg := form_good hfo
      obtain ⟨q1, q2, q3, q4, q5, q6⟩ := form_fit hfo
      have hdi := isDef_item f
      obtain ⟨q, hq⟩ := rformsC_at (r := []) (show (A.map formRV)[i]? = some (formRV f) by rw [List.getElem?_map, hf]; rfl)
      rw [List.append_nil] at hq
      have htk : (A.take (i + 1)).all FormT.isItem = ((A.take i).all FormT.isItem && f.isItem) := by
        rw [take_succ_at hf]; simp
      rw [RForm.cells_eq] at hq
      have fsd := f_SoundDef (formRV f).dPart q2 q3 q4 q5
      have fsi := f_SoundItem (formRV f).vPart q1
      have fba := f_Bare _ (formRV f).vPart (Nat.le_refl _) q6
      unfold formGood at hg
      generalize (formRV f).dPart = d at hq fsd hg
      generalize (formRV f).vPart = v at hq fsi fba hg
      generalize (formRV f).isDef = w at hq hdi hg
      obtain ⟨d1, d2, d3, d4⟩ := d
      obtain ⟨v1, v2, v3, v4⟩ := v
      rw [rvAV] at hq fsi fba
      dsimp only [RDef.cells, List.cons_append, List.nil_append] at hq fsd
      refine VTake.mk [.bool w, .str d1, .int .i64 d2, .int .i64 d3, .fz (rvsC d4) d4.length false, .int .i64 v1, .int .i64 v2, .str v3, .fz (rvsC v4) v4.length false] (by rw [mulN_eq]; simp only [Nat.zero_add]; rw [hq]; rfl) rfl (go ?_)
      refine VAll.mk (fun b9 => go ?_)
      cases w with
      | true =>
        have hfi : f.isItem = false := by simpa using hdi.symm
        simp only [RV.kind, Bool.not_true, Bool.false_and, Bool.or_false, Bool.true_and, Bool.not_eq_true', Bool.or_eq_false_iff, decide_eq_false_iff_not, Bool.not_eq_false', ne_eq, Decidable.not_not] at hg
        obtain ⟨hg1, hg2⟩ := hg
        have hg1 : v1 = 0 := by have := of_decide_eq_false hg1; omega
        subst hg1
        rw [hg2] at fsd
        refine go ?_
        refine Fn.use (fsd) (go ?_)
        rw [hfi] at htk
        cases hall : (A.take i).all FormT.isItem <;> rw [hall] at htk
        · refine go ?_
          exact ⟨i + 1, by omega, by omega, by rw [htk]; rfl, .cons 1 rfl .nil⟩
        · refine go ?_
          exact ⟨i + 1, by omega, by omega, by rw [htk]; rfl, .cons 1 rfl .nil⟩
      | false =>
        have hfi : f.isItem = true := by simpa using hdi.symm
        simp only [Bool.false_and, Bool.false_or, Bool.not_false, Bool.true_and, Bool.not_eq_true', Bool.or_eq_false_iff, Bool.not_eq_false'] at hg
        obtain ⟨hg1, hg2⟩ := hg
        rw [hg1] at fsi
        rw [hg2] at fba
        refine go ?_
        refine Fn.use (fsi) (go ?_)
        refine Fn.use (fba) (go ?_)
        rw [hfi] at htk
        cases hall : (A.take i).all FormT.isItem <;> rw [hall] at htk
        · refine go ?_
          exact ⟨i + 1, by omega, by omega, by rw [htk]; rfl, .cons 1 rfl .nil⟩
        · refine go ?_
          exact ⟨i + 1, by omega, by omega, by rw [htk]; rfl, .cons 1 rfl .nil⟩
    · obtain rfl : i = A.length := by omega
      rw [List.take_length]
      refine Fn.use (fi) (go ?_)
      cases hall : A.all FormT.isItem with
      | true =>
        obtain ⟨hol1, hol2⟩ := hol.1 hall
        subst hol1
        refine go ?_
        refine VRet.mk [] .nil ?_
        simp [hol2]
      | false =>
        have hol := hol.2 hall
        refine VIf.yes (by simpa using hol) (go ?_)
        refine VIf.yes (by simpa using hol) (go ?_)
        refine VRet.mk [] .nil ?_
        exact ⟨rfl, rfl⟩
end Go.Proofs.YtbmplclnondfnaaDoor
