/- Lex: awake. The reference's Blank. Tokens of texts that stand one behind the other: plain Lean. Conditions: as each says. Where tokens stand: plain Lean. Conditions: as each says. LexPlaces: the walk. -/
import Derived.Test.YtfhkpcdccideeaaDoorX4
set_option linter.all false
namespace Go.Proofs.YtfhkpcdccideeaaDoor
open Go Go.Av
theorem name_dup : nameR [100, 117, 112] = true := by decide +kernel
theorem name_7 : nameR [55] = false := by decide +kernel
theorem f8_of : Av.Fn Tryd.prog 8 [] (.bool true) := by
  have h1 := f11_of [100, 117, 112] (by decide)
  have h2 := f11_of [55] (by decide)
  rw [name_dup] at h1
  rw [name_7] at h2
  refine ACalls.of_W tb_ok (fn := Tryd.f8) (n := 6) (by kernel_rfl) rfl (by kernel_rfl) rfl rfl (by simp) (go ?_)
  refine Fn.use (h1) (go ?_)
  refine Fn.use (h2) (go ?_)
  refine VRet.mk [] .nil ?_
  simp
end Go.Proofs.YtfhkpcdccideeaaDoor

namespace Go.Proofs.YtfhkpcdccideeaaDoor
open Go Go.Av
theorem f_refBlank (r : Int) : Av.Fn Tryd.prog 14 [.int .i32 r] (.bool (blankB r)) := by
  refine ACalls.of_W tb_ok (fn := Tryd.f14) (n := 25) (by kernel_rfl) rfl (by kernel_rfl) rfl rfl (by simp) (go ?_)
  refine fork (fun h1 => go ?_) (fun h1 => go ?_)
  · refine VRet.mk [] .nil ?_
    simp [blankB, h1]
  refine fork (fun h2 => go ?_) (fun h2 => go ?_)
  · refine VRet.mk [] .nil ?_
    simp [blankB, h2]
  refine fork (fun h3 => go ?_) (fun h3 => go ?_)
  · refine VRet.mk [] .nil ?_
    simp [blankB, h3]
  refine fork (fun h4 => go ?_) (fun h4 => go ?_)
  · refine VRet.mk [] .nil ?_
    simp [blankB, h4]
  refine fork (fun h5 => go ?_) (fun h5 => go ?_)
  · refine VRet.mk [] .nil ?_
    simp [blankB, h5]
  refine VRet.mk [] .nil ?_
  simp [blankB, h1, h2, h3, h4, h5]
end Go.Proofs.YtfhkpcdccideeaaDoor

namespace Go.Proofs.YtfhkpcdccideeaaDoor
open Go Go.Av
theorem spanR_append (p : Nat → Bool) : ∀ (a b : List (Nat × Nat)), spanR p (a ++ b) = if a.any (fun x => p x.1) then spanR p a else (a.map (·.2)).sum + spanR p b
  | [], b => by simp
  | (r, k) :: a, b => by
    rw [List.cons_append, spanR, spanR_append p a b]
    cases h : p r with
    | true => simp [h, spanR]
    | false =>
      simp only [h, List.any_cons, Bool.false_or, Bool.false_eq_true, if_false, spanR, List.map_cons, List.sum_cons]
      split <;> omega
theorem blank_nl : blankB ((10 : UInt8).toNat : Nat) = true := by decide
theorem wlen_nl (r t : List UInt8) : wlen (r ++ 10 :: t) = wlen r := by
  unfold wlen
  rw [runes_app r 10 t (by decide), spanR_append]
  split
  · rfl
  · rename_i h
    rw [runes_ascii 10 t (by decide), spanR, if_pos blank_nl, spanR_none (by simpa using h)]; rfl
theorem trimL_nl (l t : List UInt8) : trimL (l ++ 10 :: t) = if trimL l = [] then trimL t else trimL l ++ 10 :: t := by
  unfold trimL
  rw [runes_app l 10 t (by decide), spanR_append]
  by_cases h : (runes l).any (fun x => !blankB x.1) = true
  · rw [if_pos h]
    have hlt : spanR (fun r => !blankB r) (runes l) < l.length := by
      rw [← sum_runes l]
      clear t
      have hp : ∀ x ∈ runes l, 1 ≤ x.2 := by
        clear h
        induction l using runes_ind with
        | h0 => simp
        | h1 l hl ih =>
          rw [runes_cons hl]
          intro x hx
          rcases List.mem_cons.1 hx with rfl | hx
          · exact (dec_pos l hl).1
          · exact ih x hx
      revert h hp
      generalize runes l = rs
      intro h hp
      induction rs with
      | nil => simp at h
      | cons c rs ih =>
        obtain ⟨r, k⟩ := c
        have hk : 1 ≤ k := hp (r, k) (List.mem_cons_self ..)
        rw [spanR, List.map_cons, List.sum_cons]
        cases hr : blankB r with
        | false => simp; omega
        | true =>
          simp [hr] at h
          have := ih (by simpa using h) (fun x hx => hp x (List.mem_cons_of_mem _ hx))
          simp; omega
    rw [if_neg (by simp; omega), List.drop_append_of_le_length (by omega)]
  · rw [if_neg h]
    rw [Bool.not_eq_true] at h
    rw [spanR_none (rs := runes l) h, sum_runes, if_pos (by simp), runes_ascii 10 t (by decide), spanR]
    rw [if_neg (by rw [blank_nl]; simp)]
    rw [show l.length + (1 + spanR (fun r => !blankB r) (runes t)) = l.length + (spanR (fun r => !blankB r) (runes t) + 1) by omega, ← List.drop_drop, List.drop_left]
    rfl
theorem trimL_nl0 (t : List UInt8) : trimL (10 :: t) = trimL t := by
  have := trimL_nl [] t
  rw [if_pos (show trimL [] = [] from rfl)] at this; exact this
theorem indexByte_nl : ∀ (r t : List UInt8), Lib.indexByte (r ++ 10 :: t) 10 = if Lib.indexByte r 10 < 0 then (r.length : Int) else Lib.indexByte r 10
  | [], t => by simp [Lib.indexByte]
  | c :: r, t => by
    have ih := indexByte_nl r t
    have hb := indexByte_lt r 10
    have hb2 := indexByte_lt (r ++ 10 :: t) 10
    rw [List.cons_append]
    unfold Lib.indexByte
    rw [ih] at hb2 ⊢
    simp only [beq_iff_eq, List.length_cons]
    repeat' split
    all_goals omega
theorem textL_app (a : Nat) (y : List UInt8) : ∀ (r acc : List UInt8) (i : Nat), (textL a r acc i).2.2 = 0 → textL a (r ++ y) acc i = textL a r acc i
  | [], acc, i, h => by simp [textL] at h
  | c :: r, acc, i, h => by
    rw [List.cons_append, textL_cons, textL_cons]
    rw [textL_cons] at h
    by_cases h1 : c = 34
    · rw [if_pos h1, if_pos h1]
    · rw [if_neg h1] at h ⊢
      rw [if_neg h1]
      by_cases h2 : c = 92
      · rw [if_pos h2] at h ⊢
        rw [if_pos h2]
        match r with
        | [] => simp at h
        | d :: r' =>
          rw [List.cons_append]
          dsimp only at h ⊢
          cases he : esc d with
          | none => rfl
          | some e =>
            rw [he] at h
            dsimp only at h ⊢
            exact textL_app a y r' _ _ h
      · rw [if_neg h2] at h ⊢
        rw [if_neg h2]
        exact textL_app a y r _ _ h
theorem textL_shift (a d : Nat) : ∀ (r acc : List UInt8) (i : Nat), textL (d + a) r acc (d + i) = ((textL a r acc i).1, (d : Int) + (textL a r acc i).2.1, (textL a r acc i).2.2)
  | [], acc, i => by simp [textL]
  | c :: r, acc, i => by
    rw [textL_cons, textL_cons]
    by_cases h1 : c = 34
    · rw [if_pos h1, if_pos h1]
      by_cases h2 : acc.length > 4096
      · rw [if_pos h2, if_pos h2]; simp
      · rw [if_neg h2, if_neg h2]; simp; try omega
    · rw [if_neg h1, if_neg h1]
      by_cases h2 : c = 92
      · rw [if_pos h2, if_pos h2]
        match r with
        | [] => simp
        | d' :: r' =>
          dsimp only
          cases he : esc d' with
          | none => simp
          | some e =>
            dsimp only
            rw [show d + i + 2 = d + (i + 2) by omega]
            exact textL_shift a d r' _ _
      · rw [if_neg h2, if_neg h2, show d + i + 1 = d + (i + 1) by omega]
        exact textL_shift a d r _ _
/-- What a step is where a line's end and more stand behind. -/
def stepApp (y : List UInt8) : TStep → TStep
  | .skip l => .skip (l ++ y)
  | .tok t l => .tok t (l ++ y)
  | .bad p e => .bad p e
  | .stop => .skip y
theorem tokAt_nl (n : Nat) (r t : List UInt8) (hr : r.length ≤ n) (hne : r.take (wlen r) ≠ []) (hbad : ∀ p e, tokAt n r ≠ .bad p e) :
    tokAt (n + 1 + t.length) (r ++ 10 :: t) = stepApp (10 :: t) (tokAt n r) := by
  have hw := wlen_le r
  have htk : (r ++ 10 :: t).take (wlen r) = r.take (wlen r) := List.take_append_of_le_length hw
  have hN : n + 1 + t.length - (r ++ 10 :: t).length = n - r.length := by simp; omega
  unfold tokAt at hbad ⊢
  rw [wlen_nl, htk, hN]
  by_cases h1 : r.take (wlen r) = [33]
  · rw [if_pos h1, if_pos h1, indexByte_nl]
    have hb := indexByte_lt r 10
    by_cases h2 : Lib.indexByte r 10 < 0
    · rw [if_pos h2, if_pos h2, if_neg (by omega), stepApp, show ((r.length : Int)).toNat = r.length by omega, List.drop_left]
    · rw [if_neg h2, if_neg h2, if_neg h2, stepApp, List.drop_append_of_le_length (by omega)]
  · rw [if_neg h1] at hbad ⊢
    rw [if_neg h1]
    cases hx : r.take (wlen r) with
    | nil => exact absurd hx hne
    | cons c q =>
      rw [hx] at hbad
      dsimp only at hbad ⊢
      have hdrop : (r ++ 10 :: t).drop (wlen r) = r.drop (wlen r) ++ 10 :: t := List.drop_append_of_le_length hw
      have hr0 : 1 ≤ r.length := by
        cases r with
        | nil => simp at hx
        | cons => simp
      by_cases h3 : c = 34
      · rw [if_pos h3] at hbad ⊢
        rw [if_pos h3]
        rw [List.drop_append_of_le_length (l₁ := r) hr0]
        by_cases he : (textL (n - r.length) (r.drop 1) [] (n - r.length + 1)).2.2 = 0
        · rw [textL_app _ _ _ _ _ he]
          have hnx := textL_next _ _ _ _ he
          rw [if_pos he, if_pos he, stepApp, List.drop_append_of_le_length]
          rw [List.length_drop] at hnx; omega
        · rw [if_neg he] at hbad; exact absurd rfl (hbad _ _)
      · rw [if_neg h3] at hbad ⊢
        rw [if_neg h3]
        rw [hdrop]
        cases hd : (digitsR (c :: q)).2.1 with
        | true =>
          rw [hd] at hbad
          rw [if_pos rfl] at hbad ⊢
          cases ho : (digitsR (c :: q)).2.2 with
          | true => rw [ho] at *; simp [stepApp]
          | false => rw [ho] at hbad; simp at hbad
        | false =>
          rw [hd] at hbad
          rw [if_neg (by simp)] at hbad ⊢
          cases ho : nameR (c :: q) with
          | true => rw [ho] at *; simp [stepApp]
          | false => rw [ho] at hbad; simp at hbad
theorem textL_bad (a : Nat) : ∀ (r acc : List UInt8) (i : Nat), (textL a r acc i).2.2 = 0 ∨ (textL a r acc i).2.2 = 9 ∨ (textL a r acc i).2.2 = 11
  | [], acc, i => by simp [textL]
  | c :: r, acc, i => by
    rw [textL_cons]
    by_cases h1 : c = 34
    · rw [if_pos h1]
      by_cases h2 : acc.length > 4096
      · rw [if_pos h2]; simp
      · rw [if_neg h2]; simp
    · rw [if_neg h1]
      by_cases h2 : c = 92
      · rw [if_pos h2]
        match r with
        | [] => simp
        | d' :: r' =>
          dsimp only
          cases he : esc d' with
          | none => simp
          | some e => exact textL_bad a r' _ _
      · rw [if_neg h2]; exact textL_bad a r _ _
theorem tokAt_bad (n : Nat) (r : List UInt8) (p : Int) : tokAt n r ≠ .bad p 0 := by
  intro h
  unfold tokAt at h
  split at h
  · split at h <;> cases h
  · split at h
    · cases h
    · split at h
      · split at h
        · cases h
        · rename_i hne
          injection h with _ h
          exact hne h
      · split at h
        · split at h
          · cases h
          · injection h with _ h; exact absurd h (by decide)
        · split at h
          · cases h
          · injection h with _ h; exact absurd h (by decide)
theorem tokAt_pos {n : Nat} {r l' : List UInt8} {t : Tok} (h : tokAt n r = .tok t l') : 0 ≤ t.pos ∧ t.pos ≤ n := by
  unfold tokAt at h
  split at h
  · split at h <;> cases h
  · split at h
    · cases h
    · split at h
      · split at h
        · injection h with h _; subst h; dsimp only; omega
        · cases h
      · split at h
        · split at h
          · injection h with h _; subst h; dsimp only; omega
          · cases h
        · split at h
          · injection h with h _; subst h; dsimp only; omega
          · cases h
/-- Tokens are only added. -/
theorem toks_len (n : Nat) : ∀ (l : List UInt8) (out : List Tok), (toks n l out).2.2 = 0 → out.length ≤ (toks n l out).1.length := by
  intro l
  induction hm : l.length using Nat.strongRecOn generalizing l with
  | _ m ih =>
    intro out h
    rw [toks_step] at h ⊢
    by_cases e : l = []
    · rw [if_pos e]; exact Nat.le_refl _
    · rw [if_neg e] at h ⊢
      have hl := trimL_le l
      cases hs : tokAt n (trimL l) with
      | stop => exact Nat.le_refl _
      | bad p e' => rw [hs] at h; dsimp only at h; subst h; exact absurd hs (tokAt_bad _ _ _)
      | skip l' =>
        rw [hs] at h
        have := (tokAt_less (.inl hs)).1
        exact ih _ (by omega) l' rfl out h
      | tok t l' =>
        rw [hs] at h
        have := (tokAt_less (.inr ⟨t, hs⟩)).1
        dsimp only at h ⊢
        by_cases hb : out.length ≥ 4096
        · rw [if_pos hb] at h; simp at h
        · rw [if_neg hb] at h ⊢
          have := ih _ (by omega) l' rfl (out ++ [t]) h
          simp at this; omega
def Tok.shift (d : Nat) (t : Tok) : Tok := { t with pos := d + t.pos }
def stepShift (d : Nat) : TStep → TStep
  | .skip l => .skip l
  | .tok t l => .tok (t.shift d) l
  | .bad p e => .bad (d + p) e
  | .stop => .stop
theorem tokAt_shift (n d : Nat) (r : List UInt8) (hr : r.length ≤ n) : tokAt (d + n) r = stepShift d (tokAt n r) := by
  have hN : d + n - r.length = d + (n - r.length) := by omega
  unfold tokAt
  rw [hN]
  by_cases h1 : r.take (wlen r) = [33]
  · rw [if_pos h1, if_pos h1]
    by_cases h2 : Lib.indexByte r 10 < 0
    · rw [if_pos h2, stepShift]
    · rw [if_neg h2, stepShift]
  · rw [if_neg h1, if_neg h1]
    cases hx : r.take (wlen r) with
    | nil => rfl
    | cons c q =>
      dsimp only
      by_cases h3 : c = 34
      · rw [if_pos h3, if_pos h3]
        have hs := textL_shift (n - r.length) d (r.drop 1) [] (n - r.length + 1)
        rw [show d + (n - r.length + 1) = d + (n - r.length) + 1 by omega] at hs
        rw [hs]
        dsimp only
        by_cases he : (textL (n - r.length) (r.drop 1) [] (n - r.length + 1)).2.2 = 0
        · rw [if_pos he, if_pos he, stepShift]
          simp only [Tok.shift]
          congr 2
          omega
        · rw [if_neg he, if_neg he, stepShift]
      · rw [if_neg h3, if_neg h3]
        cases hd : (digitsR (c :: q)).2.1 with
        | true =>
          cases ho : (digitsR (c :: q)).2.2 with
          | true => simp [stepShift, Tok.shift]
          | false => simp [stepShift]
        | false =>
          cases ho : nameR (c :: q) with
          | true => simp [stepShift, Tok.shift]
          | false => simp [stepShift]
/-- The rest of a text, where it stands further behind, and behind other tokens. -/
theorem toks_shift (n d : Nat) : ∀ (m : Nat) (l : List UInt8) (out pre : List Tok), l.length ≤ m → l.length ≤ n → (toks n l out).2.2 = 0 → pre.length + (toks n l out).1.length ≤ 4096 →
    toks (d + n) l (pre ++ out.map (Tok.shift d)) = (pre ++ (toks n l out).1.map (Tok.shift d), 0, 0) := by
  intro m
  induction m with
  | zero =>
    intro l out pre hm hn h hc
    obtain rfl : l = [] := List.length_eq_zero_iff.1 (by omega)
    rfl
  | succ m ih =>
    intro l out pre hm hn h hc
    rw [toks_step] at h hc ⊢
    rw [toks_step n]
    by_cases e : l = []
    · rw [if_pos e, if_pos e]
    · rw [if_neg e] at h hc ⊢
      rw [if_neg e]
      have hl := trimL_le l
      rw [tokAt_shift n d (trimL l) (by omega)]
      cases hs : tokAt n (trimL l) with
      | stop => rfl
      | bad p e' =>
        rw [hs] at h
        dsimp only at h
        subst h
        exact absurd hs (tokAt_bad _ _ _)
      | skip l' =>
        rw [hs] at h hc
        have := (tokAt_less (.inl hs)).1
        exact ih l' out pre (by omega) (by omega) h hc
      | tok t l' =>
        rw [hs] at h hc
        have := (tokAt_less (.inr ⟨t, hs⟩)).1
        dsimp only [stepShift] at h hc ⊢
        by_cases hb : out.length ≥ 4096
        · rw [if_pos hb] at h; simp at h
        · rw [if_neg hb] at h hc ⊢
          have hlen := toks_len n l' (out ++ [t])
          have := ih l' (out ++ [t]) pre (by omega) (by omega) h hc
          rw [if_neg, ← this]
          · simp
          · have h3 := hlen h
            simp at h3 ⊢; omega
theorem toks_run (N : Nat) (l : List UInt8) (out : List Tok) : toks N l out = match tokAt N (trimL l) with
    | .stop => (out, 0, 0)
    | .skip l' => toks N l' out
    | .bad p e => ([], p, e)
    | .tok t l' => if out.length ≥ 4096 then ([], t.pos, 11) else toks N l' (out ++ [t]) := by
  rw [toks_step]
  by_cases e : l = []
  · subst e; rfl
  · rw [if_neg e]
    cases tokAt N (trimL l) <;> rfl
theorem runes_drop_span (p : Nat → Bool) (l : List UInt8) : l.drop (spanR p (runes l)) = [] ∨ p (dec (l.drop (spanR p (runes l)))).1 = true := by
  induction l using runes_ind with
  | h0 => left; rfl
  | h1 l hl ih =>
    rw [runes_cons hl]
    unfold spanR
    cases h : p (dec l).1 with
    | true => right; simpa using h
    | false =>
      simp only [Bool.false_eq_true, if_false]
      rw [← List.drop_drop]
      exact ih
theorem trimL_first {l : List UInt8} (h : trimL l ≠ []) : blankB (dec (trimL l)).1 = false := by
  rcases runes_drop_span (fun r => !blankB r) l with h1 | h1
  · exact absurd h1 h
  · unfold trimL; simpa using h1
theorem word_ne {l : List UInt8} (h : trimL l ≠ []) : (trimL l).take (wlen (trimL l)) ≠ [] := by
  have h1 := trimL_first h
  obtain ⟨h2, h3, _⟩ := dec_pos _ h
  unfold wlen
  rw [runes_cons h, spanR, if_neg (by simp [h1])]
  intro h4
  have := congrArg List.length h4
  simp at this
  rcases this with h5 | h5
  · omega
  · exact h h5
theorem toks_join (n : Nat) (t : List UInt8) : ∀ (m : Nat) (l : List UInt8) (out : List Tok), l.length ≤ m → l.length ≤ n → (toks n l out).2.2 = 0 →
    toks (n + 1 + t.length) (l ++ 10 :: t) out = toks (n + 1 + t.length) t (toks n l out).1 := by
  intro m
  induction m with
  | zero =>
    intro l out hm hn h
    obtain rfl : l = [] := List.length_eq_zero_iff.1 (by omega)
    rw [List.nil_append, toks_run, trimL_nl0, toks_run _ t]
    rfl
  | succ m ih =>
    intro l out hm hn h
    have hl := trimL_le l
    by_cases ht : trimL l = []
    · rw [toks_run n l, ht]
      rw [toks_run, trimL_nl, if_pos ht, toks_run _ t]
      rfl
    · rw [toks_run, trimL_nl, if_neg ht]
      rw [toks_run n l] at h ⊢
      have hb : ∀ p e, tokAt n (trimL l) ≠ .bad p e := by
        intro p e hs
        rw [hs] at h
        dsimp only at h
        subst h
        exact absurd hs (tokAt_bad _ _ _)
      rw [tokAt_nl n (trimL l) t (by omega) (word_ne ht) hb]
      cases hs : tokAt n (trimL l) with
      | stop =>
        dsimp only [stepApp]
        rw [toks_run, trimL_nl0, ← toks_run]
      | bad p e => exact absurd hs (hb p e)
      | skip l' =>
        rw [hs] at h
        have := (tokAt_less (.inl hs)).1
        exact ih l' out (by omega) (by omega) h
      | tok x l' =>
        rw [hs] at h
        have := (tokAt_less (.inr ⟨x, hs⟩)).1
        dsimp only [stepApp] at h ⊢
        by_cases hb : out.length ≥ 4096
        · rw [if_pos hb] at h; simp at h
        · rw [if_neg hb] at h ⊢
          rw [if_neg hb]
          exact ih l' _ (by omega) (by omega) h
theorem toks_ok (n : Nat) : ∀ (l : List UInt8) (out : List Tok), (toks n l out).2.2 = 0 → (toks n l out).2.1 = 0 ∧ (out.length ≤ 4096 → (toks n l out).1.length ≤ 4096) ∧ ((∀ t ∈ out, 0 ≤ t.pos ∧ t.pos ≤ n) → ∀ t ∈ (toks n l out).1, 0 ≤ t.pos ∧ t.pos ≤ n) := by
  intro l
  induction hm : l.length using Nat.strongRecOn generalizing l with
  | _ m ih =>
    intro out h
    rw [toks_step] at h ⊢
    by_cases e : l = []
    · rw [if_pos e]; exact ⟨rfl, id, id⟩
    · rw [if_neg e] at h ⊢
      have hl := trimL_le l
      cases hs : tokAt n (trimL l) with
      | stop => exact ⟨rfl, id, id⟩
      | bad p e' => rw [hs] at h; dsimp only at h; subst h; exact absurd hs (tokAt_bad _ _ _)
      | skip l' =>
        rw [hs] at h
        have := (tokAt_less (.inl hs)).1
        exact ih _ (by omega) l' rfl out h
      | tok t l' =>
        rw [hs] at h
        have := (tokAt_less (.inr ⟨t, hs⟩)).1
        dsimp only at h ⊢
        by_cases hb : out.length ≥ 4096
        · rw [if_pos hb] at h; simp at h
        · rw [if_neg hb] at h ⊢
          obtain ⟨h1, h2, h3⟩ := ih _ (by omega) l' rfl (out ++ [t]) h
          refine ⟨h1, fun _ => h2 (by simp; omega), fun ho => h3 ?_⟩
          intro x hx
          rcases List.mem_append.1 hx with hx | hx
          · exact ho x hx
          · rw [List.mem_singleton.1 hx]
            exact tokAt_pos hs
theorem tokens_ok (s : List UInt8) (h : (tokensR s).2.2 = 0) : s.length ≤ 65536 ∧ (tokensR s).2.1 = 0 ∧ (tokensR s).1.length ≤ 4096 ∧ ∀ t ∈ (tokensR s).1, 0 ≤ t.pos ∧ t.pos ≤ s.length := by
  unfold tokensR at h ⊢
  by_cases hs : s.length > 65536
  · rw [if_pos hs] at h; simp at h
  · rw [if_neg hs] at h ⊢
    cases f1 : faultR s with
    | some i => rw [f1] at h; simp at h
    | none =>
      rw [f1] at h
      obtain ⟨h1, h2, h3⟩ := toks_ok s.length s [] h
      exact ⟨by omega, h1, h2 (by simp), h3 (by simp)⟩
/-- Two texts, a line's end between. -/
theorem tokens_join {s t : List UInt8} (hs : (tokensR s).2.2 = 0) (ht : (tokensR t).2.2 = 0) (hlen : s.length + t.length < 65536) (hcnt : (tokensR s).1.length + (tokensR t).1.length ≤ 4096) :
    tokensR (s ++ 10 :: t) = ((tokensR s).1 ++ (tokensR t).1.map (Tok.shift (s.length + 1)), 0, 0) := by
  unfold tokensR at hs ht hcnt ⊢
  rw [if_neg (by omega)] at hs ht
  rw [if_neg (show ¬ s.length > 65536 by omega), if_neg (show ¬ t.length > 65536 by omega)] at hcnt ⊢
  rw [if_neg (by simp; omega)]
  cases f1 : faultR s with
  | some i => rw [f1] at hs; simp at hs
  | none =>
    cases f2 : faultR t with
    | some i => rw [f2] at ht; simp at ht
    | none =>
      rw [f1] at hs hcnt
      rw [f2] at ht hcnt
      rw [(faultR_app s 10 t (by decide)).2 ⟨f1, f2⟩]
      dsimp only at hs ht hcnt ⊢
      have h1 := toks_join s.length t s.length s [] (Nat.le_refl _) (Nat.le_refl _) hs
      rw [show (s ++ 10 :: t).length = s.length + 1 + t.length by simp; omega, h1]
      have h2 := toks_shift t.length (s.length + 1) t.length t [] (toks s.length s []).1 (Nat.le_refl _) (Nat.le_refl _) ht hcnt
      simpa using h2
end Go.Proofs.YtfhkpcdccideeaaDoor

namespace Go.Proofs.YtfhkpcdccideeaaDoor
open Go Go.Av
theorem dec_low (c : UInt8) (r : List UInt8) (k : Nat) (hk : k < 128) : (dec (c :: r)).1 = k ↔ c.toNat = k := by
  constructor
  · intro h
    by_cases hc : c.toNat < 128
    · rw [dec_ascii c r hc] at h; exact h
    · exfalso
      rw [dec_N] at h
      unfold Lib.decodeN at h
      simp only [List.getD_cons_zero] at h
      repeat' split at h
      all_goals first | (simp only at h; omega) | omega
  · intro h; rw [dec_ascii c r (by omega)]; exact h
structure Placed (s : List UInt8) (t : Tok) : Prop where
  pos0 : 0 ≤ t.pos
  posN : t.pos < s.length
  blank : blankB (dec (s.drop t.pos.toNat)).1 = false
  quote : t.kind = 3 ↔ (dec (s.drop t.pos.toNat)).1 = 34
  word : t.kind = 1 → t.text.length ≤ s.length - t.pos.toNat ∧ (s.drop t.pos.toNat).take t.text.length = t.text ∧ nameR t.text = true
theorem tokAt_placed {s : List UInt8} {p : Nat} {t : Tok} {l' : List UInt8} (hp : p ≤ s.length) (hb : s.drop p ≠ [] → blankB (dec (s.drop p)).1 = false) (h : tokAt s.length (s.drop p) = .tok t l') : Placed s t ∧ t.pos = p := by
  have hn : s.length - (s.drop p).length = p := by simp; omega
  unfold tokAt at h
  rw [hn] at h
  have hw := wlen_le (s.drop p)
  rw [List.length_drop] at hw
  generalize wlen (s.drop p) = w at h hw
  split at h
  · split at h <;> cases h
  · cases hx : (s.drop p).take w with
    | nil => rw [hx] at h; cases h
    | cons c q =>
      have hc : ∃ r, s.drop p = c :: r := by
        cases hd : s.drop p with
        | nil => rw [hd] at hx; simp at hx
        | cons d r =>
          cases w with
          | zero => simp at hx
          | succ w => rw [hd] at hx; simp at hx; exact ⟨r, by rw [hx.1]⟩
      obtain ⟨r, hc⟩ := hc
      have hbl := hb (by rw [hc]; simp)
      have hlt : p < s.length := by
        have := congrArg List.length hc
        rw [List.length_drop] at this; simp at this; omega
      have hq := dec_low c r 34 (by decide)
      rw [← hc] at hq
      have h34 : c.toNat = 34 ↔ c = 34 := by rw [← UInt8.toNat_inj]; rfl
      rw [hx] at h
      dsimp only at h
      split at h
      · rename_i hc34
        split at h
        · injection h with h _
          subst h
          exact ⟨⟨by dsimp only; omega, by dsimp only; omega, by simpa using hbl, by simp; rw [hq, h34]; exact hc34, by simp⟩, rfl⟩
        · cases h
      · rename_i hc34
        split at h
        · split at h
          · injection h with h _
            subst h
            exact ⟨⟨by dsimp only; omega, by dsimp only; omega, by simpa using hbl, by simp; rw [hq, h34]; exact hc34, by simp⟩, rfl⟩
          · cases h
        · split at h
          · rename_i hnm
            injection h with h _
            subst h
            refine ⟨⟨by dsimp only; omega, by dsimp only; omega, by simpa using hbl, by simp; rw [hq, h34]; exact hc34, fun _ => ?_⟩, rfl⟩
            have hl := congrArg List.length hx
            rw [List.length_take, List.length_drop, Nat.min_eq_left hw] at hl
            dsimp only
            rw [Int.toNat_natCast, ← hl]
            exact ⟨hw, by rw [hx], hnm⟩
          · cases h
theorem textL_place (a : Nat) : ∀ (r acc : List UInt8) (i : Nat), a ≤ i → (a : Int) ≤ (textL a r acc i).2.1 ∧ (textL a r acc i).2.1 ≤ i + r.length
  | [], acc, i, h => by simp [textL]; omega
  | c :: r, acc, i, h => by
    rw [textL_cons]
    by_cases h1 : c = 34
    · rw [if_pos h1]
      by_cases h2 : acc.length > 4096
      · rw [if_pos h2]; simp; omega
      · rw [if_neg h2]; simp; omega
    · rw [if_neg h1]
      by_cases h2 : c = 92
      · rw [if_pos h2]
        match r with
        | [] => simp; omega
        | d :: r' =>
          dsimp only
          cases he : esc d with
          | none => simp; omega
          | some e =>
            have := textL_place a r' (acc ++ [e]) (i + 2) (by omega)
            simp; omega
      · rw [if_neg h2]
        have := textL_place a r (acc ++ [c]) (i + 1) (by omega)
        simp; omega
theorem tokAt_badPlace {n : Nat} {r : List UInt8} {p e : Int} (hr : r.length ≤ n) (h : tokAt n r = .bad p e) : 0 ≤ p ∧ p ≤ n := by
  unfold tokAt at h
  split at h
  · split at h <;> cases h
  · cases hx : r.take (wlen r) with
    | nil => rw [hx] at h; cases h
    | cons c q =>
      have h0 : r ≠ [] := by intro h0; rw [h0] at hx; simp at hx
      have h0 : 1 ≤ r.length := by cases r with | nil => exact absurd rfl h0 | cons => simp
      rw [hx] at h
      dsimp only at h
      split at h
      · split at h
        · cases h
        · injection h with h _
          have := textL_place (n - r.length) (r.drop 1) [] (n - r.length + 1) (by omega)
          rw [List.length_drop] at this
          omega
      · split at h
        · split at h
          · cases h
          · injection h with h _; omega
        · split at h
          · cases h
          · injection h with h _; omega
def Stand (s : List UInt8) (out : List Tok) (p : Nat) : Prop := (∀ t ∈ out, Placed s t ∧ t.pos < p) ∧ out.Pairwise (fun a b => a.pos < b.pos)
theorem toks_place (s : List UInt8) : ∀ (m p : Nat) (out : List Tok), s.length - p ≤ m → p ≤ s.length → Stand s out p →
    ((toks s.length (s.drop p) out).2.2 = 0 → ∃ q, Stand s (toks s.length (s.drop p) out).1 q) ∧ ((toks s.length (s.drop p) out).2.2 ≠ 0 → (toks s.length (s.drop p) out).1 = [] ∧ 0 ≤ (toks s.length (s.drop p) out).2.1 ∧ (toks s.length (s.drop p) out).2.1 ≤ s.length) := by
  intro m
  induction m with
  | zero =>
    intro p out hm hp hS
    rw [List.drop_eq_nil_of_le (by omega)]
    rw [toks_step, if_pos rfl]
    exact ⟨fun _ => ⟨p, hS⟩, fun h => absurd rfl h⟩
  | succ m ih =>
    intro p out hm hp hS
    rw [toks_run]
    have hsp := spanR_le (fun r => !blankB r) (s.drop p)
    rw [List.length_drop] at hsp
    obtain ⟨p', h1, h2, h3⟩ : ∃ p', p ≤ p' ∧ p' ≤ s.length ∧ trimL (s.drop p) = s.drop p' :=
      ⟨p + spanR (fun r => !blankB r) (runes (s.drop p)), by omega, by omega, by unfold trimL; rw [List.drop_drop]⟩
    have hb : s.drop p' ≠ [] → blankB (dec (s.drop p')).1 = false := by rw [← h3]; exact trimL_first
    rw [h3]
    cases hs : tokAt s.length (s.drop p') with
    | stop => exact ⟨fun _ => ⟨p, hS⟩, fun h => absurd rfl h⟩
    | bad q e => exact ⟨fun h => absurd hs (by rw [show e = 0 from h]; exact tokAt_bad _ _ _), fun _ => ⟨rfl, tokAt_badPlace (by simp) hs⟩⟩
    | skip l' =>
      obtain ⟨hl, k, rfl⟩ := tokAt_less (.inl hs)
      rw [List.drop_drop] at hl ⊢
      rw [List.length_drop, List.length_drop] at hl
      dsimp only
      by_cases hk : p' + k ≤ s.length
      · exact ih (p' + k) out (by omega) hk ⟨fun t ht => ⟨(hS.1 t ht).1, by have := (hS.1 t ht).2; omega⟩, hS.2⟩
      · rw [List.drop_eq_nil_of_le (by omega), toks_step, if_pos rfl]
        exact ⟨fun _ => ⟨p, hS⟩, fun h => absurd rfl h⟩
    | tok t l' =>
      obtain ⟨hl, k, rfl⟩ := tokAt_less (.inr ⟨t, hs⟩)
      obtain ⟨ht, htp⟩ := tokAt_placed h2 hb hs
      have htN := ht.posN
      rw [List.drop_drop] at hl ⊢
      rw [List.length_drop, List.length_drop] at hl
      dsimp only
      by_cases hbig : out.length ≥ 4096
      · rw [if_pos hbig]
        exact ⟨fun h => absurd h (by simp), fun _ => ⟨rfl, by dsimp only; omega, by dsimp only; omega⟩⟩
      · rw [if_neg hbig]
        have hS' : ∀ q : Nat, t.pos < q → Stand s (out ++ [t]) q := by
          intro q hq
          refine ⟨fun x hx => ?_, ?_⟩
          · rcases List.mem_append.1 hx with hx | hx
            · exact ⟨(hS.1 x hx).1, by have := (hS.1 x hx).2; omega⟩
            · rw [List.mem_singleton.1 hx]; exact ⟨ht, hq⟩
          · rw [List.pairwise_append]
            refine ⟨hS.2, List.pairwise_singleton _ _, fun x hx y hy => ?_⟩
            rw [List.mem_singleton.1 hy]
            have := (hS.1 x hx).2; omega
        by_cases hk : p' + k ≤ s.length
        · exact ih (p' + k) _ (by omega) hk (hS' _ (by omega))
        · rw [List.drop_eq_nil_of_le (by omega), toks_step, if_pos rfl]
          exact ⟨fun _ => ⟨_, hS' (t.pos.toNat + 1) (by omega)⟩, fun h => absurd rfl h⟩
theorem faultL_le : ∀ {rs : List (Nat × Nat)} {i : Nat}, faultL rs = some i → i ≤ (rs.map (·.2)).sum
  | [], i, h => by simp [faultL] at h
  | c :: rs, i, h => by
    rw [faultL] at h
    split at h
    · simp at h; omega
    · cases hf : faultL rs with
      | none => rw [hf] at h; simp at h
      | some j =>
        rw [hf] at h
        simp at h
        have := faultL_le hf
        simp; omega
theorem tokens_place (s : List UInt8) : ((tokensR s).2.2 = 0 → (∀ t ∈ (tokensR s).1, Placed s t) ∧ (tokensR s).1.Pairwise (fun a b => a.pos < b.pos)) ∧
    ((tokensR s).2.2 ≠ 0 → (tokensR s).1 = [] ∧ 0 ≤ (tokensR s).2.1 ∧ (tokensR s).2.1 ≤ s.length) := by
  unfold tokensR
  by_cases hs : s.length > 65536
  · rw [if_pos hs]
    exact ⟨fun h => absurd h (by simp), fun _ => ⟨rfl, by simp, by simp⟩⟩
  · rw [if_neg hs]
    cases hf : faultR s with
    | some i =>
      have := faultL_le hf
      rw [sum_runes] at this
      exact ⟨fun h => absurd h (by simp), fun _ => ⟨rfl, by simp, by dsimp only; omega⟩⟩
    | none =>
      have := toks_place s s.length 0 [] (by omega) (by omega) ⟨by simp, by simp⟩
      rw [List.drop_zero] at this
      refine ⟨fun h => ?_, this.2⟩
      obtain ⟨q, hq⟩ := this.1 h
      exact ⟨fun t ht => (hq.1 t ht).1, hq.2⟩
end Go.Proofs.YtfhkpcdccideeaaDoor

namespace Go.Proofs.YtfhkpcdccideeaaDoor
open Go Go.Av
structure PlI where
  last : Int
  i : Nat
set_option maxHeartbeats 800000 in
theorem f_LexPlaces (s : List UInt8) (hs : s.length ≤ 140737488351232) : Av.Fn Tryd.prog 5 [.str s] (.bool true) := by
  have fs := f_Tokens s
  have hok := tokens_ok s
  have hpl := tokens_place s
  generalize tokensR s = a at fs hok hpl
  obtain ⟨l, at_, e⟩ := a
  dsimp only at fs hok hpl
  refine ACalls.of_W tb_ok (fn := Tryd.f5) (n := 110) (by kernel_rfl) rfl (by kernel_rfl) rfl rfl (by simp) (go ?_)
  refine Fn.use (f8_of) (go ?_)
  refine Fn.use (fs) (go ?_)
  refine fork (fun he => go ?_) (fun he => go ?_)
  · obtain ⟨h1, h2, h3⟩ := hpl.2 he
    subst h1
    refine go ?_
    refine VIf.yes (decide_eq_true h2) (go ?_)
    refine VRet.mk [] .nil ?_
    simp [h3]
  · obtain ⟨h1, h2⟩ := hpl.1 he
    have hlen := hok he
    refine VLoop.mk [6, 7] PlI (fun i => [.int .i64 i.last, .int .i64 i.i]) (fun _ => []) (fun i => -1 ≤ i.last ∧ i.i ≤ l.length ∧ (∀ t ∈ l.drop i.i, i.last < t.pos)) (fun i => l.length - i.i) ⟨-1, 0⟩ ?_ ?_
    · refine ⟨⟨by simp, by simp, ?_⟩, rfl, .nil⟩
      intro t ht
      have := (h1 t (by simpa using ht)).pos0
      dsimp only; omega
    rintro ⟨last, i⟩ ⟨hla, hi, hI⟩
    dsimp only at hla hi hI ⊢
    refine go ?_
    refine fork (fun hlt => go ?_) (fun hlt => go ?_)
    · have hlt : i < l.length := by omega
      have hdl : l.drop i = l[i] :: l.drop (i + 1) := List.drop_eq_getElem_cons hlt
      have hx : l[i]? = some l[i] := by simp [hlt]
      have hmem : l[i] ∈ l := List.getElem_mem hlt
      have hP := h1 _ hmem
      have hpw : ∀ t ∈ l.drop (i + 1), l[i].pos < t.pos := by
        have hsub : (l.drop i).Pairwise (fun a b => a.pos < b.pos) := h2.sublist (List.drop_sublist i l)
        rw [hdl, List.pairwise_cons] at hsub
        exact hsub.1
      have hlast : last < l[i].pos := hI _ (by rw [hdl]; exact List.mem_cons_self ..)
      generalize l[i] = x at hx hP hpw hlast
      have e1 := toksC_at (r := []) hx
      rw [List.append_nil] at e1
      obtain ⟨hp0, hpN, hbl, hq, hw⟩ := hP
      obtain ⟨kd, tx, n, pos⟩ := x
      dsimp only at hp0 hpN hbl hq hw hlast hpw
      obtain ⟨p, rfl⟩ : ∃ p : Nat, pos = p := ⟨pos.toNat, by omega⟩
      rw [Int.toNat_natCast] at hbl hq hw
      refine VTake.mk [.int .i64 kd, .str tx, .int .i64 n, .int .i64 p] (by simpa [Tok.cells] using e1) rfl (go ?_)
      refine VAll.mk (fun bx => go ?_)
      refine VIf.no (decide_eq_false (by omega)) (go ?_)
      refine VIf.no (decide_eq_false (by omega)) (go ?_)
      refine VAll.mk (fun br => go ?_)
      refine VLoop.un 1 [] (go ?_)
      refine VIf.yes (decide_eq_true (by simp; omega)) (go ?_)
      have hdec : Utf8.decode ⟨⟨s.drop p⟩⟩ 0 = dec (s.drop p) := rfl
      rw [hdec]
      have hb := f_refBlank (dec (s.drop p)).1
      rw [hbl] at hb
      refine Fn.use (hb) (go ?_)
      have hkq : decide (kd = 3) = decide (((dec (s.drop p)).1 : Int) = 34) := by
        rw [decide_eq_decide, hq]; omega
      refine VIf.no (by rw [hkq]; simp) (go ?_)
      by_cases hk1 : kd = 1
      · obtain ⟨w1, w2, w3⟩ := hw hk1
        refine VIf.yes (decide_eq_true hk1) (go ?_)
        refine VIf.no (decide_eq_false (by omega)) (go ?_)
        refine VIf.no (by rw [List.drop_take, Nat.add_sub_cancel_left, w2]; simp) (go ?_)
        have f11 := f11_of tx (by omega)
        rw [w3] at f11
        refine VQ.mk (.bool true) (by refine go ?_; refine Fn.use (f11) (go ?_); exact ⟨congrArg _ (rfl), rfl⟩) (go ?_)
        exact ⟨⟨(p : Int), i + 1⟩, ⟨by dsimp only; omega, by dsimp only; omega, hpw⟩, by dsimp only; omega, rfl, .nil⟩
      · refine VIf.no (decide_eq_false hk1) (go ?_)
        exact ⟨⟨(p : Int), i + 1⟩, ⟨by dsimp only; omega, by dsimp only; omega, hpw⟩, by dsimp only; omega, rfl, .nil⟩
    · refine VRet.mk [] .nil ?_
      exact ⟨rfl, rfl⟩
end Go.Proofs.YtfhkpcdccideeaaDoor
