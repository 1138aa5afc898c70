/- Lex: Tokens. The reader of parse: its small steps. Conditions: as each says. What parse reads is taken away: plain Lean. Conditions: none. parse: literal, item, items. Conditions: as each says. Tokens of texts that stand one behind the other: plain Lean. Conditions: as each says. parse: define, read, Items, Parse. Conditions: as each says. -/
import Derived.Test.YtbmplclnondfnaaDoorX4
import Derived.Test.YtbmplclnondfnaaDoorX3
set_option linter.all false
namespace Go.Proofs.YtbmplclnondfnaaDoor
open Go Go.Av
structure TokI where
  o : Option Nat
  p : Nat
  out : List Tok
theorem f18_nat (r : Nat) (hr : r ≤ 1114111) : Av.Fn Tryd.prog 45 [.int .i32 r] (.bool (blankB r)) := f18_of r (by omega)
theorem fn_end (l : List UInt8) : ∃ k : Int, Av.Fn Tryd.prog 46 [.str l, .fn (.func 45) [] []] (.int .i64 k) ∧ ((k = wlen l ∧ 0 ≤ k) ∨ (k = -1 ∧ wlen l = l.length)) := by
  have h := fn_IndexFunc 45 (fun r => blankB r) f18_nat l
  by_cases ha : (runes l).any (fun x => blankB x.1) = true
  · rw [if_pos ha] at h
    exact ⟨_, h, .inl ⟨rfl, by omega⟩⟩
  · rw [if_neg ha] at h
    exact ⟨_, h, .inr ⟨rfl, by unfold wlen; rw [spanR_none (by simpa using ha), sum_runes]⟩⟩
theorem take_toksC (l : List Tok) : (toksC l).take (l.length * 4) = toksC l := List.take_of_length_le (by simp)
set_option maxHeartbeats 1600000 in
theorem toks_of (s : List UInt8) (hs : s.length ≤ 65536) (hf : faultR s = none) : Av.Fn Tryd.prog 19 [.str s] (.tup [.fz (toksC (toks s.length s []).1) (toks s.length s []).1.length false, .int .i64 (toks s.length s []).2.1, .int .i64 (toks s.length s []).2.2]) := by
  have ff := f_fault s
  rw [show faultV s = -1 by simp [faultV, hf]] at ff
  obtain ⟨R, hR⟩ : ∃ R, R = toks s.length s [] := ⟨_, rfl⟩
  rw [← hR]
  refine ACalls.of_W tb_ok (fn := Tryd.f19) (n := 113) (by kernel_rfl) rfl (by kernel_rfl) rfl rfl (by simp) (go ?_)
  refine VIf.no (decide_eq_false (by omega)) (go ?_)
  refine Fn.use (ff) (go ?_)
  refine VLoop.mk [6, 7] TokI (fun i => [accV i.o i.out.length, .int .i64 i.p]) (fun i => accS i.o 4 (toksC i.out))
    (fun i => i.p ≤ s.length ∧ i.out.length ≤ 4096 ∧ (i.o = none → i.out = []) ∧ toks s.length (s.drop i.p) i.out = R) (fun i => s.length - i.p) ⟨none, 0, []⟩ ?_ ?_
  · exact ⟨⟨by simp, by simp, by simp, hR.symm⟩, rfl, .nil⟩
  rintro ⟨o, p, out⟩ ⟨hp, hol, ho, hI⟩
  dsimp only at hp hol ho hI ⊢
  cases o with
  | none =>
    have hacc := ho rfl
    subst hacc
    refine go ?_
    refine fork (fun hlt => go ?_) (fun hlt => go ?_)
    · have hlt : p < s.length := by omega
      have htr := trimL_le (s.drop p)
      obtain ⟨p', hp', hp2, hr⟩ : ∃ p', p ≤ p' ∧ p' ≤ s.length ∧ trimL (s.drop p) = s.drop p' := by
        have := spanR_le (fun r => !blankB r) (s.drop p)
        rw [List.length_drop] at this
        exact ⟨p + spanR (fun r => !blankB r) (runes (s.drop p)), by omega, by omega, by unfold trimL; rw [List.drop_drop]⟩
      have ft := fn_TrimLeftFunc 45 (fun r => blankB r) f18_nat (s.drop p)
      rw [show (s.drop p).drop (spanR (fun r => !blankB r) (runes (s.drop p))) = s.drop p' from hr] at ft
      refine Fn.use (ft) (go ?_)
      refine VInt.to (p' : Int) (by simp; omega) (by omega) (by omega) (go ?_)
      obtain ⟨k, fe, hk⟩ := fn_end (s.drop p')
      refine Fn.use (fe) (go ?_)
      obtain ⟨w, hw⟩ : ∃ w, w = wlen (s.drop p') := ⟨_, rfl⟩
      have hwl := wlen_le (s.drop p')
      rw [← hw] at hk hwl
      rw [List.length_drop] at hwl
      have hpp : s.length - (s.drop p').length = p' := by simp; omega
      rw [toks_step, if_neg (by simp; omega), hr] at hI
      unfold tokAt at hI
      rw [← hw, hpp] at hI
      rcases hk with ⟨hk, hk0⟩ | ⟨hk, hk1⟩
      · subst hk
        refine VIf.no (decide_eq_false (by omega)) (go ?_)
        refine fork (fun h1 => go ?_) (fun h1 => go ?_)
        · rw [if_pos h1] at hI
          have hb := indexByte_lt (s.drop p') 10
          rw [List.length_drop] at hb
          have fi := fn_IndexByte (s.drop p') 10
          rw [show (10 : Int).toNat.toUInt8 = (10 : UInt8) from rfl] at fi
          obtain ⟨m, hmm⟩ : ∃ m, m = Lib.indexByte (s.drop p') 10 := ⟨_, rfl⟩
          rw [← hmm] at fi hb hI
          refine Fn.use (fi) (go ?_)
          refine fork (fun hm => go ?_) (fun hm => go ?_)
          · rw [if_pos hm] at hI
            refine VRet.mk [] .nil ?_
            rw [← hI]; exact ⟨rfl, rfl⟩
          · rw [if_neg hm] at hI
            dsimp only at hI
            have hsk := (tokAt_less (N := s.length) (.inl (show tokAt s.length (s.drop p') = .skip ((s.drop p').drop m.toNat) by unfold tokAt; rw [← hw, if_pos h1, ← hmm, if_neg hm]))).1
            rw [List.drop_drop] at hI hsk
            rw [List.length_drop, List.length_drop] at hsk
            refine ⟨⟨none, p' + m.toNat, []⟩, ⟨?_, ?_, ?_, ?_⟩, ?_, ?_, ?_⟩
            · dsimp only; omega
            · exact hol
            · exact ho
            · exact hI
            · dsimp only; omega
            · simp [accV]; omega
            · exact .nil
        · rw [if_neg h1] at hI
          refine fork (fun h2 => go ?_) (fun h2 => go ?_)
          · rw [h2] at hI
            refine VRet.mk [] .nil ?_
            rw [← hI]; exact ⟨rfl, rfl⟩
          · obtain ⟨c, q, hcq⟩ : ∃ c q, (s.drop p').take w = c :: q := by
              cases hx : (s.drop p').take w with
              | nil => exact absurd hx h2
              | cons c q => exact ⟨c, q, rfl⟩
            have hwp : 0 < w := by
              rcases Nat.eq_zero_or_pos w with h0 | h0
              · rw [h0] at hcq; simp at hcq
              · exact h0
            have hc0 : ((s.drop p').take w).getD 0 0 = c := by rw [hcq]; rfl
            refine VAll.mk (fun bt => go ?_)
            rw [hc0]
            have f17 := f17_of ((s.drop p').take w)
            have f11 := f11_of ((s.drop p').take w) (by simp; omega)
            have hI2 := hI
            rw [hcq] at hI2
            dsimp only at hI2
            rw [← hcq] at hI2
            replace hI := hI2
            clear hI2
            refine fork (fun h34 => go ?_) (fun h34 => go ?_)
            · have h34 : c = 34 := by rw [← UInt8.toNat_inj]; exact Int.ofNat_inj.1 h34
              rw [if_pos h34, List.drop_drop] at hI
              have fx := f_text s p' (by omega) hs
              have hnx := textL_next p' (s.drop (p' + 1)) [] (p' + 1)
              rw [show textR s p' = textL p' (s.drop (p' + 1)) [] (p' + 1) from rfl] at fx
              generalize textL p' (s.drop (p' + 1)) [] (p' + 1) = x at fx hI hnx
              obtain ⟨x, nx, e⟩ := x
              dsimp only at fx hI hnx
              refine Fn.use (fx) (go ?_)
              refine fork (fun he => go ?_) (fun he => go ?_)
              · have he : e = 0 := he
                have hnx := hnx he
                subst he
                rw [if_pos rfl] at hI
                dsimp only at hI
                obtain ⟨j, rfl⟩ : ∃ j : Nat, nx = j := ⟨nx.toNat, by omega⟩
                rw [List.drop_drop, show p' + ((j : Int) - (p' : Int)).toNat = j by omega] at hI
                rw [List.length_drop] at hnx
                refine VIf.no (by simp) (go ?_)
                refine VAll.mk (fun b2 => go ?_)
                refine ⟨⟨some b2, j, [⟨3, x, 0, (p' : Nat)⟩]⟩, ⟨?_, ?_, ?_, ?_⟩, ?_, ?_, ?_⟩
                · dsimp only; omega
                · simp
                · intro h; cases h
                · exact hI
                · dsimp only; omega
                · simp [accV]; try omega
                · exact .cons 0 rfl .nil
              · have he : ¬ e = 0 := he
                rw [if_neg he] at hI
                refine VIf.yes (by simpa using he) (go ?_)
                refine VRet.mk [] .nil ?_
                rw [← hI]; exact ⟨rfl, rfl⟩
            · have h34 : ¬ c = 34 := by rw [← UInt8.toNat_inj]; exact fun e => h34 (Int.ofNat_inj.2 e)
              rw [if_neg h34, List.drop_drop] at hI
              generalize digitsR ((s.drop p').take w) = d at f17 hI
              obtain ⟨n, num, ok⟩ := d
              dsimp only at f17 hI
              refine Fn.use (f17) (go ?_)
              cases num with
              | true =>
                rw [if_pos rfl] at hI
                cases ok with
                | true =>
                  rw [if_pos rfl] at hI
                  dsimp only at hI
                  refine go ?_
                  skip
                  refine VAll.mk (fun b2 => go ?_)
                  refine ⟨⟨some b2, p' + w, [⟨2, [], n, (p' : Nat)⟩]⟩, ⟨?_, ?_, ?_, ?_⟩, ?_, ?_, ?_⟩
                  · dsimp only; omega
                  · simp
                  · intro h; cases h
                  · exact hI
                  · dsimp only; omega
                  · simp [accV]; try omega
                  · exact .cons 0 rfl .nil
                | false =>
                  rw [if_neg (by simp)] at hI
                  refine go ?_
                  refine VRet.mk [] .nil ?_
                  rw [← hI]; exact ⟨rfl, rfl⟩
              | false =>
                rw [if_neg (by simp)] at hI
                refine go ?_
                generalize nameR ((s.drop p').take w) = nm at f11 hI
                refine Fn.use (f11) (go ?_)
                cases nm with
                | true =>
                  rw [if_pos rfl] at hI
                  dsimp only at hI
                  refine go ?_
                  skip
                  refine VAll.mk (fun b2 => go ?_)
                  refine ⟨⟨some b2, p' + w, [⟨1, (s.drop p').take w, 0, (p' : Nat)⟩]⟩, ⟨?_, ?_, ?_, ?_⟩, ?_, ?_, ?_⟩
                  · dsimp only; omega
                  · simp
                  · intro h; cases h
                  · exact hI
                  · dsimp only; omega
                  · simp [accV]; try omega
                  · exact .cons 0 rfl .nil
                | false =>
                  rw [if_neg (by simp)] at hI
                  refine go ?_
                  refine VRet.mk [] .nil ?_
                  rw [← hI]; exact ⟨rfl, rfl⟩
      · subst hk
        refine go ?_
        rw [← hk1]
        refine fork (fun h1 => go ?_) (fun h1 => go ?_)
        · rw [if_pos h1] at hI
          have hb := indexByte_lt (s.drop p') 10
          rw [List.length_drop] at hb
          have fi := fn_IndexByte (s.drop p') 10
          rw [show (10 : Int).toNat.toUInt8 = (10 : UInt8) from rfl] at fi
          obtain ⟨m, hmm⟩ : ∃ m, m = Lib.indexByte (s.drop p') 10 := ⟨_, rfl⟩
          rw [← hmm] at fi hb hI
          refine Fn.use (fi) (go ?_)
          refine fork (fun hm => go ?_) (fun hm => go ?_)
          · rw [if_pos hm] at hI
            refine VRet.mk [] .nil ?_
            rw [← hI]; exact ⟨rfl, rfl⟩
          · rw [if_neg hm] at hI
            dsimp only at hI
            have hsk := (tokAt_less (N := s.length) (.inl (show tokAt s.length (s.drop p') = .skip ((s.drop p').drop m.toNat) by unfold tokAt; rw [← hw, if_pos h1, ← hmm, if_neg hm]))).1
            rw [List.drop_drop] at hI hsk
            rw [List.length_drop, List.length_drop] at hsk
            refine ⟨⟨none, p' + m.toNat, []⟩, ⟨?_, ?_, ?_, ?_⟩, ?_, ?_, ?_⟩
            · dsimp only; omega
            · exact hol
            · exact ho
            · exact hI
            · dsimp only; omega
            · simp [accV]; omega
            · exact .nil
        · rw [if_neg h1] at hI
          refine fork (fun h2 => go ?_) (fun h2 => go ?_)
          · rw [h2] at hI
            refine VRet.mk [] .nil ?_
            rw [← hI]; exact ⟨rfl, rfl⟩
          · obtain ⟨c, q, hcq⟩ : ∃ c q, (s.drop p').take w = c :: q := by
              cases hx : (s.drop p').take w with
              | nil => exact absurd hx h2
              | cons c q => exact ⟨c, q, rfl⟩
            have hwp : 0 < w := by
              rcases Nat.eq_zero_or_pos w with h0 | h0
              · rw [h0] at hcq; simp at hcq
              · exact h0
            have hc0 : ((s.drop p').take w).getD 0 0 = c := by rw [hcq]; rfl
            refine VAll.mk (fun bt => go ?_)
            rw [hc0]
            have f17 := f17_of ((s.drop p').take w)
            have f11 := f11_of ((s.drop p').take w) (by simp; omega)
            have hI2 := hI
            rw [hcq] at hI2
            dsimp only at hI2
            rw [← hcq] at hI2
            replace hI := hI2
            clear hI2
            refine fork (fun h34 => go ?_) (fun h34 => go ?_)
            · have h34 : c = 34 := by rw [← UInt8.toNat_inj]; exact Int.ofNat_inj.1 h34
              rw [if_pos h34, List.drop_drop] at hI
              have fx := f_text s p' (by omega) hs
              have hnx := textL_next p' (s.drop (p' + 1)) [] (p' + 1)
              rw [show textR s p' = textL p' (s.drop (p' + 1)) [] (p' + 1) from rfl] at fx
              generalize textL p' (s.drop (p' + 1)) [] (p' + 1) = x at fx hI hnx
              obtain ⟨x, nx, e⟩ := x
              dsimp only at fx hI hnx
              refine Fn.use (fx) (go ?_)
              refine fork (fun he => go ?_) (fun he => go ?_)
              · have he : e = 0 := he
                have hnx := hnx he
                subst he
                rw [if_pos rfl] at hI
                dsimp only at hI
                obtain ⟨j, rfl⟩ : ∃ j : Nat, nx = j := ⟨nx.toNat, by omega⟩
                rw [List.drop_drop, show p' + ((j : Int) - (p' : Int)).toNat = j by omega] at hI
                rw [List.length_drop] at hnx
                refine VIf.no (by simp) (go ?_)
                refine VAll.mk (fun b2 => go ?_)
                refine ⟨⟨some b2, j, [⟨3, x, 0, (p' : Nat)⟩]⟩, ⟨?_, ?_, ?_, ?_⟩, ?_, ?_, ?_⟩
                · dsimp only; omega
                · simp
                · intro h; cases h
                · exact hI
                · dsimp only; omega
                · simp [accV]; try omega
                · exact .cons 0 rfl .nil
              · have he : ¬ e = 0 := he
                rw [if_neg he] at hI
                refine VIf.yes (by simpa using he) (go ?_)
                refine VRet.mk [] .nil ?_
                rw [← hI]; exact ⟨rfl, rfl⟩
            · have h34 : ¬ c = 34 := by rw [← UInt8.toNat_inj]; exact fun e => h34 (Int.ofNat_inj.2 e)
              rw [if_neg h34, List.drop_drop] at hI
              generalize digitsR ((s.drop p').take w) = d at f17 hI
              obtain ⟨n, num, ok⟩ := d
              dsimp only at f17 hI
              refine Fn.use (f17) (go ?_)
              cases num with
              | true =>
                rw [if_pos rfl] at hI
                cases ok with
                | true =>
                  rw [if_pos rfl] at hI
                  dsimp only at hI
                  refine go ?_
                  skip
                  refine VAll.mk (fun b2 => go ?_)
                  refine ⟨⟨some b2, p' + w, [⟨2, [], n, (p' : Nat)⟩]⟩, ⟨?_, ?_, ?_, ?_⟩, ?_, ?_, ?_⟩
                  · dsimp only; omega
                  · simp
                  · intro h; cases h
                  · exact hI
                  · dsimp only; omega
                  · simp [accV]; try omega
                  · exact .cons 0 rfl .nil
                | false =>
                  rw [if_neg (by simp)] at hI
                  refine go ?_
                  refine VRet.mk [] .nil ?_
                  rw [← hI]; exact ⟨rfl, rfl⟩
              | false =>
                rw [if_neg (by simp)] at hI
                refine go ?_
                generalize nameR ((s.drop p').take w) = nm at f11 hI
                refine Fn.use (f11) (go ?_)
                cases nm with
                | true =>
                  rw [if_pos rfl] at hI
                  dsimp only at hI
                  refine go ?_
                  skip
                  refine VAll.mk (fun b2 => go ?_)
                  refine ⟨⟨some b2, p' + w, [⟨1, (s.drop p').take w, 0, (p' : Nat)⟩]⟩, ⟨?_, ?_, ?_, ?_⟩, ?_, ?_, ?_⟩
                  · dsimp only; omega
                  · simp
                  · intro h; cases h
                  · exact hI
                  · dsimp only; omega
                  · simp [accV]; try omega
                  · exact .cons 0 rfl .nil
                | false =>
                  rw [if_neg (by simp)] at hI
                  refine go ?_
                  refine VRet.mk [] .nil ?_
                  rw [← hI]; exact ⟨rfl, rfl⟩
    · rw [List.drop_eq_nil_of_le (by omega), toks_step, if_pos rfl] at hI
      refine VRet.mk [] .nil ?_
      rw [← hI]; exact ⟨rfl, rfl⟩
  | some b =>
    refine go ?_
    refine fork (fun hlt => go ?_) (fun hlt => go ?_)
    · have hlt : p < s.length := by omega
      have htr := trimL_le (s.drop p)
      obtain ⟨p', hp', hp2, hr⟩ : ∃ p', p ≤ p' ∧ p' ≤ s.length ∧ trimL (s.drop p) = s.drop p' := by
        have := spanR_le (fun r => !blankB r) (s.drop p)
        rw [List.length_drop] at this
        exact ⟨p + spanR (fun r => !blankB r) (runes (s.drop p)), by omega, by omega, by unfold trimL; rw [List.drop_drop]⟩
      have ft := fn_TrimLeftFunc 45 (fun r => blankB r) f18_nat (s.drop p)
      rw [show (s.drop p).drop (spanR (fun r => !blankB r) (runes (s.drop p))) = s.drop p' from hr] at ft
      refine Fn.use (ft) (go ?_)
      refine VInt.to (p' : Int) (by simp; omega) (by omega) (by omega) (go ?_)
      obtain ⟨k, fe, hk⟩ := fn_end (s.drop p')
      refine Fn.use (fe) (go ?_)
      obtain ⟨w, hw⟩ : ∃ w, w = wlen (s.drop p') := ⟨_, rfl⟩
      have hwl := wlen_le (s.drop p')
      rw [← hw] at hk hwl
      rw [List.length_drop] at hwl
      have hpp : s.length - (s.drop p').length = p' := by simp; omega
      rw [toks_step, if_neg (by simp; omega), hr] at hI
      unfold tokAt at hI
      rw [← hw, hpp] at hI
      rcases hk with ⟨hk, hk0⟩ | ⟨hk, hk1⟩
      · subst hk
        refine VIf.no (decide_eq_false (by omega)) (go ?_)
        refine fork (fun h1 => go ?_) (fun h1 => go ?_)
        · rw [if_pos h1] at hI
          have hb := indexByte_lt (s.drop p') 10
          rw [List.length_drop] at hb
          have fi := fn_IndexByte (s.drop p') 10
          rw [show (10 : Int).toNat.toUInt8 = (10 : UInt8) from rfl] at fi
          obtain ⟨m, hmm⟩ : ∃ m, m = Lib.indexByte (s.drop p') 10 := ⟨_, rfl⟩
          rw [← hmm] at fi hb hI
          refine Fn.use (fi) (go ?_)
          refine fork (fun hm => go ?_) (fun hm => go ?_)
          · rw [if_pos hm] at hI
            refine VRet.mk [] .nil ?_
            rw [← hI]; dsimp only; rw [take_toksC]; exact ⟨rfl, rfl⟩
          · rw [if_neg hm] at hI
            dsimp only at hI
            have hsk := (tokAt_less (N := s.length) (.inl (show tokAt s.length (s.drop p') = .skip ((s.drop p').drop m.toNat) by unfold tokAt; rw [← hw, if_pos h1, ← hmm, if_neg hm]))).1
            rw [List.drop_drop] at hI hsk
            rw [List.length_drop, List.length_drop] at hsk
            refine ⟨⟨some b, p' + m.toNat, out⟩, ⟨?_, ?_, ?_, ?_⟩, ?_, ?_, ?_⟩
            · dsimp only; omega
            · exact hol
            · exact ho
            · exact hI
            · dsimp only; omega
            · simp [accV]; omega
            · exact .cons 0 rfl .nil
        · rw [if_neg h1] at hI
          refine fork (fun h2 => go ?_) (fun h2 => go ?_)
          · rw [h2] at hI
            refine VRet.mk [] .nil ?_
            rw [← hI]; dsimp only; rw [take_toksC]; exact ⟨rfl, rfl⟩
          · obtain ⟨c, q, hcq⟩ : ∃ c q, (s.drop p').take w = c :: q := by
              cases hx : (s.drop p').take w with
              | nil => exact absurd hx h2
              | cons c q => exact ⟨c, q, rfl⟩
            have hwp : 0 < w := by
              rcases Nat.eq_zero_or_pos w with h0 | h0
              · rw [h0] at hcq; simp at hcq
              · exact h0
            have hc0 : ((s.drop p').take w).getD 0 0 = c := by rw [hcq]; rfl
            refine VAll.mk (fun bt => go ?_)
            rw [hc0]
            have f17 := f17_of ((s.drop p').take w)
            have f11 := f11_of ((s.drop p').take w) (by simp; omega)
            have hI2 := hI
            rw [hcq] at hI2
            dsimp only at hI2
            rw [← hcq] at hI2
            replace hI := hI2
            clear hI2
            refine fork (fun h34 => go ?_) (fun h34 => go ?_)
            · have h34 : c = 34 := by rw [← UInt8.toNat_inj]; exact Int.ofNat_inj.1 h34
              rw [if_pos h34, List.drop_drop] at hI
              have fx := f_text s p' (by omega) hs
              have hnx := textL_next p' (s.drop (p' + 1)) [] (p' + 1)
              rw [show textR s p' = textL p' (s.drop (p' + 1)) [] (p' + 1) from rfl] at fx
              generalize textL p' (s.drop (p' + 1)) [] (p' + 1) = x at fx hI hnx
              obtain ⟨x, nx, e⟩ := x
              dsimp only at fx hI hnx
              refine Fn.use (fx) (go ?_)
              refine fork (fun he => go ?_) (fun he => go ?_)
              · have he : e = 0 := he
                have hnx := hnx he
                subst he
                rw [if_pos rfl] at hI
                dsimp only at hI
                obtain ⟨j, rfl⟩ : ∃ j : Nat, nx = j := ⟨nx.toNat, by omega⟩
                rw [List.drop_drop, show p' + ((j : Int) - (p' : Int)).toNat = j by omega] at hI
                rw [List.length_drop] at hnx
                refine fork (fun hbig => go ?_) (fun hbig => go ?_)
                · rw [if_pos (by omega)] at hI
                  refine VRet.mk [] .nil ?_
                  rw [← hI]; exact ⟨rfl, rfl⟩
                · rw [if_neg (by omega)] at hI
                  refine VGd.mk (by simp; omega) (go ?_)
                  refine VAll.mk (fun b2 => go ?_)
                  refine ⟨⟨some b2, j, out ++ [⟨3, x, 0, (p' : Nat)⟩]⟩, ⟨?_, ?_, ?_, ?_⟩, ?_, ?_, ?_⟩
                  · dsimp only; omega
                  · simp; omega
                  · intro h; cases h
                  · exact hI
                  · dsimp only; omega
                  · simp [accV]; try omega
                  · simp only [accS, toksC_snoc]; rw [mulN_eq, take_toksC]; exact .cons 0 rfl .nil
              · have he : ¬ e = 0 := he
                rw [if_neg he] at hI
                refine VIf.yes (by simpa using he) (go ?_)
                refine VRet.mk [] .nil ?_
                rw [← hI]; exact ⟨rfl, rfl⟩
            · have h34 : ¬ c = 34 := by rw [← UInt8.toNat_inj]; exact fun e => h34 (Int.ofNat_inj.2 e)
              rw [if_neg h34, List.drop_drop] at hI
              generalize digitsR ((s.drop p').take w) = d at f17 hI
              obtain ⟨n, num, ok⟩ := d
              dsimp only at f17 hI
              refine Fn.use (f17) (go ?_)
              cases num with
              | true =>
                rw [if_pos rfl] at hI
                cases ok with
                | true =>
                  rw [if_pos rfl] at hI
                  dsimp only at hI
                  refine go ?_
                  refine fork (fun hbig => go ?_) (fun hbig => go ?_)
                  · rw [if_pos (by omega)] at hI
                    refine VRet.mk [] .nil ?_
                    rw [← hI]; exact ⟨rfl, rfl⟩
                  · rw [if_neg (by omega)] at hI
                    refine VGd.mk (by simp; omega) (go ?_)
                    refine VAll.mk (fun b2 => go ?_)
                    refine ⟨⟨some b2, p' + w, out ++ [⟨2, [], n, (p' : Nat)⟩]⟩, ⟨?_, ?_, ?_, ?_⟩, ?_, ?_, ?_⟩
                    · dsimp only; omega
                    · simp; omega
                    · intro h; cases h
                    · exact hI
                    · dsimp only; omega
                    · simp [accV]; try omega
                    · simp only [accS, toksC_snoc]; rw [mulN_eq, take_toksC]; exact .cons 0 rfl .nil
                | false =>
                  rw [if_neg (by simp)] at hI
                  refine go ?_
                  refine VRet.mk [] .nil ?_
                  rw [← hI]; exact ⟨rfl, rfl⟩
              | false =>
                rw [if_neg (by simp)] at hI
                refine go ?_
                generalize nameR ((s.drop p').take w) = nm at f11 hI
                refine Fn.use (f11) (go ?_)
                cases nm with
                | true =>
                  rw [if_pos rfl] at hI
                  dsimp only at hI
                  refine go ?_
                  refine fork (fun hbig => go ?_) (fun hbig => go ?_)
                  · rw [if_pos (by omega)] at hI
                    refine VRet.mk [] .nil ?_
                    rw [← hI]; exact ⟨rfl, rfl⟩
                  · rw [if_neg (by omega)] at hI
                    refine VGd.mk (by simp; omega) (go ?_)
                    refine VAll.mk (fun b2 => go ?_)
                    refine ⟨⟨some b2, p' + w, out ++ [⟨1, (s.drop p').take w, 0, (p' : Nat)⟩]⟩, ⟨?_, ?_, ?_, ?_⟩, ?_, ?_, ?_⟩
                    · dsimp only; omega
                    · simp; omega
                    · intro h; cases h
                    · exact hI
                    · dsimp only; omega
                    · simp [accV]; try omega
                    · simp only [accS, toksC_snoc]; rw [mulN_eq, take_toksC]; exact .cons 0 rfl .nil
                | false =>
                  rw [if_neg (by simp)] at hI
                  refine go ?_
                  refine VRet.mk [] .nil ?_
                  rw [← hI]; exact ⟨rfl, rfl⟩
      · subst hk
        refine go ?_
        rw [← hk1]
        refine fork (fun h1 => go ?_) (fun h1 => go ?_)
        · rw [if_pos h1] at hI
          have hb := indexByte_lt (s.drop p') 10
          rw [List.length_drop] at hb
          have fi := fn_IndexByte (s.drop p') 10
          rw [show (10 : Int).toNat.toUInt8 = (10 : UInt8) from rfl] at fi
          obtain ⟨m, hmm⟩ : ∃ m, m = Lib.indexByte (s.drop p') 10 := ⟨_, rfl⟩
          rw [← hmm] at fi hb hI
          refine Fn.use (fi) (go ?_)
          refine fork (fun hm => go ?_) (fun hm => go ?_)
          · rw [if_pos hm] at hI
            refine VRet.mk [] .nil ?_
            rw [← hI]; dsimp only; rw [take_toksC]; exact ⟨rfl, rfl⟩
          · rw [if_neg hm] at hI
            dsimp only at hI
            have hsk := (tokAt_less (N := s.length) (.inl (show tokAt s.length (s.drop p') = .skip ((s.drop p').drop m.toNat) by unfold tokAt; rw [← hw, if_pos h1, ← hmm, if_neg hm]))).1
            rw [List.drop_drop] at hI hsk
            rw [List.length_drop, List.length_drop] at hsk
            refine ⟨⟨some b, p' + m.toNat, out⟩, ⟨?_, ?_, ?_, ?_⟩, ?_, ?_, ?_⟩
            · dsimp only; omega
            · exact hol
            · exact ho
            · exact hI
            · dsimp only; omega
            · simp [accV]; omega
            · exact .cons 0 rfl .nil
        · rw [if_neg h1] at hI
          refine fork (fun h2 => go ?_) (fun h2 => go ?_)
          · rw [h2] at hI
            refine VRet.mk [] .nil ?_
            rw [← hI]; dsimp only; rw [take_toksC]; exact ⟨rfl, rfl⟩
          · obtain ⟨c, q, hcq⟩ : ∃ c q, (s.drop p').take w = c :: q := by
              cases hx : (s.drop p').take w with
              | nil => exact absurd hx h2
              | cons c q => exact ⟨c, q, rfl⟩
            have hwp : 0 < w := by
              rcases Nat.eq_zero_or_pos w with h0 | h0
              · rw [h0] at hcq; simp at hcq
              · exact h0
            have hc0 : ((s.drop p').take w).getD 0 0 = c := by rw [hcq]; rfl
            refine VAll.mk (fun bt => go ?_)
            rw [hc0]
            have f17 := f17_of ((s.drop p').take w)
            have f11 := f11_of ((s.drop p').take w) (by simp; omega)
            have hI2 := hI
            rw [hcq] at hI2
            dsimp only at hI2
            rw [← hcq] at hI2
            replace hI := hI2
            clear hI2
            refine fork (fun h34 => go ?_) (fun h34 => go ?_)
            · have h34 : c = 34 := by rw [← UInt8.toNat_inj]; exact Int.ofNat_inj.1 h34
              rw [if_pos h34, List.drop_drop] at hI
              have fx := f_text s p' (by omega) hs
              have hnx := textL_next p' (s.drop (p' + 1)) [] (p' + 1)
              rw [show textR s p' = textL p' (s.drop (p' + 1)) [] (p' + 1) from rfl] at fx
              generalize textL p' (s.drop (p' + 1)) [] (p' + 1) = x at fx hI hnx
              obtain ⟨x, nx, e⟩ := x
              dsimp only at fx hI hnx
              refine Fn.use (fx) (go ?_)
              refine fork (fun he => go ?_) (fun he => go ?_)
              · have he : e = 0 := he
                have hnx := hnx he
                subst he
                rw [if_pos rfl] at hI
                dsimp only at hI
                obtain ⟨j, rfl⟩ : ∃ j : Nat, nx = j := ⟨nx.toNat, by omega⟩
                rw [List.drop_drop, show p' + ((j : Int) - (p' : Int)).toNat = j by omega] at hI
                rw [List.length_drop] at hnx
                refine fork (fun hbig => go ?_) (fun hbig => go ?_)
                · rw [if_pos (by omega)] at hI
                  refine VRet.mk [] .nil ?_
                  rw [← hI]; exact ⟨rfl, rfl⟩
                · rw [if_neg (by omega)] at hI
                  refine VGd.mk (by simp; omega) (go ?_)
                  refine VAll.mk (fun b2 => go ?_)
                  refine ⟨⟨some b2, j, out ++ [⟨3, x, 0, (p' : Nat)⟩]⟩, ⟨?_, ?_, ?_, ?_⟩, ?_, ?_, ?_⟩
                  · dsimp only; omega
                  · simp; omega
                  · intro h; cases h
                  · exact hI
                  · dsimp only; omega
                  · simp [accV]; try omega
                  · simp only [accS, toksC_snoc]; rw [mulN_eq, take_toksC]; exact .cons 0 rfl .nil
              · have he : ¬ e = 0 := he
                rw [if_neg he] at hI
                refine VIf.yes (by simpa using he) (go ?_)
                refine VRet.mk [] .nil ?_
                rw [← hI]; exact ⟨rfl, rfl⟩
            · have h34 : ¬ c = 34 := by rw [← UInt8.toNat_inj]; exact fun e => h34 (Int.ofNat_inj.2 e)
              rw [if_neg h34, List.drop_drop] at hI
              generalize digitsR ((s.drop p').take w) = d at f17 hI
              obtain ⟨n, num, ok⟩ := d
              dsimp only at f17 hI
              refine Fn.use (f17) (go ?_)
              cases num with
              | true =>
                rw [if_pos rfl] at hI
                cases ok with
                | true =>
                  rw [if_pos rfl] at hI
                  dsimp only at hI
                  refine go ?_
                  refine fork (fun hbig => go ?_) (fun hbig => go ?_)
                  · rw [if_pos (by omega)] at hI
                    refine VRet.mk [] .nil ?_
                    rw [← hI]; exact ⟨rfl, rfl⟩
                  · rw [if_neg (by omega)] at hI
                    refine VGd.mk (by simp; omega) (go ?_)
                    refine VAll.mk (fun b2 => go ?_)
                    refine ⟨⟨some b2, p' + w, out ++ [⟨2, [], n, (p' : Nat)⟩]⟩, ⟨?_, ?_, ?_, ?_⟩, ?_, ?_, ?_⟩
                    · dsimp only; omega
                    · simp; omega
                    · intro h; cases h
                    · exact hI
                    · dsimp only; omega
                    · simp [accV]; try omega
                    · simp only [accS, toksC_snoc]; rw [mulN_eq, take_toksC]; exact .cons 0 rfl .nil
                | false =>
                  rw [if_neg (by simp)] at hI
                  refine go ?_
                  refine VRet.mk [] .nil ?_
                  rw [← hI]; exact ⟨rfl, rfl⟩
              | false =>
                rw [if_neg (by simp)] at hI
                refine go ?_
                generalize nameR ((s.drop p').take w) = nm at f11 hI
                refine Fn.use (f11) (go ?_)
                cases nm with
                | true =>
                  rw [if_pos rfl] at hI
                  dsimp only at hI
                  refine go ?_
                  refine fork (fun hbig => go ?_) (fun hbig => go ?_)
                  · rw [if_pos (by omega)] at hI
                    refine VRet.mk [] .nil ?_
                    rw [← hI]; exact ⟨rfl, rfl⟩
                  · rw [if_neg (by omega)] at hI
                    refine VGd.mk (by simp; omega) (go ?_)
                    refine VAll.mk (fun b2 => go ?_)
                    refine ⟨⟨some b2, p' + w, out ++ [⟨1, (s.drop p').take w, 0, (p' : Nat)⟩]⟩, ⟨?_, ?_, ?_, ?_⟩, ?_, ?_, ?_⟩
                    · dsimp only; omega
                    · simp; omega
                    · intro h; cases h
                    · exact hI
                    · dsimp only; omega
                    · simp [accV]; try omega
                    · simp only [accS, toksC_snoc]; rw [mulN_eq, take_toksC]; exact .cons 0 rfl .nil
                | false =>
                  rw [if_neg (by simp)] at hI
                  refine go ?_
                  refine VRet.mk [] .nil ?_
                  rw [← hI]; exact ⟨rfl, rfl⟩
    · rw [List.drop_eq_nil_of_le (by omega), toks_step, if_pos rfl] at hI
      refine VRet.mk [] .nil ?_
      rw [← hI]; dsimp only; rw [take_toksC]; exact ⟨rfl, rfl⟩
theorem f_Tokens (s : List UInt8) : Av.Fn Tryd.prog 19 [.str s] (.tup [.fz (toksC (tokensR s).1) (tokensR s).1.length false, .int .i64 (tokensR s).2.1, .int .i64 (tokensR s).2.2]) := by
  unfold tokensR
  by_cases hs : s.length > 65536
  · rw [if_pos hs]
    refine ACalls.of_W tb_ok (fn := Tryd.f19) (n := 113) (by kernel_rfl) rfl (by kernel_rfl) rfl rfl (by simp) (go ?_)
    refine VIf.yes (decide_eq_true (by omega)) (go ?_)
    refine VRet.mk [] .nil ?_
    exact ⟨rfl, rfl⟩
  · rw [if_neg hs]
    cases hf : faultR s with
    | some i =>
      have ff := f_fault s
      rw [show faultV s = i by simp [faultV, hf]] at ff
      refine ACalls.of_W tb_ok (fn := Tryd.f19) (n := 113) (by kernel_rfl) rfl (by kernel_rfl) rfl rfl (by simp) (go ?_)
      refine VIf.no (decide_eq_false (by omega)) (go ?_)
      refine Fn.use (ff) (go ?_)
      refine VRet.mk [] .nil ?_
      exact ⟨rfl, rfl⟩
    | none => exact toks_of s (by omega) hf
end Go.Proofs.YtbmplclnondfnaaDoor

namespace Go.Proofs.YtbmplclnondfnaaDoor
open Go Go.Av
def rbox (fin b : Nat) (s : RS) : Nat × AObj := (b, .box [.fz (toksC s.l) s.l.length false, .int .i64 fin, .int .i64 s.opn, .int .i64 s.sz])
def faultAV (e : PE) : AV := .iface 101 (.agg [.int .i64 e.1, .int .i64 e.2])
/-- What a step of the reader answers. -/
def PostR {α : Type} (fin b : Nat) (res : PR α) (f : α → AV) (out : AOut) (st : St) : Prop := match res with
  | .error e => out = .panic (faultAV e) ∧ st = []
  | .ok x => out = .ret (f x.1) ∧ st = [rbox fin b x.2]
/-- A step of the reader. -/
def RFn {α : Type} (fn : Nat) (args : List AV) (fin b : Nat) (s : RS) (res : PR α) (f : α → AV) : Prop := ACalls Tryd.prog fn (.ptr b 0 :: args) [rbox fin b s] (PostR fin b res f)
theorem f_fail (p e : Int) : ACalls Tryd.prog 51 [.int .i64 p, .int .i64 e] [] fun out st' => out = .panic (faultAV (p, e)) ∧ st' = [] := by
  refine ACalls.of_W tb_ok (fn := Tryd.f51) (n := 8) (by kernel_rfl) rfl (by kernel_rfl) rfl rfl (by simp) (go ?_)
  refine VRet.mk [] .nil ?_
  exact ⟨rfl, rfl⟩
/-- A call that fails. -/
theorem fails {p e : Int} {st : St} {Post : AOut → St → Prop} (k : Post (.panic (faultAV (p, e))) st) : ACalls Tryd.prog 51 [.int .i64 p, .int .i64 e] st Post :=
  ACalls.use (s := []) (R := st) (f_fail p e) (List.Perm.refl _) fun out s' ⟨h1, h2⟩ => by subst h1; subst h2; exact k
def peekV (x : Option (List UInt8)) : AV := match x with
  | none => .tup [.str [], .bool false]
  | some w => .tup [.str w, .bool true]
/-- A contract out of the cells. -/
theorem RFn.of_cells {α : Type} {fn fin b : Nat} {args : List AV} {s : RS} {res : PR α} {f : α → AV} {cells : List AV} (hc : cells = [.fz (toksC s.l) s.l.length false, .int .i64 fin, .int .i64 s.opn, .int .i64 s.sz])
    (h : ACalls Tryd.prog fn (.ptr b 0 :: args) [(b, .box cells)] (PostR fin b res f)) : RFn fn args fin b s res f := by subst hc; exact h
theorem f_peek (fin b : Nat) (s : RS) : RFn 22 [] fin b s (.ok (peekR s.l, s)) peekV := by
  rcases hl : s.l with _ | ⟨t, r⟩
  · refine RFn.of_cells (cells := [.fz (toksC []) 0 false, .int .i64 fin, .int .i64 s.opn, .int .i64 s.sz]) (by rw [hl]; rfl) ?_
    refine ACalls.of_W tb_ok (fn := Tryd.f22) (n := 27) (by kernel_rfl) rfl (by kernel_rfl) rfl rfl (by simp) (go ?_)
    exact VRet.mk [rbox fin b s] (.cons 0 (by rw [rbox, hl]; rfl) .nil) ⟨by simp [peekR, peekV], rfl⟩
  · refine RFn.of_cells (cells := [.fz (toksC (t :: r)) (r.length + 1) false, .int .i64 fin, .int .i64 s.opn, .int .i64 s.sz]) (by rw [hl]; rfl) ?_
    refine ACalls.of_W tb_ok (fn := Tryd.f22) (n := 27) (by kernel_rfl) rfl (by kernel_rfl) rfl rfl (by simp) (go ?_)
    refine fork (fun h => go ?_) (fun h => go ?_)
    · exact VRet.mk [rbox fin b s] (.cons 0 (by rw [rbox, hl]; rfl) .nil) ⟨by simp [peekR, peekV, h], rfl⟩
    · have h : t.kind = 1 := by simpa using h
      exact VRet.mk [rbox fin b s] (.cons 0 (by rw [rbox, hl]; rfl) .nil) ⟨by simp [peekR, peekV, h], rfl⟩
theorem f_at (fin b : Nat) (s : RS) : RFn 52 [] fin b s (.ok (atR fin s.l, s)) (.int .i64) := by
  rcases hl : s.l with _ | ⟨t, r⟩
  · refine RFn.of_cells (cells := [.fz (toksC []) 0 false, .int .i64 fin, .int .i64 s.opn, .int .i64 s.sz]) (by rw [hl]; rfl) ?_
    refine ACalls.of_W tb_ok (fn := Tryd.f52) (n := 20) (by kernel_rfl) rfl (by kernel_rfl) rfl rfl (by simp) (go ?_)
    exact VRet.mk [rbox fin b s] (.cons 0 (by rw [rbox, hl]; rfl) .nil) ⟨by simp [atR], rfl⟩
  · refine RFn.of_cells (cells := [.fz (toksC (t :: r)) (r.length + 1) false, .int .i64 fin, .int .i64 s.opn, .int .i64 s.sz]) (by rw [hl]; rfl) ?_
    refine ACalls.of_W tb_ok (fn := Tryd.f52) (n := 20) (by kernel_rfl) rfl (by kernel_rfl) rfl rfl (by simp) (go ?_)
    exact VRet.mk [rbox fin b s] (.cons 0 (by rw [rbox, hl]; rfl) .nil) ⟨by simp [atR], rfl⟩
theorem drop_toksC (t : Tok) (r : List Tok) : List.drop 4 (List.take ((r.length + 1) * 4) (toksC (t :: r))) = toksC r := by
  rw [show (r.length + 1) * 4 = (t :: r).length * 4 from rfl, take_toksC]; rfl
theorem f_take (fin b : Nat) (s : RS) : RFn 24 [] fin b s (takeR fin s) (fun t => .agg t.cells) := by
  rcases hl : s.l with _ | ⟨t, r⟩
  · refine RFn.of_cells (cells := [.fz (toksC []) 0 false, .int .i64 fin, .int .i64 s.opn, .int .i64 s.sz]) (by rw [hl]; rfl) ?_
    unfold takeR
    rw [hl]
    refine ACalls.of_W tb_ok (fn := Tryd.f24) (n := 30) (by kernel_rfl) rfl (by kernel_rfl) rfl rfl (by simp) (go ?_)
    refine VAll.mk (fun b1 => go ?_)
    refine fails (go ?_)
    exact VRet.mk [] .nil ⟨rfl, rfl⟩
  · refine RFn.of_cells (cells := [.fz (toksC (t :: r)) (r.length + 1) false, .int .i64 fin, .int .i64 s.opn, .int .i64 s.sz]) (by rw [hl]; rfl) ?_
    unfold takeR
    rw [hl]
    refine ACalls.of_W tb_ok (fn := Tryd.f24) (n := 30) (by kernel_rfl) rfl (by kernel_rfl) rfl rfl (by simp) (go ?_)
    refine VAll.mk (fun b1 => go ?_)
    refine VAll.mk (fun b2 => go ?_)
    refine VRet.mk [rbox fin b ⟨r, s.opn, s.sz⟩] (.cons 2 ?_ .nil) ⟨rfl, rfl⟩
    rw [rbox, ← drop_toksC t r]; rfl
theorem f_count (fin b : Nat) (p : Int) (s : RS) (hs : s.opn ≤ 32 ∧ s.sz ≤ 1024) : RFn 59 [.int .i64 p] fin b s ((countR p s).map fun s' => ((), s')) (fun _ => .tup []) := by
  unfold RFn countR
  refine ACalls.of_W tb_ok (fn := Tryd.f59) (n := 23) (by kernel_rfl) rfl (by kernel_rfl) rfl rfl (by simp) (go ?_)
  refine fork (fun h1 => go ?_) (fun h1 => go ?_)
  · refine fork (fun h2 => go ?_) (fun h2 => go ?_)
    · rw [if_pos (by omega), if_pos (by omega)]
      refine fails (go ?_)
      exact VRet.mk [] .nil ⟨rfl, rfl⟩
    · rw [if_pos (by omega), if_neg (by omega)]
      exact VRet.mk [rbox fin b { s with sz := s.sz + 1 }] (.cons 0 rfl .nil) ⟨rfl, rfl⟩
  · rw [if_neg (by omega)]
    exact VRet.mk [rbox fin b s] (.cons 0 rfl .nil) ⟨rfl, rfl⟩
def UseK {α : Type} (fin b : Nat) (res : PR α) (f : α → AV) (Post : AOut → St → Prop) (R : St) : Prop := match res with
  | .error e => Post (.panic (faultAV e)) R
  | .ok x => Post (.ret (f x.1)) (rbox fin b x.2 :: R)
/-- A step of the reader within another. -/
theorem RFn.use {α : Type} {fn fin b : Nat} {args : List AV} {s : RS} {res : PR α} {f : α → AV} (h : RFn fn args fin b s res f) {R st : St} {Post : AOut → St → Prop} (hp : (rbox fin b s :: R).Perm st)
    (k : UseK fin b res f Post R) : ACalls Tryd.prog fn (.ptr b 0 :: args) st Post :=
  ACalls.use (R := R) h hp fun out s' hq => by
    cases res with
    | error e => obtain ⟨rfl, rfl⟩ := hq; exact k
    | ok x => obtain ⟨rfl, rfl⟩ := hq; exact k
theorem f_enter (fin b : Nat) (p : Int) (s : RS) (hs : s.opn ≤ 32 ∧ s.sz ≤ 1024) : RFn 53 [.int .i64 p] fin b s ((enterR p s).map fun s' => ((), s')) (fun _ => .tup []) := by
  unfold RFn enterR
  refine ACalls.of_W tb_ok (fn := Tryd.f53) (n := 29) (by kernel_rfl) rfl (by kernel_rfl) rfl rfl (by simp) (go ?_)
  refine fork (fun h1 => go ?_) (fun h1 => go ?_)
  · rw [if_pos (by omega)]
    refine fails (go ?_)
    exact VRet.mk [] .nil ⟨rfl, rfl⟩
  · rw [if_neg (by omega)]
    refine fork (fun h2 => go ?_) (fun h2 => go ?_)
    · have fc := f_count fin b p ⟨s.l, s.opn + 1, 0⟩ ⟨by dsimp only; omega, by dsimp only; omega⟩
      rw [if_pos (by omega)]
      refine fc.use (.refl _) ?_
      cases countR p ⟨s.l, s.opn + 1, 0⟩ with
      | error e =>
        refine go ?_
        exact VRet.mk [] .nil ⟨rfl, rfl⟩
      | ok s' =>
        refine go ?_
        exact VRet.mk [rbox fin b s'] (.cons 0 rfl .nil) ⟨rfl, rfl⟩
    · have fc := f_count fin b p ⟨s.l, s.opn + 1, s.sz⟩ ⟨by dsimp only; omega, by dsimp only; omega⟩
      rw [if_neg (by omega)]
      refine fc.use (.refl _) ?_
      cases countR p ⟨s.l, s.opn + 1, s.sz⟩ with
      | error e =>
        refine go ?_
        exact VRet.mk [] .nil ⟨rfl, rfl⟩
      | ok s' =>
        refine go ?_
        exact VRet.mk [rbox fin b s'] (.cons 0 rfl .nil) ⟨rfl, rfl⟩
def idxL (s : List UInt8) : List (List UInt8) → Int
  | [] => -1
  | x :: r => if s = x then 0 else if idxL s r < 0 then -1 else idxL s r + 1
theorem idxL_has (s : List UInt8) : ∀ l : List (List UInt8), decide (0 ≤ idxL s l) = l.contains s
  | [] => by simp [idxL]
  | x :: r => by
    have ih := idxL_has s r
    rw [List.contains_cons, ← ih, idxL]
    by_cases h : s = x
    · simp [h]
    · have : (s == x) = false := by simpa using h
      rw [if_neg h, this, Bool.false_or, decide_eq_decide]
      split <;> omega
theorem fn_Index (l : List (List UInt8)) (s : List UInt8) (hl : l.length ≤ 1000000) : Av.Fn Tryd.prog 84 [.fz (l.map .str) l.length false, .str s] (.int .i64 (idxL s l)) := by
  refine ACalls.of_W tb_ok (fn := Tryd.f84) (n := 19) (by kernel_rfl) rfl (by kernel_rfl) rfl rfl (by simp) (go ?_)
  refine VLoop.mk [8] Nat (fun i => [.int .i64 i]) (fun _ => []) (fun i => i ≤ l.length ∧ idxL s l = if idxL s (l.drop i) < 0 then -1 else idxL s (l.drop i) + i) (fun i => l.length - i) 0 ?_ ?_
  · refine ⟨⟨by omega, ?_⟩, rfl, .nil⟩
    have : -1 ≤ idxL s l := by
      cases l with
      | nil => simp [idxL]
      | cons x r => unfold idxL; repeat' split
                    all_goals omega
    simp; intro _; omega
  intro i ⟨hi, hI⟩
  refine go ?_
  refine fork (fun hlt => go ?_) (fun hlt => go ?_)
  · have hlt : i < l.length := by omega
    have hx : l[i]? = some l[i] := by simp [hlt]
    rw [List.drop_eq_getElem_cons hlt, idxL] at hI
    refine VNth.mk (.str l[i]) (by simp [hx]) (go ?_)
    refine fork (fun he => go ?_) (fun he => go ?_)
    · rw [if_pos he] at hI
      refine VRet.mk [] .nil ?_
      rw [hI]; simp
    · rw [if_neg he] at hI
      refine ⟨i + 1, ⟨by omega, ?_⟩, by omega, rfl, .nil⟩
      rw [hI]
      repeat' split
      all_goals omega
  · rw [List.drop_eq_nil_of_le (by omega), idxL] at hI
    refine VRet.mk [] .nil ?_
    rw [hI]; simp
theorem fn_Contains (l : List (List UInt8)) (s : List UInt8) (hl : l.length ≤ 1000000) : Av.Fn Tryd.prog 75 [.fz (l.map .str) l.length false, .str s] (.bool (l.contains s)) := by
  have h1 := fn_Index l s hl
  refine ACalls.of_W tb_ok (fn := Tryd.f75) (n := 9) (by kernel_rfl) rfl (by kernel_rfl) rfl rfl (by simp) (go ?_)
  refine Fn.use (h1) (go ?_)
  refine VRet.mk [] .nil ?_
  rw [idxL_has]; exact ⟨rfl, rfl⟩
theorem f_Reserved (s : List UInt8) : Av.Fn Tryd.prog 58 [.str s] (.bool (reservedR s)) := by
  have h := fn_Contains reservedL s (by decide)
  refine ACalls.of_W tb_ok (fn := Tryd.f58) (n := 6) (by kernel_rfl) rfl (by kernel_rfl) rfl rfl (by simp) (go ?_)
  refine Fn.use (h) (go ?_)
  refine VRet.mk [] .nil ?_
  exact ⟨rfl, rfl⟩
theorem f_word (fin b : Nat) (want : List UInt8) (s : RS) : RFn 54 [.str want] fin b s (wordR fin want s) .str := by
  have hp := f_peek fin b s
  have ha := f_at fin b s
  have ht := f_take fin b s
  unfold wordR RFn
  refine ACalls.of_W tb_ok (fn := Tryd.f54) (n := 37) (by kernel_rfl) rfl (by kernel_rfl) rfl rfl (by simp) (go ?_)
  refine hp.use (.refl _) ?_
  cases peekR s.l with
  | none =>
    refine go ?_
    refine ha.use (.refl _) (go ?_)
    refine fails (go ?_)
    exact VRet.mk [] .nil ⟨rfl, rfl⟩
  | some w =>
    have hr := f_Reserved w
    refine go ?_
    by_cases hw : want = []
    · subst hw
      refine go ?_
      cases hrr : reservedR w with
      | true =>
        rw [hrr] at hr
        refine Fn.use (hr) (go ?_)
        refine ha.use (.refl _) (go ?_)
        dsimp only
        rw [if_pos (by simp [hrr])]
        refine fails (go ?_)
        exact VRet.mk [] .nil ⟨rfl, rfl⟩
      | false =>
        rw [hrr] at hr
        refine Fn.use (hr) (go ?_)
        refine ht.use (.refl _) ?_
        dsimp only
        rw [if_neg (by simp [hrr])]
        cases takeR fin s with
        | error e =>
          refine go ?_
          exact VRet.mk [] .nil ⟨rfl, rfl⟩
        | ok x =>
          refine go ?_
          exact VRet.mk [rbox fin b x.2] (.cons 0 rfl .nil) ⟨rfl, rfl⟩
    · refine VIf.yes (by simp [hw]) (go ?_)
      refine fork (fun hne => go ?_) (fun hne => go ?_)
      · refine ha.use (.refl _) (go ?_)
        dsimp only
        rw [if_pos (.inl ⟨hw, hne⟩)]
        refine fails (go ?_)
        exact VRet.mk [] .nil ⟨rfl, rfl⟩
      · refine VIf.no (by simp [hw]) (go ?_)
        refine ht.use (.refl _) ?_
        dsimp only
        rw [if_neg (by simp [hw]; exact hne)]
        cases takeR fin s with
        | error e =>
          refine go ?_
          exact VRet.mk [] .nil ⟨rfl, rfl⟩
        | ok x =>
          refine go ?_
          exact VRet.mk [rbox fin b x.2] (.cons 0 rfl .nil) ⟨rfl, rfl⟩
theorem takeR_less {fin : Int} {s : RS} {x : Tok × RS} (h : takeR fin s = .ok x) : x.2.l.length < s.l.length ∧ x.2.opn = s.opn ∧ x.2.sz = s.sz := by
  unfold takeR at h
  split at h
  · cases h
  · rename_i t r hl
    cases h
    rw [hl]
    exact ⟨by simp, rfl, rfl⟩
theorem wordR_less {fin : Int} {want : List UInt8} {s : RS} {x : List UInt8 × RS} (h : wordR fin want s = .ok x) : x.2.l.length < s.l.length ∧ x.2.opn = s.opn ∧ x.2.sz = s.sz := by
  unfold wordR at h
  split at h
  · cases h
  · split at h
    · cases h
    · split at h
      · cases h
      · rename_i t s' ht
        cases h
        exact takeR_less ht
structure NmI where
  k : Nat
  s : RS
  n : Nat
theorem f_names (fin b : Nat) (shut : List UInt8) (s : RS) : RFn 55 [.str shut] fin b s (namesR fin shut (fuel s) s 0) (fun n : Nat => .int .i64 n) := by
  obtain ⟨R, hR⟩ : ∃ R, R = namesR fin shut (fuel s) s 0 := ⟨_, rfl⟩
  rw [← hR]
  unfold RFn
  refine ACalls.of_W tb_ok (fn := Tryd.f55) (n := 33) (by kernel_rfl) rfl (by kernel_rfl) rfl rfl (by simp) (go ?_)
  refine VLoop.mk [5] NmI (fun i => [.int .i64 i.n]) (fun i => [rbox fin b i.s]) (fun i => R = namesR fin shut i.k i.s i.n ∧ i.s.l.length < i.k ∧ i.n ≤ 16) (fun i => i.k) ⟨fuel s, s, 0⟩ ?_ ?_
  · exact ⟨⟨hR, by simp [fuel]; omega, by simp⟩, rfl, .cons 0 rfl .nil⟩
  clear hR
  rintro ⟨k, s, n⟩ ⟨hI, hk, hn⟩
  dsimp only at hI hk hn ⊢
  obtain ⟨k, rfl⟩ : ∃ m, k = m + 1 := ⟨k - 1, by omega⟩
  rw [namesR] at hI
  have hp := f_peek fin b s
  have ha := f_at fin b s
  have ht := f_take fin b s
  have hw := f_word fin b [] s
  refine go ?_
  refine hp.use (.refl _) ?_
  cases hpk : peekR s.l with
  | none =>
    rw [hpk, if_neg (by simp)] at hI
    refine go ?_
    refine ha.use (.refl _) (go ?_)
    refine hw.use (.refl _) ?_
    cases hwr : wordR fin [] s with
    | error e =>
      rw [hwr] at hI
      dsimp only at hI
      subst hI
      refine go ?_
      exact VRet.mk [] .nil ⟨rfl, rfl⟩
    | ok x =>
      have hlt := (wordR_less hwr).1
      rw [hwr] at hI
      dsimp only at hI
      refine go ?_
      refine fork (fun h16 => go ?_) (fun h16 => go ?_)
      · rw [if_pos (by omega)] at hI
        subst hI
        refine fails (go ?_)
        exact VRet.mk [] .nil ⟨rfl, rfl⟩
      · rw [if_neg (by omega)] at hI
        exact ⟨⟨k, x.2, n + 1⟩, ⟨hI, by dsimp only; omega, by dsimp only; omega⟩, by dsimp only; omega, rfl, .cons 0 rfl .nil⟩
  | some w =>
    rw [hpk] at hI
    refine go ?_
    refine fork (fun hws => go ?_) (fun hws => go ?_)
    · rw [if_pos (by rw [hws])] at hI
      refine ht.use (.refl _) ?_
      cases htk : takeR fin s with
      | error e =>
        rw [htk] at hI
        dsimp only at hI
        subst hI
        refine go ?_
        exact VRet.mk [] .nil ⟨rfl, rfl⟩
      | ok x =>
        rw [htk] at hI
        dsimp only at hI
        subst hI
        refine go ?_
        exact VRet.mk [rbox fin b x.2] (.cons 0 rfl .nil) ⟨rfl, rfl⟩
    · rw [if_neg (by simpa using hws)] at hI
      refine ha.use (.refl _) (go ?_)
      refine hw.use (.refl _) ?_
      cases hwr : wordR fin [] s with
      | error e =>
        rw [hwr] at hI
        dsimp only at hI
        subst hI
        refine go ?_
        exact VRet.mk [] .nil ⟨rfl, rfl⟩
      | ok x =>
        have hlt := (wordR_less hwr).1
        rw [hwr] at hI
        dsimp only at hI
        refine go ?_
        refine fork (fun h16 => go ?_) (fun h16 => go ?_)
        · rw [if_pos (by omega)] at hI
          subst hI
          refine fails (go ?_)
          exact VRet.mk [] .nil ⟨rfl, rfl⟩
        · rw [if_neg (by omega)] at hI
          exact ⟨⟨k, x.2, n + 1⟩, ⟨hI, by dsimp only; omega, by dsimp only; omega⟩, by dsimp only; omega, rfl, .cons 0 rfl .nil⟩
end Go.Proofs.YtbmplclnondfnaaDoor

namespace Go.Proofs.YtbmplclnondfnaaDoor
open Go Go.Av
theorem countR_ok {p : Int} {s s' : RS} (h : countR p s = .ok s') : s'.l = s.l ∧ s'.opn = s.opn ∧ (s.sz ≤ 1024 → s'.sz ≤ 1024) := by
  unfold countR at h
  split at h
  · split at h
    · cases h
    · cases h; exact ⟨rfl, rfl, fun _ => by dsimp only; omega⟩
  · cases h; exact ⟨rfl, rfl, id⟩
theorem enterR_ok {p : Int} {s s' : RS} (h : enterR p s = .ok s') : s'.l = s.l ∧ s'.opn = s.opn + 1 ∧ s.opn + 1 ≤ 32 ∧ (s.sz ≤ 1024 → s'.sz ≤ 1024) := by
  unfold enterR at h
  split at h
  · cases h
  · obtain ⟨h1, h2, h3⟩ := countR_ok h
    exact ⟨h1, h2, by omega, fun hs => h3 (by dsimp only; split <;> omega)⟩
structure Less (s s' : RS) (p : Prop) : Prop where
  opn : s'.opn = s.opn
  le : s'.l.length ≤ s.l.length
  sz : s.sz ≤ 1024 → s'.sz ≤ 1024
  lt : p → s'.l.length < s.l.length
theorem takeR_ok {fin : Int} {s : RS} {x : Tok × RS} (h : takeR fin s = .ok x) : Less s x.2 True ∧ x.2.sz = s.sz := by
  unfold takeR at h
  split at h
  · cases h
  · rename_i t r hl
    cases h
    exact ⟨⟨rfl, by rw [hl]; simp, id, fun _ => by rw [hl]; simp⟩, rfl⟩
theorem parse_less (fin : Int) : ∀ k, (∀ s x, litR fin k s = .ok x → Less s x.2 (x.1 ≠ none) ∧ (x.1 = none → x.2 = s)) ∧ (∀ s x, itemR fin k s = .ok x → Less s x.2 (x.1 ≠ none) ∧ (x.1 = none → x.2 = s)) ∧
    (∀ shut s acc x, itemsR fin k shut s acc = .ok x → Less s x.2 True) ∧ (∀ s acc x, valsR fin k s acc = .ok x → Less s x.2 True) := by
  intro k
  induction k with
  | zero =>
    refine ⟨?_, ?_, ?_, ?_⟩
    · intro s x h; simp [litR] at h
    · intro s x h; simp [itemR] at h
    · intro shut s acc x h; simp [itemsR] at h
    · intro s acc x h; simp [valsR] at h
  | succ k ih =>
    obtain ⟨ih1, ih2, ih3, ih4⟩ := ih
    refine ⟨?_, ?_, ?_, ?_⟩
    · intro s x h
      rw [litR] at h
      split at h
      · cases h; exact ⟨⟨rfl, Nat.le_refl _, id, fun h => absurd rfl h⟩, fun _ => rfl⟩
      · rename_i t r hl
        have cnt : ∀ {v : Tree} {x : Option Tree × RS}, (match countR t.pos { s with l := r } with
            | .error e => (.error e : PR (Option Tree))
            | .ok s' => .ok (some v, s')) = .ok x → Less s x.2 (x.1 ≠ none) ∧ (x.1 = none → x.2 = s) := by
          intro v x h
          split at h
          · cases h
          · rename_i s' hc
            cases h
            obtain ⟨h1, h2, h3⟩ := countR_ok hc
            exact ⟨⟨h2, by rw [h1, hl]; simp, h3, fun _ => by rw [h1, hl]; simp⟩, fun h => by cases h⟩
        split at h
        · exact cnt h
        · split at h
          · exact cnt h
          · split at h
            · exact cnt h
            · split at h
              · split at h
                · cases h
                · rename_i s1 he
                  obtain ⟨h1, h2, _, h3⟩ := enterR_ok he
                  split at h
                  · cases h
                  · rename_i ys s2 hi
                    cases h
                    have hl2 := ih3 _ _ _ _ hi
                    have hlt := hl2.lt trivial
                    have ho := hl2.opn
                    dsimp only at hlt ho h1 h2
                    rw [h1] at hlt
                    exact ⟨⟨by dsimp only; omega, by dsimp only; rw [hl]; simp; omega, fun hs => hl2.sz (h3 hs), fun _ => by dsimp only; rw [hl]; simp; omega⟩, fun h => by cases h⟩
              · split at h
                · split at h
                  · cases h
                  · rename_i s1 he
                    obtain ⟨h1, h2, _, h3⟩ := enterR_ok he
                    split at h
                    · cases h
                    · rename_i ys s2 hi
                      cases h
                      have hl2 := ih4 _ _ _ hi
                      have hlt := hl2.lt trivial
                      have ho := hl2.opn
                      dsimp only at hlt ho h1 h2
                      rw [h1] at hlt
                      exact ⟨⟨by dsimp only; omega, by dsimp only; rw [hl]; simp; omega, fun hs => hl2.sz (h3 hs), fun _ => by dsimp only; rw [hl]; simp; omega⟩, fun h => by cases h⟩
                · cases h; exact ⟨⟨rfl, Nat.le_refl _, id, fun h => absurd rfl h⟩, fun _ => rfl⟩
    · intro s x h
      rw [itemR] at h
      split at h
      · cases h
      · rename_i v s' hv
        cases h
        obtain ⟨h1, h2⟩ := ih1 _ _ hv
        exact ⟨⟨h1.opn, h1.le, h1.sz, fun _ => h1.lt (by simp)⟩, fun h => by cases h⟩
      · rename_i s' hv
        obtain ⟨h1, h2⟩ := ih1 _ _ hv
        have h2 := h2 rfl
        dsimp only at h2
        subst h2
        split at h
        · cases h; exact ⟨⟨rfl, Nat.le_refl _, id, fun h => absurd rfl h⟩, fun _ => rfl⟩
        · split at h
          · cases h; exact ⟨⟨rfl, Nat.le_refl _, id, fun h => absurd rfl h⟩, fun _ => rfl⟩
          · split at h
            · cases h
            · rename_i t s1 ht
              obtain ⟨t1, t2⟩ := takeR_ok ht
              have t3 := t1.lt trivial
              split at h
              · cases h
              · rename_i s2 hc
                cases h
                obtain ⟨c1, c2, c3⟩ := countR_ok hc
                have t4 := t1.opn
                dsimp only at t2 t3 t4
                exact ⟨⟨by dsimp only; omega, by dsimp only; rw [c1]; omega, fun hs => c3 (by omega), fun _ => by dsimp only; rw [c1]; omega⟩, fun h => by cases h⟩
    · intro shut s acc x h
      rw [itemsR] at h
      split at h
      · split at h
        · cases h
        · rename_i s' ht
          cases h
          exact (takeR_ok ht).1
      · split at h
        · cases h
        · cases h
        · rename_i y s' hi
          obtain ⟨h1, _⟩ := ih2 _ _ hi
          have h2 := ih3 _ _ _ _ h
          have h3 := h1.lt (by simp)
          have h4 := h2.lt trivial
          have h5 := h1.opn
          have h6 := h2.opn
          dsimp only at h3 h5
          exact ⟨by omega, by omega, fun hs => h2.sz (h1.sz hs), fun _ => by omega⟩
    · intro s acc x h
      rw [valsR] at h
      split at h
      · split at h
        · cases h
        · rename_i s' ht
          cases h
          exact (takeR_ok ht).1
      · split at h
        · cases h
        · cases h
        · rename_i y s' hi
          obtain ⟨h1, _⟩ := ih1 _ _ hi
          have h2 := ih4 _ _ _ h
          have h3 := h1.lt (by simp)
          have h4 := h2.lt trivial
          have h5 := h1.opn
          have h6 := h2.opn
          dsimp only at h3 h5
          exact ⟨by omega, by omega, fun hs => h2.sz (h1.sz hs), fun _ => by omega⟩
/-- A fault has a number. -/
def Faulty {α : Type} (x : PR α) : Prop := ∀ e, x = .error e → e.2 ≠ 0
theorem countR_err {p : Int} {s : RS} {e : PE} (h : countR p s = .error e) : e.2 ≠ 0 := by
  unfold countR at h
  split at h
  · split at h
    · cases h; show (11 : Int) ≠ 0; decide
    · cases h
  · cases h
theorem enterR_err {p : Int} {s : RS} {e : PE} (h : enterR p s = .error e) : e.2 ≠ 0 := by
  unfold enterR at h
  split at h
  · cases h; show (11 : Int) ≠ 0; decide
  · exact countR_err h
theorem takeR_err {fin : Int} {s : RS} {e : PE} (h : takeR fin s = .error e) : e.2 ≠ 0 := by
  unfold takeR at h
  split at h
  · cases h; show (9 : Int) ≠ 0; decide
  · cases h
theorem parse_err (fin : Int) : ∀ k, (∀ s e, litR fin k s = .error e → e.2 ≠ 0) ∧ (∀ s e, itemR fin k s = .error e → e.2 ≠ 0) ∧
    (∀ shut s acc e, itemsR fin k shut s acc = .error e → e.2 ≠ 0) ∧ (∀ s acc e, valsR fin k s acc = .error e → e.2 ≠ 0) := by
  intro k
  induction k with
  | zero =>
    refine ⟨?_, ?_, ?_, ?_⟩
    · intro s e h; rw [litR] at h; cases h; decide
    · intro s e h; rw [itemR] at h; cases h; decide
    · intro shut s acc e h; rw [itemsR] at h; cases h; decide
    · intro s acc e h; rw [valsR] at h; cases h; decide
  | succ k ih =>
    obtain ⟨ih1, ih2, ih3, ih4⟩ := ih
    refine ⟨?_, ?_, ?_, ?_⟩
    · intro s e h
      rw [litR] at h
      split at h
      · cases h
      · have cnt : ∀ {t : Tok} {r : List Tok} {v : Tree}, (match countR t.pos { s with l := r } with
            | .error e => (.error e : PR (Option Tree))
            | .ok s' => .ok (some v, s')) = .error e → e.2 ≠ 0 := by
          intro t r v h
          split at h
          · rename_i hc; cases h; exact countR_err hc
          · cases h
        split at h
        · exact cnt h
        · split at h
          · exact cnt h
          · split at h
            · exact cnt h
            · split at h
              · split at h
                · rename_i he; cases h; exact enterR_err he
                · split at h
                  · rename_i hi; cases h; exact ih3 _ _ _ _ hi
                  · cases h
              · split at h
                · split at h
                  · rename_i he; cases h; exact enterR_err he
                  · split at h
                    · rename_i hi; cases h; exact ih4 _ _ _ hi
                    · cases h
                · cases h
    · intro s e h
      rw [itemR] at h
      split at h
      · rename_i hv; cases h; exact ih1 _ _ hv
      · cases h
      · split at h
        · cases h
        · split at h
          · cases h
          · split at h
            · rename_i ht; cases h; exact takeR_err ht
            · split at h
              · rename_i hc; cases h; exact countR_err hc
              · cases h
    · intro shut s acc e h
      rw [itemsR] at h
      split at h
      · split at h
        · rename_i ht; cases h; exact takeR_err ht
        · cases h
      · split at h
        · rename_i hi; cases h; exact ih2 _ _ hi
        · cases h; show (9 : Int) ≠ 0; decide
        · exact ih3 _ _ _ _ h
    · intro s acc e h
      rw [valsR] at h
      split at h
      · split at h
        · rename_i ht; cases h; exact takeR_err ht
        · cases h
      · split at h
        · rename_i hi; cases h; exact ih1 _ _ hi
        · cases h; show (9 : Int) ≠ 0; decide
        · exact ih4 _ _ _ h
theorem onlyR_err {fin : Int} : ∀ {k : Nat} {s : RS} {acc : List Tree} {e : PE}, onlyR fin k s acc = .error e → e.2 ≠ 0
  | 0, s, acc, e, h => by rw [onlyR] at h; cases h; decide
  | k + 1, s, acc, e, h => by
    rw [onlyR] at h
    split at h
    · rename_i hi; cases h; exact (parse_err fin _).2.1 _ _ hi
    · cases h
    · exact onlyR_err h
theorem wordR_err {fin : Int} {want : List UInt8} {s : RS} {e : PE} (h : wordR fin want s = .error e) : e.2 ≠ 0 := by
  unfold wordR at h
  split at h
  · cases h; show (9 : Int) ≠ 0; decide
  · split at h
    · cases h; show (9 : Int) ≠ 0; decide
    · split at h
      · rename_i ht; cases h; exact takeR_err ht
      · cases h
theorem namesR_err {fin : Int} {shut : List UInt8} : ∀ {k : Nat} {s : RS} {n : Nat} {e : PE}, namesR fin shut k s n = .error e → e.2 ≠ 0
  | 0, s, n, e, h => by rw [namesR] at h; cases h; decide
  | k + 1, s, n, e, h => by
    rw [namesR] at h
    split at h
    · split at h
      · rename_i ht; cases h; exact takeR_err ht
      · cases h
    · split at h
      · rename_i hw; cases h; exact wordR_err hw
      · split at h
        · cases h; show (11 : Int) ≠ 0; decide
        · exact namesR_err h
theorem defineR_err {fin p : Int} {s : RS} {e : PE} (h : defineR fin p s = .error e) : e.2 ≠ 0 := by
  unfold defineR at h
  split at h
  · rename_i h1; cases h; exact enterR_err h1
  · split at h
    · rename_i h1; cases h; exact wordR_err h1
    · split at h
      · rename_i h1; cases h; exact wordR_err h1
      · split at h
        · rename_i h1; cases h; exact namesR_err h1
        · split at h
          · rename_i h1; cases h; exact namesR_err h1
          · split at h
            · rename_i h1; cases h; exact (parse_err fin _).2.2.1 _ _ _ _ h1
            · cases h
theorem formsR_err {fin : Int} : ∀ {k : Nat} {s : RS} {acc : List FormT} {e : PE}, formsR fin k s acc = .error e → e.2 ≠ 0
  | 0, s, acc, e, h => by rw [formsR] at h; cases h; decide
  | k + 1, s, acc, e, h => by
    rw [formsR] at h
    split at h
    · split at h
      · rename_i ht; cases h; exact takeR_err ht
      · split at h
        · rename_i hd; cases h; exact defineR_err hd
        · exact formsR_err h
    · split at h
      · rename_i hi; cases h; exact (parse_err fin _).2.1 _ _ hi
      · cases h
      · exact formsR_err h
end Go.Proofs.YtbmplclnondfnaaDoor

namespace Go.Proofs.YtbmplclnondfnaaDoor
open Go Go.Av
def litV (x : Option Tree) : AV := match x with
  | none => .tup [.nili, .bool false]
  | some t => .tup [valAV t, .bool true]
def itemV (x : Option Tree) : AV := match x with
  | none => .tup [.nili, .bool false]
  | some t => .tup [itemAV t, .bool true]
structure RsOk (s : RS) : Prop where
  opn : s.opn ≤ 32
  sz : s.sz ≤ 1024
  cnt : s.l.length ≤ 4096
def LitOk (fin b k : Nat) : Prop := ∀ s : RS, 3 * s.l.length + 1 ≤ k → RsOk s → RFn 57 [] fin b s (litR fin k s) litV
def ItemOk (fin b k : Nat) : Prop := ∀ s : RS, 3 * s.l.length + 2 ≤ k → RsOk s → RFn 25 [] fin b s (itemR fin k s) itemV
def ItemsOk (fin b k : Nat) : Prop := ∀ (shut : List UInt8) (s : RS), 3 * s.l.length + 3 ≤ k → RsOk s → RFn 56 [.str shut] fin b s (itemsR fin k shut s []) fun l => .fz (itemAVs l) l.length false
/-- Something that is handed back as it is. -/
theorem ret_same {Post : AOut → St → Prop} {out : AOut} {st st' : St} (h : VSel st' st) (k : Post out st') : VRet (fun out st' => ∃ out' st'', FzO out out' st' st'' ∧ Post out' st'') out st :=
  VRet.mk st' h ⟨out, st', .same _ _, k⟩
structure VlI where
  k : Nat
  s : RS
  acc : List Tree
  o : Option Nat
set_option maxHeartbeats 1600000 in
theorem lit_step (fin b k : Nat) (ih : ∀ j, j < k + 1 → LitOk fin b j ∧ ItemsOk fin b j) : LitOk fin b (k + 1) := by
  intro s hk hs
  obtain ⟨R, hR⟩ : ∃ R, R = litR fin (k + 1) s := ⟨_, rfl⟩
  rw [← hR]
  rw [litR] at hR
  rcases hl : s.l with _ | ⟨t, r⟩
  · rw [hl] at hR
    dsimp only at hR
    subst hR
    refine RFn.of_cells (cells := [.fz (toksC []) 0 false, .int .i64 fin, .int .i64 s.opn, .int .i64 s.sz]) (by rw [hl]; rfl) ?_
    refine ACalls.thaw (ACalls.of_W tb_ok (fn := Tryd.f57) (n := 134) (by kernel_rfl) rfl (by kernel_rfl) rfl rfl (by simp) (go ?_))
    exact ret_same (st' := [rbox fin b s]) (.cons 0 (by rw [rbox, hl]; rfl) .nil) ⟨rfl, rfl⟩
  · rw [hl] at hR
    dsimp only at hR
    have ht := f_take fin b s
    have htk : takeR fin s = .ok (t, ⟨r, s.opn, s.sz⟩) := by unfold takeR; rw [hl]
    rw [htk] at ht
    have hrb : rbox fin b s = (b, .box [.fz (toksC (t :: r)) (r.length + 1) false, .int .i64 fin, .int .i64 s.opn, .int .i64 s.sz]) := by rw [rbox, hl]; rfl
    unfold RFn
    rw [hrb]
    refine ACalls.thaw (ACalls.of_W tb_ok (fn := Tryd.f57) (n := 134) (by kernel_rfl) rfl (by kernel_rfl) rfl rfl (by simp) (go ?_))
    refine VAll.mk (fun b4 => go ?_)
    obtain ⟨bx, hbx⟩ : ∃ bx : Nat × AObj, bx = (b4, .box [.int .i64 t.kind, .str t.text, .int .i64 t.n, .int .i64 t.pos]) := ⟨_, rfl⟩
    refine fork (fun h2 => go ?_) (fun h2 => go ?_)
    · rw [if_pos h2] at hR
      refine ht.use (R := [(b4, .box [.int .i64 t.kind, .str t.text, .int .i64 t.n, .int .i64 t.pos])]) (by rw [hrb]; exact .swap _ _ _) (go ?_)
      refine (f_count fin b t.pos ⟨r, s.opn, s.sz⟩ ⟨hs.opn, hs.sz⟩).use (.refl _) ?_
      cases hcr : countR t.pos ⟨r, s.opn, s.sz⟩ with
      | error e =>
        rw [hcr] at hR
        dsimp only at hR
        subst hR
        refine go ?_
        exact ret_same .nil ⟨rfl, rfl⟩
      | ok s' =>
        rw [hcr] at hR
        dsimp only at hR
        subst hR
        refine go ?_
        exact ret_same (st' := [rbox fin b s']) (.cons 0 rfl .nil) ⟨by simp [litV, valAV, h2], rfl⟩
    rw [if_neg h2] at hR
    refine fork (fun h3 => go ?_) (fun h3 => go ?_)
    · rw [if_pos h3] at hR
      refine ht.use (R := [(b4, .box [.int .i64 t.kind, .str t.text, .int .i64 t.n, .int .i64 t.pos])]) (by rw [hrb]; exact .swap _ _ _) (go ?_)
      refine (f_count fin b t.pos ⟨r, s.opn, s.sz⟩ ⟨hs.opn, hs.sz⟩).use (.refl _) ?_
      cases hcr : countR t.pos ⟨r, s.opn, s.sz⟩ with
      | error e =>
        rw [hcr] at hR
        dsimp only at hR
        subst hR
        refine go ?_
        exact ret_same .nil ⟨rfl, rfl⟩
      | ok s' =>
        rw [hcr] at hR
        dsimp only at hR
        subst hR
        refine go ?_
        exact ret_same (st' := [rbox fin b s']) (.cons 0 rfl .nil) ⟨by simp [litV, valAV, h3], rfl⟩
    rw [if_neg h3] at hR
    refine fork (fun h4 => go ?_) (fun h4 => go ?_)
    · rw [if_pos (.inl h4)] at hR
      refine ht.use (R := [(b4, .box [.int .i64 t.kind, .str t.text, .int .i64 t.n, .int .i64 t.pos])]) (by rw [hrb]; exact .swap _ _ _) (go ?_)
      refine (f_count fin b t.pos ⟨r, s.opn, s.sz⟩ ⟨hs.opn, hs.sz⟩).use (.refl _) ?_
      cases hcr : countR t.pos ⟨r, s.opn, s.sz⟩ with
      | error e =>
        rw [hcr] at hR
        dsimp only at hR
        subst hR
        refine go ?_
        exact ret_same .nil ⟨rfl, rfl⟩
      | ok s' =>
        rw [hcr] at hR
        dsimp only at hR
        subst hR
        refine go ?_
        exact ret_same (st' := [rbox fin b s']) (.cons 0 rfl .nil) ⟨by simp [litV, valAV, h4], rfl⟩
    refine fork (fun h5 => go ?_) (fun h5 => go ?_)
    · rw [if_pos (.inr h5)] at hR
      refine ht.use (R := [(b4, .box [.int .i64 t.kind, .str t.text, .int .i64 t.n, .int .i64 t.pos])]) (by rw [hrb]; exact .swap _ _ _) (go ?_)
      refine (f_count fin b t.pos ⟨r, s.opn, s.sz⟩ ⟨hs.opn, hs.sz⟩).use (.refl _) ?_
      cases hcr : countR t.pos ⟨r, s.opn, s.sz⟩ with
      | error e =>
        rw [hcr] at hR
        dsimp only at hR
        subst hR
        refine go ?_
        exact ret_same .nil ⟨rfl, rfl⟩
      | ok s' =>
        rw [hcr] at hR
        dsimp only at hR
        subst hR
        refine go ?_
        exact ret_same (st' := [rbox fin b s']) (.cons 0 rfl .nil) ⟨by simp [litV, valAV, h5], rfl⟩
    rw [if_neg (by simp [h4, h5])] at hR
    refine fork (fun h6 => go ?_) (fun h6 => go ?_)
    · rw [if_pos h6] at hR
      refine ht.use (R := [(b4, .box [.int .i64 t.kind, .str t.text, .int .i64 t.n, .int .i64 t.pos])]) (by rw [hrb]; exact .swap _ _ _) (go ?_)
      refine (f_enter fin b t.pos ⟨r, s.opn, s.sz⟩ ⟨hs.opn, hs.sz⟩).use (.refl _) ?_
      cases her : enterR t.pos ⟨r, s.opn, s.sz⟩ with
      | error e =>
        rw [her] at hR
        dsimp only at hR
        subst hR
        refine go ?_
        exact ret_same .nil ⟨rfl, rfl⟩
      | ok s1 =>
        rw [her] at hR
        dsimp only at hR
        obtain ⟨e1, e2, e3, e4⟩ := enterR_ok her
        dsimp only at e1 e2 e3 e4
        have hcn := hs.cnt
        rw [hl, List.length_cons] at hcn
        have hs1 : RsOk s1 := ⟨by omega, e4 hs.sz, by rw [e1]; omega⟩
        have hit := (ih k (by omega)).2 [93] s1 (by rw [e1]; rw [hl] at hk; simp at hk; omega) hs1
        refine go ?_
        refine hit.use (.refl _) ?_
        cases hir : itemsR fin k [93] s1 [] with
        | error e =>
          rw [hir] at hR
          dsimp only at hR
          subst hR
          refine go ?_
          exact ret_same .nil ⟨rfl, rfl⟩
        | ok x =>
          obtain ⟨ys, s2⟩ := x
          rw [hir] at hR
          dsimp only at hR
          subst hR
          have hls := (parse_less fin k).2.2.1 _ _ _ _ hir
          have ho2 := hls.opn
          dsimp only at ho2
          refine go ?_
          refine VInt.to ((s2.opn - 1 : Nat) : Int) (by dsimp only; omega) (by omega) (by have := hs1.opn; omega) (go ?_)
          exact ret_same (st' := [rbox fin b ⟨s2.l, s2.opn - 1, s2.sz⟩]) (.cons 0 rfl .nil) ⟨by simp [litV, valAV], rfl⟩
    rw [if_neg h6] at hR
    refine fork (fun h7 => go ?_) (fun h7 => go ?_)
    · rw [if_pos h7] at hR
      refine ht.use (R := [(b4, .box [.int .i64 t.kind, .str t.text, .int .i64 t.n, .int .i64 t.pos])]) (by rw [hrb]; exact .swap _ _ _) (go ?_)
      refine (f_enter fin b t.pos ⟨r, s.opn, s.sz⟩ ⟨hs.opn, hs.sz⟩).use (.refl _) ?_
      cases her : enterR t.pos ⟨r, s.opn, s.sz⟩ with
      | error e =>
        rw [her] at hR
        dsimp only at hR
        subst hR
        refine go ?_
        exact ret_same .nil ⟨rfl, rfl⟩
      | ok s1 =>
        rw [her] at hR
        dsimp only at hR
        obtain ⟨e1, e2, e3, e4⟩ := enterR_ok her
        dsimp only at e1 e2 e3 e4
        have hcn := hs.cnt
        rw [hl, List.length_cons] at hcn
        have hs1 : RsOk s1 := ⟨by omega, e4 hs.sz, by rw [e1]; omega⟩
        have hlen : s1.l.length = r.length := by rw [e1]
        rw [hl] at hk
        simp only [List.length_cons] at hk
        refine go ?_
        obtain ⟨V, hV⟩ : ∃ V, V = valsR fin k s1 [] := ⟨_, rfl⟩
        rw [← hV] at hR
        refine VLoop.mk [6] VlI (fun i => [accV i.o i.acc.length]) (fun i => rbox fin b i.s :: (b4, .box [.int .i64 t.kind, .str t.text, .int .i64 t.n, .int .i64 t.pos]) :: accS i.o 1 (valAVs i.acc))
          (fun i => V = valsR fin i.k i.s i.acc ∧ i.k ≤ k ∧ 3 * i.s.l.length + 2 ≤ i.k ∧ RsOk i.s ∧ i.s.opn = s1.opn ∧ (i.o = none → i.acc = []) ∧ i.acc.length + i.s.l.length ≤ 4096) (fun i => i.k) ⟨k, s1, [], none⟩ ?_ ?_
        · exact ⟨⟨hV, Nat.le_refl _, by dsimp only; omega, hs1, rfl, by simp, by simp; omega⟩, rfl, .cons 0 rfl (.cons 0 rfl .nil)⟩
        clear hV
        rintro ⟨j, q, acc, o⟩ ⟨hI, hj, hq, hqs, hqo, ho, hac⟩
        dsimp only at hI hj hq hqs hqo ho hac ⊢
        obtain ⟨j, rfl⟩ : ∃ m, j = m + 1 := ⟨j - 1, by omega⟩
        rw [valsR] at hI
        refine go ?_
        refine (f_peek fin b q).use (.refl _) ?_
        cases hpk : peekR q.l with
        | none =>
          rw [hpk, if_neg (by simp)] at hI
          refine go ?_
          refine ((ih j (by omega)).1 q (by omega) hqs).use (.refl _) ?_
          cases hlr : litR fin j q with
          | error e =>
            rw [hlr] at hI
            dsimp only at hI
            rw [hI] at hR
            subst hR
            refine go ?_
            exact ret_same .nil ⟨rfl, rfl⟩
          | ok x =>
            obtain ⟨y, q'⟩ := x
            rw [hlr] at hI
            obtain ⟨hls, hsame⟩ := (parse_less fin j).1 _ _ hlr
            cases y with
            | none =>
              have hsame := hsame rfl
              dsimp only at hsame hI
              subst hsame
              rw [hI] at hR
              subst hR
              refine go ?_
              refine (f_at fin b q').use (.refl _) (go ?_)
              refine fails (go ?_)
              exact ret_same .nil ⟨rfl, rfl⟩
            | some y =>
              dsimp only at hI
              have hlt := hls.lt (by simp)
              have hop := hls.opn
              dsimp only at hlt hop
              refine go ?_
              cases o with
              | none =>
                have hacc := ho rfl
                subst hacc
                refine go ?_
                refine VOne.mk (valAV_one' y) (go ?_)
                refine VAll.mk (fun b2 => go ?_)
                refine ⟨⟨j, q', [y], some b2⟩, ⟨hI, by dsimp only; omega, by dsimp only; omega, ⟨by rw [hop]; exact hqs.opn, hls.sz hqs.sz, by have := hqs.cnt; dsimp only; omega⟩, by dsimp only; omega, by simp, by simp at hac ⊢; omega⟩, by dsimp only; omega, rfl, ?_⟩
                exact .cons 1 rfl (.cons 1 rfl (.cons 0 (by simp [valAVs]) .nil))
              | some bo =>
                refine go ?_
                refine VOne.mk (valAV_one' y) (go ?_)
                refine VGd.mk (by simp; omega) (go ?_)
                refine VAll.mk (fun b2 => go ?_)
                refine ⟨⟨j, q', acc ++ [y], some b2⟩, ⟨hI, by dsimp only; omega, by dsimp only; omega, ⟨by rw [hop]; exact hqs.opn, hls.sz hqs.sz, by have := hqs.cnt; dsimp only; omega⟩, by dsimp only; omega, by simp, by simp at hac ⊢; omega⟩, by dsimp only; omega, by simp [accV], ?_⟩
                exact .cons 1 rfl (.cons 1 rfl (.cons 0 (by simp [valAVs_snoc, List.take_of_length_le]) .nil))
        | some w =>
          rw [hpk] at hI
          refine go ?_
          refine fork (fun hw => go ?_) (fun hw => go ?_)
          · rw [if_pos (by rw [hw])] at hI
            refine (f_take fin b q).use (.refl _) ?_
            cases htq : takeR fin q with
            | error e =>
              rw [htq] at hI
              dsimp only at hI
              rw [hI] at hR
              subst hR
              refine go ?_
              exact ret_same .nil ⟨rfl, rfl⟩
            | ok x =>
              rw [htq] at hI
              dsimp only at hI
              rw [hI] at hR
              dsimp only at hR
              subst hR
              have htl := takeR_less htq
              refine go ?_
              have hbx : ∀ st : St, ((b, .box [.fz (toksC x.2.l) x.2.l.length false, .int .i64 fin, .int .i64 ((x.2.opn : Int) - 1), .int .i64 x.2.sz]) :: st)[0]? = some (rbox fin b ⟨x.2.l, x.2.opn - 1, x.2.sz⟩) := by
                intro st
                simp only [rbox]
                rw [show ((x.2.opn - 1 : Nat) : Int) = (x.2.opn : Int) - 1 by omega]; rfl
              cases o with
              | none =>
                have hacc := ho rfl
                subst hacc
                refine go ?_
                exact ret_same (st' := [rbox fin b ⟨x.2.l, x.2.opn - 1, x.2.sz⟩]) (.cons 0 (hbx _) .nil) ⟨by simp [litV, valAV, valAVs], rfl⟩
              | some bo =>
                refine go ?_
                exact ret_same (st' := [rbox fin b ⟨x.2.l, x.2.opn - 1, x.2.sz⟩]) (.cons 0 (hbx _) .nil) ⟨by simp [litV, valAV, List.take_of_length_le], rfl⟩
          · rw [if_neg (by simpa using hw)] at hI
            refine ((ih j (by omega)).1 q (by omega) hqs).use (.refl _) ?_
            cases hlr : litR fin j q with
            | error e =>
              rw [hlr] at hI
              dsimp only at hI
              rw [hI] at hR
              subst hR
              refine go ?_
              exact ret_same .nil ⟨rfl, rfl⟩
            | ok x =>
              obtain ⟨y, q'⟩ := x
              rw [hlr] at hI
              obtain ⟨hls, hsame⟩ := (parse_less fin j).1 _ _ hlr
              cases y with
              | none =>
                have hsame := hsame rfl
                dsimp only at hsame hI
                subst hsame
                rw [hI] at hR
                subst hR
                refine go ?_
                refine (f_at fin b q').use (.refl _) (go ?_)
                refine fails (go ?_)
                exact ret_same .nil ⟨rfl, rfl⟩
              | some y =>
                dsimp only at hI
                have hlt := hls.lt (by simp)
                have hop := hls.opn
                dsimp only at hlt hop
                refine go ?_
                cases o with
                | none =>
                  have hacc := ho rfl
                  subst hacc
                  refine go ?_
                  refine VOne.mk (valAV_one' y) (go ?_)
                  refine VAll.mk (fun b2 => go ?_)
                  refine ⟨⟨j, q', [y], some b2⟩, ⟨hI, by dsimp only; omega, by dsimp only; omega, ⟨by rw [hop]; exact hqs.opn, hls.sz hqs.sz, by have := hqs.cnt; dsimp only; omega⟩, by dsimp only; omega, by simp, by simp at hac ⊢; omega⟩, by dsimp only; omega, rfl, ?_⟩
                  exact .cons 1 rfl (.cons 1 rfl (.cons 0 (by simp [valAVs]) .nil))
                | some bo =>
                  refine go ?_
                  refine VOne.mk (valAV_one' y) (go ?_)
                  refine VGd.mk (by simp; omega) (go ?_)
                  refine VAll.mk (fun b2 => go ?_)
                  refine ⟨⟨j, q', acc ++ [y], some b2⟩, ⟨hI, by dsimp only; omega, by dsimp only; omega, ⟨by rw [hop]; exact hqs.opn, hls.sz hqs.sz, by have := hqs.cnt; dsimp only; omega⟩, by dsimp only; omega, by simp, by simp at hac ⊢; omega⟩, by dsimp only; omega, by simp [accV], ?_⟩
                  exact .cons 1 rfl (.cons 1 rfl (.cons 0 (by simp [valAVs_snoc, List.take_of_length_le]) .nil))
    · rw [if_neg h7] at hR
      subst hR
      exact ret_same (st' := [rbox fin b s]) (.cons 1 (by rw [hrb]; rfl) .nil) ⟨rfl, rfl⟩
set_option maxHeartbeats 800000 in
theorem item_step (fin b k : Nat) (ih : LitOk fin b k) (hno : ∀ (s s' : RS) (v : Tree) , litR fin k s = .ok (some v, s') → itemAV v = .iface 114 (.agg [valAV v])) : ItemOk fin b (k + 1) := by
  intro s hk hs
  obtain ⟨R, hR⟩ : ∃ R, R = itemR fin (k + 1) s := ⟨_, rfl⟩
  rw [← hR]
  rw [itemR] at hR
  have hlit := ih s (by omega) hs
  unfold RFn
  refine ACalls.of_W tb_ok (fn := Tryd.f25) (n := 36) (by kernel_rfl) rfl (by kernel_rfl) rfl rfl (by simp) (go ?_)
  refine hlit.use (.refl _) ?_
  cases hlr : litR fin k s with
  | error e =>
    rw [hlr] at hR
    dsimp only at hR
    subst hR
    refine go ?_
    exact VRet.mk [] .nil ⟨rfl, rfl⟩
  | ok x =>
    obtain ⟨v, s'⟩ := x
    rw [hlr] at hR
    obtain ⟨hls, hsame⟩ := (parse_less fin k).1 _ _ hlr
    cases v with
    | some v =>
      dsimp only at hR
      subst hR
      refine go ?_
      refine VOne.mk (valAV_one' v) (go ?_)
      exact VRet.mk [rbox fin b s'] (.cons 0 rfl .nil) ⟨by simp [itemV, hno _ _ _ hlr], rfl⟩
    | none =>
      have hsame := hsame rfl
      dsimp only at hsame hR
      subst hsame
      refine go ?_
      refine (f_peek fin b s').use (.refl _) ?_
      cases hpk : peekR s'.l with
      | none =>
        rw [hpk] at hR
        dsimp only at hR
        subst hR
        refine go ?_
        exact VRet.mk [rbox fin b s'] (.cons 0 rfl .nil) ⟨rfl, rfl⟩
      | some w =>
        rw [hpk] at hR
        dsimp only at hR
        have hr := f_Reserved w
        refine go ?_
        cases hrr : reservedR w with
        | true =>
          rw [hrr] at hr
          rw [hrr, if_pos rfl] at hR
          subst hR
          refine Fn.use (hr) (go ?_)
          exact VRet.mk [rbox fin b s'] (.cons 0 rfl .nil) ⟨rfl, rfl⟩
        | false =>
          rw [hrr] at hr
          rw [hrr, if_neg (by simp)] at hR
          refine Fn.use (hr) (go ?_)
          refine (f_take fin b s').use (.refl _) ?_
          cases htk : takeR fin s' with
          | error e =>
            rw [htk] at hR
            dsimp only at hR
            subst hR
            refine go ?_
            exact VRet.mk [] .nil ⟨rfl, rfl⟩
          | ok x =>
            obtain ⟨t, s1⟩ := x
            rw [htk] at hR
            dsimp only at hR
            have htl := takeR_less htk
            dsimp only at htl
            refine go ?_
            refine (f_count fin b t.pos s1 ⟨by have := hs.opn; omega, by have := hs.sz; omega⟩).use (.refl _) ?_
            cases hcr : countR t.pos s1 with
            | error e =>
              rw [hcr] at hR
              dsimp only at hR
              subst hR
              refine go ?_
              exact VRet.mk [] .nil ⟨rfl, rfl⟩
            | ok s2 =>
              rw [hcr] at hR
              dsimp only at hR
              subst hR
              refine go ?_
              exact VRet.mk [rbox fin b s2] (.cons 0 rfl .nil) ⟨rfl, rfl⟩
structure ItI where
  k : Nat
  s : RS
  acc : List Tree
  o : Option Nat
set_option maxHeartbeats 800000 in
theorem items_step (fin b k : Nat) (ih : ∀ j, j < k → ItemOk fin b j) : ItemsOk fin b k := by
  intro shut s hk hs
  obtain ⟨R, hR⟩ : ∃ R, R = itemsR fin k shut s [] := ⟨_, rfl⟩
  rw [← hR]
  unfold RFn
  refine ACalls.of_W tb_ok (fn := Tryd.f56) (n := 38) (by kernel_rfl) rfl (by kernel_rfl) rfl rfl (by simp) (go ?_)
  refine VLoop.mk [5] ItI (fun i => [accV i.o i.acc.length]) (fun i => rbox fin b i.s :: accS i.o 1 (itemAVs i.acc))
    (fun i => R = itemsR fin i.k shut i.s i.acc ∧ i.k ≤ k ∧ 3 * i.s.l.length + 3 ≤ i.k ∧ RsOk i.s ∧ (i.o = none → i.acc = []) ∧ i.acc.length + i.s.l.length ≤ 4096) (fun i => i.k) ⟨k, s, [], none⟩ ?_ ?_
  · exact ⟨⟨hR, Nat.le_refl _, hk, hs, by simp, by have := hs.cnt; simp; omega⟩, rfl, .cons 0 rfl .nil⟩
  clear hR
  rintro ⟨j, q, acc, o⟩ ⟨hI, hj, hq, hqs, ho, hac⟩
  dsimp only at hI hj hq hqs ho hac ⊢
  obtain ⟨j, rfl⟩ : ∃ m, j = m + 1 := ⟨j - 1, by omega⟩
  rw [itemsR] at hI
  refine go ?_
  refine (f_peek fin b q).use (.refl _) ?_
  cases hpk : peekR q.l with
  | none =>
    rw [hpk, if_neg (by simp)] at hI
    refine go ?_
    refine ((ih j (by omega)) q (by omega) hqs).use (.refl _) ?_
    cases hlr : itemR fin j q with
    | error e =>
      rw [hlr] at hI
      dsimp only at hI
      subst hI
      refine go ?_
      exact VRet.mk [] .nil ⟨rfl, rfl⟩
    | ok x =>
      obtain ⟨y, q'⟩ := x
      rw [hlr] at hI
      obtain ⟨hls, hsame⟩ := (parse_less fin j).2.1 _ _ hlr
      cases y with
      | none =>
        have hsame := hsame rfl
        dsimp only at hsame hI
        subst hsame
        subst hI
        refine go ?_
        refine (f_at fin b q').use (.refl _) (go ?_)
        refine fails (go ?_)
        exact VRet.mk [] .nil ⟨rfl, rfl⟩
      | some y =>
        dsimp only at hI
        have hlt := hls.lt (by simp)
        have hop := hls.opn
        dsimp only at hlt hop
        refine go ?_
        cases o with
        | none =>
          have hacc := ho rfl
          subst hacc
          refine go ?_
          refine VOne.mk (itemAV_one y) (go ?_)
          refine VAll.mk (fun b2 => go ?_)
          refine ⟨⟨j, q', [y], some b2⟩, ⟨hI, by dsimp only; omega, by dsimp only; omega, ⟨by rw [hop]; exact hqs.opn, hls.sz hqs.sz, by have := hqs.cnt; dsimp only; omega⟩, by simp, by simp at hac ⊢; omega⟩, by dsimp only; omega, rfl, ?_⟩
          exact .cons 1 rfl (.cons 0 (by simp [itemAVs_map]) .nil)
        | some bo =>
          refine go ?_
          refine VOne.mk (itemAV_one y) (go ?_)
          refine VGd.mk (by simp; omega) (go ?_)
          refine VAll.mk (fun b2 => go ?_)
          refine ⟨⟨j, q', acc ++ [y], some b2⟩, ⟨hI, by dsimp only; omega, by dsimp only; omega, ⟨by rw [hop]; exact hqs.opn, hls.sz hqs.sz, by have := hqs.cnt; dsimp only; omega⟩, by simp, by simp at hac ⊢; omega⟩, by dsimp only; omega, by simp [accV], ?_⟩
          exact .cons 1 rfl (.cons 0 (by simp [itemAVs_snoc, List.take_of_length_le]) .nil)
  | some w =>
    rw [hpk] at hI
    refine go ?_
    refine fork (fun hw => go ?_) (fun hw => go ?_)
    · rw [if_pos (by rw [hw])] at hI
      refine (f_take fin b q).use (.refl _) ?_
      cases htq : takeR fin q with
      | error e =>
        rw [htq] at hI
        dsimp only at hI
        subst hI
        refine go ?_
        exact VRet.mk [] .nil ⟨rfl, rfl⟩
      | ok x =>
        rw [htq] at hI
        dsimp only at hI
        subst hI
        cases o with
        | none =>
          have hacc := ho rfl
          subst hacc
          refine go ?_
          exact VRet.mk [rbox fin b x.2] (.cons 0 rfl .nil) ⟨by simp [itemAVs_map], rfl⟩
        | some bo =>
          refine go ?_
          exact VRet.mk [rbox fin b x.2] (.cons 0 rfl .nil) ⟨by simp [List.take_of_length_le], rfl⟩
    · rw [if_neg (by simpa using hw)] at hI
      refine ((ih j (by omega)) q (by omega) hqs).use (.refl _) ?_
      cases hlr : itemR fin j q with
      | error e =>
        rw [hlr] at hI
        dsimp only at hI
        subst hI
        refine go ?_
        exact VRet.mk [] .nil ⟨rfl, rfl⟩
      | ok x =>
        obtain ⟨y, q'⟩ := x
        rw [hlr] at hI
        obtain ⟨hls, hsame⟩ := (parse_less fin j).2.1 _ _ hlr
        cases y with
        | none =>
          have hsame := hsame rfl
          dsimp only at hsame hI
          subst hsame
          subst hI
          refine go ?_
          refine (f_at fin b q').use (.refl _) (go ?_)
          refine fails (go ?_)
          exact VRet.mk [] .nil ⟨rfl, rfl⟩
        | some y =>
          dsimp only at hI
          have hlt := hls.lt (by simp)
          have hop := hls.opn
          dsimp only at hlt hop
          refine go ?_
          cases o with
          | none =>
            have hacc := ho rfl
            subst hacc
            refine go ?_
            refine VOne.mk (itemAV_one y) (go ?_)
            refine VAll.mk (fun b2 => go ?_)
            refine ⟨⟨j, q', [y], some b2⟩, ⟨hI, by dsimp only; omega, by dsimp only; omega, ⟨by rw [hop]; exact hqs.opn, hls.sz hqs.sz, by have := hqs.cnt; dsimp only; omega⟩, by simp, by simp at hac ⊢; omega⟩, by dsimp only; omega, rfl, ?_⟩
            exact .cons 1 rfl (.cons 0 (by simp [itemAVs_map]) .nil)
          | some bo =>
            refine go ?_
            refine VOne.mk (itemAV_one y) (go ?_)
            refine VGd.mk (by simp; omega) (go ?_)
            refine VAll.mk (fun b2 => go ?_)
            refine ⟨⟨j, q', acc ++ [y], some b2⟩, ⟨hI, by dsimp only; omega, by dsimp only; omega, ⟨by rw [hop]; exact hqs.opn, hls.sz hqs.sz, by have := hqs.cnt; dsimp only; omega⟩, by simp, by simp at hac ⊢; omega⟩, by dsimp only; omega, by simp [accV], ?_⟩
            exact .cons 1 rfl (.cons 0 (by simp [itemAVs_snoc, List.take_of_length_le]) .nil)
theorem litR_plain (fin : Int) : ∀ (k : Nat) (s s' : RS) (v : Tree), litR fin k s = .ok (some v, s') → itemAV v = .iface 114 (.agg [valAV v]) := by
  intro k s s' v h
  cases k with
  | zero => simp [litR] at h
  | succ k =>
    rw [litR] at h
    split at h
    · cases h
    · split at h
      · split at h
        · cases h
        · cases h; rfl
      · split at h
        · split at h
          · cases h
          · cases h; rfl
        · split at h
          · split at h
            · cases h
            · cases h; rfl
          · split at h
            · split at h
              · cases h
              · split at h
                · cases h
                · cases h; rfl
            · split at h
              · split at h
                · cases h
                · split at h
                  · cases h
                  · cases h; rfl
              · cases h
theorem parse_all (fin b : Nat) : ∀ k, LitOk fin b k ∧ ItemOk fin b k ∧ ItemsOk fin b k := by
  intro k
  induction k using Nat.strongRecOn with
  | _ k ih =>
    refine ⟨?_, ?_, items_step fin b k fun j hj => (ih j hj).2.1⟩
    · cases k with
      | zero => intro s hk; omega
      | succ k => exact lit_step fin b k fun j hj => ⟨(ih j hj).1, (ih j hj).2.2⟩
    · cases k with
      | zero => intro s hk; omega
      | succ k => exact item_step fin b k (ih k (Nat.lt_succ_self k)).1 fun s s' v h => litR_plain fin k s s' v h
theorem f_item (fin b : Nat) (s : RS) (hs : RsOk s) : RFn 25 [] fin b s (itemR fin (fuel s) s) itemV := (parse_all fin b _).2.1 s (by unfold fuel; omega) hs
theorem f_items (fin b : Nat) (shut : List UInt8) (s : RS) (hs : RsOk s) : RFn 56 [.str shut] fin b s (itemsR fin (fuel s) shut s []) (fun l => .fz (itemAVs l) l.length false) :=
  (parse_all fin b _).2.2 shut s (by unfold fuel; omega) hs
end Go.Proofs.YtbmplclnondfnaaDoor

namespace Go.Proofs.YtbmplclnondfnaaDoor
open Go Go.Av
theorem spanR_append (p : Nat → Bool) : ∀ (a b : List (Nat × Nat)), spanR p (a ++ b) = if a.any (fun x => p x.1) then spanR p a else (a.map (·.2)).sum + spanR p b
  | [], b => by simp
  | (r, k) :: a, b => by
    rw [List.cons_append, spanR, spanR_append p a b]
    cases h : p r with
    | true => simp [h, spanR]
    | false =>
      simp only [h, List.any_cons, Bool.false_or, Bool.false_eq_true, if_false, spanR, List.map_cons, List.sum_cons]
      split <;> omega
theorem blank_nl : blankB ((10 : UInt8).toNat : Nat) = true := by decide
theorem wlen_nl (r t : List UInt8) : wlen (r ++ 10 :: t) = wlen r := by
  unfold wlen
  rw [runes_app r 10 t (by decide), spanR_append]
  split
  · rfl
  · rename_i h
    rw [runes_ascii 10 t (by decide), spanR, if_pos blank_nl, spanR_none (by simpa using h)]; rfl
theorem trimL_nl (l t : List UInt8) : trimL (l ++ 10 :: t) = if trimL l = [] then trimL t else trimL l ++ 10 :: t := by
  unfold trimL
  rw [runes_app l 10 t (by decide), spanR_append]
  by_cases h : (runes l).any (fun x => !blankB x.1) = true
  · rw [if_pos h]
    have hlt : spanR (fun r => !blankB r) (runes l) < l.length := by
      rw [← sum_runes l]
      clear t
      have hp : ∀ x ∈ runes l, 1 ≤ x.2 := by
        clear h
        induction l using runes_ind with
        | h0 => simp
        | h1 l hl ih =>
          rw [runes_cons hl]
          intro x hx
          rcases List.mem_cons.1 hx with rfl | hx
          · exact (dec_pos l hl).1
          · exact ih x hx
      revert h hp
      generalize runes l = rs
      intro h hp
      induction rs with
      | nil => simp at h
      | cons c rs ih =>
        obtain ⟨r, k⟩ := c
        have hk : 1 ≤ k := hp (r, k) (List.mem_cons_self ..)
        rw [spanR, List.map_cons, List.sum_cons]
        cases hr : blankB r with
        | false => simp; omega
        | true =>
          simp [hr] at h
          have := ih (by simpa using h) (fun x hx => hp x (List.mem_cons_of_mem _ hx))
          simp; omega
    rw [if_neg (by simp; omega), List.drop_append_of_le_length (by omega)]
  · rw [if_neg h]
    rw [Bool.not_eq_true] at h
    rw [spanR_none (rs := runes l) h, sum_runes, if_pos (by simp), runes_ascii 10 t (by decide), spanR]
    rw [if_neg (by rw [blank_nl]; simp)]
    rw [show l.length + (1 + spanR (fun r => !blankB r) (runes t)) = l.length + (spanR (fun r => !blankB r) (runes t) + 1) by omega, ← List.drop_drop, List.drop_left]
    rfl
theorem trimL_nl0 (t : List UInt8) : trimL (10 :: t) = trimL t := by
  have := trimL_nl [] t
  rw [if_pos (show trimL [] = [] from rfl)] at this; exact this
theorem indexByte_nl : ∀ (r t : List UInt8), Lib.indexByte (r ++ 10 :: t) 10 = if Lib.indexByte r 10 < 0 then (r.length : Int) else Lib.indexByte r 10
  | [], t => by simp [Lib.indexByte]
  | c :: r, t => by
    have ih := indexByte_nl r t
    have hb := indexByte_lt r 10
    have hb2 := indexByte_lt (r ++ 10 :: t) 10
    rw [List.cons_append]
    unfold Lib.indexByte
    rw [ih] at hb2 ⊢
    simp only [beq_iff_eq, List.length_cons]
    repeat' split
    all_goals omega
theorem textL_app (a : Nat) (y : List UInt8) : ∀ (r acc : List UInt8) (i : Nat), (textL a r acc i).2.2 = 0 → textL a (r ++ y) acc i = textL a r acc i
  | [], acc, i, h => by simp [textL] at h
  | c :: r, acc, i, h => by
    rw [List.cons_append, textL_cons, textL_cons]
    rw [textL_cons] at h
    by_cases h1 : c = 34
    · rw [if_pos h1, if_pos h1]
    · rw [if_neg h1] at h ⊢
      rw [if_neg h1]
      by_cases h2 : c = 92
      · rw [if_pos h2] at h ⊢
        rw [if_pos h2]
        match r with
        | [] => simp at h
        | d :: r' =>
          rw [List.cons_append]
          dsimp only at h ⊢
          cases he : esc d with
          | none => rfl
          | some e =>
            rw [he] at h
            dsimp only at h ⊢
            exact textL_app a y r' _ _ h
      · rw [if_neg h2] at h ⊢
        rw [if_neg h2]
        exact textL_app a y r _ _ h
theorem textL_shift (a d : Nat) : ∀ (r acc : List UInt8) (i : Nat), textL (d + a) r acc (d + i) = ((textL a r acc i).1, (d : Int) + (textL a r acc i).2.1, (textL a r acc i).2.2)
  | [], acc, i => by simp [textL]
  | c :: r, acc, i => by
    rw [textL_cons, textL_cons]
    by_cases h1 : c = 34
    · rw [if_pos h1, if_pos h1]
      by_cases h2 : acc.length > 4096
      · rw [if_pos h2, if_pos h2]; simp
      · rw [if_neg h2, if_neg h2]; simp; try omega
    · rw [if_neg h1, if_neg h1]
      by_cases h2 : c = 92
      · rw [if_pos h2, if_pos h2]
        match r with
        | [] => simp
        | d' :: r' =>
          dsimp only
          cases he : esc d' with
          | none => simp
          | some e =>
            dsimp only
            rw [show d + i + 2 = d + (i + 2) by omega]
            exact textL_shift a d r' _ _
      · rw [if_neg h2, if_neg h2, show d + i + 1 = d + (i + 1) by omega]
        exact textL_shift a d r _ _
/-- What a step is where a line's end and more stand behind. -/
def stepApp (y : List UInt8) : TStep → TStep
  | .skip l => .skip (l ++ y)
  | .tok t l => .tok t (l ++ y)
  | .bad p e => .bad p e
  | .stop => .skip y
theorem tokAt_nl (n : Nat) (r t : List UInt8) (hr : r.length ≤ n) (hne : r.take (wlen r) ≠ []) (hbad : ∀ p e, tokAt n r ≠ .bad p e) :
    tokAt (n + 1 + t.length) (r ++ 10 :: t) = stepApp (10 :: t) (tokAt n r) := by
  have hw := wlen_le r
  have htk : (r ++ 10 :: t).take (wlen r) = r.take (wlen r) := List.take_append_of_le_length hw
  have hN : n + 1 + t.length - (r ++ 10 :: t).length = n - r.length := by simp; omega
  unfold tokAt at hbad ⊢
  rw [wlen_nl, htk, hN]
  by_cases h1 : r.take (wlen r) = [33]
  · rw [if_pos h1, if_pos h1, indexByte_nl]
    have hb := indexByte_lt r 10
    by_cases h2 : Lib.indexByte r 10 < 0
    · rw [if_pos h2, if_pos h2, if_neg (by omega), stepApp, show ((r.length : Int)).toNat = r.length by omega, List.drop_left]
    · rw [if_neg h2, if_neg h2, if_neg h2, stepApp, List.drop_append_of_le_length (by omega)]
  · rw [if_neg h1] at hbad ⊢
    rw [if_neg h1]
    cases hx : r.take (wlen r) with
    | nil => exact absurd hx hne
    | cons c q =>
      rw [hx] at hbad
      dsimp only at hbad ⊢
      have hdrop : (r ++ 10 :: t).drop (wlen r) = r.drop (wlen r) ++ 10 :: t := List.drop_append_of_le_length hw
      have hr0 : 1 ≤ r.length := by
        cases r with
        | nil => simp at hx
        | cons => simp
      by_cases h3 : c = 34
      · rw [if_pos h3] at hbad ⊢
        rw [if_pos h3]
        rw [List.drop_append_of_le_length (l₁ := r) hr0]
        by_cases he : (textL (n - r.length) (r.drop 1) [] (n - r.length + 1)).2.2 = 0
        · rw [textL_app _ _ _ _ _ he]
          have hnx := textL_next _ _ _ _ he
          rw [if_pos he, if_pos he, stepApp, List.drop_append_of_le_length]
          rw [List.length_drop] at hnx; omega
        · rw [if_neg he] at hbad; exact absurd rfl (hbad _ _)
      · rw [if_neg h3] at hbad ⊢
        rw [if_neg h3]
        rw [hdrop]
        cases hd : (digitsR (c :: q)).2.1 with
        | true =>
          rw [hd] at hbad
          rw [if_pos rfl] at hbad ⊢
          cases ho : (digitsR (c :: q)).2.2 with
          | true => rw [ho] at *; simp [stepApp]
          | false => rw [ho] at hbad; simp at hbad
        | false =>
          rw [hd] at hbad
          rw [if_neg (by simp)] at hbad ⊢
          cases ho : nameR (c :: q) with
          | true => rw [ho] at *; simp [stepApp]
          | false => rw [ho] at hbad; simp at hbad
theorem textL_bad (a : Nat) : ∀ (r acc : List UInt8) (i : Nat), (textL a r acc i).2.2 = 0 ∨ (textL a r acc i).2.2 = 9 ∨ (textL a r acc i).2.2 = 11
  | [], acc, i => by simp [textL]
  | c :: r, acc, i => by
    rw [textL_cons]
    by_cases h1 : c = 34
    · rw [if_pos h1]
      by_cases h2 : acc.length > 4096
      · rw [if_pos h2]; simp
      · rw [if_neg h2]; simp
    · rw [if_neg h1]
      by_cases h2 : c = 92
      · rw [if_pos h2]
        match r with
        | [] => simp
        | d' :: r' =>
          dsimp only
          cases he : esc d' with
          | none => simp
          | some e => exact textL_bad a r' _ _
      · rw [if_neg h2]; exact textL_bad a r _ _
theorem tokAt_bad (n : Nat) (r : List UInt8) (p : Int) : tokAt n r ≠ .bad p 0 := by
  intro h
  unfold tokAt at h
  split at h
  · split at h <;> cases h
  · split at h
    · cases h
    · split at h
      · split at h
        · cases h
        · rename_i hne
          injection h with _ h
          exact hne h
      · split at h
        · split at h
          · cases h
          · injection h with _ h; exact absurd h (by decide)
        · split at h
          · cases h
          · injection h with _ h; exact absurd h (by decide)
theorem tokAt_pos {n : Nat} {r l' : List UInt8} {t : Tok} (h : tokAt n r = .tok t l') : 0 ≤ t.pos ∧ t.pos ≤ n := by
  unfold tokAt at h
  split at h
  · split at h <;> cases h
  · split at h
    · cases h
    · split at h
      · split at h
        · injection h with h _; subst h; dsimp only; omega
        · cases h
      · split at h
        · split at h
          · injection h with h _; subst h; dsimp only; omega
          · cases h
        · split at h
          · injection h with h _; subst h; dsimp only; omega
          · cases h
/-- Tokens are only added. -/
theorem toks_len (n : Nat) : ∀ (l : List UInt8) (out : List Tok), (toks n l out).2.2 = 0 → out.length ≤ (toks n l out).1.length := by
  intro l
  induction hm : l.length using Nat.strongRecOn generalizing l with
  | _ m ih =>
    intro out h
    rw [toks_step] at h ⊢
    by_cases e : l = []
    · rw [if_pos e]; exact Nat.le_refl _
    · rw [if_neg e] at h ⊢
      have hl := trimL_le l
      cases hs : tokAt n (trimL l) with
      | stop => exact Nat.le_refl _
      | bad p e' => rw [hs] at h; dsimp only at h; subst h; exact absurd hs (tokAt_bad _ _ _)
      | skip l' =>
        rw [hs] at h
        have := (tokAt_less (.inl hs)).1
        exact ih _ (by omega) l' rfl out h
      | tok t l' =>
        rw [hs] at h
        have := (tokAt_less (.inr ⟨t, hs⟩)).1
        dsimp only at h ⊢
        by_cases hb : out.length ≥ 4096
        · rw [if_pos hb] at h; simp at h
        · rw [if_neg hb] at h ⊢
          have := ih _ (by omega) l' rfl (out ++ [t]) h
          simp at this; omega
def Tok.shift (d : Nat) (t : Tok) : Tok := { t with pos := d + t.pos }
def stepShift (d : Nat) : TStep → TStep
  | .skip l => .skip l
  | .tok t l => .tok (t.shift d) l
  | .bad p e => .bad (d + p) e
  | .stop => .stop
theorem tokAt_shift (n d : Nat) (r : List UInt8) (hr : r.length ≤ n) : tokAt (d + n) r = stepShift d (tokAt n r) := by
  have hN : d + n - r.length = d + (n - r.length) := by omega
  unfold tokAt
  rw [hN]
  by_cases h1 : r.take (wlen r) = [33]
  · rw [if_pos h1, if_pos h1]
    by_cases h2 : Lib.indexByte r 10 < 0
    · rw [if_pos h2, stepShift]
    · rw [if_neg h2, stepShift]
  · rw [if_neg h1, if_neg h1]
    cases hx : r.take (wlen r) with
    | nil => rfl
    | cons c q =>
      dsimp only
      by_cases h3 : c = 34
      · rw [if_pos h3, if_pos h3]
        have hs := textL_shift (n - r.length) d (r.drop 1) [] (n - r.length + 1)
        rw [show d + (n - r.length + 1) = d + (n - r.length) + 1 by omega] at hs
        rw [hs]
        dsimp only
        by_cases he : (textL (n - r.length) (r.drop 1) [] (n - r.length + 1)).2.2 = 0
        · rw [if_pos he, if_pos he, stepShift]
          simp only [Tok.shift]
          congr 2
          omega
        · rw [if_neg he, if_neg he, stepShift]
      · rw [if_neg h3, if_neg h3]
        cases hd : (digitsR (c :: q)).2.1 with
        | true =>
          cases ho : (digitsR (c :: q)).2.2 with
          | true => simp [stepShift, Tok.shift]
          | false => simp [stepShift]
        | false =>
          cases ho : nameR (c :: q) with
          | true => simp [stepShift, Tok.shift]
          | false => simp [stepShift]
/-- The rest of a text, where it stands further behind, and behind other tokens. -/
theorem toks_shift (n d : Nat) : ∀ (m : Nat) (l : List UInt8) (out pre : List Tok), l.length ≤ m → l.length ≤ n → (toks n l out).2.2 = 0 → pre.length + (toks n l out).1.length ≤ 4096 →
    toks (d + n) l (pre ++ out.map (Tok.shift d)) = (pre ++ (toks n l out).1.map (Tok.shift d), 0, 0) := by
  intro m
  induction m with
  | zero =>
    intro l out pre hm hn h hc
    obtain rfl : l = [] := List.length_eq_zero_iff.1 (by omega)
    rfl
  | succ m ih =>
    intro l out pre hm hn h hc
    rw [toks_step] at h hc ⊢
    rw [toks_step n]
    by_cases e : l = []
    · rw [if_pos e, if_pos e]
    · rw [if_neg e] at h hc ⊢
      rw [if_neg e]
      have hl := trimL_le l
      rw [tokAt_shift n d (trimL l) (by omega)]
      cases hs : tokAt n (trimL l) with
      | stop => rfl
      | bad p e' =>
        rw [hs] at h
        dsimp only at h
        subst h
        exact absurd hs (tokAt_bad _ _ _)
      | skip l' =>
        rw [hs] at h hc
        have := (tokAt_less (.inl hs)).1
        exact ih l' out pre (by omega) (by omega) h hc
      | tok t l' =>
        rw [hs] at h hc
        have := (tokAt_less (.inr ⟨t, hs⟩)).1
        dsimp only [stepShift] at h hc ⊢
        by_cases hb : out.length ≥ 4096
        · rw [if_pos hb] at h; simp at h
        · rw [if_neg hb] at h hc ⊢
          have hlen := toks_len n l' (out ++ [t])
          have := ih l' (out ++ [t]) pre (by omega) (by omega) h hc
          rw [if_neg, ← this]
          · simp
          · have h3 := hlen h
            simp at h3 ⊢; omega
theorem toks_run (N : Nat) (l : List UInt8) (out : List Tok) : toks N l out = match tokAt N (trimL l) with
    | .stop => (out, 0, 0)
    | .skip l' => toks N l' out
    | .bad p e => ([], p, e)
    | .tok t l' => if out.length ≥ 4096 then ([], t.pos, 11) else toks N l' (out ++ [t]) := by
  rw [toks_step]
  by_cases e : l = []
  · subst e; rfl
  · rw [if_neg e]
    cases tokAt N (trimL l) <;> rfl
theorem runes_drop_span (p : Nat → Bool) (l : List UInt8) : l.drop (spanR p (runes l)) = [] ∨ p (dec (l.drop (spanR p (runes l)))).1 = true := by
  induction l using runes_ind with
  | h0 => left; rfl
  | h1 l hl ih =>
    rw [runes_cons hl]
    unfold spanR
    cases h : p (dec l).1 with
    | true => right; simpa using h
    | false =>
      simp only [Bool.false_eq_true, if_false]
      rw [← List.drop_drop]
      exact ih
theorem trimL_first {l : List UInt8} (h : trimL l ≠ []) : blankB (dec (trimL l)).1 = false := by
  rcases runes_drop_span (fun r => !blankB r) l with h1 | h1
  · exact absurd h1 h
  · unfold trimL; simpa using h1
theorem word_ne {l : List UInt8} (h : trimL l ≠ []) : (trimL l).take (wlen (trimL l)) ≠ [] := by
  have h1 := trimL_first h
  obtain ⟨h2, h3, _⟩ := dec_pos _ h
  unfold wlen
  rw [runes_cons h, spanR, if_neg (by simp [h1])]
  intro h4
  have := congrArg List.length h4
  simp at this
  rcases this with h5 | h5
  · omega
  · exact h h5
theorem toks_join (n : Nat) (t : List UInt8) : ∀ (m : Nat) (l : List UInt8) (out : List Tok), l.length ≤ m → l.length ≤ n → (toks n l out).2.2 = 0 →
    toks (n + 1 + t.length) (l ++ 10 :: t) out = toks (n + 1 + t.length) t (toks n l out).1 := by
  intro m
  induction m with
  | zero =>
    intro l out hm hn h
    obtain rfl : l = [] := List.length_eq_zero_iff.1 (by omega)
    rw [List.nil_append, toks_run, trimL_nl0, toks_run _ t]
    rfl
  | succ m ih =>
    intro l out hm hn h
    have hl := trimL_le l
    by_cases ht : trimL l = []
    · rw [toks_run n l, ht]
      rw [toks_run, trimL_nl, if_pos ht, toks_run _ t]
      rfl
    · rw [toks_run, trimL_nl, if_neg ht]
      rw [toks_run n l] at h ⊢
      have hb : ∀ p e, tokAt n (trimL l) ≠ .bad p e := by
        intro p e hs
        rw [hs] at h
        dsimp only at h
        subst h
        exact absurd hs (tokAt_bad _ _ _)
      rw [tokAt_nl n (trimL l) t (by omega) (word_ne ht) hb]
      cases hs : tokAt n (trimL l) with
      | stop =>
        dsimp only [stepApp]
        rw [toks_run, trimL_nl0, ← toks_run]
      | bad p e => exact absurd hs (hb p e)
      | skip l' =>
        rw [hs] at h
        have := (tokAt_less (.inl hs)).1
        exact ih l' out (by omega) (by omega) h
      | tok x l' =>
        rw [hs] at h
        have := (tokAt_less (.inr ⟨x, hs⟩)).1
        dsimp only [stepApp] at h ⊢
        by_cases hb : out.length ≥ 4096
        · rw [if_pos hb] at h; simp at h
        · rw [if_neg hb] at h ⊢
          rw [if_neg hb]
          exact ih l' _ (by omega) (by omega) h
theorem toks_ok (n : Nat) : ∀ (l : List UInt8) (out : List Tok), (toks n l out).2.2 = 0 → (toks n l out).2.1 = 0 ∧ (out.length ≤ 4096 → (toks n l out).1.length ≤ 4096) ∧ ((∀ t ∈ out, 0 ≤ t.pos ∧ t.pos ≤ n) → ∀ t ∈ (toks n l out).1, 0 ≤ t.pos ∧ t.pos ≤ n) := by
  intro l
  induction hm : l.length using Nat.strongRecOn generalizing l with
  | _ m ih =>
    intro out h
    rw [toks_step] at h ⊢
    by_cases e : l = []
    · rw [if_pos e]; exact ⟨rfl, id, id⟩
    · rw [if_neg e] at h ⊢
      have hl := trimL_le l
      cases hs : tokAt n (trimL l) with
      | stop => exact ⟨rfl, id, id⟩
      | bad p e' => rw [hs] at h; dsimp only at h; subst h; exact absurd hs (tokAt_bad _ _ _)
      | skip l' =>
        rw [hs] at h
        have := (tokAt_less (.inl hs)).1
        exact ih _ (by omega) l' rfl out h
      | tok t l' =>
        rw [hs] at h
        have := (tokAt_less (.inr ⟨t, hs⟩)).1
        dsimp only at h ⊢
        by_cases hb : out.length ≥ 4096
        · rw [if_pos hb] at h; simp at h
        · rw [if_neg hb] at h ⊢
          obtain ⟨h1, h2, h3⟩ := ih _ (by omega) l' rfl (out ++ [t]) h
          refine ⟨h1, fun _ => h2 (by simp; omega), fun ho => h3 ?_⟩
          intro x hx
          rcases List.mem_append.1 hx with hx | hx
          · exact ho x hx
          · rw [List.mem_singleton.1 hx]
            exact tokAt_pos hs
theorem tokens_ok (s : List UInt8) (h : (tokensR s).2.2 = 0) : s.length ≤ 65536 ∧ (tokensR s).2.1 = 0 ∧ (tokensR s).1.length ≤ 4096 ∧ ∀ t ∈ (tokensR s).1, 0 ≤ t.pos ∧ t.pos ≤ s.length := by
  unfold tokensR at h ⊢
  by_cases hs : s.length > 65536
  · rw [if_pos hs] at h; simp at h
  · rw [if_neg hs] at h ⊢
    cases f1 : faultR s with
    | some i => rw [f1] at h; simp at h
    | none =>
      rw [f1] at h
      obtain ⟨h1, h2, h3⟩ := toks_ok s.length s [] h
      exact ⟨by omega, h1, h2 (by simp), h3 (by simp)⟩
/-- Two texts, a line's end between. -/
theorem tokens_join {s t : List UInt8} (hs : (tokensR s).2.2 = 0) (ht : (tokensR t).2.2 = 0) (hlen : s.length + t.length < 65536) (hcnt : (tokensR s).1.length + (tokensR t).1.length ≤ 4096) :
    tokensR (s ++ 10 :: t) = ((tokensR s).1 ++ (tokensR t).1.map (Tok.shift (s.length + 1)), 0, 0) := by
  unfold tokensR at hs ht hcnt ⊢
  rw [if_neg (by omega)] at hs ht
  rw [if_neg (show ¬ s.length > 65536 by omega), if_neg (show ¬ t.length > 65536 by omega)] at hcnt ⊢
  rw [if_neg (by simp; omega)]
  cases f1 : faultR s with
  | some i => rw [f1] at hs; simp at hs
  | none =>
    cases f2 : faultR t with
    | some i => rw [f2] at ht; simp at ht
    | none =>
      rw [f1] at hs hcnt
      rw [f2] at ht hcnt
      rw [(faultR_app s 10 t (by decide)).2 ⟨f1, f2⟩]
      dsimp only at hs ht hcnt ⊢
      have h1 := toks_join s.length t s.length s [] (Nat.le_refl _) (Nat.le_refl _) hs
      rw [show (s ++ 10 :: t).length = s.length + 1 + t.length by simp; omega, h1]
      have h2 := toks_shift t.length (s.length + 1) t.length t [] (toks s.length s []).1 (Nat.le_refl _) (Nat.le_refl _) ht hcnt
      simpa using h2
end Go.Proofs.YtbmplclnondfnaaDoor

namespace Go.Proofs.YtbmplclnondfnaaDoor
open Go Go.Av
theorem f_read1_ok (b4 b5 : Nat) (st : St) {K : St → Prop} (k : K st) : DCalls Tryd.prog 50 [.ptr b4 0, .ptr b5 0] st none K := by
  refine DCalls.use (s := []) (R := st) (K := fun st' => st' = []) ?_ (.refl _) (fun s' h => by rw [h]; exact k)
  refine DCalls.of_Ws tb_ok (fn := Tryd.f50) (n := 20) (by kernel_rfl) rfl (by kernel_rfl) rfl rfl (by simp) (go ?_)
  refine VRet.mk [] .nil ?_
  rfl
theorem f_read1_panic (b4 b5 : Nat) (x y : AV) (e : PE) : DCalls Tryd.prog 50 [.ptr b4 0, .ptr b5 0] [(b4, .box [x]), (b5, .box [y])] (some (faultAV e)) fun st' => st' = [(b4, .box [.int .i64 e.1]), (b5, .box [.int .i64 e.2])] := by
  refine DCalls.of_Ws tb_ok (fn := Tryd.f50) (n := 20) (by kernel_rfl) rfl (by kernel_rfl) rfl rfl (by simp) (go ?_)
  refine VAll.mk (fun b3 => go ?_)
  refine VDraw.all (go ?_)
  refine VAny.mk Unit [] (fun _ => []) (fun _ => [(b3, .box [.int .i64 e.1, .int .i64 e.2]), (b4, .box [.int .i64 e.1]), (b5, .box [.int .i64 e.2])]) ?_ fun _ => ?_
  · exact anyd
  refine go ?_
  exact VRet.mk [(b4, .box [.int .i64 e.1]), (b5, .box [.int .i64 e.2])] (.cons 1 rfl (.cons 1 rfl .nil)) rfl
def defV (d : DefT) : AV := .agg [.str d.name, .int .i64 d.inn, .int .i64 d.out, .fz (itemAVs d.body) d.body.length false]
theorem namesR_less {fin : Int} {shut : List UInt8} : ∀ {k : Nat} {s : RS} {n : Nat} {x : Nat × RS}, namesR fin shut k s n = .ok x → x.2.l.length < s.l.length ∧ x.2.opn = s.opn ∧ x.2.sz = s.sz
  | 0, s, n, x, h => by simp [namesR] at h
  | k + 1, s, n, x, h => by
    rw [namesR] at h
    split at h
    · split at h
      · cases h
      · rename_i t s' ht
        cases h
        exact takeR_less ht
    · split at h
      · cases h
      · rename_i w s' hw
        have h1 := wordR_less hw
        dsimp only at h1
        split at h
        · cases h
        · have h2 := namesR_less h
          omega
theorem defineR_less {fin p : Int} {s : RS} {x : DefT × RS} (h : defineR fin p s = .ok x) : Less s x.2 True := by
  unfold defineR at h
  split at h
  · cases h
  · rename_i s1 h1
    have l1 := enterR_ok h1
    split at h
    · cases h
    · rename_i nm s2 h2
      have l2 := wordR_less h2
      split at h
      · cases h
      · rename_i _ s3 h3
        have l3 := wordR_less h3
        split at h
        · cases h
        · rename_i i s4 h4
          have l4 := namesR_less h4
          split at h
          · cases h
          · rename_i o s5 h5
            have l5 := namesR_less h5
            split at h
            · cases h
            · rename_i bd s6 h6
              have l6 := (parse_less fin _).2.2.1 _ _ _ _ h6
              have l7 := l6.opn
              have l8 := l6.lt trivial
              cases h
              dsimp only at l2 l3 l4 l5 l7 l8
              have l9 : s1.l.length = s.l.length := by rw [l1.1]
              exact ⟨by dsimp only; omega, by dsimp only; omega, fun hs => l6.sz (by have := l1.2.2.2 hs; omega), fun _ => by dsimp only; omega⟩
set_option maxHeartbeats 800000 in
theorem f_define (fin b : Nat) (p : Int) (s : RS) (hs : RsOk s) : RFn 23 [.int .i64 p] fin b s (defineR fin p s) defV := by
  obtain ⟨R, hR⟩ : ∃ R, R = defineR fin p s := ⟨_, rfl⟩
  rw [← hR]
  unfold defineR at hR
  unfold RFn
  refine ACalls.of_W tb_ok (fn := Tryd.f23) (n := 33) (by kernel_rfl) rfl (by kernel_rfl) rfl rfl (by simp) (go ?_)
  refine VAll.mk (fun b4 => go ?_)
  refine (f_enter fin b p s ⟨hs.opn, hs.sz⟩).use (.swap _ _ _) ?_
  cases h1 : enterR p s with
  | error e =>
    rw [h1] at hR
    dsimp only at hR
    subst hR
    refine go ?_
    exact VRet.mk [] .nil ⟨rfl, rfl⟩
  | ok s1 =>
    rw [h1] at hR
    dsimp only at hR
    obtain ⟨a1, a2, a3, a4⟩ := enterR_ok h1
    have a5 : s1.l.length = s.l.length := by rw [a1]
    refine go ?_
    refine (f_word fin b [] s1).use (.refl _) ?_
    cases h2 : wordR fin [] s1 with
    | error e =>
      rw [h2] at hR
      dsimp only at hR
      subst hR
      refine go ?_
      exact VRet.mk [] .nil ⟨rfl, rfl⟩
    | ok x2 =>
      obtain ⟨nm, s2⟩ := x2
      rw [h2] at hR
      dsimp only at hR
      have l2 := wordR_less h2
      refine go ?_
      refine VAll.mk (fun b5 => go ?_)
      refine (f_word fin b [40] s2).use (.swap _ _ _) ?_
      cases h3 : wordR fin [40] s2 with
      | error e =>
        rw [h3] at hR
        dsimp only at hR
        subst hR
        refine go ?_
        exact VRet.mk [] .nil ⟨rfl, rfl⟩
      | ok x3 =>
        obtain ⟨w3, s3⟩ := x3
        rw [h3] at hR
        dsimp only at hR
        have l3 := wordR_less h3
        refine go ?_
        refine (f_names fin b [45, 45] s3).use (.refl _) ?_
        cases h4 : namesR fin [45, 45] (fuel s3) s3 0 with
        | error e =>
          rw [h4] at hR
          dsimp only at hR
          subst hR
          refine go ?_
          exact VRet.mk [] .nil ⟨rfl, rfl⟩
        | ok x4 =>
          obtain ⟨n4, s4⟩ := x4
          rw [h4] at hR
          dsimp only at hR
          have l4 := namesR_less h4
          refine go ?_
          refine (f_names fin b [41] s4).use (.refl _) ?_
          cases h5 : namesR fin [41] (fuel s4) s4 0 with
          | error e =>
            rw [h5] at hR
            dsimp only at hR
            subst hR
            refine go ?_
            exact VRet.mk [] .nil ⟨rfl, rfl⟩
          | ok x5 =>
            obtain ⟨n5, s5⟩ := x5
            rw [h5] at hR
            dsimp only at hR
            have l5 := namesR_less h5
            dsimp only at l2 l3 l4 l5
            have hs5 : RsOk s5 := ⟨by omega, by have := a4 hs.sz; omega, by have := hs.cnt; omega⟩
            refine go ?_
            refine (f_items fin b [59] s5 hs5).use (.refl _) ?_
            cases h6 : itemsR fin (fuel s5) [59] s5 [] with
            | error e =>
              rw [h6] at hR
              dsimp only at hR
              subst hR
              refine go ?_
              exact VRet.mk [] .nil ⟨rfl, rfl⟩
            | ok x6 =>
              obtain ⟨bd, s6⟩ := x6
              rw [h6] at hR
              dsimp only at hR
              subst hR
              have l6 := ((parse_less fin _).2.2.1 _ _ _ _ h6).opn
              dsimp only at l6
              have hop := hs5.opn
              refine go ?_
              refine VInt.to ((s6.opn - 1 : Nat) : Int) (by dsimp only; omega) (by omega) (by omega) (go ?_)
              exact VRet.mk [rbox fin b ⟨s6.l, s6.opn - 1, s6.sz⟩] (.cons 0 rfl .nil) ⟨by simp [defV], rfl⟩
/-- What a function that reads does. -/
def WhatR {α : Type} (fin b : Nat) (res : PR α) (stx : α → St → Prop) (out : AOut) (st : St) : Prop := match res with
  | .error e => out = .panic (faultAV e) ∧ st = []
  | .ok x => out = .ret (.tup []) ∧ ∃ st', st = rbox fin b x.2 :: st' ∧ stx x.1 st'
def ReadR {α : Type} (s : List UInt8) (stc : St) (what : RS → PR α) (stx : α → St → Prop) (out : AOut) (st : St) : Prop :=
  if (tokensR s).2.2 ≠ 0 then out = .ret (.tup [.int .i64 (tokensR s).2.1, .int .i64 (tokensR s).2.2]) ∧ st = stc else match what ⟨(tokensR s).1, 0, 0⟩ with
    | .error e => out = .ret (.tup [.int .i64 e.1, .int .i64 e.2]) ∧ st = []
    | .ok x => if x.2.l ≠ [] then out = .ret (.tup [.int .i64 (atR s.length x.2.l), .int .i64 9]) ∧ st = [] else out = .ret (.tup [.int .i64 0, .int .i64 0]) ∧ stx x.1 st
set_option maxHeartbeats 800000 in
theorem f_read {α : Type} (s : List UInt8) (f : Nat) (cap : List AV) (stc : St) (what : RS → PR α) (stx : α → St → Prop) (hsl : s.length ≤ 140737488351232)
    (hw : ∀ b, (tokensR s).2.2 = 0 → ACalls Tryd.prog f (.ptr b 0 :: cap) (rbox s.length b ⟨(tokensR s).1, 0, 0⟩ :: stc) (WhatR s.length b (what ⟨(tokensR s).1, 0, 0⟩) stx)) :
    ACalls Tryd.prog 20 [.str s, .fn (.func f) [] cap] stc (ReadR s stc what stx) := by
  have ft := f_Tokens s
  unfold ReadR
  generalize tokensR s = T at ft hw
  obtain ⟨l, p, e⟩ := T
  dsimp only at ft hw
  refine ACalls.of_Wd tb_ok (fn := Tryd.f20) (n := 36) (by kernel_rfl) rfl (by kernel_rfl) rfl rfl (by simp) (go ?_)
  refine VAll.mk (fun b4 => go ?_)
  refine VAll.mk (fun b5 => go ?_)
  refine Fn.use (ft) (go ?_)
  refine fork (fun he => go ?_) (fun he => go ?_)
  · refine VDraw.all (go ?_)
    refine VAny.mk Unit [] (fun _ => []) (fun _ => (b5, .box [.int .i64 e]) :: (b4, .box [.int .i64 p]) :: stc) ?_ fun _ => ?_
    · exact anyd
    refine go ?_
    refine VRet.mk stc (((VSel.refl stc).skip _).skip _) ?_
    rw [if_pos he]
    exact ⟨rfl, rfl⟩
  · refine VAll.mk (fun b => go ?_)
    have he : e = 0 := by simpa using he
    have hw := hw b he
    refine VFz.all _ ?_
    refine go ?_
    refine ACalls.usep (R := [(b5, .box [.int .i64 e]), (b4, .box [.int .i64 p])]) hw (.cons _ List.perm_append_comm) ?_
    intro out s' hq
    cases hr : what ⟨l, 0, 0⟩ with
    | error e' =>
      rw [hr] at hq
      obtain ⟨rfl, rfl⟩ := hq
      refine go ?_
      refine DCalls.use (R := []) (f_read1_panic b4 b5 (.int .i64 p) (.int .i64 e) e') (.swap _ _ _) ?_
      intro s' hs'
      subst hs'
      refine go ?_
      refine VRet.mk [] .nil ?_
      rw [if_neg (by simp [he])]
      exact ⟨rfl, rfl⟩
    | ok x =>
      rw [hr] at hq
      obtain ⟨rfl, st', rfl, hx⟩ := hq
      refine go ?_
      refine fork (fun hlen => go ?_) (fun hlen => go ?_)
      · refine (f_at s.length b x.2).use (R := (b5, .box [.int .i64 e]) :: (b4, .box [.int .i64 p]) :: st') ?_ (go ?_)
        · exact (List.Perm.swap _ _ _).trans (.cons _ (.swap _ _ _))
        refine fails (go ?_)
        refine DCalls.use (R := rbox s.length b x.2 :: st') (f_read1_panic b4 b5 (.int .i64 p) (.int .i64 e) (atR s.length x.2.l, 9)) ?_ ?_
        · exact (List.Perm.swap _ _ _).trans ((List.Perm.cons _ (.swap _ _ _)).trans (.swap _ _ _))
        intro s' hs'
        subst hs'
        refine go ?_
        refine VRet.mk [] .nil ?_
        rw [if_neg (by simp [he])]
        dsimp only
        rw [if_pos (by intro h; rw [h] at hlen; simp at hlen)]
        exact ⟨rfl, rfl⟩
      · refine f_read1_ok b4 b5 _ (go ?_)
        refine VRet.mk st' (((VSel.refl st').skip _).skip _ |>.skip _) ?_
        rw [if_neg (by simp [he])]
        dsimp only
        rw [if_neg (by simp; exact List.length_eq_zero_iff.1 (by omega))]
        exact ⟨rfl, hx⟩
structure OnI where
  k : Nat
  s : RS
  acc : List Tree
  o : Option Nat
/-- The list of items that is made. -/
def ItemsSt (bl : Nat) (acc : List Tree) (st : St) : Prop := ∃ o : Option Nat, st = (bl, .box [accV o acc.length]) :: accS o 1 (itemAVs acc) ∧ (o = none → acc = [])
set_option maxHeartbeats 800000 in
theorem f_Items1 (fin b bl : Nat) (s : RS) (hs : RsOk s) : ACalls Tryd.prog 39 [.ptr b 0, .ptr bl 0] [rbox fin b s, (bl, .box [.nils])] (WhatR fin b (onlyR fin (s.l.length + 1) s []) (ItemsSt bl)) := by
  obtain ⟨R, hR⟩ : ∃ R, R = onlyR fin (s.l.length + 1) s [] := ⟨_, rfl⟩
  rw [← hR]
  refine ACalls.of_W tb_ok (fn := Tryd.f39) (n := 16) (by kernel_rfl) rfl (by kernel_rfl) rfl rfl (by simp) (go ?_)
  refine VLoop.mk [] OnI (fun i => []) (fun i => rbox fin b i.s :: (bl, .box [accV i.o i.acc.length]) :: accS i.o 1 (itemAVs i.acc))
    (fun i => R = onlyR fin i.k i.s i.acc ∧ i.s.l.length < i.k ∧ RsOk i.s ∧ (i.o = none → i.acc = []) ∧ i.acc.length + i.s.l.length ≤ 4096) (fun i => i.k) ⟨s.l.length + 1, s, [], none⟩ ?_ ?_
  · exact ⟨⟨hR, by simp, hs, by simp, by have := hs.cnt; simp; omega⟩, rfl, .cons 0 rfl (.cons 0 rfl .nil)⟩
  clear hR
  rintro ⟨j, q, acc, o⟩ ⟨hI, hq, hqs, ho, hac⟩
  dsimp only at hI hq hqs ho hac ⊢
  obtain ⟨j, rfl⟩ : ∃ m, j = m + 1 := ⟨j - 1, by omega⟩
  rw [onlyR] at hI
  refine go ?_
  refine (f_item fin b q hqs).use (.refl _) ?_
  cases hlr : itemR fin (fuel q) q with
  | error e =>
    rw [hlr] at hI
    dsimp only at hI
    subst hI
    refine go ?_
    exact VRet.mk [] .nil ⟨rfl, rfl⟩
  | ok x =>
    obtain ⟨y, q'⟩ := x
    rw [hlr] at hI
    obtain ⟨hls, hsame⟩ := (parse_less fin _).2.1 _ _ hlr
    cases y with
    | none =>
      dsimp only at hI
      subst hI
      refine go ?_
      exact VRet.mk (rbox fin b q' :: (bl, .box [accV o acc.length]) :: accS o 1 (itemAVs acc)) (VSel.refl _) ⟨rfl, _, rfl, o, rfl, ho⟩
    | some y =>
      dsimp only at hI
      have hlt := hls.lt (by simp)
      have hop := hls.opn
      dsimp only at hlt hop
      refine go ?_
      cases o with
      | none =>
        have hacc := ho rfl
        subst hacc
        refine go ?_
        refine VOne.mk (itemAV_one y) (go ?_)
        refine VAll.mk (fun b2 => go ?_)
        refine ⟨⟨j, q', [y], some b2⟩, ⟨hI, by dsimp only; omega, ⟨by rw [hop]; exact hqs.opn, hls.sz hqs.sz, by have := hqs.cnt; dsimp only; omega⟩, by simp, by simp at hac ⊢; omega⟩, by dsimp only; omega, rfl, ?_⟩
        exact .cons 1 rfl (.cons 1 rfl (.cons 0 (by simp [itemAVs_map]) .nil))
      | some bo =>
        refine go ?_
        refine VOne.mk (itemAV_one y) (go ?_)
        refine VGd.mk (by simp; omega) (go ?_)
        refine VAll.mk (fun b2 => go ?_)
        refine ⟨⟨j, q', acc ++ [y], some b2⟩, ⟨hI, by dsimp only; omega, ⟨by rw [hop]; exact hqs.opn, hls.sz hqs.sz, by have := hqs.cnt; dsimp only; omega⟩, by simp, by simp at hac ⊢; omega⟩, by dsimp only; omega, rfl, ?_⟩
        exact .cons 1 rfl (.cons 1 (by simp [accV]) (.cons 0 (by simp [itemAVs_snoc, List.take_of_length_le]) .nil))
theorem start_ok (s : List UInt8) (h : (tokensR s).2.2 = 0) (hcnt : (tokensR s).1.length ≤ 4096) : RsOk ⟨(tokensR s).1, 0, 0⟩ := ⟨by simp, by simp, hcnt⟩
/-- What Items and Parse make of a reading. -/
theorem readR_err {α : Type} {s : List UInt8} {what : RS → PR (List α)} (h : (tokensR s).2.2 ≠ 0) : readR s what = ([], (tokensR s).2.1, (tokensR s).2.2) := by rw [readR, if_pos h]
set_option maxHeartbeats 800000 in
theorem f_ItemsAll (s : List UInt8) (hsl : s.length ≤ 140737488351232) : Av.Fn Tryd.prog 15 [.str s] (.tup [.fz (itemAVs (itemsOnlyR s).1) (itemsOnlyR s).1.length false, .int .i64 (itemsOnlyR s).2.1, .int .i64 (itemsOnlyR s).2.2]) := by
  refine ACalls.of_W tb_ok (fn := Tryd.f15) (n := 19) (by kernel_rfl) rfl (by kernel_rfl) rfl rfl (by simp) (go ?_)
  refine VAll.mk (fun bl => go ?_)
  have hr := f_read (α := List Tree) s 39 [.ptr bl 0] [(bl, .box [.nils])] (fun r => onlyR s.length (r.l.length + 1) r []) (ItemsSt bl) hsl (fun b h => f_Items1 s.length b bl _ (start_ok s h (tokens_ok s h).2.2.1))
  refine ACalls.use (R := []) hr (.refl _) ?_
  intro out s' hq
  unfold ReadR at hq
  by_cases he : (tokensR s).2.2 ≠ 0
  · rw [if_pos he] at hq
    have hI : itemsOnlyR s = ([], (tokensR s).2.1, (tokensR s).2.2) := by rw [itemsOnlyR, readR, if_pos he]
    obtain ⟨rfl, rfl⟩ := hq
    refine go ?_
    refine VIf.yes (by simpa using he) (go ?_)
    refine VRet.mk [] .nil ?_
    rw [hI]; exact ⟨rfl, rfl⟩
  · rw [if_neg he] at hq
    dsimp only at hq
    have hI : itemsOnlyR s = finR s.length (onlyR s.length ((tokensR s).1.length + 1) ⟨(tokensR s).1, 0, 0⟩ []) := by rw [itemsOnlyR, readR, if_neg he]
    cases hw : onlyR s.length ((tokensR s).1.length + 1) ⟨(tokensR s).1, 0, 0⟩ [] with
    | error e =>
      rw [hw] at hq hI
      obtain ⟨rfl, rfl⟩ := hq
      refine go ?_
      have hne : e.2 ≠ 0 := onlyR_err hw
      refine VIf.yes (by simpa using hne) (go ?_)
      refine VRet.mk [] .nil ?_
      rw [hI]; exact ⟨rfl, rfl⟩
    | ok x =>
      obtain ⟨l, q⟩ := x
      rw [hw] at hq hI
      unfold finR at hI
      dsimp only at hq hI
      by_cases hl : q.l ≠ []
      · rw [if_pos hl] at hq hI
        obtain ⟨rfl, rfl⟩ := hq
        refine go ?_
        refine VRet.mk [] .nil ?_
        rw [hI]; exact ⟨rfl, rfl⟩
      · rw [if_neg hl] at hq hI
        obtain ⟨rfl, o, rfl, ho⟩ := hq
        cases o with
        | none =>
          have ho := ho rfl
          subst ho
          refine go ?_
          refine VRet.mk [] .nil ?_
          rw [hI]; exact ⟨by simp [itemAVs_map], rfl⟩
        | some bo =>
          refine go ?_
          refine VRet.mk [] .nil ?_
          rw [hI]; exact ⟨by simp [List.take_of_length_le], rfl⟩
def FormT.cells : FormT → List AV
  | .define d => [.bool true, .str d.name, .int .i64 d.inn, .int .i64 d.out, .fz (itemAVs d.body) d.body.length false, .nili]
  | .item t => [.bool false, .str [], .int .i64 0, .int .i64 0, .fz [] 0 false, itemAV t]
def formsC (l : List FormT) : List AV := (l.map FormT.cells).flatten
@[simp] theorem formsC_length (l : List FormT) : (formsC l).length = l.length * 6 := by
  induction l with
  | nil => rfl
  | cons t l ih =>
    show (t.cells ++ formsC l).length = _
    rw [List.length_append, ih]
    cases t <;> simp [FormT.cells] <;> omega
theorem formsC_snoc (l : List FormT) (t : FormT) : formsC (l ++ [t]) = formsC l ++ t.cells := by simp [formsC]
theorem take_formsC (l : List FormT) : (formsC l).take (l.length * 6) = formsC l := List.take_of_length_le (by simp)
structure FoI where
  k : Nat
  s : RS
  acc : List FormT
  o : Option Nat
def FormsSt (bl : Nat) (acc : List FormT) (st : St) : Prop := ∃ o : Option Nat, st = (bl, .box [accV o acc.length]) :: accS o 6 (formsC acc) ∧ (o = none → acc = [])
end Go.Proofs.YtbmplclnondfnaaDoor
