/- Lex: digits, numbers. Lex: Name. The tokens of a text, as plain Lean tells them. Conditions: none. What parse reads, as plain Lean tells it. Conditions: none. Lex: Tokens. The reader of parse: its small steps. Conditions: as each says. The trees of values and items: the walks. Conditions: as each says. What parse reads is taken away: plain Lean. Conditions: none. parse: literal, item, items. Conditions: as each says. Tokens of texts that stand one behind the other: plain Lean. Conditions: as each says. parse: define, read, Items, Parse. Conditions: as each says. Forms as the reference's: DefTree, FormTrees, SameDef, SameForms. Conditions: as each says. The reference's Chars and Bad. The reference's Blank. The reference's numbers. The reference's names. The reference's Measure, Sound, Bare, Name. Conditions: as each says. term.Name, term.measure, term.item, term.Check: the walks. Conditions: as each says. measure and the reference's Measure: plain Lean. Conditions: as each says. -/
import Derived.Test.YthhonmkmmalfjaaGreatDoorX7
import Derived.Test.YthhonmkmmalfjaaGreatDoorX4
set_option linter.all false
set_option maxRecDepth 20000
namespace Go.Proofs.YthhonmkmmalfjaaGreatDoor
open Go Go.Av
/-- A character as a digit: its value, its script's nought. -/
def digR (r : Int) : Option (Int × Int) :=
  if 48 ≤ r ∧ r ≤ 57 then some (r - 48, 48) else if 1632 ≤ r ∧ r ≤ 1641 then some (r - 1632, 1632) else if 65296 ≤ r ∧ r ≤ 65305 then some (r - 65296, 65296) else none
def digV : Option (Int × Int) → AV
  | none => .tup [.int .i64 0, .int .i32 0, .bool false]
  | some (d, z) => .tup [.int .i64 d, .int .i32 z, .bool true]
theorem digOf_eq (r : Int) : digOf r zeros = digV (digR r) := by
  simp only [digOf, zeros, digR]
  repeat' split
  all_goals first | rfl | omega
theorem digR_bound {r d z : Int} (h : digR r = some (d, z)) : 0 ≤ d ∧ d ≤ 9 ∧ 48 ≤ z ∧ z ≤ 65296 ∧ r = z + d := by
  unfold digR at h
  repeat' split at h
  all_goals simp at h
  all_goals omega
/-- The digits of a number, one behind the other: what has been read, is it small enough, its script. -/
def digLoop : List Nat → Int → Bool → Int → Option (Int × Bool × Int)
  | [], n, ok, z => some (n, ok, z)
  | r :: rs, n, ok, z => match digR r with
    | none => none
    | some (d, z') => if 0 ≤ z ∧ z' ≠ z then none else
      if n > (1152921504606846976 - d) / 10 then digLoop rs d false z' else digLoop rs (10 * n + d) ok z'
def minusB (l : List UInt8) : Bool := begins l [45] || begins l [226, 136, 146]
def digitsR (l : List UInt8) : Int × Bool × Bool :=
  match digLoop ((runes (if minusB l then l.drop (dec l).2 else l)).map (·.1)) 0 true (-1) with
  | none => (0, false, false)
  | some (n, ok, z) => (if minusB l then -n else n, decide (0 ≤ z), ok && decide ((if minusB l then -n else n) ≤ 1152921504606846975))
theorem decodeGo_eq {l : List UInt8} (h : l ≠ []) : Lib.decodeGo ⟨⟨l⟩⟩ = dec l := by
  unfold Lib.decodeGo dec
  rw [if_neg]
  intro e
  exact h (List.length_eq_zero_iff.1 e)
theorem begins_ne {l p : List UInt8} (hp : p ≠ []) (h : begins l p = true) : l ≠ [] := by
  intro e; subst e
  simp [begins] at h
  exact hp h
theorem digitsR_some {l l' : List UInt8} {n z : Int} {ok : Bool} (hl : l' = if minusB l then l.drop (dec l).2 else l) (h : digLoop ((runes l').map (·.1)) 0 true (-1) = some (n, ok, z)) :
    digitsR l = (if minusB l then -n else n, decide (0 ≤ z), ok && decide ((if minusB l then -n else n) ≤ 1152921504606846975)) := by
  subst hl; simp only [digitsR, h]
theorem digitsR_none {l l' : List UInt8} (hl : l' = if minusB l then l.drop (dec l).2 else l) (h : digLoop ((runes l').map (·.1)) 0 true (-1) = none) : digitsR l = (0, false, false) := by
  subst hl; simp only [digitsR, h]
theorem f29_digR (r : Int) (hr : -2147483648 ≤ r ∧ r ≤ 2147483647) : Av.Fn Tryz.prog 78 [.int .i32 r] (digV (digR r)) := by
  rw [← digOf_eq]; exact f29_of r hr

/-- What Number says: the number, the error. -/
def numberR (l : List UInt8) : Int × Int :=
  if (digitsR l).2.1 then (if (digitsR l).2.2 then ((digitsR l).1, 0) else (0, 11)) else (0, 9)
structure DigI where
  p : Nat
  n : Int
  ok : Bool
  z : Int


theorem f17_of (l : List UInt8) : Av.Fn Tryz.prog 64 [.str l] (.tup [.int .i64 (digitsR l).1, .bool (digitsR l).2.1, .bool (digitsR l).2.2]) := by
  refine ACalls.of_W tb_ok (fn := Tryz.f64) (n := 72) (by kernel_rfl) rfl (by kernel_rfl) rfl rfl (by simp) (go ?_)
  have g1 := fn_HasPrefix l [45]
  have g2 := fn_HasPrefix l [226, 136, 146]
  cases h1 : begins l [45] with
  | true =>
    rw [h1] at g1
    refine Fn.use (g1) (go ?_)
    have hne := begins_ne (by simp) h1
    have hd := dec_pos l hne
    have hm : minusB l = true := by simp [minusB, h1]
    have fd := fn_Decode l
    rw [decodeGo_eq hne] at fd
    refine Fn.use (fd) (go ?_)
    obtain ⟨l', hl'⟩ : ∃ l', l' = l.drop (dec l).2 := ⟨_, rfl⟩
    rw [← hl']
    replace hl' : l' = if minusB l then l.drop (dec l).2 else l := by rw [if_pos hm]; exact hl'
    refine go ?_
    refine VAll.mk (fun b => go ?_)
    refine VLoop.mk [2, 4, 8] DigI (fun i => [.int .i64 i.n, .bool i.ok, .int .i32 i.z]) (fun i => [(b, .siter l' i.p)])
      (fun i => i.p ≤ l'.length ∧ (0 ≤ i.n ∧ i.n ≤ 1152921504606846976) ∧ (-1 ≤ i.z ∧ i.z ≤ 65296) ∧ digLoop ((runes (l'.drop i.p)).map (·.1)) i.n i.ok i.z = digLoop ((runes l').map (·.1)) 0 true (-1)) (fun i => l'.length - i.p) ⟨0, 0, true, -1⟩ ?_ ?_
    · exact ⟨⟨by simp, by simp, by simp, by simp⟩, rfl, .cons 0 rfl .nil⟩
    rintro ⟨p, n, ok, z⟩ ⟨hp, hn, hz, hI⟩
    dsimp only at hp hn hz hI ⊢
    refine go ?_
    refine fork (fun hlt => go ?_) (fun hlt => go ?_)
    · have hne' : l'.drop p ≠ [] := by simp; omega
      have hc := dec_pos _ hne'
      have hru := runes_cons hne'
      rw [← dec_at] at hc hru
      generalize hdc : Utf8.decode ⟨⟨l'⟩⟩ p = c
      rw [hdc] at hc hru
      rw [List.length_drop] at hc
      rw [List.drop_drop] at hru
      rw [hru, List.map_cons, digLoop] at hI
      obtain ⟨r, k⟩ := c
      dsimp only at hc hru hI ⊢
      refine Fn.use (f29_digR r (by omega)) (go ?_)
      cases hd : digR r with
      | none =>
        rw [hd] at hI
        dsimp only at hI
        refine go ?_
        refine VRet.mk [] .nil ?_
        rw [digitsR_none (l := l) hl' hI.symm]
        simp
      | some dz =>
        obtain ⟨d, z'⟩ := dz
        have hb := digR_bound hd
        rw [hd] at hI
        dsimp only at hI
        refine go ?_
        refine fork (fun hz0 => go ?_) (fun hz0 => go ?_)
        · refine fork (fun hz1 => go ?_) (fun hz1 => go ?_)
          · rw [if_pos ⟨hz0, hz1⟩] at hI
            refine VRet.mk [] .nil ?_
            rw [digitsR_none (l := l) hl' hI.symm]
            simp
          · have hz1 : z' = z := hz1
            rw [if_neg (by simp [hz1])] at hI
            rw [Int.tdiv_eq_ediv_of_nonneg (by omega)]
            refine go ?_
            refine fork (fun hgt => go ?_) (fun hgt => go ?_)
            · rw [if_pos (by omega)] at hI
              refine ⟨⟨p + k, 10 * 0 + d, false, z'⟩, ⟨?_, ?_, ?_, ?_⟩, ?_, rfl, .cons 0 rfl .nil⟩
              · dsimp only; omega
              · dsimp only; omega
              · dsimp only; omega
              · dsimp only; rw [show (10 * 0 + d : Int) = d by omega]; exact hI
              · dsimp only; omega
            · rw [if_neg (by omega)] at hI
              refine ⟨⟨p + k, 10 * n + d, ok, z'⟩, ⟨?_, ?_, ?_, ?_⟩, ?_, rfl, .cons 0 rfl .nil⟩
              · dsimp only; omega
              · dsimp only; omega
              · dsimp only; omega
              · exact hI
              · dsimp only; omega
        · rw [if_neg (fun h => hz0 h.1)] at hI
          rw [Int.tdiv_eq_ediv_of_nonneg (by omega)]
          refine go ?_
          refine fork (fun hgt => go ?_) (fun hgt => go ?_)
          · rw [if_pos (by omega)] at hI
            refine ⟨⟨p + k, 10 * 0 + d, false, z'⟩, ⟨?_, ?_, ?_, ?_⟩, ?_, rfl, .cons 0 rfl .nil⟩
            · dsimp only; omega
            · dsimp only; omega
            · dsimp only; omega
            · dsimp only; rw [show (10 * 0 + d : Int) = d by omega]; exact hI
            · dsimp only; omega
          · rw [if_neg (by omega)] at hI
            refine ⟨⟨p + k, 10 * n + d, ok, z'⟩, ⟨?_, ?_, ?_, ?_⟩, ?_, rfl, .cons 0 rfl .nil⟩
            · dsimp only; omega
            · dsimp only; omega
            · dsimp only; omega
            · exact hI
            · dsimp only; omega
    · rw [List.drop_eq_nil_of_le (by omega), runes_nil, List.map_nil, digLoop] at hI
      rw [digitsR_some (l := l) hl' hI.symm]
      cases hok : ok with
      | true =>
        refine go ?_
        refine VRet.mk [] .nil ?_
        simp [hm]
      | false =>
        refine go ?_
        refine VRet.mk [] .nil ?_
        simp [hm]
  | false =>
    rw [h1] at g1
    refine Fn.use (g1) (go ?_)
    cases h2 : begins l [226, 136, 146] with
    | true =>
      rw [h2] at g2
      refine Fn.use (g2) (go ?_)
      have hne := begins_ne (by simp) h2
      have hd := dec_pos l hne
      have hm : minusB l = true := by simp [minusB, h2]
      have fd := fn_Decode l
      rw [decodeGo_eq hne] at fd
      refine Fn.use (fd) (go ?_)
      obtain ⟨l', hl'⟩ : ∃ l', l' = l.drop (dec l).2 := ⟨_, rfl⟩
      rw [← hl']
      replace hl' : l' = if minusB l then l.drop (dec l).2 else l := by rw [if_pos hm]; exact hl'
      refine go ?_
      refine VAll.mk (fun b => go ?_)
      refine VLoop.mk [2, 4, 8] DigI (fun i => [.int .i64 i.n, .bool i.ok, .int .i32 i.z]) (fun i => [(b, .siter l' i.p)])
        (fun i => i.p ≤ l'.length ∧ (0 ≤ i.n ∧ i.n ≤ 1152921504606846976) ∧ (-1 ≤ i.z ∧ i.z ≤ 65296) ∧ digLoop ((runes (l'.drop i.p)).map (·.1)) i.n i.ok i.z = digLoop ((runes l').map (·.1)) 0 true (-1)) (fun i => l'.length - i.p) ⟨0, 0, true, -1⟩ ?_ ?_
      · exact ⟨⟨by simp, by simp, by simp, by simp⟩, rfl, .cons 0 rfl .nil⟩
      rintro ⟨p, n, ok, z⟩ ⟨hp, hn, hz, hI⟩
      dsimp only at hp hn hz hI ⊢
      refine go ?_
      refine fork (fun hlt => go ?_) (fun hlt => go ?_)
      · have hne' : l'.drop p ≠ [] := by simp; omega
        have hc := dec_pos _ hne'
        have hru := runes_cons hne'
        rw [← dec_at] at hc hru
        generalize hdc : Utf8.decode ⟨⟨l'⟩⟩ p = c
        rw [hdc] at hc hru
        rw [List.length_drop] at hc
        rw [List.drop_drop] at hru
        rw [hru, List.map_cons, digLoop] at hI
        obtain ⟨r, k⟩ := c
        dsimp only at hc hru hI ⊢
        refine Fn.use (f29_digR r (by omega)) (go ?_)
        cases hd : digR r with
        | none =>
          rw [hd] at hI
          dsimp only at hI
          refine go ?_
          refine VRet.mk [] .nil ?_
          rw [digitsR_none (l := l) hl' hI.symm]
          simp
        | some dz =>
          obtain ⟨d, z'⟩ := dz
          have hb := digR_bound hd
          rw [hd] at hI
          dsimp only at hI
          refine go ?_
          refine fork (fun hz0 => go ?_) (fun hz0 => go ?_)
          · refine fork (fun hz1 => go ?_) (fun hz1 => go ?_)
            · rw [if_pos ⟨hz0, hz1⟩] at hI
              refine VRet.mk [] .nil ?_
              rw [digitsR_none (l := l) hl' hI.symm]
              simp
            · have hz1 : z' = z := hz1
              rw [if_neg (by simp [hz1])] at hI
              rw [Int.tdiv_eq_ediv_of_nonneg (by omega)]
              refine go ?_
              refine fork (fun hgt => go ?_) (fun hgt => go ?_)
              · rw [if_pos (by omega)] at hI
                refine ⟨⟨p + k, 10 * 0 + d, false, z'⟩, ⟨?_, ?_, ?_, ?_⟩, ?_, rfl, .cons 0 rfl .nil⟩
                · dsimp only; omega
                · dsimp only; omega
                · dsimp only; omega
                · dsimp only; rw [show (10 * 0 + d : Int) = d by omega]; exact hI
                · dsimp only; omega
              · rw [if_neg (by omega)] at hI
                refine ⟨⟨p + k, 10 * n + d, ok, z'⟩, ⟨?_, ?_, ?_, ?_⟩, ?_, rfl, .cons 0 rfl .nil⟩
                · dsimp only; omega
                · dsimp only; omega
                · dsimp only; omega
                · exact hI
                · dsimp only; omega
          · rw [if_neg (fun h => hz0 h.1)] at hI
            rw [Int.tdiv_eq_ediv_of_nonneg (by omega)]
            refine go ?_
            refine fork (fun hgt => go ?_) (fun hgt => go ?_)
            · rw [if_pos (by omega)] at hI
              refine ⟨⟨p + k, 10 * 0 + d, false, z'⟩, ⟨?_, ?_, ?_, ?_⟩, ?_, rfl, .cons 0 rfl .nil⟩
              · dsimp only; omega
              · dsimp only; omega
              · dsimp only; omega
              · dsimp only; rw [show (10 * 0 + d : Int) = d by omega]; exact hI
              · dsimp only; omega
            · rw [if_neg (by omega)] at hI
              refine ⟨⟨p + k, 10 * n + d, ok, z'⟩, ⟨?_, ?_, ?_, ?_⟩, ?_, rfl, .cons 0 rfl .nil⟩
              · dsimp only; omega
              · dsimp only; omega
              · dsimp only; omega
              · exact hI
              · dsimp only; omega
      · rw [List.drop_eq_nil_of_le (by omega), runes_nil, List.map_nil, digLoop] at hI
        rw [digitsR_some (l := l) hl' hI.symm]
        cases hok : ok with
        | true =>
          refine go ?_
          refine VRet.mk [] .nil ?_
          simp [hm]
        | false =>
          refine go ?_
          refine VRet.mk [] .nil ?_
          simp [hm]
    | false =>
      rw [h2] at g2
      refine Fn.use (g2) (go ?_)
      have hm : minusB l = false := by simp [minusB, h1, h2]
      have hl' : l = if minusB l then l.drop (dec l).2 else l := by simp [hm]
      refine VAll.mk (fun b => go ?_)
      refine VLoop.mk [2, 4, 8] DigI (fun i => [.int .i64 i.n, .bool i.ok, .int .i32 i.z]) (fun i => [(b, .siter l i.p)])
        (fun i => i.p ≤ l.length ∧ (0 ≤ i.n ∧ i.n ≤ 1152921504606846976) ∧ (-1 ≤ i.z ∧ i.z ≤ 65296) ∧ digLoop ((runes (l.drop i.p)).map (·.1)) i.n i.ok i.z = digLoop ((runes l).map (·.1)) 0 true (-1)) (fun i => l.length - i.p) ⟨0, 0, true, -1⟩ ?_ ?_
      · exact ⟨⟨by simp, by simp, by simp, by simp⟩, rfl, .cons 0 rfl .nil⟩
      rintro ⟨p, n, ok, z⟩ ⟨hp, hn, hz, hI⟩
      dsimp only at hp hn hz hI ⊢
      refine go ?_
      refine fork (fun hlt => go ?_) (fun hlt => go ?_)
      · have hne' : l.drop p ≠ [] := by simp; omega
        have hc := dec_pos _ hne'
        have hru := runes_cons hne'
        rw [← dec_at] at hc hru
        generalize hdc : Utf8.decode ⟨⟨l⟩⟩ p = c
        rw [hdc] at hc hru
        rw [List.length_drop] at hc
        rw [List.drop_drop] at hru
        rw [hru, List.map_cons, digLoop] at hI
        obtain ⟨r, k⟩ := c
        dsimp only at hc hru hI ⊢
        refine Fn.use (f29_digR r (by omega)) (go ?_)
        cases hd : digR r with
        | none =>
          rw [hd] at hI
          dsimp only at hI
          refine go ?_
          refine VRet.mk [] .nil ?_
          rw [digitsR_none (l := l) hl' hI.symm]
          simp
        | some dz =>
          obtain ⟨d, z'⟩ := dz
          have hb := digR_bound hd
          rw [hd] at hI
          dsimp only at hI
          refine go ?_
          refine fork (fun hz0 => go ?_) (fun hz0 => go ?_)
          · refine fork (fun hz1 => go ?_) (fun hz1 => go ?_)
            · rw [if_pos ⟨hz0, hz1⟩] at hI
              refine VRet.mk [] .nil ?_
              rw [digitsR_none (l := l) hl' hI.symm]
              simp
            · have hz1 : z' = z := hz1
              rw [if_neg (by simp [hz1])] at hI
              rw [Int.tdiv_eq_ediv_of_nonneg (by omega)]
              refine go ?_
              refine fork (fun hgt => go ?_) (fun hgt => go ?_)
              · rw [if_pos (by omega)] at hI
                refine ⟨⟨p + k, 10 * 0 + d, false, z'⟩, ⟨?_, ?_, ?_, ?_⟩, ?_, rfl, .cons 0 rfl .nil⟩
                · dsimp only; omega
                · dsimp only; omega
                · dsimp only; omega
                · dsimp only; rw [show (10 * 0 + d : Int) = d by omega]; exact hI
                · dsimp only; omega
              · rw [if_neg (by omega)] at hI
                refine ⟨⟨p + k, 10 * n + d, ok, z'⟩, ⟨?_, ?_, ?_, ?_⟩, ?_, rfl, .cons 0 rfl .nil⟩
                · dsimp only; omega
                · dsimp only; omega
                · dsimp only; omega
                · exact hI
                · dsimp only; omega
          · rw [if_neg (fun h => hz0 h.1)] at hI
            rw [Int.tdiv_eq_ediv_of_nonneg (by omega)]
            refine go ?_
            refine fork (fun hgt => go ?_) (fun hgt => go ?_)
            · rw [if_pos (by omega)] at hI
              refine ⟨⟨p + k, 10 * 0 + d, false, z'⟩, ⟨?_, ?_, ?_, ?_⟩, ?_, rfl, .cons 0 rfl .nil⟩
              · dsimp only; omega
              · dsimp only; omega
              · dsimp only; omega
              · dsimp only; rw [show (10 * 0 + d : Int) = d by omega]; exact hI
              · dsimp only; omega
            · rw [if_neg (by omega)] at hI
              refine ⟨⟨p + k, 10 * n + d, ok, z'⟩, ⟨?_, ?_, ?_, ?_⟩, ?_, rfl, .cons 0 rfl .nil⟩
              · dsimp only; omega
              · dsimp only; omega
              · dsimp only; omega
              · exact hI
              · dsimp only; omega
      · rw [List.drop_eq_nil_of_le (by omega), runes_nil, List.map_nil, digLoop] at hI
        rw [digitsR_some (l := l) hl' hI.symm]
        cases hok : ok with
        | true =>
          refine go ?_
          refine VRet.mk [] .nil ?_
          simp [hm]
        | false =>
          refine go ?_
          refine VRet.mk [] .nil ?_
          simp [hm]
end Go.Proofs.YthhonmkmmalfjaaGreatDoor

namespace Go.Proofs.YthhonmkmmalfjaaGreatDoor
open Go Go.Av
/-- May a character stand in a name? -/
def okCh (first : Bool) (r : Nat) : Bool := !(decide (r = 65533) || blankB r || decide (r < 32) || decide (r = 127) || (first && decide (r = 34)))
def okAll : Bool → List Nat → Bool
  | _, [] => true
  | f, r :: rs => okCh f r && okAll false rs
def chars (l : List UInt8) : List Nat := (runes l).map (·.1)
def nameR (l : List UInt8) : Bool := okAll true (chars l) && (decide (1 ≤ (chars l).length) && decide ((chars l).length ≤ 32) && decide (l ≠ [33]) && !(digitsR l).2.1)
theorem chars_cons {l : List UInt8} (h : l ≠ []) : chars l = (dec l).1 :: chars (l.drop (dec l).2) := by simp [chars, runes_cons h]
theorem nameR_bad {l : List UInt8} (h : okAll true (chars l) = false) : nameR l = false := by simp [nameR, h]


theorem f11_of (l : List UInt8) (hlen : l.length ≤ 4611686018427387904) : Av.Fn Tryz.prog 50 [.str l] (.bool (nameR l)) := by
  refine ACalls.of_W tb_ok (fn := Tryz.f50) (n := 59) (by kernel_rfl) rfl (by kernel_rfl) rfl rfl (by simp) (go ?_)
  refine VAll.mk (fun b => go ?_)
  refine VLoop.mk [3] (Nat × Nat) (fun i => [.int .i64 i.2]) (fun i => [(b, .siter l i.1)])
    (fun i => i.1 ≤ l.length ∧ i.2 ≤ i.1 ∧ (okAll (decide (i.1 = 0)) (chars (l.drop i.1)) = okAll true (chars l) ∧ i.2 + (chars (l.drop i.1)).length = (chars l).length)) (fun i => l.length - i.1) ⟨0, 0⟩ ?_ ?_
  · exact ⟨⟨by simp, by simp, by simp, by simp⟩, rfl, .cons 0 rfl .nil⟩
  rintro ⟨p, n⟩ ⟨hp, hn, hI⟩
  dsimp only at hp hn hI ⊢
  refine go ?_
  refine fork (fun hlt => go ?_) (fun hlt => go ?_)
  · have hne' : l.drop p ≠ [] := by simp; omega
    have hc := dec_pos _ hne'
    rw [chars_cons hne', List.length_drop] at *
    rw [← dec_at] at hc hI
    generalize hdc : Utf8.decode ⟨⟨l⟩⟩ p = c
    rw [hdc] at hc hI
    rw [List.drop_drop] at hI
    obtain ⟨r, k⟩ := c
    dsimp only at hc hI ⊢
    refine fork (fun a1 => go ?_) (fun a1 => go ?_)
    · have a1 : r = 65533 := by omega
      refine VRet.mk [] .nil ?_
      rw [nameR_bad (by rw [← hI.1]; simp [okAll, okCh, a1])]
      simp
    · have hb := f18_of r (by omega)
      cases a2 : blankB r with
      | true =>
        rw [a2] at hb
        refine Fn.use (hb) (go ?_)
        refine VRet.mk [] .nil ?_
        rw [nameR_bad (by rw [← hI.1]; simp [okAll, okCh, a2])]
        simp
      | false =>
        rw [a2] at hb
        refine Fn.use (hb) (go ?_)
        refine fork (fun a3 => go ?_) (fun a3 => go ?_)
        · have a3 : r < 32 := by omega
          refine VRet.mk [] .nil ?_
          rw [nameR_bad (by rw [← hI.1]; simp [okAll, okCh, a3])]
          simp
        · have a3 : ¬ r < 32 := by omega
          refine fork (fun a4 => go ?_) (fun a4 => go ?_)
          · have a4 : r = 127 := by omega
            refine VRet.mk [] .nil ?_
            rw [nameR_bad (by rw [← hI.1]; simp [okAll, okCh, a4])]
            simp
          · have a4 : ¬ r = 127 := by omega
            have a1 : ¬ r = 65533 := by omega
            refine fork (fun a5 => go ?_) (fun a5 => go ?_)
            · have a5 : p = 0 := by omega
              refine fork (fun a6 => go ?_) (fun a6 => go ?_)
              · have a6 : r = 34 := by omega
                refine VRet.mk [] .nil ?_
                rw [nameR_bad (by rw [← hI.1]; simp [okAll, okCh, a5, a6])]
                simp
              · have a6 : ¬ r = 34 := by omega
                refine ⟨⟨p + k, n + 1⟩, ⟨?_, ?_, ?_⟩, ?_, rfl, .cons 0 rfl .nil⟩
                · dsimp only; omega
                · dsimp only; omega
                · dsimp only
                  refine ⟨?_, ?_⟩
                  · rw [← hI.1, okAll, decide_eq_false (show ¬ p + k = 0 by omega)]
                    have : okCh (decide (p = 0)) r = true := by simp [okCh, a1, a2, a3, a4, a6]; try omega
                    rw [this, Bool.true_and]
                  · rw [← hI.2, List.length_cons]; omega
                · dsimp only; omega
            · have a5 : ¬ p = 0 := by omega
              refine ⟨⟨p + k, n + 1⟩, ⟨?_, ?_, ?_⟩, ?_, rfl, .cons 0 rfl .nil⟩
              · dsimp only; omega
              · dsimp only; omega
              · dsimp only
                refine ⟨?_, ?_⟩
                · rw [← hI.1, okAll, decide_eq_false (show ¬ p + k = 0 by omega)]
                  have : okCh (decide (p = 0)) r = true := by simp [okCh, a1, a2, a3, a4, a5]; try omega
                  rw [this, Bool.true_and]
                · rw [← hI.2, List.length_cons]; omega
              · dsimp only; omega
  · have h17 := f17_of l
    rw [List.drop_eq_nil_of_le (by omega)] at hI
    have hok : okAll true (chars l) = true := by rw [← hI.1]; rfl
    have hct : (chars l).length = n := by rw [← hI.2]; simp [chars]
    cases hd : (digitsR l).2.1 with
    | true =>
      rw [hd] at h17
      refine Fn.use (h17) (go ?_)
      refine fork (fun b1 => go ?_) (fun b1 => go ?_)
      · refine fork (fun b2 => go ?_) (fun b2 => go ?_)
        · refine fork (fun b3 => go ?_) (fun b3 => go ?_)
          · refine VRet.mk [] .nil ?_
            simp [nameR, hok, hct, hd]
          · refine VRet.mk [] .nil ?_
            simp [nameR, hok, hct, hd]
        · refine VRet.mk [] .nil ?_
          simp [nameR, hok, hct, hd]
      · refine VRet.mk [] .nil ?_
        simp [nameR, hok, hct, hd]
    | false =>
      rw [hd] at h17
      refine Fn.use (h17) (go ?_)
      refine fork (fun b1 => go ?_) (fun b1 => go ?_)
      · refine fork (fun b2 => go ?_) (fun b2 => go ?_)
        · refine fork (fun b3 => go ?_) (fun b3 => go ?_)
          · refine VRet.mk [] .nil ?_
            simp [nameR, hok, hct, hd]
            exact ⟨⟨by omega, by omega⟩, b3⟩
          · refine VRet.mk [] .nil ?_
            simp [nameR, hok, hct, hd]
            exact fun _ _ => b3
        · refine VRet.mk [] .nil ?_
          simp [nameR, hok, hct, hd]
          intros; omega
      · refine VRet.mk [] .nil ?_
        simp [nameR, hok, hct, hd]
        intros; omega
end Go.Proofs.YthhonmkmmalfjaaGreatDoor

namespace Go.Proofs.YthhonmkmmalfjaaGreatDoor
open Go Go.Av
structure Tok where
  kind : Int
  text : List UInt8
  n : Int
  pos : Int
  deriving DecidableEq
def trimL (l : List UInt8) : List UInt8 := l.drop (spanR (fun r => !blankB r) (runes l))
def wlen (l : List UInt8) : Nat := spanR (fun r => blankB r) (runes l)
inductive TStep where
  | stop
  | skip (l : List UInt8)
  | bad (p e : Int)
  | tok (t : Tok) (l : List UInt8)
  deriving DecidableEq
/-- The next token, where so many bytes are in the whole. -/
def tokAt (N : Nat) (r : List UInt8) : TStep :=
  if r.take (wlen r) = [33] then
    (if Lib.indexByte r 10 < 0 then .stop else .skip (r.drop (Lib.indexByte r 10).toNat))
  else match r.take (wlen r) with
    | [] => .stop
    | c :: _ => if c = 34 then
        (if (textL (N - r.length) (r.drop 1) [] (N - r.length + 1)).2.2 = 0
          then .tok ⟨3, (textL (N - r.length) (r.drop 1) [] (N - r.length + 1)).1, 0, (N - r.length : Nat)⟩ (r.drop ((textL (N - r.length) (r.drop 1) [] (N - r.length + 1)).2.1 - (N - r.length : Nat)).toNat)
          else .bad (textL (N - r.length) (r.drop 1) [] (N - r.length + 1)).2.1 (textL (N - r.length) (r.drop 1) [] (N - r.length + 1)).2.2)
      else if (digitsR (r.take (wlen r))).2.1 then
        (if (digitsR (r.take (wlen r))).2.2 then .tok ⟨2, [], (digitsR (r.take (wlen r))).1, (N - r.length : Nat)⟩ (r.drop (wlen r)) else .bad (N - r.length : Nat) 11)
      else if nameR (r.take (wlen r)) then .tok ⟨1, r.take (wlen r), 0, (N - r.length : Nat)⟩ (r.drop (wlen r)) else .bad (N - r.length : Nat) 10
def toksN (N : Nat) : Nat → List UInt8 → List Tok → List Tok × Int × Int
  | 0, _, _ => ([], 0, -1)
  | k + 1, l, out => if l = [] then (out, 0, 0) else match tokAt N (trimL l) with
    | .stop => (out, 0, 0)
    | .skip l' => toksN N k l' out
    | .bad p e => ([], p, e)
    | .tok t l' => if out.length ≥ 4096 then ([], t.pos, 11) else toksN N k l' (out ++ [t])
def toks (N : Nat) (l : List UInt8) (out : List Tok) : List Tok × Int × Int := toksN N (l.length + 1) l out
def tokensR (s : List UInt8) : List Tok × Int × Int :=
  if s.length > 65536 then ([], 0, 11) else match faultR s with
    | some i => ([], i, 8)
    | none => toks s.length s []
def Tok.cells (t : Tok) : List AV := [.int .i64 t.kind, .str t.text, .int .i64 t.n, .int .i64 t.pos]
def toksC (l : List Tok) : List AV := (l.map Tok.cells).flatten
@[simp] theorem toksC_length (l : List Tok) : (toksC l).length = l.length * 4 := by
  induction l with
  | nil => rfl
  | cons t l ih => show (t.cells ++ toksC l).length = _; rw [List.length_append, ih]; simp [Tok.cells]; omega
theorem toksC_snoc (l : List Tok) (t : Tok) : toksC (l ++ [t]) = toksC l ++ t.cells := by simp [toksC]
theorem trimL_le (l : List UInt8) : (trimL l).length ≤ l.length := by simp [trimL]
theorem wlen_le (l : List UInt8) : wlen l ≤ l.length := spanR_le _ _
theorem indexByte_lt : ∀ (l : List UInt8) (c : UInt8), Lib.indexByte l c < l.length ∧ -1 ≤ Lib.indexByte l c
  | [], c => by simp [Lib.indexByte]
  | b :: l, c => by
    have := indexByte_lt l c
    unfold Lib.indexByte
    simp only [beq_iff_eq, List.length_cons]
    repeat' split
    all_goals omega
theorem textL_next (a : Nat) : ∀ (r acc : List UInt8) (i : Nat), (textL a r acc i).2.2 = 0 → (i : Int) + 1 ≤ (textL a r acc i).2.1 ∧ (textL a r acc i).2.1 ≤ i + r.length
  | [], acc, i, h => by simp [textL] at h
  | c :: r, acc, i, h => by
    rw [textL_cons] at h ⊢
    by_cases h1 : c = 34
    · rw [if_pos h1] at h ⊢
      by_cases h2 : acc.length > 4096
      · rw [if_pos h2] at h; simp at h
      · rw [if_neg h2]; simp; omega
    · rw [if_neg h1] at h ⊢
      by_cases h2 : c = 92
      · rw [if_pos h2] at h ⊢
        match r with
        | [] => simp at h
        | d :: r' =>
          dsimp only at h ⊢
          cases he : esc d with
          | none => rw [he] at h; simp at h
          | some e =>
            rw [he] at h
            dsimp only at h ⊢
            have := textL_next a r' (acc ++ [e]) (i + 2) h
            simp; omega
      · rw [if_neg h2] at h ⊢
        have := textL_next a r (acc ++ [c]) (i + 1) h
        simp; omega
/-- A step takes something away. -/
theorem tokAt_less {N : Nat} {r l' : List UInt8} (h : tokAt N r = .skip l' ∨ ∃ t, tokAt N r = .tok t l') : l'.length < r.length ∧ ∃ k, l' = r.drop k := by
  have hw := wlen_le r
  unfold tokAt at h
  by_cases h1 : r.take (wlen r) = [33]
  · rw [if_pos h1] at h
    have hb := indexByte_lt r 10
    by_cases h2 : Lib.indexByte r 10 < 0
    · rw [if_pos h2] at h; simp at h
    · rw [if_neg h2] at h
      simp at h
      subst h
      refine ⟨?_, _, rfl⟩
      have h3 : Lib.indexByte r 10 ≠ 0 := by
        cases r with
        | nil => simp at h1
        | cons c r =>
          have hc : c = 33 := by
            cases hn : wlen (c :: r) with
            | zero => rw [hn] at h1; simp at h1
            | succ n => rw [hn] at h1; simp at h1; exact h1.1
          subst hc
          unfold Lib.indexByte
          have := indexByte_lt r 10
          simp only [beq_iff_eq]
          rw [if_neg (by decide)]
          split
          all_goals omega
      rw [List.length_drop]; omega
  · rw [if_neg h1] at h
    cases hr : r.take (wlen r) with
    | nil => rw [hr] at h; simp at h
    | cons c q =>
      have hw0 : 0 < wlen r := by
        rcases Nat.eq_zero_or_pos (wlen r) with h0 | h0
        · rw [h0] at hr; simp at hr
        · exact h0
      have hcut : (r.drop (wlen r)).length < r.length := by rw [List.length_drop]; omega
      rw [hr] at h
      dsimp only at h
      by_cases hq : c = 34
      · rw [if_pos hq] at h
        by_cases he : (textL (N - r.length) (r.drop 1) [] (N - r.length + 1)).2.2 = 0
        · rw [if_pos he] at h
          obtain h | ⟨t, h⟩ := h
          · cases h
          · injection h with _ h
            subst h
            have := textL_next _ _ _ _ he
            refine ⟨?_, _, rfl⟩
            rw [List.length_drop]; omega
        · rw [if_neg he] at h; simp at h
      · rw [if_neg hq] at h
        cases hd : (digitsR (c :: q)).2.1 with
        | true =>
          rw [hd, if_pos rfl] at h
          cases ho : (digitsR (c :: q)).2.2 with
          | true => rw [ho, if_pos rfl] at h; simp at h; subst h; exact ⟨hcut, _, rfl⟩
          | false => rw [ho, if_neg (by simp)] at h; simp at h
        | false =>
          rw [hd, if_neg (by simp)] at h
          cases ho : nameR (c :: q) with
          | true => rw [ho, if_pos rfl] at h; simp at h; subst h; exact ⟨hcut, _, rfl⟩
          | false => rw [ho, if_neg (by simp)] at h; simp at h
theorem trimL_drop (l : List UInt8) : ∃ k, trimL l = l.drop k := ⟨_, rfl⟩
theorem toksN_eq (N : Nat) : ∀ (k : Nat) (l : List UInt8) (out : List Tok), l.length < k → toksN N k l out = toks N l out
  | 0, l, out, h => by omega
  | k + 1, l, out, h => by
    have hl := trimL_le l
    unfold toks
    simp only [toksN]
    by_cases e : l = []
    · rw [if_pos e, if_pos e]
    · rw [if_neg e, if_neg e]
      cases hs : tokAt N (trimL l) with
      | stop => rfl
      | bad p e => rfl
      | skip l' =>
        have := (tokAt_less (.inl hs)).1
        dsimp only
        rw [toksN_eq N k l' out (by omega)]
        obtain ⟨m, hm⟩ : ∃ m, l.length = m + 1 := ⟨l.length - 1, by omega⟩
        rw [hm, toksN_eq N (m + 1) l' out (by omega)]
      | tok t l' =>
        have := (tokAt_less (.inr ⟨t, hs⟩)).1
        dsimp only
        rw [toksN_eq N k l' _ (by omega)]
        obtain ⟨m, hm⟩ : ∃ m, l.length = m + 1 := ⟨l.length - 1, by omega⟩
        rw [hm, toksN_eq N (m + 1) l' _ (by omega)]
theorem toks_step (N : Nat) (l : List UInt8) (out : List Tok) : toks N l out = if l = [] then (out, 0, 0) else match tokAt N (trimL l) with
    | .stop => (out, 0, 0)
    | .skip l' => toks N l' out
    | .bad p e => ([], p, e)
    | .tok t l' => if out.length ≥ 4096 then ([], t.pos, 11) else toks N l' (out ++ [t]) := by
  have hl := trimL_le l
  by_cases e : l = []
  · subst e; rfl
  · unfold toks
    rw [toksN, if_neg e]
    obtain ⟨m, hm⟩ : ∃ m, l.length = m + 1 := ⟨l.length - 1, by cases l with | nil => exact absurd rfl e | cons => simp⟩
    cases hs : tokAt N (trimL l) with
    | stop => rw [if_neg e]
    | bad p e' => rw [if_neg e]
    | skip l' =>
      have := (tokAt_less (.inl hs)).1
      dsimp only
      rw [if_neg e, toksN_eq N _ l' out (by omega)]; rfl
    | tok t l' =>
      have := (tokAt_less (.inr ⟨t, hs⟩)).1
      dsimp only
      rw [if_neg e, toksN_eq N _ l' _ (by omega)]; rfl
end Go.Proofs.YthhonmkmmalfjaaGreatDoor

namespace Go.Proofs.YthhonmkmmalfjaaGreatDoor
open Go Go.Av
abbrev PE := Int × Int
structure RS where
  l : List Tok
  opn : Nat
  sz : Nat
abbrev PR (α : Type) := Except PE (α × RS)
def reservedL : List (List UInt8) := [[58], [59], [40], [41], [45, 45], [91], [93], [123], [125], [116], [102]]
def reservedR (s : List UInt8) : Bool := reservedL.contains s
def countR (p : Int) (s : RS) : Except PE RS :=
  if 0 < s.opn then (if 1024 < s.sz + 1 then .error (p, 11) else .ok { s with sz := s.sz + 1 }) else .ok s
def enterR (p : Int) (s : RS) : Except PE RS :=
  if 32 < s.opn + 1 then .error (p, 11) else countR p { s with opn := s.opn + 1, sz := if s.opn + 1 = 1 then 0 else s.sz }
def atR (fin : Int) (l : List Tok) : Int := match l with
  | [] => fin
  | t :: _ => t.pos
def peekR (l : List Tok) : Option (List UInt8) := match l with
  | [] => none
  | t :: _ => if t.kind = 1 then some t.text else none
def takeR (fin : Int) (s : RS) : PR Tok := match s.l with
  | [] => .error (fin, 9)
  | t :: r => .ok (t, { s with l := r })
mutual
def litR (fin : Int) : Nat → RS → PR (Option Tree)
  | 0, _ => .error (0, -1)
  | k + 1, s => match s.l with
    | [] => .ok (none, s)
    | t :: r =>
      if t.kind = 2 then (match countR t.pos { s with l := r } with
        | .error e => .error e
        | .ok s' => .ok (some (.int t.n), s'))
      else if t.kind = 3 then (match countR t.pos { s with l := r } with
        | .error e => .error e
        | .ok s' => .ok (some (.str t.text), s'))
      else if t.text = [116] ∨ t.text = [102] then (match countR t.pos { s with l := r } with
        | .error e => .error e
        | .ok s' => .ok (some (.bool (decide (t.text = [116]))), s'))
      else if t.text = [91] then (match enterR t.pos { s with l := r } with
        | .error e => .error e
        | .ok s1 => match itemsR fin k [93] s1 [] with
          | .error e => .error e
          | .ok (ys, s2) => .ok (some (.quot ys), { s2 with opn := s2.opn - 1 }))
      else if t.text = [123] then (match enterR t.pos { s with l := r } with
        | .error e => .error e
        | .ok s1 => match valsR fin k s1 [] with
          | .error e => .error e
          | .ok (ys, s2) => .ok (some (.list ys), { s2 with opn := s2.opn - 1 }))
      else .ok (none, s)
def itemR (fin : Int) : Nat → RS → PR (Option Tree)
  | 0, _ => .error (0, -1)
  | k + 1, s => match litR fin k s with
    | .error e => .error e
    | .ok (some v, s') => .ok (some v, s')
    | .ok (none, s') => match peekR s'.l with
      | none => .ok (none, s')
      | some w => if reservedR w then .ok (none, s') else match takeR fin s' with
        | .error e => .error e
        | .ok (t, s1) => match countR t.pos s1 with
          | .error e => .error e
          | .ok s2 => .ok (some (.call w), s2)
def itemsR (fin : Int) : Nat → List UInt8 → RS → List Tree → PR (List Tree)
  | 0, _, _, _ => .error (0, -1)
  | k + 1, shut, s, acc => if peekR s.l = some shut then (match takeR fin s with
      | .error e => .error e
      | .ok (_, s') => .ok (acc, s'))
    else match itemR fin k s with
      | .error e => .error e
      | .ok (none, s') => .error (atR fin s'.l, 9)
      | .ok (some y, s') => itemsR fin k shut s' (acc ++ [y])
def valsR (fin : Int) : Nat → RS → List Tree → PR (List Tree)
  | 0, _, _ => .error (0, -1)
  | k + 1, s, acc => if peekR s.l = some [125] then (match takeR fin s with
      | .error e => .error e
      | .ok (_, s') => .ok (acc, s'))
    else match litR fin k s with
      | .error e => .error e
      | .ok (none, s') => .error (atR fin s'.l, 9)
      | .ok (some y, s') => valsR fin k s' (acc ++ [y])
end
def wordR (fin : Int) (want : List UInt8) (s : RS) : PR (List UInt8) := match peekR s.l with
  | none => .error (atR fin s.l, 9)
  | some w => if (want ≠ [] ∧ w ≠ want) ∨ (want = [] ∧ reservedR w = true) then .error (atR fin s.l, 9) else match takeR fin s with
    | .error e => .error e
    | .ok (_, s') => .ok (w, s')
def namesR (fin : Int) (shut : List UInt8) : Nat → RS → Nat → PR Nat
  | 0, _, _ => .error (0, -1)
  | k + 1, s, n => if peekR s.l = some shut then (match takeR fin s with
      | .error e => .error e
      | .ok (_, s') => .ok (n, s'))
    else match wordR fin [] s with
      | .error e => .error e
      | .ok (_, s') => if 16 < n + 1 then .error (atR fin s.l, 11) else namesR fin shut k s' (n + 1)
structure DefT where
  name : List UInt8
  inn : Nat
  out : Nat
  body : List Tree
/-- As many steps as suffice. -/
def fuel (s : RS) : Nat := 3 * s.l.length + 3
def defineR (fin : Int) (p : Int) (s : RS) : PR DefT := match enterR p s with
  | .error e => .error e
  | .ok s1 => match wordR fin [] s1 with
    | .error e => .error e
    | .ok (nm, s2) => match wordR fin [40] s2 with
      | .error e => .error e
      | .ok (_, s3) => match namesR fin [45, 45] (fuel s3) s3 0 with
        | .error e => .error e
        | .ok (i, s4) => match namesR fin [41] (fuel s4) s4 0 with
          | .error e => .error e
          | .ok (o, s5) => match itemsR fin (fuel s5) [59] s5 [] with
            | .error e => .error e
            | .ok (b, s6) => .ok (⟨nm, i, o, b⟩, { s6 with opn := s6.opn - 1 })
inductive FormT where
  | define (d : DefT)
  | item (t : Tree)
def formsR (fin : Int) : Nat → RS → List FormT → PR (List FormT)
  | 0, _, _ => .error (0, -1)
  | k + 1, s, acc => if peekR s.l = some [58] then (match takeR fin s with
      | .error e => .error e
      | .ok (t, s1) => match defineR fin t.pos s1 with
        | .error e => .error e
        | .ok (d, s2) => formsR fin k s2 (acc ++ [.define d]))
    else match itemR fin (fuel s) s with
      | .error e => .error e
      | .ok (none, s') => .ok (acc, s')
      | .ok (some y, s') => formsR fin k s' (acc ++ [.item y])
def onlyR (fin : Int) : Nat → RS → List Tree → PR (List Tree)
  | 0, _, _ => .error (0, -1)
  | k + 1, s, acc => match itemR fin (fuel s) s with
      | .error e => .error e
      | .ok (none, s') => .ok (acc, s')
      | .ok (some y, s') => onlyR fin k s' (acc ++ [y])
def finR {α : Type} (fin : Int) (x : PR (List α)) : List α × Int × Int := match x with
  | .error e => ([], e.1, e.2)
  | .ok x => if x.2.l ≠ [] then ([], atR fin x.2.l, 9) else (x.1, 0, 0)
def readR {α : Type} (s : List UInt8) (what : RS → PR (List α)) : List α × Int × Int :=
  if (tokensR s).2.2 ≠ 0 then ([], (tokensR s).2.1, (tokensR s).2.2) else finR s.length (what ⟨(tokensR s).1, 0, 0⟩)
def parseR (s : List UInt8) : List FormT × Int × Int := readR s fun r => formsR s.length (r.l.length + 1) r []
def itemsOnlyR (s : List UInt8) : List Tree × Int × Int := readR s fun r => onlyR s.length (r.l.length + 1) r []
end Go.Proofs.YthhonmkmmalfjaaGreatDoor

namespace Go.Proofs.YthhonmkmmalfjaaGreatDoor
open Go Go.Av
structure TokI where
  o : Option Nat
  p : Nat
  out : List Tok
theorem f18_nat (r : Nat) (hr : r ≤ 1114111) : Av.Fn Tryz.prog 63 [.int .i32 r] (.bool (blankB r)) := f18_of r (by omega)
theorem take_toksC (l : List Tok) : (toksC l).take (l.length * 4) = toksC l := List.take_of_length_le (by simp)






end Go.Proofs.YthhonmkmmalfjaaGreatDoor

namespace Go.Proofs.YthhonmkmmalfjaaGreatDoor
open Go Go.Av
def rbox (fin b : Nat) (s : RS) : Nat × AObj := (b, .box [.fz (toksC s.l) s.l.length false, .int .i64 fin, .int .i64 s.opn, .int .i64 s.sz])
def peekV (x : Option (List UInt8)) : AV := match x with
  | none => .tup [.str [], .bool false]
  | some w => .tup [.str w, .bool true]


theorem drop_toksC (t : Tok) (r : List Tok) : List.drop 4 (List.take ((r.length + 1) * 4) (toksC (t :: r))) = toksC r := by
  rw [show (r.length + 1) * 4 = (t :: r).length * 4 from rfl, take_toksC]; rfl
def idxL (s : List UInt8) : List (List UInt8) → Int
  | [] => -1
  | x :: r => if s = x then 0 else if idxL s r < 0 then -1 else idxL s r + 1
theorem idxL_has (s : List UInt8) : ∀ l : List (List UInt8), decide (0 ≤ idxL s l) = l.contains s
  | [] => by simp [idxL]
  | x :: r => by
    have ih := idxL_has s r
    rw [List.contains_cons, ← ih, idxL]
    by_cases h : s = x
    · simp [h]
    · have : (s == x) = false := by simpa using h
      rw [if_neg h, this, Bool.false_or, decide_eq_decide]
      split <;> omega
theorem fn_Index (l : List (List UInt8)) (s : List UInt8) (hl : l.length ≤ 1000000) : Av.Fn Tryz.prog 79 [.fz (l.map .str) l.length false, .str s] (.int .i64 (idxL s l)) := by
  refine ACalls.of_W tb_ok (fn := Tryz.f79) (n := 19) (by kernel_rfl) rfl (by kernel_rfl) rfl rfl (by simp) (go ?_)
  refine VLoop.mk [8] Nat (fun i => [.int .i64 i]) (fun _ => []) (fun i => i ≤ l.length ∧ idxL s l = if idxL s (l.drop i) < 0 then -1 else idxL s (l.drop i) + i) (fun i => l.length - i) 0 ?_ ?_
  · refine ⟨⟨by omega, ?_⟩, rfl, .nil⟩
    have : -1 ≤ idxL s l := by
      cases l with
      | nil => simp [idxL]
      | cons x r => unfold idxL; repeat' split
                    all_goals omega
    simp; intro _; omega
  intro i ⟨hi, hI⟩
  refine go ?_
  refine fork (fun hlt => go ?_) (fun hlt => go ?_)
  · have hlt : i < l.length := by omega
    have hx : l[i]? = some l[i] := by simp [hlt]
    rw [List.drop_eq_getElem_cons hlt, idxL] at hI
    refine VNth.mk (.str l[i]) (by simp [hx]) (go ?_)
    refine fork (fun he => go ?_) (fun he => go ?_)
    · rw [if_pos he] at hI
      refine VRet.mk [] .nil ?_
      rw [hI]; simp
    · rw [if_neg he] at hI
      refine ⟨i + 1, ⟨by omega, ?_⟩, by omega, rfl, .nil⟩
      rw [hI]
      repeat' split
      all_goals omega
  · rw [List.drop_eq_nil_of_le (by omega), idxL] at hI
    refine VRet.mk [] .nil ?_
    rw [hI]; simp
theorem fn_Contains (l : List (List UInt8)) (s : List UInt8) (hl : l.length ≤ 1000000) : Av.Fn Tryz.prog 65 [.fz (l.map .str) l.length false, .str s] (.bool (l.contains s)) := by
  have h1 := fn_Index l s hl
  refine ACalls.of_W tb_ok (fn := Tryz.f65) (n := 9) (by kernel_rfl) rfl (by kernel_rfl) rfl rfl (by simp) (go ?_)
  refine Fn.use (h1) (go ?_)
  refine VRet.mk [] .nil ?_
  rw [idxL_has]; exact ⟨rfl, rfl⟩
theorem f_Reserved (s : List UInt8) : Av.Fn Tryz.prog 51 [.str s] (.bool (reservedR s)) := by
  have h := fn_Contains reservedL s (by decide)
  refine ACalls.of_W tb_ok (fn := Tryz.f51) (n := 6) (by kernel_rfl) rfl (by kernel_rfl) rfl rfl (by simp) (go ?_)
  refine Fn.use (h) (go ?_)
  refine VRet.mk [] .nil ?_
  exact ⟨rfl, rfl⟩
theorem takeR_less {fin : Int} {s : RS} {x : Tok × RS} (h : takeR fin s = .ok x) : x.2.l.length < s.l.length ∧ x.2.opn = s.opn ∧ x.2.sz = s.sz := by
  unfold takeR at h
  split at h
  · cases h
  · rename_i t r hl
    cases h
    rw [hl]
    exact ⟨by simp, rfl, rfl⟩
theorem wordR_less {fin : Int} {want : List UInt8} {s : RS} {x : List UInt8 × RS} (h : wordR fin want s = .ok x) : x.2.l.length < s.l.length ∧ x.2.opn = s.opn ∧ x.2.sz = s.sz := by
  unfold wordR at h
  split at h
  · cases h
  · split at h
    · cases h
    · split at h
      · cases h
      · rename_i t s' ht
        cases h
        exact takeR_less ht
structure NmI where
  k : Nat
  s : RS
  n : Nat

end Go.Proofs.YthhonmkmmalfjaaGreatDoor

namespace Go.Proofs.YthhonmkmmalfjaaGreatDoor
open Go Go.Av
structure AccI where
  k : Nat
  o : Option Nat

theorem thawV (a b c : AV) : FzO (.ret (.agg [a, b, c, .nils])) (.ret (.agg [a, b, c, .fz [] 0 false])) [] [] :=
  .ret (.agg (.cons (.keep a []) (.cons (.keep b []) (.cons (.keep c []) (.cons (.nils []) (.nil [])))))) .nil


end Go.Proofs.YthhonmkmmalfjaaGreatDoor

namespace Go.Proofs.YthhonmkmmalfjaaGreatDoor
open Go Go.Av
theorem countR_ok {p : Int} {s s' : RS} (h : countR p s = .ok s') : s'.l = s.l ∧ s'.opn = s.opn ∧ (s.sz ≤ 1024 → s'.sz ≤ 1024) := by
  unfold countR at h
  split at h
  · split at h
    · cases h
    · cases h; exact ⟨rfl, rfl, fun _ => by dsimp only; omega⟩
  · cases h; exact ⟨rfl, rfl, id⟩
theorem enterR_ok {p : Int} {s s' : RS} (h : enterR p s = .ok s') : s'.l = s.l ∧ s'.opn = s.opn + 1 ∧ s.opn + 1 ≤ 32 ∧ (s.sz ≤ 1024 → s'.sz ≤ 1024) := by
  unfold enterR at h
  split at h
  · cases h
  · obtain ⟨h1, h2, h3⟩ := countR_ok h
    exact ⟨h1, h2, by omega, fun hs => h3 (by dsimp only; split <;> omega)⟩
structure Less (s s' : RS) (p : Prop) : Prop where
  opn : s'.opn = s.opn
  le : s'.l.length ≤ s.l.length
  sz : s.sz ≤ 1024 → s'.sz ≤ 1024
  lt : p → s'.l.length < s.l.length
theorem takeR_ok {fin : Int} {s : RS} {x : Tok × RS} (h : takeR fin s = .ok x) : Less s x.2 True ∧ x.2.sz = s.sz := by
  unfold takeR at h
  split at h
  · cases h
  · rename_i t r hl
    cases h
    exact ⟨⟨rfl, by rw [hl]; simp, id, fun _ => by rw [hl]; simp⟩, rfl⟩
theorem parse_less (fin : Int) : ∀ k, (∀ s x, litR fin k s = .ok x → Less s x.2 (x.1 ≠ none) ∧ (x.1 = none → x.2 = s)) ∧ (∀ s x, itemR fin k s = .ok x → Less s x.2 (x.1 ≠ none) ∧ (x.1 = none → x.2 = s)) ∧
    (∀ shut s acc x, itemsR fin k shut s acc = .ok x → Less s x.2 True) ∧ (∀ s acc x, valsR fin k s acc = .ok x → Less s x.2 True) := by
  intro k
  induction k with
  | zero =>
    refine ⟨?_, ?_, ?_, ?_⟩
    · intro s x h; simp [litR] at h
    · intro s x h; simp [itemR] at h
    · intro shut s acc x h; simp [itemsR] at h
    · intro s acc x h; simp [valsR] at h
  | succ k ih =>
    obtain ⟨ih1, ih2, ih3, ih4⟩ := ih
    refine ⟨?_, ?_, ?_, ?_⟩
    · intro s x h
      rw [litR] at h
      split at h
      · cases h; exact ⟨⟨rfl, Nat.le_refl _, id, fun h => absurd rfl h⟩, fun _ => rfl⟩
      · rename_i t r hl
        have cnt : ∀ {v : Tree} {x : Option Tree × RS}, (match countR t.pos { s with l := r } with
            | .error e => (.error e : PR (Option Tree))
            | .ok s' => .ok (some v, s')) = .ok x → Less s x.2 (x.1 ≠ none) ∧ (x.1 = none → x.2 = s) := by
          intro v x h
          split at h
          · cases h
          · rename_i s' hc
            cases h
            obtain ⟨h1, h2, h3⟩ := countR_ok hc
            exact ⟨⟨h2, by rw [h1, hl]; simp, h3, fun _ => by rw [h1, hl]; simp⟩, fun h => by cases h⟩
        split at h
        · exact cnt h
        · split at h
          · exact cnt h
          · split at h
            · exact cnt h
            · split at h
              · split at h
                · cases h
                · rename_i s1 he
                  obtain ⟨h1, h2, _, h3⟩ := enterR_ok he
                  split at h
                  · cases h
                  · rename_i ys s2 hi
                    cases h
                    have hl2 := ih3 _ _ _ _ hi
                    have hlt := hl2.lt trivial
                    have ho := hl2.opn
                    dsimp only at hlt ho h1 h2
                    rw [h1] at hlt
                    exact ⟨⟨by dsimp only; omega, by dsimp only; rw [hl]; simp; omega, fun hs => hl2.sz (h3 hs), fun _ => by dsimp only; rw [hl]; simp; omega⟩, fun h => by cases h⟩
              · split at h
                · split at h
                  · cases h
                  · rename_i s1 he
                    obtain ⟨h1, h2, _, h3⟩ := enterR_ok he
                    split at h
                    · cases h
                    · rename_i ys s2 hi
                      cases h
                      have hl2 := ih4 _ _ _ hi
                      have hlt := hl2.lt trivial
                      have ho := hl2.opn
                      dsimp only at hlt ho h1 h2
                      rw [h1] at hlt
                      exact ⟨⟨by dsimp only; omega, by dsimp only; rw [hl]; simp; omega, fun hs => hl2.sz (h3 hs), fun _ => by dsimp only; rw [hl]; simp; omega⟩, fun h => by cases h⟩
                · cases h; exact ⟨⟨rfl, Nat.le_refl _, id, fun h => absurd rfl h⟩, fun _ => rfl⟩
    · intro s x h
      rw [itemR] at h
      split at h
      · cases h
      · rename_i v s' hv
        cases h
        obtain ⟨h1, h2⟩ := ih1 _ _ hv
        exact ⟨⟨h1.opn, h1.le, h1.sz, fun _ => h1.lt (by simp)⟩, fun h => by cases h⟩
      · rename_i s' hv
        obtain ⟨h1, h2⟩ := ih1 _ _ hv
        have h2 := h2 rfl
        dsimp only at h2
        subst h2
        split at h
        · cases h; exact ⟨⟨rfl, Nat.le_refl _, id, fun h => absurd rfl h⟩, fun _ => rfl⟩
        · split at h
          · cases h; exact ⟨⟨rfl, Nat.le_refl _, id, fun h => absurd rfl h⟩, fun _ => rfl⟩
          · split at h
            · cases h
            · rename_i t s1 ht
              obtain ⟨t1, t2⟩ := takeR_ok ht
              have t3 := t1.lt trivial
              split at h
              · cases h
              · rename_i s2 hc
                cases h
                obtain ⟨c1, c2, c3⟩ := countR_ok hc
                have t4 := t1.opn
                dsimp only at t2 t3 t4
                exact ⟨⟨by dsimp only; omega, by dsimp only; rw [c1]; omega, fun hs => c3 (by omega), fun _ => by dsimp only; rw [c1]; omega⟩, fun h => by cases h⟩
    · intro shut s acc x h
      rw [itemsR] at h
      split at h
      · split at h
        · cases h
        · rename_i s' ht
          cases h
          exact (takeR_ok ht).1
      · split at h
        · cases h
        · cases h
        · rename_i y s' hi
          obtain ⟨h1, _⟩ := ih2 _ _ hi
          have h2 := ih3 _ _ _ _ h
          have h3 := h1.lt (by simp)
          have h4 := h2.lt trivial
          have h5 := h1.opn
          have h6 := h2.opn
          dsimp only at h3 h5
          exact ⟨by omega, by omega, fun hs => h2.sz (h1.sz hs), fun _ => by omega⟩
    · intro s acc x h
      rw [valsR] at h
      split at h
      · split at h
        · cases h
        · rename_i s' ht
          cases h
          exact (takeR_ok ht).1
      · split at h
        · cases h
        · cases h
        · rename_i y s' hi
          obtain ⟨h1, _⟩ := ih1 _ _ hi
          have h2 := ih4 _ _ _ h
          have h3 := h1.lt (by simp)
          have h4 := h2.lt trivial
          have h5 := h1.opn
          have h6 := h2.opn
          dsimp only at h3 h5
          exact ⟨by omega, by omega, fun hs => h2.sz (h1.sz hs), fun _ => by omega⟩
/-- A fault has a number. -/
def Faulty {α : Type} (x : PR α) : Prop := ∀ e, x = .error e → e.2 ≠ 0
theorem countR_err {p : Int} {s : RS} {e : PE} (h : countR p s = .error e) : e.2 ≠ 0 := by
  unfold countR at h
  split at h
  · split at h
    · cases h; show (11 : Int) ≠ 0; decide
    · cases h
  · cases h
theorem enterR_err {p : Int} {s : RS} {e : PE} (h : enterR p s = .error e) : e.2 ≠ 0 := by
  unfold enterR at h
  split at h
  · cases h; show (11 : Int) ≠ 0; decide
  · exact countR_err h
theorem takeR_err {fin : Int} {s : RS} {e : PE} (h : takeR fin s = .error e) : e.2 ≠ 0 := by
  unfold takeR at h
  split at h
  · cases h; show (9 : Int) ≠ 0; decide
  · cases h
theorem parse_err (fin : Int) : ∀ k, (∀ s e, litR fin k s = .error e → e.2 ≠ 0) ∧ (∀ s e, itemR fin k s = .error e → e.2 ≠ 0) ∧
    (∀ shut s acc e, itemsR fin k shut s acc = .error e → e.2 ≠ 0) ∧ (∀ s acc e, valsR fin k s acc = .error e → e.2 ≠ 0) := by
  intro k
  induction k with
  | zero =>
    refine ⟨?_, ?_, ?_, ?_⟩
    · intro s e h; rw [litR] at h; cases h; decide
    · intro s e h; rw [itemR] at h; cases h; decide
    · intro shut s acc e h; rw [itemsR] at h; cases h; decide
    · intro s acc e h; rw [valsR] at h; cases h; decide
  | succ k ih =>
    obtain ⟨ih1, ih2, ih3, ih4⟩ := ih
    refine ⟨?_, ?_, ?_, ?_⟩
    · intro s e h
      rw [litR] at h
      split at h
      · cases h
      · have cnt : ∀ {t : Tok} {r : List Tok} {v : Tree}, (match countR t.pos { s with l := r } with
            | .error e => (.error e : PR (Option Tree))
            | .ok s' => .ok (some v, s')) = .error e → e.2 ≠ 0 := by
          intro t r v h
          split at h
          · rename_i hc; cases h; exact countR_err hc
          · cases h
        split at h
        · exact cnt h
        · split at h
          · exact cnt h
          · split at h
            · exact cnt h
            · split at h
              · split at h
                · rename_i he; cases h; exact enterR_err he
                · split at h
                  · rename_i hi; cases h; exact ih3 _ _ _ _ hi
                  · cases h
              · split at h
                · split at h
                  · rename_i he; cases h; exact enterR_err he
                  · split at h
                    · rename_i hi; cases h; exact ih4 _ _ _ hi
                    · cases h
                · cases h
    · intro s e h
      rw [itemR] at h
      split at h
      · rename_i hv; cases h; exact ih1 _ _ hv
      · cases h
      · split at h
        · cases h
        · split at h
          · cases h
          · split at h
            · rename_i ht; cases h; exact takeR_err ht
            · split at h
              · rename_i hc; cases h; exact countR_err hc
              · cases h
    · intro shut s acc e h
      rw [itemsR] at h
      split at h
      · split at h
        · rename_i ht; cases h; exact takeR_err ht
        · cases h
      · split at h
        · rename_i hi; cases h; exact ih2 _ _ hi
        · cases h; show (9 : Int) ≠ 0; decide
        · exact ih3 _ _ _ _ h
    · intro s acc e h
      rw [valsR] at h
      split at h
      · split at h
        · rename_i ht; cases h; exact takeR_err ht
        · cases h
      · split at h
        · rename_i hi; cases h; exact ih1 _ _ hi
        · cases h; show (9 : Int) ≠ 0; decide
        · exact ih4 _ _ _ h
theorem onlyR_err {fin : Int} : ∀ {k : Nat} {s : RS} {acc : List Tree} {e : PE}, onlyR fin k s acc = .error e → e.2 ≠ 0
  | 0, s, acc, e, h => by rw [onlyR] at h; cases h; decide
  | k + 1, s, acc, e, h => by
    rw [onlyR] at h
    split at h
    · rename_i hi; cases h; exact (parse_err fin _).2.1 _ _ hi
    · cases h
    · exact onlyR_err h
theorem wordR_err {fin : Int} {want : List UInt8} {s : RS} {e : PE} (h : wordR fin want s = .error e) : e.2 ≠ 0 := by
  unfold wordR at h
  split at h
  · cases h; show (9 : Int) ≠ 0; decide
  · split at h
    · cases h; show (9 : Int) ≠ 0; decide
    · split at h
      · rename_i ht; cases h; exact takeR_err ht
      · cases h
theorem namesR_err {fin : Int} {shut : List UInt8} : ∀ {k : Nat} {s : RS} {n : Nat} {e : PE}, namesR fin shut k s n = .error e → e.2 ≠ 0
  | 0, s, n, e, h => by rw [namesR] at h; cases h; decide
  | k + 1, s, n, e, h => by
    rw [namesR] at h
    split at h
    · split at h
      · rename_i ht; cases h; exact takeR_err ht
      · cases h
    · split at h
      · rename_i hw; cases h; exact wordR_err hw
      · split at h
        · cases h; show (11 : Int) ≠ 0; decide
        · exact namesR_err h
theorem defineR_err {fin p : Int} {s : RS} {e : PE} (h : defineR fin p s = .error e) : e.2 ≠ 0 := by
  unfold defineR at h
  split at h
  · rename_i h1; cases h; exact enterR_err h1
  · split at h
    · rename_i h1; cases h; exact wordR_err h1
    · split at h
      · rename_i h1; cases h; exact wordR_err h1
      · split at h
        · rename_i h1; cases h; exact namesR_err h1
        · split at h
          · rename_i h1; cases h; exact namesR_err h1
          · split at h
            · rename_i h1; cases h; exact (parse_err fin _).2.2.1 _ _ _ _ h1
            · cases h
theorem formsR_err {fin : Int} : ∀ {k : Nat} {s : RS} {acc : List FormT} {e : PE}, formsR fin k s acc = .error e → e.2 ≠ 0
  | 0, s, acc, e, h => by rw [formsR] at h; cases h; decide
  | k + 1, s, acc, e, h => by
    rw [formsR] at h
    split at h
    · split at h
      · rename_i ht; cases h; exact takeR_err ht
      · split at h
        · rename_i hd; cases h; exact defineR_err hd
        · exact formsR_err h
    · split at h
      · rename_i hi; cases h; exact (parse_err fin _).2.1 _ _ hi
      · cases h
      · exact formsR_err h
end Go.Proofs.YthhonmkmmalfjaaGreatDoor

namespace Go.Proofs.YthhonmkmmalfjaaGreatDoor
open Go Go.Av
def litV (x : Option Tree) : AV := match x with
  | none => .tup [.nili, .bool false]
  | some t => .tup [valAV t, .bool true]
def itemV (x : Option Tree) : AV := match x with
  | none => .tup [.nili, .bool false]
  | some t => .tup [itemAV t, .bool true]
structure RsOk (s : RS) : Prop where
  opn : s.opn ≤ 32
  sz : s.sz ≤ 1024
  cnt : s.l.length ≤ 4096
/-- Something that is handed back as it is. -/
theorem ret_same {Post : AOut → St → Prop} {out : AOut} {st st' : St} (h : VSel st' st) (k : Post out st') : VRet (fun out st' => ∃ out' st'', FzO out out' st' st'' ∧ Post out' st'') out st :=
  VRet.mk st' h ⟨out, st', .same _ _, k⟩



structure VlI where
  k : Nat
  s : RS
  acc : List Tree
  o : Option Nat
structure ItI where
  k : Nat
  s : RS
  acc : List Tree
  o : Option Nat

theorem litR_plain (fin : Int) : ∀ (k : Nat) (s s' : RS) (v : Tree), litR fin k s = .ok (some v, s') → itemAV v = .iface 78 (.agg [valAV v]) := by
  intro k s s' v h
  cases k with
  | zero => simp [litR] at h
  | succ k =>
    rw [litR] at h
    split at h
    · cases h
    · split at h
      · split at h
        · cases h
        · cases h; rfl
      · split at h
        · split at h
          · cases h
          · cases h; rfl
        · split at h
          · split at h
            · cases h
            · cases h; rfl
          · split at h
            · split at h
              · cases h
              · split at h
                · cases h
                · cases h; rfl
            · split at h
              · split at h
                · cases h
                · split at h
                  · cases h
                  · cases h; rfl
              · cases h
end Go.Proofs.YthhonmkmmalfjaaGreatDoor

namespace Go.Proofs.YthhonmkmmalfjaaGreatDoor
open Go Go.Av
theorem spanR_append (p : Nat → Bool) : ∀ (a b : List (Nat × Nat)), spanR p (a ++ b) = if a.any (fun x => p x.1) then spanR p a else (a.map (·.2)).sum + spanR p b
  | [], b => by simp
  | (r, k) :: a, b => by
    rw [List.cons_append, spanR, spanR_append p a b]
    cases h : p r with
    | true => simp [h, spanR]
    | false =>
      simp only [h, List.any_cons, Bool.false_or, Bool.false_eq_true, if_false, spanR, List.map_cons, List.sum_cons]
      split <;> omega
theorem blank_nl : blankB ((10 : UInt8).toNat : Nat) = true := by decide
theorem wlen_nl (r t : List UInt8) : wlen (r ++ 10 :: t) = wlen r := by
  unfold wlen
  rw [runes_app r 10 t (by decide), spanR_append]
  split
  · rfl
  · rename_i h
    rw [runes_ascii 10 t (by decide), spanR, if_pos blank_nl, spanR_none (by simpa using h)]; rfl
theorem trimL_nl (l t : List UInt8) : trimL (l ++ 10 :: t) = if trimL l = [] then trimL t else trimL l ++ 10 :: t := by
  unfold trimL
  rw [runes_app l 10 t (by decide), spanR_append]
  by_cases h : (runes l).any (fun x => !blankB x.1) = true
  · rw [if_pos h]
    have hlt : spanR (fun r => !blankB r) (runes l) < l.length := by
      rw [← sum_runes l]
      clear t
      have hp : ∀ x ∈ runes l, 1 ≤ x.2 := by
        clear h
        induction l using runes_ind with
        | h0 => simp
        | h1 l hl ih =>
          rw [runes_cons hl]
          intro x hx
          rcases List.mem_cons.1 hx with rfl | hx
          · exact (dec_pos l hl).1
          · exact ih x hx
      revert h hp
      generalize runes l = rs
      intro h hp
      induction rs with
      | nil => simp at h
      | cons c rs ih =>
        obtain ⟨r, k⟩ := c
        have hk : 1 ≤ k := hp (r, k) (List.mem_cons_self ..)
        rw [spanR, List.map_cons, List.sum_cons]
        cases hr : blankB r with
        | false => simp; omega
        | true =>
          simp [hr] at h
          have := ih (by simpa using h) (fun x hx => hp x (List.mem_cons_of_mem _ hx))
          simp; omega
    rw [if_neg (by simp; omega), List.drop_append_of_le_length (by omega)]
  · rw [if_neg h]
    rw [Bool.not_eq_true] at h
    rw [spanR_none (rs := runes l) h, sum_runes, if_pos (by simp), runes_ascii 10 t (by decide), spanR]
    rw [if_neg (by rw [blank_nl]; simp)]
    rw [show l.length + (1 + spanR (fun r => !blankB r) (runes t)) = l.length + (spanR (fun r => !blankB r) (runes t) + 1) by omega, ← List.drop_drop, List.drop_left]
    rfl
theorem trimL_nl0 (t : List UInt8) : trimL (10 :: t) = trimL t := by
  have := trimL_nl [] t
  rw [if_pos (show trimL [] = [] from rfl)] at this; exact this
theorem indexByte_nl : ∀ (r t : List UInt8), Lib.indexByte (r ++ 10 :: t) 10 = if Lib.indexByte r 10 < 0 then (r.length : Int) else Lib.indexByte r 10
  | [], t => by simp [Lib.indexByte]
  | c :: r, t => by
    have ih := indexByte_nl r t
    have hb := indexByte_lt r 10
    have hb2 := indexByte_lt (r ++ 10 :: t) 10
    rw [List.cons_append]
    unfold Lib.indexByte
    rw [ih] at hb2 ⊢
    simp only [beq_iff_eq, List.length_cons]
    repeat' split
    all_goals omega
theorem textL_app (a : Nat) (y : List UInt8) : ∀ (r acc : List UInt8) (i : Nat), (textL a r acc i).2.2 = 0 → textL a (r ++ y) acc i = textL a r acc i
  | [], acc, i, h => by simp [textL] at h
  | c :: r, acc, i, h => by
    rw [List.cons_append, textL_cons, textL_cons]
    rw [textL_cons] at h
    by_cases h1 : c = 34
    · rw [if_pos h1, if_pos h1]
    · rw [if_neg h1] at h ⊢
      rw [if_neg h1]
      by_cases h2 : c = 92
      · rw [if_pos h2] at h ⊢
        rw [if_pos h2]
        match r with
        | [] => simp at h
        | d :: r' =>
          rw [List.cons_append]
          dsimp only at h ⊢
          cases he : esc d with
          | none => rfl
          | some e =>
            rw [he] at h
            dsimp only at h ⊢
            exact textL_app a y r' _ _ h
      · rw [if_neg h2] at h ⊢
        rw [if_neg h2]
        exact textL_app a y r _ _ h
theorem textL_shift (a d : Nat) : ∀ (r acc : List UInt8) (i : Nat), textL (d + a) r acc (d + i) = ((textL a r acc i).1, (d : Int) + (textL a r acc i).2.1, (textL a r acc i).2.2)
  | [], acc, i => by simp [textL]
  | c :: r, acc, i => by
    rw [textL_cons, textL_cons]
    by_cases h1 : c = 34
    · rw [if_pos h1, if_pos h1]
      by_cases h2 : acc.length > 4096
      · rw [if_pos h2, if_pos h2]; simp
      · rw [if_neg h2, if_neg h2]; simp; try omega
    · rw [if_neg h1, if_neg h1]
      by_cases h2 : c = 92
      · rw [if_pos h2, if_pos h2]
        match r with
        | [] => simp
        | d' :: r' =>
          dsimp only
          cases he : esc d' with
          | none => simp
          | some e =>
            dsimp only
            rw [show d + i + 2 = d + (i + 2) by omega]
            exact textL_shift a d r' _ _
      · rw [if_neg h2, if_neg h2, show d + i + 1 = d + (i + 1) by omega]
        exact textL_shift a d r _ _
/-- What a step is where a line's end and more stand behind. -/
def stepApp (y : List UInt8) : TStep → TStep
  | .skip l => .skip (l ++ y)
  | .tok t l => .tok t (l ++ y)
  | .bad p e => .bad p e
  | .stop => .skip y
theorem tokAt_nl (n : Nat) (r t : List UInt8) (hr : r.length ≤ n) (hne : r.take (wlen r) ≠ []) (hbad : ∀ p e, tokAt n r ≠ .bad p e) :
    tokAt (n + 1 + t.length) (r ++ 10 :: t) = stepApp (10 :: t) (tokAt n r) := by
  have hw := wlen_le r
  have htk : (r ++ 10 :: t).take (wlen r) = r.take (wlen r) := List.take_append_of_le_length hw
  have hN : n + 1 + t.length - (r ++ 10 :: t).length = n - r.length := by simp; omega
  unfold tokAt at hbad ⊢
  rw [wlen_nl, htk, hN]
  by_cases h1 : r.take (wlen r) = [33]
  · rw [if_pos h1, if_pos h1, indexByte_nl]
    have hb := indexByte_lt r 10
    by_cases h2 : Lib.indexByte r 10 < 0
    · rw [if_pos h2, if_pos h2, if_neg (by omega), stepApp, show ((r.length : Int)).toNat = r.length by omega, List.drop_left]
    · rw [if_neg h2, if_neg h2, if_neg h2, stepApp, List.drop_append_of_le_length (by omega)]
  · rw [if_neg h1] at hbad ⊢
    rw [if_neg h1]
    cases hx : r.take (wlen r) with
    | nil => exact absurd hx hne
    | cons c q =>
      rw [hx] at hbad
      dsimp only at hbad ⊢
      have hdrop : (r ++ 10 :: t).drop (wlen r) = r.drop (wlen r) ++ 10 :: t := List.drop_append_of_le_length hw
      have hr0 : 1 ≤ r.length := by
        cases r with
        | nil => simp at hx
        | cons => simp
      by_cases h3 : c = 34
      · rw [if_pos h3] at hbad ⊢
        rw [if_pos h3]
        rw [List.drop_append_of_le_length (l₁ := r) hr0]
        by_cases he : (textL (n - r.length) (r.drop 1) [] (n - r.length + 1)).2.2 = 0
        · rw [textL_app _ _ _ _ _ he]
          have hnx := textL_next _ _ _ _ he
          rw [if_pos he, if_pos he, stepApp, List.drop_append_of_le_length]
          rw [List.length_drop] at hnx; omega
        · rw [if_neg he] at hbad; exact absurd rfl (hbad _ _)
      · rw [if_neg h3] at hbad ⊢
        rw [if_neg h3]
        rw [hdrop]
        cases hd : (digitsR (c :: q)).2.1 with
        | true =>
          rw [hd] at hbad
          rw [if_pos rfl] at hbad ⊢
          cases ho : (digitsR (c :: q)).2.2 with
          | true => rw [ho] at *; simp [stepApp]
          | false => rw [ho] at hbad; simp at hbad
        | false =>
          rw [hd] at hbad
          rw [if_neg (by simp)] at hbad ⊢
          cases ho : nameR (c :: q) with
          | true => rw [ho] at *; simp [stepApp]
          | false => rw [ho] at hbad; simp at hbad
theorem textL_bad (a : Nat) : ∀ (r acc : List UInt8) (i : Nat), (textL a r acc i).2.2 = 0 ∨ (textL a r acc i).2.2 = 9 ∨ (textL a r acc i).2.2 = 11
  | [], acc, i => by simp [textL]
  | c :: r, acc, i => by
    rw [textL_cons]
    by_cases h1 : c = 34
    · rw [if_pos h1]
      by_cases h2 : acc.length > 4096
      · rw [if_pos h2]; simp
      · rw [if_neg h2]; simp
    · rw [if_neg h1]
      by_cases h2 : c = 92
      · rw [if_pos h2]
        match r with
        | [] => simp
        | d' :: r' =>
          dsimp only
          cases he : esc d' with
          | none => simp
          | some e => exact textL_bad a r' _ _
      · rw [if_neg h2]; exact textL_bad a r _ _
theorem tokAt_bad (n : Nat) (r : List UInt8) (p : Int) : tokAt n r ≠ .bad p 0 := by
  intro h
  unfold tokAt at h
  split at h
  · split at h <;> cases h
  · split at h
    · cases h
    · split at h
      · split at h
        · cases h
        · rename_i hne
          injection h with _ h
          exact hne h
      · split at h
        · split at h
          · cases h
          · injection h with _ h; exact absurd h (by decide)
        · split at h
          · cases h
          · injection h with _ h; exact absurd h (by decide)
theorem tokAt_pos {n : Nat} {r l' : List UInt8} {t : Tok} (h : tokAt n r = .tok t l') : 0 ≤ t.pos ∧ t.pos ≤ n := by
  unfold tokAt at h
  split at h
  · split at h <;> cases h
  · split at h
    · cases h
    · split at h
      · split at h
        · injection h with h _; subst h; dsimp only; omega
        · cases h
      · split at h
        · split at h
          · injection h with h _; subst h; dsimp only; omega
          · cases h
        · split at h
          · injection h with h _; subst h; dsimp only; omega
          · cases h
/-- Tokens are only added. -/
theorem toks_len (n : Nat) : ∀ (l : List UInt8) (out : List Tok), (toks n l out).2.2 = 0 → out.length ≤ (toks n l out).1.length := by
  intro l
  induction hm : l.length using Nat.strongRecOn generalizing l with
  | _ m ih =>
    intro out h
    rw [toks_step] at h ⊢
    by_cases e : l = []
    · rw [if_pos e]; exact Nat.le_refl _
    · rw [if_neg e] at h ⊢
      have hl := trimL_le l
      cases hs : tokAt n (trimL l) with
      | stop => exact Nat.le_refl _
      | bad p e' => rw [hs] at h; dsimp only at h; subst h; exact absurd hs (tokAt_bad _ _ _)
      | skip l' =>
        rw [hs] at h
        have := (tokAt_less (.inl hs)).1
        exact ih _ (by omega) l' rfl out h
      | tok t l' =>
        rw [hs] at h
        have := (tokAt_less (.inr ⟨t, hs⟩)).1
        dsimp only at h ⊢
        by_cases hb : out.length ≥ 4096
        · rw [if_pos hb] at h; simp at h
        · rw [if_neg hb] at h ⊢
          have := ih _ (by omega) l' rfl (out ++ [t]) h
          simp at this; omega
def Tok.shift (d : Nat) (t : Tok) : Tok := { t with pos := d + t.pos }
def stepShift (d : Nat) : TStep → TStep
  | .skip l => .skip l
  | .tok t l => .tok (t.shift d) l
  | .bad p e => .bad (d + p) e
  | .stop => .stop
theorem tokAt_shift (n d : Nat) (r : List UInt8) (hr : r.length ≤ n) : tokAt (d + n) r = stepShift d (tokAt n r) := by
  have hN : d + n - r.length = d + (n - r.length) := by omega
  unfold tokAt
  rw [hN]
  by_cases h1 : r.take (wlen r) = [33]
  · rw [if_pos h1, if_pos h1]
    by_cases h2 : Lib.indexByte r 10 < 0
    · rw [if_pos h2, stepShift]
    · rw [if_neg h2, stepShift]
  · rw [if_neg h1, if_neg h1]
    cases hx : r.take (wlen r) with
    | nil => rfl
    | cons c q =>
      dsimp only
      by_cases h3 : c = 34
      · rw [if_pos h3, if_pos h3]
        have hs := textL_shift (n - r.length) d (r.drop 1) [] (n - r.length + 1)
        rw [show d + (n - r.length + 1) = d + (n - r.length) + 1 by omega] at hs
        rw [hs]
        dsimp only
        by_cases he : (textL (n - r.length) (r.drop 1) [] (n - r.length + 1)).2.2 = 0
        · rw [if_pos he, if_pos he, stepShift]
          simp only [Tok.shift]
          congr 2
          omega
        · rw [if_neg he, if_neg he, stepShift]
      · rw [if_neg h3, if_neg h3]
        cases hd : (digitsR (c :: q)).2.1 with
        | true =>
          cases ho : (digitsR (c :: q)).2.2 with
          | true => simp [stepShift, Tok.shift]
          | false => simp [stepShift]
        | false =>
          cases ho : nameR (c :: q) with
          | true => simp [stepShift, Tok.shift]
          | false => simp [stepShift]
/-- The rest of a text, where it stands further behind, and behind other tokens. -/
theorem toks_shift (n d : Nat) : ∀ (m : Nat) (l : List UInt8) (out pre : List Tok), l.length ≤ m → l.length ≤ n → (toks n l out).2.2 = 0 → pre.length + (toks n l out).1.length ≤ 4096 →
    toks (d + n) l (pre ++ out.map (Tok.shift d)) = (pre ++ (toks n l out).1.map (Tok.shift d), 0, 0) := by
  intro m
  induction m with
  | zero =>
    intro l out pre hm hn h hc
    obtain rfl : l = [] := List.length_eq_zero_iff.1 (by omega)
    rfl
  | succ m ih =>
    intro l out pre hm hn h hc
    rw [toks_step] at h hc ⊢
    rw [toks_step n]
    by_cases e : l = []
    · rw [if_pos e, if_pos e]
    · rw [if_neg e] at h hc ⊢
      rw [if_neg e]
      have hl := trimL_le l
      rw [tokAt_shift n d (trimL l) (by omega)]
      cases hs : tokAt n (trimL l) with
      | stop => rfl
      | bad p e' =>
        rw [hs] at h
        dsimp only at h
        subst h
        exact absurd hs (tokAt_bad _ _ _)
      | skip l' =>
        rw [hs] at h hc
        have := (tokAt_less (.inl hs)).1
        exact ih l' out pre (by omega) (by omega) h hc
      | tok t l' =>
        rw [hs] at h hc
        have := (tokAt_less (.inr ⟨t, hs⟩)).1
        dsimp only [stepShift] at h hc ⊢
        by_cases hb : out.length ≥ 4096
        · rw [if_pos hb] at h; simp at h
        · rw [if_neg hb] at h hc ⊢
          have hlen := toks_len n l' (out ++ [t])
          have := ih l' (out ++ [t]) pre (by omega) (by omega) h hc
          rw [if_neg, ← this]
          · simp
          · have h3 := hlen h
            simp at h3 ⊢; omega
theorem toks_run (N : Nat) (l : List UInt8) (out : List Tok) : toks N l out = match tokAt N (trimL l) with
    | .stop => (out, 0, 0)
    | .skip l' => toks N l' out
    | .bad p e => ([], p, e)
    | .tok t l' => if out.length ≥ 4096 then ([], t.pos, 11) else toks N l' (out ++ [t]) := by
  rw [toks_step]
  by_cases e : l = []
  · subst e; rfl
  · rw [if_neg e] <;> (cases tokAt N (trimL l) <;> rfl)
theorem runes_drop_span (p : Nat → Bool) (l : List UInt8) : l.drop (spanR p (runes l)) = [] ∨ p (dec (l.drop (spanR p (runes l)))).1 = true := by
  induction l using runes_ind with
  | h0 => left; rfl
  | h1 l hl ih =>
    rw [runes_cons hl]
    unfold spanR
    cases h : p (dec l).1 with
    | true => right; simpa using h
    | false =>
      simp only [Bool.false_eq_true, if_false]
      rw [← List.drop_drop]
      exact ih
theorem trimL_first {l : List UInt8} (h : trimL l ≠ []) : blankB (dec (trimL l)).1 = false := by
  rcases runes_drop_span (fun r => !blankB r) l with h1 | h1
  · exact absurd h1 h
  · unfold trimL; simpa using h1
theorem word_ne {l : List UInt8} (h : trimL l ≠ []) : (trimL l).take (wlen (trimL l)) ≠ [] := by
  have h1 := trimL_first h
  obtain ⟨h2, h3, _⟩ := dec_pos _ h
  unfold wlen
  rw [runes_cons h, spanR, if_neg (by simp [h1])]
  intro h4
  have := congrArg List.length h4
  simp at this
  rcases this with h5 | h5
  · omega
  · exact h h5
theorem toks_join (n : Nat) (t : List UInt8) : ∀ (m : Nat) (l : List UInt8) (out : List Tok), l.length ≤ m → l.length ≤ n → (toks n l out).2.2 = 0 →
    toks (n + 1 + t.length) (l ++ 10 :: t) out = toks (n + 1 + t.length) t (toks n l out).1 := by
  intro m
  induction m with
  | zero =>
    intro l out hm hn h
    obtain rfl : l = [] := List.length_eq_zero_iff.1 (by omega)
    rw [List.nil_append, toks_run, trimL_nl0, toks_run _ t]
    rfl
  | succ m ih =>
    intro l out hm hn h
    have hl := trimL_le l
    by_cases ht : trimL l = []
    · rw [toks_run n l, ht]
      rw [toks_run, trimL_nl, if_pos ht, toks_run _ t]
      rfl
    · rw [toks_run, trimL_nl, if_neg ht]
      rw [toks_run n l] at h ⊢
      have hb : ∀ p e, tokAt n (trimL l) ≠ .bad p e := by
        intro p e hs
        rw [hs] at h
        dsimp only at h
        subst h
        exact absurd hs (tokAt_bad _ _ _)
      rw [tokAt_nl n (trimL l) t (by omega) (word_ne ht) hb]
      cases hs : tokAt n (trimL l) with
      | stop =>
        dsimp only [stepApp]
        rw [toks_run, trimL_nl0, ← toks_run]
      | bad p e => exact absurd hs (hb p e)
      | skip l' =>
        rw [hs] at h
        have := (tokAt_less (.inl hs)).1
        exact ih l' out (by omega) (by omega) h
      | tok x l' =>
        rw [hs] at h
        have := (tokAt_less (.inr ⟨x, hs⟩)).1
        dsimp only [stepApp] at h ⊢
        by_cases hb : out.length ≥ 4096
        · rw [if_pos hb] at h; simp at h
        · rw [if_neg hb] at h ⊢
          rw [if_neg hb]
          exact ih l' _ (by omega) (by omega) h
theorem toks_ok (n : Nat) : ∀ (l : List UInt8) (out : List Tok), (toks n l out).2.2 = 0 → (toks n l out).2.1 = 0 ∧ (out.length ≤ 4096 → (toks n l out).1.length ≤ 4096) ∧ ((∀ t ∈ out, 0 ≤ t.pos ∧ t.pos ≤ n) → ∀ t ∈ (toks n l out).1, 0 ≤ t.pos ∧ t.pos ≤ n) := by
  intro l
  induction hm : l.length using Nat.strongRecOn generalizing l with
  | _ m ih =>
    intro out h
    rw [toks_step] at h ⊢
    by_cases e : l = []
    · rw [if_pos e]; exact ⟨rfl, id, id⟩
    · rw [if_neg e] at h ⊢
      have hl := trimL_le l
      cases hs : tokAt n (trimL l) with
      | stop => exact ⟨rfl, id, id⟩
      | bad p e' => rw [hs] at h; dsimp only at h; subst h; exact absurd hs (tokAt_bad _ _ _)
      | skip l' =>
        rw [hs] at h
        have := (tokAt_less (.inl hs)).1
        exact ih _ (by omega) l' rfl out h
      | tok t l' =>
        rw [hs] at h
        have := (tokAt_less (.inr ⟨t, hs⟩)).1
        dsimp only at h ⊢
        by_cases hb : out.length ≥ 4096
        · rw [if_pos hb] at h; simp at h
        · rw [if_neg hb] at h ⊢
          obtain ⟨h1, h2, h3⟩ := ih _ (by omega) l' rfl (out ++ [t]) h
          refine ⟨h1, fun _ => h2 (by simp; omega), fun ho => h3 ?_⟩
          intro x hx
          rcases List.mem_append.1 hx with hx | hx
          · exact ho x hx
          · rw [List.mem_singleton.1 hx]
            exact tokAt_pos hs
theorem tokens_ok (s : List UInt8) (h : (tokensR s).2.2 = 0) : s.length ≤ 65536 ∧ (tokensR s).2.1 = 0 ∧ (tokensR s).1.length ≤ 4096 ∧ ∀ t ∈ (tokensR s).1, 0 ≤ t.pos ∧ t.pos ≤ s.length := by
  unfold tokensR at h ⊢
  by_cases hs : s.length > 65536
  · rw [if_pos hs] at h; simp at h
  · rw [if_neg hs] at h ⊢
    cases f1 : faultR s with
    | some i => rw [f1] at h; simp at h
    | none =>
      rw [f1] at h
      obtain ⟨h1, h2, h3⟩ := toks_ok s.length s [] h
      exact ⟨by omega, h1, h2 (by simp), h3 (by simp)⟩
/-- Two texts, a line's end between. -/
theorem tokens_join {s t : List UInt8} (hs : (tokensR s).2.2 = 0) (ht : (tokensR t).2.2 = 0) (hlen : s.length + t.length < 65536) (hcnt : (tokensR s).1.length + (tokensR t).1.length ≤ 4096) :
    tokensR (s ++ 10 :: t) = ((tokensR s).1 ++ (tokensR t).1.map (Tok.shift (s.length + 1)), 0, 0) := by
  unfold tokensR at hs ht hcnt ⊢
  rw [if_neg (by omega)] at hs ht
  rw [if_neg (show ¬ s.length > 65536 by omega), if_neg (show ¬ t.length > 65536 by omega)] at hcnt ⊢
  rw [if_neg (by simp; omega)]
  cases f1 : faultR s with
  | some i => rw [f1] at hs; simp at hs
  | none =>
    cases f2 : faultR t with
    | some i => rw [f2] at ht; simp at ht
    | none =>
      rw [f1] at hs hcnt
      rw [f2] at ht hcnt
      rw [(faultR_app s 10 t (by decide)).2 ⟨f1, f2⟩]
      dsimp only at hs ht hcnt ⊢
      have h1 := toks_join s.length t s.length s [] (Nat.le_refl _) (Nat.le_refl _) hs
      rw [show (s ++ 10 :: t).length = s.length + 1 + t.length by simp; omega, h1]
      have h2 := toks_shift t.length (s.length + 1) t.length t [] (toks s.length s []).1 (Nat.le_refl _) (Nat.le_refl _) ht hcnt
      simpa using h2
end Go.Proofs.YthhonmkmmalfjaaGreatDoor

namespace Go.Proofs.YthhonmkmmalfjaaGreatDoor
open Go Go.Av
def defV (d : DefT) : AV := .agg [.str d.name, .int .i64 d.inn, .int .i64 d.out, .fz (itemAVs d.body) d.body.length false]

theorem namesR_less {fin : Int} {shut : List UInt8} : ∀ {k : Nat} {s : RS} {n : Nat} {x : Nat × RS}, namesR fin shut k s n = .ok x → x.2.l.length < s.l.length ∧ x.2.opn = s.opn ∧ x.2.sz = s.sz
  | 0, s, n, x, h => by simp [namesR] at h
  | k + 1, s, n, x, h => by
    rw [namesR] at h
    split at h
    · split at h
      · cases h
      · rename_i t s' ht
        cases h
        exact takeR_less ht
    · split at h
      · cases h
      · rename_i w s' hw
        have h1 := wordR_less hw
        dsimp only at h1
        split at h
        · cases h
        · have h2 := namesR_less h
          omega
theorem defineR_less {fin p : Int} {s : RS} {x : DefT × RS} (h : defineR fin p s = .ok x) : Less s x.2 True := by
  unfold defineR at h
  split at h
  · cases h
  · rename_i s1 h1
    have l1 := enterR_ok h1
    split at h
    · cases h
    · rename_i nm s2 h2
      have l2 := wordR_less h2
      split at h
      · cases h
      · rename_i _ s3 h3
        have l3 := wordR_less h3
        split at h
        · cases h
        · rename_i i s4 h4
          have l4 := namesR_less h4
          split at h
          · cases h
          · rename_i o s5 h5
            have l5 := namesR_less h5
            split at h
            · cases h
            · rename_i bd s6 h6
              have l6 := (parse_less fin _).2.2.1 _ _ _ _ h6
              have l7 := l6.opn
              have l8 := l6.lt trivial
              cases h
              dsimp only at l2 l3 l4 l5 l7 l8
              have l9 : s1.l.length = s.l.length := by rw [l1.1]
              exact ⟨by dsimp only; omega, by dsimp only; omega, fun hs => l6.sz (by have := l1.2.2.2 hs; omega), fun _ => by dsimp only; omega⟩
def ReadR {α : Type} (s : List UInt8) (stc : St) (what : RS → PR α) (stx : α → St → Prop) (out : AOut) (st : St) : Prop :=
  if (tokensR s).2.2 ≠ 0 then out = .ret (.tup [.int .i64 (tokensR s).2.1, .int .i64 (tokensR s).2.2]) ∧ st = stc else match what ⟨(tokensR s).1, 0, 0⟩ with
    | .error e => out = .ret (.tup [.int .i64 e.1, .int .i64 e.2]) ∧ st = []
    | .ok x => if x.2.l ≠ [] then out = .ret (.tup [.int .i64 (atR s.length x.2.l), .int .i64 9]) ∧ st = [] else out = .ret (.tup [.int .i64 0, .int .i64 0]) ∧ stx x.1 st
structure OnI where
  k : Nat
  s : RS
  acc : List Tree
  o : Option Nat
/-- The list of items that is made. -/
def ItemsSt (bl : Nat) (acc : List Tree) (st : St) : Prop := ∃ o : Option Nat, st = (bl, .box [accV o acc.length]) :: accS o 1 (itemAVs acc) ∧ (o = none → acc = [])
theorem start_ok (s : List UInt8) (h : (tokensR s).2.2 = 0) (hcnt : (tokensR s).1.length ≤ 4096) : RsOk ⟨(tokensR s).1, 0, 0⟩ := ⟨by simp, by simp, hcnt⟩
/-- What Items and Parse make of a reading. -/
theorem readR_err {α : Type} {s : List UInt8} {what : RS → PR (List α)} (h : (tokensR s).2.2 ≠ 0) : readR s what = ([], (tokensR s).2.1, (tokensR s).2.2) := by rw [readR, if_pos h]
def FormT.cells : FormT → List AV
  | .define d => [.bool true, .str d.name, .int .i64 d.inn, .int .i64 d.out, .fz (itemAVs d.body) d.body.length false, .nili]
  | .item t => [.bool false, .str [], .int .i64 0, .int .i64 0, .fz [] 0 false, itemAV t]
def formsC (l : List FormT) : List AV := (l.map FormT.cells).flatten
@[simp] theorem formsC_length (l : List FormT) : (formsC l).length = l.length * 6 := by
  induction l with
  | nil => rfl
  | cons t l ih =>
    show (t.cells ++ formsC l).length = _
    rw [List.length_append, ih]
    cases t <;> simp [FormT.cells] <;> omega
theorem formsC_snoc (l : List FormT) (t : FormT) : formsC (l ++ [t]) = formsC l ++ t.cells := by simp [formsC]
theorem take_formsC (l : List FormT) : (formsC l).take (l.length * 6) = formsC l := List.take_of_length_le (by simp)
structure FoI where
  k : Nat
  s : RS
  acc : List FormT
  o : Option Nat
def FormsSt (bl : Nat) (acc : List FormT) (st : St) : Prop := ∃ o : Option Nat, st = (bl, .box [accV o acc.length]) :: accS o 6 (formsC acc) ∧ (o = none → acc = [])
end Go.Proofs.YthhonmkmmalfjaaGreatDoor

namespace Go.Proofs.YthhonmkmmalfjaaGreatDoor
open Go Go.Av
structure RDef where
  name : List UInt8
  inn : Int
  out : Int
  body : List RV
def RDef.cells (d : RDef) : List AV := [.str d.name, .int .i64 d.inn, .int .i64 d.out, .fz (rvsC d.body) d.body.length false]
inductive RForm where
  | define (d : RDef)
  | item (v : RV)
def RForm.cells : RForm → List AV
  | .define d => .bool true :: (d.cells ++ [.int .i64 0, .int .i64 0, .str [], .fz [] 0 false])
  | .item v => .bool false :: ([.str [], .int .i64 0, .int .i64 0, .fz [] 0 false] ++ rvAV v)
def rformsC (l : List RForm) : List AV := (l.map RForm.cells).flatten
@[simp] theorem RForm.cells_length (f : RForm) : f.cells.length = 9 := by cases f <;> simp [RForm.cells, RDef.cells]
@[simp] theorem rformsC_length (l : List RForm) : (rformsC l).length = l.length * 9 := by
  induction l with
  | nil => rfl
  | cons t l ih => show (t.cells ++ rformsC l).length = _; rw [List.length_append, ih, RForm.cells_length, List.length_cons]; omega
theorem rformsC_snoc (l : List RForm) (t : RForm) : rformsC (l ++ [t]) = rformsC l ++ t.cells := by simp [rformsC]
theorem rformsC_app (a b : List RForm) : rformsC (a ++ b) = rformsC a ++ rformsC b := by simp [rformsC]
theorem rformsC_at : ∀ {l : List RForm} {r : List AV} {i : Nat} {v : RForm}, l[i]? = some v → ∃ q, (rformsC l ++ r).drop (i * 9) = v.cells ++ q
  | [], _, _, _, h => by simp at h
  | x :: l, r, 0, v, h => by simp at h; subst h; exact ⟨rformsC l ++ r, by simp [rformsC]⟩
  | x :: l, r, i + 1, v, h => by
    obtain ⟨q, hq⟩ := rformsC_at (l := l) (r := r) (i := i) (v := v) (by simpa using h)
    refine ⟨q, ?_⟩
    rw [← hq, show (i + 1) * 9 = 9 + i * 9 by omega, ← List.drop_drop]
    show List.drop (i * 9) (List.drop 9 ((x.cells ++ rformsC l) ++ r)) = _
    rw [List.append_assoc, List.drop_left' (RForm.cells_length x)]
def defRV (d : DefT) : RDef := ⟨d.name, d.inn, d.out, itemRVs d.body⟩
def formRV : FormT → RForm
  | .define d => .define (defRV d)
  | .item t => .item (itemRV t)
theorem formsC_at : ∀ {l : List FormT} {i : Nat} {v : FormT}, l[i]? = some v → ∃ q, (formsC l).drop (i * 6) = v.cells ++ q
  | [], _, _, h => by simp at h
  | x :: l, 0, v, h => by simp at h; subst h; exact ⟨formsC l, by simp [formsC]⟩
  | x :: l, i + 1, v, h => by
    obtain ⟨q, hq⟩ := formsC_at (l := l) (i := i) (v := v) (by simpa using h)
    refine ⟨q, ?_⟩
    rw [← hq, show (i + 1) * 6 = 6 + i * 6 by omega, ← List.drop_drop]
    show List.drop (i * 6) (List.drop 6 (x.cells ++ formsC l)) = _
    rw [List.drop_left' (by cases x <;> rfl)]
/-- Forms that the walks may read. -/
def FormT.clean : FormT → Bool
  | .define d => cleanAll d.body && decide (d.body.length ≤ 2513169434916)
  | .item t => t.clean && (match t with | .none => false | _ => true)
def FormsOut (l : List FormT) (out : AOut) (st : St) : Prop := ∃ o, out = .ret (accV o l.length) ∧ st = accS o 9 (rformsC (l.map formRV)) ∧ (o = none → l = [])
/-- No list of more than 2^40. -/
def RForm.small : RForm → Bool
  | .define d => smallAll d.body && decide (d.body.length ≤ 2513169434916)
  | .item v => v.small
def RForm.dPart : RForm → RDef
  | .define d => d
  | .item _ => ⟨[], 0, 0, []⟩
def RForm.vPart : RForm → RV
  | .define _ => .mk 0 0 [] []
  | .item v => v
def RForm.isDef : RForm → Bool
  | .define _ => true
  | .item _ => false
theorem RForm.cells_eq (f : RForm) : f.cells = .bool f.isDef :: (f.dPart.cells ++ rvAV f.vPart) := by
  cases f <;> simp [RForm.cells, RForm.isDef, RForm.dPart, RForm.vPart, RDef.cells, rvAV, rvsC]
end Go.Proofs.YthhonmkmmalfjaaGreatDoor

namespace Go.Proofs.YthhonmkmmalfjaaGreatDoor
open Go Go.Av
structure Ch where
  r : Nat
  a : Nat
  z : Nat
  bad : Bool
def chL (i : Nat) : List (Nat × Nat) → List Ch
  | [] => []
  | (r, k) :: rs => ⟨r, i, i + k, badB (r, k)⟩ :: chL (i + k) rs
def Ch.cells (c : Ch) : List AV := [.int .i32 c.r, .int .i64 c.a, .int .i64 c.z, .bool c.bad]
def chC (l : List Ch) : List AV := (l.map Ch.cells).flatten
@[simp] theorem chC_length (l : List Ch) : (chC l).length = l.length * 4 := by
  induction l with
  | nil => rfl
  | cons t l ih => show (t.cells ++ chC l).length = _; rw [List.length_append, ih]; simp [Ch.cells]; omega
theorem chC_snoc (l : List Ch) (t : Ch) : chC (l ++ [t]) = chC l ++ t.cells := by simp [chC]
theorem take_chC (l : List Ch) : (chC l).take (l.length * 4) = chC l := List.take_of_length_le (by simp)
theorem chC_at : ∀ {l : List Ch} {r : List AV} {i : Nat} {t : Ch}, l[i]? = some t → ((chC l ++ r).drop (i * 4)).take 4 = t.cells
  | [], _, _, _, h => by simp at h
  | x :: l, r, 0, t, h => by simp at h; subst h; rfl
  | x :: l, r, i + 1, t, h => by
    have := chC_at (l := l) (r := r) (i := i) (t := t) (by simpa using h)
    rw [← this, show (i + 1) * 4 = 4 + i * 4 by omega, ← List.drop_drop]; rfl
theorem chL_length : ∀ (i : Nat) (rs : List (Nat × Nat)), (chL i rs).length = rs.length
  | _, [] => rfl
  | i, (r, k) :: rs => by simp [chL, chL_length]
theorem chL_append : ∀ (i : Nat) (a b : List (Nat × Nat)), chL i (a ++ b) = chL i a ++ chL (i + (a.map (·.2)).sum) b
  | i, [], b => by simp [chL]
  | i, (r, k) :: a, b => by simp [chL, chL_append (i + k) a b, Nat.add_assoc]
theorem runes_len (l : List UInt8) : (runes l).length ≤ l.length := by
  induction l using runes_ind with
  | h0 => simp
  | h1 l hl ih =>
    obtain ⟨h1, h2, _⟩ := dec_pos l hl
    rw [runes_cons hl, List.length_cons]
    rw [List.length_drop] at ih; omega
/-- How long a character's own bytes are. -/
def encN (r : Nat) : Nat := (Utf8.encode (r : Int)).data.toList.length
theorem enc_len (r : Nat) : encN r = if r ≤ 1114111 ∧ ¬ (55296 ≤ r ∧ r ≤ 57343) then (if r < 128 then 1 else if r < 2048 then 2 else if r < 65536 then 3 else 4) else 3 := by
  unfold encN
  have hv : Utf8.valid (r : Int) = decide (r ≤ 1114111 ∧ ¬ (55296 ≤ r ∧ r ≤ 57343)) := by
    simp only [Utf8.valid]
    rw [Bool.eq_iff_iff]; simp; omega
  by_cases h : r ≤ 1114111 ∧ ¬ (55296 ≤ r ∧ r ≤ 57343)
  · rw [if_pos h]
    rw [decide_eq_true h] at hv
    simp only [Utf8.encode, hv, if_true, Int.toNat_natCast]
    by_cases h1 : r < 128
    · rw [if_pos h1, if_pos h1]; rfl
    rw [if_neg h1, if_neg h1]
    by_cases h2 : r < 2048
    · rw [if_pos h2, if_pos h2]; rfl
    rw [if_neg h2, if_neg h2]
    by_cases h3 : r < 65536
    · rw [if_pos h3, if_pos h3]; rfl
    rw [if_neg h3, if_neg h3]; rfl
  · rw [if_neg h]
    rw [decide_eq_false h] at hv
    simp only [Utf8.encode, hv, Bool.false_eq_true, if_false]
    rw [if_neg (by decide), if_neg (by decide), if_pos (by decide)]; rfl
theorem dec_enc {l : List UInt8} (h : l ≠ []) : badB (dec l) = false → encN (dec l).1 = (dec l).2 := by
  have hl : 1 ≤ l.length := by cases l with | nil => exact absurd rfl h | cons => simp
  rw [enc_len, dec_N]
  generalize (l.getD 0 0).toNat = a
  generalize (l.getD 1 0).toNat = b
  generalize (l.getD 2 0).toNat = c
  generalize (l.getD 3 0).toNat = d
  intro hb
  unfold Lib.decodeN at hb ⊢
  repeat' split
  all_goals first | (simp [badB] at hb; done) | (dsimp only at *; omega) | skip
  all_goals simp_all [badB]
  all_goals omega
def charsR (l : List UInt8) : List Ch := chL 0 (runes l)
structure ChI where
  o : Option Nat
  i : Nat
  out : List Ch



def fb : List Ch → Int
  | [] => -1
  | c :: r => if c.bad then (c.a : Int) else fb r
theorem fb_chL : ∀ (a : Nat) (rs : List (Nat × Nat)), fb (chL a rs) = match faultL rs with
    | none => -1
    | some j => ((a + j : Nat) : Int)
  | a, [] => rfl
  | a, (r, k) :: rs => by
    rw [chL, fb, faultL, fb_chL (a + k) rs]
    cases badB (r, k) with
    | true => simp
    | false =>
      cases faultL rs with
      | none => simp
      | some j => simp [Nat.add_assoc]
end Go.Proofs.YthhonmkmmalfjaaGreatDoor

namespace Go.Proofs.YthhonmkmmalfjaaGreatDoor
open Go Go.Av
end Go.Proofs.YthhonmkmmalfjaaGreatDoor

namespace Go.Proofs.YthhonmkmmalfjaaGreatDoor
open Go Go.Av
def scrR (r : Nat) : Int := if 48 ≤ r ∧ r ≤ 57 then 48 else if 1632 ≤ r ∧ r ≤ 1641 then 1632 else if 65296 ≤ r ∧ r ≤ 65305 then 65296 else 0
def numLoop (z : Int) : List Nat → Nat → Option Nat
  | [], n => some n
  | r :: rs, n => if scrR r ≠ z then none else numLoop z rs (min (10 * n + (r - z.toNat)) 1152921504606846977)
def minusR : List Nat → Bool
  | [] => false
  | r :: _ => decide (r = 45 ∨ r = 8722)
def numR' (l : List Nat) : Option Nat := match l with
  | [] => none
  | r :: rs => if scrR r = 0 then none else numLoop (scrR r) (r :: rs) 0
def numR (l : List Nat) : Option Nat := numR' (if minusR l then l.drop 1 else l)
def numV (m : Bool) (o : Option Nat) : AV := match o with
  | none => .tup [.int .u64 0, .bool m, .bool false]
  | some n => .tup [.int .u64 n, .bool m, .bool true]
theorem numLoop_le {z : Int} : ∀ {l : List Nat} {n m : Nat}, n ≤ 1152921504606846977 → numLoop z l n = some m → m ≤ 1152921504606846977
  | [], n, m, h, e => by cases e; exact h
  | r :: rs, n, m, h, e => by
    rw [numLoop] at e
    split at e
    · cases e
    · exact numLoop_le (Nat.min_le_right _ _) e
theorem chC_r {l : List Ch} {ra : List AV} {i : Nat} {x : Ch} (h : l[i]? = some x) : ((chC l ++ ra).drop (i * 4))[0]? = some (.int .i32 x.r) := by
  have e1 := chC_at (r := ra) h
  have := congrArg (·[0]?) e1
  simpa [List.getElem?_take, Ch.cells] using this
theorem scrR_bound {r : Nat} (h : scrR r ≠ 0) : (scrR r).toNat ≤ r ∧ r ≤ (scrR r).toNat + 9 ∧ 48 ≤ scrR r ∧ scrR r ≤ 65296 := by
  unfold scrR at h ⊢
  repeat' split
  all_goals (first | (exfalso; simp_all; done) | omega)


theorem charsR_r (l : List UInt8) : (charsR l).map (·.r) = chars l := by
  unfold charsR chars
  generalize 0 = i
  induction runes l generalizing i with
  | nil => rfl
  | cons x rs ih => obtain ⟨r, k⟩ := x; simp [chL, ih]
theorem charsR_le (l : List UInt8) : ∀ c ∈ charsR l, c.r ≤ 1114111 := by
  intro c hc
  have : c.r ∈ chars l := by rw [← charsR_r]; exact List.mem_map_of_mem hc
  clear hc
  generalize c.r = r at this
  revert this
  induction l using runes_ind with
  | h0 => simp [chars]
  | h1 l hl ih =>
    rw [chars_cons hl, List.mem_cons]
    rintro (h | h)
    · rw [h]; exact (dec_pos l hl).2.2.2
    · exact ih h
theorem charsR_len (l : List UInt8) : (charsR l).length ≤ l.length := by
  have := runes_len l
  unfold charsR; rw [chL_length]; exact this
/-- What the reference's Number says. -/
def refNumR (l : List Nat) : Int × Int := match numR l with
  | none => (0, 9)
  | some n => if minusR l ∧ n ≤ 1152921504606846976 then (-n, 0) else if 1152921504606846975 < n then (0, 11) else (n, 0)
theorem numR_le {l : List Nat} {n : Nat} (h : numR l = some n) : n ≤ 1152921504606846977 := by
  unfold numR numR' at h
  split at h
  · cases h
  · split at h
    · cases h
    · exact numLoop_le (by omega) h
end Go.Proofs.YthhonmkmmalfjaaGreatDoor

namespace Go.Proofs.YthhonmkmmalfjaaGreatDoor
open Go Go.Av
/-- What the reference's Name says. -/
def refNameR (l : List UInt8) : Bool := decide (1 ≤ (chars l).length ∧ (chars l).length ≤ 32) && !decide ((chars l).head? = some 34) && !decide (l = [33]) && (chars l).all (okCh false) && (numR (chars l)).isNone
theorem chC_cons (c : Ch) (r : List Ch) : chC (c :: r) = c.cells ++ chC r := by simp [chC]
/-! Numbers: as the program has them. -/
theorem digR_scrR (r : Nat) : digR r = if scrR r = 0 then none else some ((r : Int) - scrR r, scrR r) := by
  unfold digR scrR
  repeat' split
  all_goals first | rfl | omega
theorem num_dig {z : Int} (hz : 48 ≤ z) : ∀ (rs : List Nat) (n : Nat) (n' : Int) (ok : Bool), ((ok = true ∧ n' = n ∧ n ≤ 1152921504606846976) ∨ (ok = false ∧ n = 1152921504606846977)) →
    (numLoop z rs n = none ∧ digLoop rs n' ok z = none) ∨ ∃ m m' ok', numLoop z rs n = some m ∧ digLoop rs n' ok z = some (m', ok', z) ∧ ((ok' = true ∧ m' = m ∧ m ≤ 1152921504606846976) ∨ (ok' = false ∧ m = 1152921504606846977))
  | [], n, n', ok, h => .inr ⟨n, n', ok, rfl, rfl, h⟩
  | r :: rs, n, n', ok, h => by
    rw [numLoop, digLoop, digR_scrR]
    by_cases h0 : scrR r = 0
    · rw [if_pos (by omega), if_pos h0]; exact .inl ⟨rfl, rfl⟩
    rw [if_neg h0]
    have hb := scrR_bound h0
    dsimp only
    by_cases h1 : scrR r = z
    · rw [if_neg (by omega), if_neg (by omega)]
      by_cases h2 : n' > (1152921504606846976 - ((r : Int) - scrR r)) / 10
      · rw [if_pos h2, h1]
        refine num_dig hz rs _ _ _ (.inr ⟨rfl, ?_⟩)
        rcases h with ⟨_, h, _⟩ | ⟨_, h⟩ <;> omega
      · rw [if_neg h2, h1]
        refine num_dig hz rs _ _ _ ?_
        rcases h with ⟨e, h, _⟩ | ⟨e, h⟩
        · exact .inl ⟨e, by omega, by omega⟩
        · exact .inr ⟨e, by omega⟩
    · rw [if_pos h1, if_pos (by omega)]; exact .inl ⟨rfl, rfl⟩
theorem num_dig0 (l : List Nat) : (numR' l = none ∧ (digLoop l 0 true (-1) = none ∨ l = [])) ∨ ∃ m m' ok' z, 48 ≤ z ∧ numR' l = some m ∧ digLoop l 0 true (-1) = some (m', ok', z) ∧ ((ok' = true ∧ m' = m ∧ m ≤ 1152921504606846976) ∨ (ok' = false ∧ m = 1152921504606846977)) := by
  cases l with
  | nil => exact .inl ⟨rfl, .inr rfl⟩
  | cons r rs =>
    rw [numR', digLoop, digR_scrR]
    by_cases h0 : scrR r = 0
    · rw [if_pos h0, if_pos h0]; exact .inl ⟨rfl, .inl rfl⟩
    · rw [if_neg h0, if_neg h0]
      have hb := scrR_bound h0
      dsimp only
      rw [if_neg (by omega), if_neg (by omega)]
      have := num_dig (z := scrR r) (by omega) rs (min (10 * 0 + (r - (scrR r).toNat)) 1152921504606846977) (10 * 0 + ((r : Int) - scrR r)) true (.inl ⟨rfl, by omega, by omega⟩)
      rw [numLoop, if_neg (by simp)]
      rcases this with h | ⟨m, m', ok', h1, h2, h3⟩
      · exact .inl ⟨h.1, .inl h.2⟩
      · exact .inr ⟨m, m', ok', _, by omega, h1, h2, h3⟩
theorem minus_eq (l : List UInt8) : minusB l = minusR (chars l) := by
  by_cases hl : l = []
  · subst hl; rfl
  rw [chars_cons hl, minusR]
  have hlen : 1 ≤ l.length := by cases l with | nil => exact absurd rfl hl | cons => simp
  have hs : minusB l = (decide ((l.getD 0 0).toNat = 45) || decide ((l.getD 0 0).toNat = 226 ∧ (l.getD 1 0).toNat = 136 ∧ (l.getD 2 0).toNat = 146)) := by
    unfold minusB begins
    match l with
    | [] => simp at hlen
    | [a] => simp [← UInt8.toNat_inj]
    | [a, b] => simp [← UInt8.toNat_inj]
    | a :: b :: d :: r => simp [← UInt8.toNat_inj]
  rw [hs, dec_N]
  have b0 := (l.getD 0 0).toNat_lt
  have b1 := (l.getD 1 0).toNat_lt
  have b2 := (l.getD 2 0).toNat_lt
  have b3 := (l.getD 3 0).toNat_lt
  have hlen2 : (l.getD 2 0).toNat ≠ 0 → 2 < l.length := by
    intro h; refine Decidable.byContradiction fun hn => h ?_
    rw [List.getD_eq_getElem?_getD, List.getElem?_eq_none (by omega)]; rfl
  generalize (l.getD 0 0).toNat = a at *
  generalize (l.getD 1 0).toNat = b at *
  generalize (l.getD 2 0).toNat = c at *
  generalize (l.getD 3 0).toNat = d at *
  generalize l.length = n at *
  rw [Bool.eq_iff_iff]
  simp only [Bool.or_eq_true, decide_eq_true_eq]
  unfold Lib.decodeN
  repeat' split
  all_goals (dsimp only; omega)
theorem digits_num (l : List UInt8) : (digitsR l).2.1 = (numR (chars l)).isSome ∧ ((digitsR l).2.1 = true → ((digitsR l).2.2 = true ↔ (refNumR (chars l)).2 = 0) ∧ ((digitsR l).2.2 = true → (digitsR l).1 = (refNumR (chars l)).1)) := by
  have hc : (runes (if minusB l then l.drop (dec l).2 else l)).map (·.1) = if minusR (chars l) then (chars l).drop 1 else chars l := by
    rw [minus_eq]
    by_cases hm : minusR (chars l) = true
    · rw [if_pos hm, if_pos hm]
      by_cases hl : l = []
      · subst hl; rfl
      · rw [chars_cons hl]; rfl
    · rw [if_neg hm, if_neg hm]; rfl
  unfold digitsR refNumR numR
  rw [hc, minus_eq]
  generalize (if minusR (chars l) then (chars l).drop 1 else chars l) = cs
  generalize minusR (chars l) = m
  rcases num_dig0 cs with ⟨h1, h2 | h2⟩ | ⟨n, n', ok, z, hz, h1, h2, h3⟩
  · rw [h1, h2]; simp
  · subst h2; rw [h1]; simp [digLoop]
  · rw [h1, h2]
    dsimp only
    rcases h3 with ⟨rfl, rfl, h3⟩ | ⟨rfl, rfl⟩
    · cases m with
      | true => simp [h3]; omega
      | false =>
        by_cases h4 : 1152921504606846975 < n
        · simp [h4]; omega
        · simp [h4]; omega
    · cases m with
      | true => simp; omega
      | false => simp; omega
theorem okAll_all : ∀ (f : Bool) (l : List Nat), okAll f l = (l.all (okCh false) && !(f && decide (l.head? = some 34)))
  | f, [] => by simp [okAll]
  | f, r :: rs => by
    rw [okAll, okAll_all false rs]
    simp only [List.all_cons, List.head?_cons, Option.some.injEq, Bool.false_and, Bool.not_false, Bool.and_true]
    have : okCh f r = (okCh false r && !(f && decide (r = 34))) := by
      unfold okCh
      cases decide (r = 65533) <;> cases blankB r <;> cases decide (r < 32) <;> cases decide (r = 127) <;> cases f <;> simp
    rw [this]
    cases okCh false r <;> cases (f && decide (r = 34)) <;> simp
theorem refName_eq (l : List UInt8) : refNameR l = nameR l := by
  unfold refNameR nameR
  rw [okAll_all, (digits_num l).1]
  have h1 : decide (1 ≤ (chars l).length ∧ (chars l).length ≤ 32) = (decide (1 ≤ (chars l).length) && decide ((chars l).length ≤ 32)) := by simp
  rw [h1]
  have h2 : decide (l ≠ [33]) = !decide (l = [33]) := by simp
  rw [h2]
  have h3 : (numR (chars l)).isNone = !(numR (chars l)).isSome := by cases numR (chars l) <;> rfl
  rw [h3]
  generalize decide (1 ≤ (chars l).length) = a
  generalize decide ((chars l).length ≤ 32) = b
  generalize decide ((chars l).head? = some 34) = c
  generalize decide (l = [33]) = d
  generalize (chars l).all (okCh false) = e
  generalize (numR (chars l)).isSome = f
  revert a b c d e f
  decide
end Go.Proofs.YthhonmkmmalfjaaGreatDoor

namespace Go.Proofs.YthhonmkmmalfjaaGreatDoor
open Go Go.Av
def RV.kind : RV → Int
  | .mk k _ _ _ => k
def inR (n : Int) : Bool := decide (-1152921504606846976 ≤ n) && decide (n ≤ 1152921504606846975)
mutual
/-- What Measure says: the size, the depth, is it sound? -/
def measR : RV → Int → Int → Int × Int × Bool
  | .mk k n s l, left, nest =>
    if left < 1 ∨ 32 < nest then (0, 0, false)
    else if k = 1 then (1, 0, inR n)
    else if k = 2 then (1, 0, decide (s.length ≤ 4096) && decide (faultV s < 0))
    else if k = 3 then (1, 0, true)
    else if k = 6 then (1, 0, decide (1 ≤ n) && decide (n ≤ 1048576))
    else if k = 7 then (1, 0, nameR s && !reservedR s)
    else if k = 4 ∨ k = 5 then measAll (decide (k = 4)) l left nest 1 0
    else (0, 0, false)
def measAll (vals : Bool) : List RV → Int → Int → Int → Int → Int × Int × Bool
  | [], _, _, size, depth => (size, depth + 1, decide (depth < 32))
  | v :: r, left, nest, size, depth =>
    if (vals && decide (v.kind = 7)) = true then (0, 0, false)
    else if (measR v (left - size) (nest + 1)).2.2 = true then measAll vals r left nest (size + (measR v (left - size) (nest + 1)).1) (max depth (measR v (left - size) (nest + 1)).2.1)
    else (0, 0, false)
end
mutual
/-- No list of more than 2^40, no name of more than 10^9 bytes. -/
def RV.fit : RV → Bool
  | .mk k _ s l => decide (l.length ≤ 2513169434916) && decide (k = 7 → s.length ≤ 1000000000) && (if k = 4 ∨ k = 5 then fitAll l else true)
def fitAll : List RV → Bool
  | [] => true
  | v :: r => v.fit && fitAll r
end
theorem fitAll_at : ∀ {l : List RV} {i : Nat} {t : RV}, fitAll l = true → l[i]? = some t → t.fit = true
  | [], _, _, _, h => by simp at h
  | x :: l, 0, t, hc, h => by simp at h; subst h; simp [fitAll] at hc; exact hc.1
  | x :: l, i + 1, t, hc, h => by simp [fitAll] at hc; exact fitAll_at hc.2 (by simpa using h)
mutual
theorem measR_le : ∀ (v : RV) (left nest : Int), (measR v left nest).2.2 = true → 1 ≤ (measR v left nest).1 ∧ (measR v left nest).1 ≤ left ∧ 0 ≤ (measR v left nest).2.1 ∧ (measR v left nest).2.1 ≤ 32
  | .mk k n s l, left, nest, h => by
    rw [measR] at h ⊢
    split at h
    · simp at h
    · rename_i h0
      rw [if_neg h0]
      repeat' split
      all_goals first
      | (dsimp only; omega)
      | skip
      · rename_i h1 h2 h3 h4 h5 h6
        rw [if_neg h1, if_neg h2, if_neg h3, if_neg h4, if_neg h5, if_pos h6] at h
        exact measAll_le _ l left nest 1 0 (by omega) (by omega) h
      · rename_i h1 h2 h3 h4 h5 h6
        rw [if_neg h1, if_neg h2, if_neg h3, if_neg h4, if_neg h5, if_neg h6] at h
        simp at h
theorem measAll_le : ∀ (vals : Bool) (l : List RV) (left nest size depth : Int), 1 ≤ size ∧ size ≤ left → 0 ≤ depth → (measAll vals l left nest size depth).2.2 = true →
    1 ≤ (measAll vals l left nest size depth).1 ∧ (measAll vals l left nest size depth).1 ≤ left ∧ 0 ≤ (measAll vals l left nest size depth).2.1 ∧ (measAll vals l left nest size depth).2.1 ≤ 32
  | vals, [], left, nest, size, depth, hs, hd, h => by
    rw [measAll] at h ⊢
    simp at h
    dsimp only
    omega
  | vals, v :: r, left, nest, size, depth, hs, hd, h => by
    rw [measAll] at h ⊢
    split at h
    · simp at h
    · rename_i h1
      rw [if_neg h1]
      split at h
      · rename_i h2
        rw [if_pos h2]
        have := measR_le v (left - size) (nest + 1) h2
        exact measAll_le vals r left nest _ _ (by omega) (by omega) h
      · simp at h
end
structure MeI where
  i : Nat
  size : Int
  depth : Int

theorem rvs_n {l : List RV} {i : Nat} {x : RV} (h : l[i]? = some x) : ((rvsC l).drop (i * 4))[0]? = some (.int .i64 x.kind) := by
  have e1 := rvsC_at (r := []) h
  rw [List.append_nil] at e1
  obtain ⟨k, n, s, l'⟩ := x
  have := congrArg (·[0]?) e1
  simpa [List.getElem?_take, rvAV, RV.kind] using this


mutual
/-- Does no box stand in a tree? -/
def bareR : RV → Bool
  | .mk k _ _ l => decide (k ≠ 6) && bareAll l
def bareAll : List RV → Bool
  | [] => true
  | v :: r => bareR v && bareAll r
end
def soundDefR (d : RDef) : Bool := nameR d.name && !reservedR d.name && (decide (0 ≤ d.inn) && decide (d.inn ≤ 16)) && (decide (0 ≤ d.out) && decide (d.out ≤ 16)) && (measR (.mk 5 0 [] d.body) 1024 0).2.2 && bareAll d.body
end Go.Proofs.YthhonmkmmalfjaaGreatDoor

namespace Go.Proofs.YthhonmkmmalfjaaGreatDoor
open Go Go.Av
def nmR (s : List UInt8) : Bool := nameR s && !reservedR s
theorem f_tName (s : List UInt8) (hs : s.length ≤ 4611686018427387904) : Av.Fn Tryz.prog 39 [.str s] (.bool (nmR s)) := by
  have h1 := f11_of s hs
  have h2 := f_Reserved s
  unfold nmR
  refine ACalls.of_W tb_ok (fn := Tryz.f39) (n := 10) (by kernel_rfl) rfl (by kernel_rfl) rfl rfl (by simp) (go ?_)
  refine Fn.use (h1) (go ?_)
  cases nameR s with
  | true =>
    refine go ?_
    refine Fn.use (h2) (go ?_)
    refine VRet.mk [] .nil ?_
    exact ⟨rfl, rfl⟩
  | false =>
    refine go ?_
    refine VRet.mk [] .nil ?_
    exact ⟨rfl, rfl⟩
mutual
/-- What measure says of a value (or item says of an item): its depth, and how many may still come. -/
def measT (it : Bool) : Tree → Int → Int → Option (Int × Int)
  | .none, _, _ => none
  | .odd _ _, _, _ => none
  | .call s, left, _ => if it = true ∧ 1 ≤ left ∧ nmR s = true then some (0, left - 1) else none
  | .int n, left, nest => if left < 1 ∨ 32 < nest then none else if inR n = true then some (0, left - 1) else none
  | .str s, left, nest => if left < 1 ∨ 32 < nest then none else if s.length ≤ 4096 ∧ faultR s = none then some (0, left - 1) else none
  | .bool _, left, nest => if left < 1 ∨ 32 < nest then none else some (0, left - 1)
  | .box n, left, nest => if left < 1 ∨ 32 < nest then none else if 1 ≤ n ∧ n ≤ 1048576 then some (0, left - 1) else none
  | .list l, left, nest => if left < 1 ∨ 32 < nest then none else measTs false l (left - 1) nest 0
  | .quot l, left, nest => if left < 1 ∨ 32 < nest then none else measTs true l (left - 1) nest 0
def measTs (it : Bool) : List Tree → Int → Int → Int → Option (Int × Int)
  | [], left, _, depth => if depth < 32 then some (depth + 1, left) else none
  | t :: r, left, nest, depth => match measT it t left (nest + 1) with
    | some (d, left) => measTs it r left nest (max depth d)
    | none => none
end
mutual
theorem measT_le : ∀ (it : Bool) (t : Tree) (left nest d l' : Int), measT it t left nest = some (d, l') → (0 ≤ d ∧ d ≤ 32) ∧ 0 ≤ l' ∧ l' < left := by
  intro it t left nest d l' h
  cases t with
  | none => rw [measT] at h; cases h
  | odd t v => rw [measT] at h; cases h
  | list l =>
    rw [measT] at h
    split at h
    · cases h
    · have := measTs_le _ l (left - 1) nest 0 d l' (by omega) (by omega) h; omega
  | quot l =>
    rw [measT] at h
    split at h
    · cases h
    · have := measTs_le _ l (left - 1) nest 0 d l' (by omega) (by omega) h; omega
  | _ =>
    rw [measT] at h
    repeat' split at h
    all_goals first
    | (cases h; done)
    | (simp only [Option.some.injEq, Prod.mk.injEq] at h; omega)
theorem measTs_le : ∀ (it : Bool) (l : List Tree) (left nest depth d l' : Int), 0 ≤ left → 0 ≤ depth → measTs it l left nest depth = some (d, l') → (0 ≤ d ∧ d ≤ 32) ∧ 0 ≤ l' ∧ l' ≤ left
  | it, [], left, nest, depth, d, l', hl, hd, h => by
    rw [measTs] at h
    split at h
    · simp only [Option.some.injEq, Prod.mk.injEq] at h; omega
    · cases h
  | it, t :: r, left, nest, depth, d, l', hl, hd, h => by
    rw [measTs] at h
    split at h
    · rename_i d1 l1 e
      have h1 := measT_le it t left (nest + 1) d1 l1 e
      have h2 := measTs_le it r l1 nest _ d l' (by omega) (by omega) h
      omega
    · cases h
end
/-- What measure does: the answer, and how many may still come. -/
def MeasC (x : AV) (m : Option (Int × Int)) (left nest : Int) : Prop := ∀ b, ACalls Tryz.prog 19 [x, .ptr b 0, .int .i64 nest] [(b, .box [.int .i64 left])] (fun out st => ∃ d l', out = .ret (.tup [.int .i64 d, .bool m.isSome]) ∧ st = [(b, .box [.int .i64 l'])] ∧ (m = none ∨ m = some (d, l')))
def ItemC (x : AV) (m : Option (Int × Int)) (left nest : Int) : Prop := ∀ b, ACalls Tryz.prog 30 [x, .ptr b 0, .int .i64 nest] [(b, .box [.int .i64 left])] (fun out st => ∃ d l', out = .ret (.tup [.int .i64 d, .bool m.isSome]) ∧ st = [(b, .box [.int .i64 l'])] ∧ (m = none ∨ m = some (d, l')))
structure MeT where
  i : Nat
  depth : Int
  left : Int

theorem m_list (l : List Tree) (hl : l.length ≤ 2513169434916) (left nest : Int) (hb : 1 ≤ left ∧ left ≤ 1000000) (hn : 0 ≤ nest ∧ nest ≤ 32)
    (ih : ∀ (i : Nat) t, l[i]? = some t → ∀ left nest, 0 ≤ left ∧ left ≤ 1000000 → 0 ≤ nest ∧ nest ≤ 33 → MeasC (valAV t) (measT false t left nest) left nest) :
    MeasC (valAV (.list l)) (measTs false l (left - 1) nest 0) left nest := by
  intro b
  rw [valAV]
  refine ACalls.of_W tb_ok (fn := Tryz.f19) (n := 129) (by kernel_rfl) rfl (by kernel_rfl) rfl rfl (by simp) (go ?_)
  refine VIf.no (by simp; omega) (go ?_)
  refine VIf.no (by simp; omega) (go ?_)
  refine VAll.mk (fun b2 => go ?_)
  refine VLoop.mk [79, 6] MeT (fun i => [.int .i64 i.i, .int .i64 i.depth]) (fun i => [(b, .box [.int .i64 i.left]), (b2, .box [.fz (valAVs l) l.length false])])
    (fun i => i.i ≤ l.length ∧ (0 ≤ i.left ∧ i.left ≤ 1000000) ∧ (0 ≤ i.depth ∧ i.depth ≤ 32) ∧ measTs false (l.drop i.i) i.left nest i.depth = measTs false l (left - 1) nest 0) (fun i => l.length - i.i) ⟨0, 0, left - 1⟩ ?_ ?_
  · exact ⟨⟨by simp, by dsimp only; omega, by simp, by simp⟩, rfl, .cons 1 rfl (.cons 0 rfl .nil)⟩
  rintro ⟨i, depth, lf⟩ ⟨hi, hlf, hdp, hI⟩
  dsimp only at hi hlf hdp hI ⊢
  refine go ?_
  refine fork (fun hlt => go ?_) (fun hlt => go ?_)
  · have hlt : i < l.length := by omega
    obtain ⟨x, hx⟩ : ∃ x, l[i]? = some x := ⟨l[i], by simp [hlt]⟩
    have hda : l.drop i = x :: l.drop (i + 1) := by rw [List.drop_eq_getElem_cons hlt]; congr 1; rw [List.getElem?_eq_getElem hlt] at hx; exact Option.some.inj hx
    rw [hda, measTs] at hI
    have hfx := ih i x hx lf (nest + 1) (by omega) (by omega) b
    have hle := measT_le false x lf (nest + 1)
    refine VNth.mk (valAV x) (by simp [mulN_eq, valAVs_map, hx]) (go ?_)
    generalize measT false x lf (nest + 1) = m at hI hfx hle
    refine ACalls.use (R := [(b2, .box [.fz (valAVs l) l.length false])]) hfx (.refl _) ?_
    rintro _ _ ⟨d, l', rfl, rfl, hm⟩
    cases m with
    | none =>
      rw [← hI]
      refine go ?_
      exact VRet.mk [(b, .box [.int .i64 l'])] (.cons 0 rfl .nil) ⟨0, l', rfl, rfl, .inl rfl⟩
    | some p =>
      obtain rfl : p = (d, l') := by simpa using hm
      have hle := hle d l' rfl
      dsimp only at hI
      refine go ?_
      refine ⟨⟨i + 1, max depth d, l'⟩, ⟨?_, ?_, ?_, hI⟩, ?_, rfl, .cons 0 rfl (.cons 0 rfl .nil)⟩
      · dsimp only; omega
      · dsimp only; omega
      · dsimp only; omega
      · dsimp only; omega
  · rw [List.drop_eq_nil_of_le (by omega), measTs] at hI
    rw [← hI]
    refine VRet.mk [(b, .box [.int .i64 lf])] (.cons 0 rfl .nil) ⟨depth + 1, lf, ?_, rfl, ?_⟩
    · by_cases h : depth < 32 <;> simp [h]
    · by_cases h : depth < 32 <;> simp [h]
theorem m_quot (l : List Tree) (hl : l.length ≤ 2513169434916) (left nest : Int) (hb : 1 ≤ left ∧ left ≤ 1000000) (hn : 0 ≤ nest ∧ nest ≤ 32)
    (ih : ∀ (i : Nat) t, l[i]? = some t → ∀ left nest, 0 ≤ left ∧ left ≤ 1000000 → 0 ≤ nest ∧ nest ≤ 33 → ItemC (itemAV t) (measT true t left nest) left nest) :
    MeasC (valAV (.quot l)) (measTs true l (left - 1) nest 0) left nest := by
  intro b
  rw [valAV]
  refine ACalls.of_W tb_ok (fn := Tryz.f19) (n := 129) (by kernel_rfl) rfl (by kernel_rfl) rfl rfl (by simp) (go ?_)
  refine VIf.no (by simp; omega) (go ?_)
  refine VIf.no (by simp; omega) (go ?_)
  refine VAll.mk (fun b2 => go ?_)
  refine VLoop.mk [107, 6] MeT (fun i => [.int .i64 i.i, .int .i64 i.depth]) (fun i => [(b, .box [.int .i64 i.left]), (b2, .box [.fz (itemAVs l) l.length false])])
    (fun i => i.i ≤ l.length ∧ (0 ≤ i.left ∧ i.left ≤ 1000000) ∧ (0 ≤ i.depth ∧ i.depth ≤ 32) ∧ measTs true (l.drop i.i) i.left nest i.depth = measTs true l (left - 1) nest 0) (fun i => l.length - i.i) ⟨0, 0, left - 1⟩ ?_ ?_
  · exact ⟨⟨by simp, by dsimp only; omega, by simp, by simp⟩, rfl, .cons 1 rfl (.cons 0 rfl .nil)⟩
  rintro ⟨i, depth, lf⟩ ⟨hi, hlf, hdp, hI⟩
  dsimp only at hi hlf hdp hI ⊢
  refine go ?_
  refine fork (fun hlt => go ?_) (fun hlt => go ?_)
  · have hlt : i < l.length := by omega
    obtain ⟨x, hx⟩ : ∃ x, l[i]? = some x := ⟨l[i], by simp [hlt]⟩
    have hda : l.drop i = x :: l.drop (i + 1) := by rw [List.drop_eq_getElem_cons hlt]; congr 1; rw [List.getElem?_eq_getElem hlt] at hx; exact Option.some.inj hx
    rw [hda, measTs] at hI
    have hfx := ih i x hx lf (nest + 1) (by omega) (by omega) b
    have hle := measT_le true x lf (nest + 1)
    refine VNth.mk (itemAV x) (by simp [mulN_eq, itemAVs_map, hx]) (go ?_)
    generalize measT true x lf (nest + 1) = m at hI hfx hle
    refine ACalls.use (R := [(b2, .box [.fz (itemAVs l) l.length false])]) hfx (.refl _) ?_
    rintro _ _ ⟨d, l', rfl, rfl, hm⟩
    cases m with
    | none =>
      rw [← hI]
      refine go ?_
      exact VRet.mk [(b, .box [.int .i64 l'])] (.cons 0 rfl .nil) ⟨0, l', rfl, rfl, .inl rfl⟩
    | some p =>
      obtain rfl : p = (d, l') := by simpa using hm
      have hle := hle d l' rfl
      dsimp only at hI
      refine go ?_
      refine ⟨⟨i + 1, max depth d, l'⟩, ⟨?_, ?_, ?_, hI⟩, ?_, rfl, .cons 0 rfl (.cons 0 rfl .nil)⟩
      · dsimp only; omega
      · dsimp only; omega
      · dsimp only; omega
      · dsimp only; omega
  · rw [List.drop_eq_nil_of_le (by omega), measTs] at hI
    rw [← hI]
    refine VRet.mk [(b, .box [.int .i64 lf])] (.cons 0 rfl .nil) ⟨depth + 1, lf, ?_, rfl, ?_⟩
    · by_cases h : depth < 32 <;> simp [h]
    · by_cases h : depth < 32 <;> simp [h]
theorem m_less {x : AV} {left nest : Int} (hl : left < 1 ∨ 32 < nest) (hb : 0 ≤ left ∧ left ≤ 1000000) (hn : 0 ≤ nest ∧ nest ≤ 33) : MeasC x none left nest := by
  intro b
  refine ACalls.of_W tb_ok (fn := Tryz.f19) (n := 129) (by kernel_rfl) rfl (by kernel_rfl) rfl rfl (by simp) (go ?_)
  refine fork (fun h1 => go ?_) (fun h1 => go ?_)
  · exact VRet.mk [(b, .box [.int .i64 (left - 1)])] (.cons 0 rfl .nil) ⟨0, _, rfl, rfl, .inl rfl⟩
  · refine VIf.yes (by simp; omega) (go ?_)
    exact VRet.mk [(b, .box [.int .i64 (left - 1)])] (.cons 0 rfl .nil) ⟨0, _, rfl, rfl, .inl rfl⟩

theorem m_int' (n left nest : Int) (hb : 1 ≤ left ∧ left ≤ 1000000) (hn : 0 ≤ nest ∧ nest ≤ 32) : MeasC (valAV (.int n)) (if inR n = true then some (0, left - 1) else none) left nest := by
  intro b
  rw [valAV]
  refine ACalls.of_W tb_ok (fn := Tryz.f19) (n := 129) (by kernel_rfl) rfl (by kernel_rfl) rfl rfl (by simp) (go ?_)
  refine VIf.no (by simp; omega) (go ?_)
  refine VIf.no (by simp; omega) (go ?_)
  refine VAll.mk (fun b2 => go ?_)
  refine fork (fun h1 => go ?_) (fun h1 => go ?_)
  · by_cases h2 : n ≤ 1152921504606846975
    · rw [if_pos (by simp [inR, h1, h2]), decide_eq_true h2]
      exact VRet.mk [(b, .box [.int .i64 (left - 1)])] (.cons 1 rfl .nil) ⟨0, _, rfl, rfl, .inr rfl⟩
    · rw [if_neg (by simp [inR, h2]), decide_eq_false h2]
      exact VRet.mk [(b, .box [.int .i64 (left - 1)])] (.cons 1 rfl .nil) ⟨0, _, rfl, rfl, .inl rfl⟩
  · rw [if_neg (by simp [inR, h1])]
    exact VRet.mk [(b, .box [.int .i64 (left - 1)])] (.cons 1 rfl .nil) ⟨0, _, rfl, rfl, .inl rfl⟩
theorem m_box' (n left nest : Int) (hb : 1 ≤ left ∧ left ≤ 1000000) (hn : 0 ≤ nest ∧ nest ≤ 32) : MeasC (valAV (.box n)) (if 1 ≤ n ∧ n ≤ 1048576 then some (0, left - 1) else none) left nest := by
  intro b
  rw [valAV]
  refine ACalls.of_W tb_ok (fn := Tryz.f19) (n := 129) (by kernel_rfl) rfl (by kernel_rfl) rfl rfl (by simp) (go ?_)
  refine VIf.no (by simp; omega) (go ?_)
  refine VIf.no (by simp; omega) (go ?_)
  refine VAll.mk (fun b2 => go ?_)
  refine fork (fun h1 => go ?_) (fun h1 => go ?_)
  · by_cases h2 : n ≤ 1048576
    · rw [if_pos (by omega), decide_eq_true h2]
      exact VRet.mk [(b, .box [.int .i64 (left - 1)])] (.cons 1 rfl .nil) ⟨0, _, rfl, rfl, .inr rfl⟩
    · rw [if_neg (by omega), decide_eq_false h2]
      exact VRet.mk [(b, .box [.int .i64 (left - 1)])] (.cons 1 rfl .nil) ⟨0, _, rfl, rfl, .inl rfl⟩
  · rw [if_neg (by omega)]
    exact VRet.mk [(b, .box [.int .i64 (left - 1)])] (.cons 1 rfl .nil) ⟨0, _, rfl, rfl, .inl rfl⟩
theorem m_bool' (n : Bool) (left nest : Int) (hb : 1 ≤ left ∧ left ≤ 1000000) (hn : 0 ≤ nest ∧ nest ≤ 32) : MeasC (valAV (.bool n)) (some (0, left - 1)) left nest := by
  intro b
  rw [valAV]
  refine ACalls.of_W tb_ok (fn := Tryz.f19) (n := 129) (by kernel_rfl) rfl (by kernel_rfl) rfl rfl (by simp) (go ?_)
  refine VIf.no (by simp; omega) (go ?_)
  refine VIf.no (by simp; omega) (go ?_)
  refine VAll.mk (fun b2 => go ?_)
  exact VRet.mk [(b, .box [.int .i64 (left - 1)])] (.cons 1 rfl .nil) ⟨0, _, rfl, rfl, .inr rfl⟩
theorem m_none' (left nest : Int) (hb : 1 ≤ left ∧ left ≤ 1000000) (hn : 0 ≤ nest ∧ nest ≤ 32) : MeasC .nili none left nest := by
  intro b
  refine ACalls.of_W tb_ok (fn := Tryz.f19) (n := 129) (by kernel_rfl) rfl (by kernel_rfl) rfl rfl (by simp) (go ?_)
  refine VIf.no (by simp; omega) (go ?_)
  refine VIf.no (by simp; omega) (go ?_)
  exact VRet.mk [(b, .box [.int .i64 (left - 1)])] (.cons 0 rfl .nil) ⟨0, _, rfl, rfl, .inl rfl⟩
theorem m_str' (s : List UInt8) (left nest : Int) (hb : 1 ≤ left ∧ left ≤ 1000000) (hn : 0 ≤ nest ∧ nest ≤ 32) : MeasC (valAV (.str s)) (if s.length ≤ 4096 ∧ faultR s = none then some (0, left - 1) else none) left nest := by
  have hv := f_Valid s
  intro b
  rw [valAV]
  refine ACalls.of_W tb_ok (fn := Tryz.f19) (n := 129) (by kernel_rfl) rfl (by kernel_rfl) rfl rfl (by simp) (go ?_)
  refine VIf.no (by simp; omega) (go ?_)
  refine VIf.no (by simp; omega) (go ?_)
  refine VAll.mk (fun b2 => go ?_)
  refine fork (fun h1 => go ?_) (fun h1 => go ?_)
  · refine Fn.use (hv) (go ?_)
    by_cases h2 : faultR s = none
    · rw [if_pos ⟨by omega, h2⟩, decide_eq_true h2]
      exact VRet.mk [(b, .box [.int .i64 (left - 1)])] (.cons 1 rfl .nil) ⟨0, _, rfl, rfl, .inr rfl⟩
    · rw [if_neg (fun h => h2 h.2), decide_eq_false h2]
      exact VRet.mk [(b, .box [.int .i64 (left - 1)])] (.cons 1 rfl .nil) ⟨0, _, rfl, rfl, .inl rfl⟩
  · rw [if_neg (by omega)]
    exact VRet.mk [(b, .box [.int .i64 (left - 1)])] (.cons 1 rfl .nil) ⟨0, _, rfl, rfl, .inl rfl⟩
theorem i_call (s : List UInt8) (hs : s.length ≤ 4611686018427387904) (left nest : Int) (hb : 0 ≤ left ∧ left ≤ 1000000) : ItemC (itemAV (.call s)) (if 1 ≤ left ∧ nmR s = true then some (0, left - 1) else none) left nest := by
  have h := f_tName s hs
  intro b
  rw [itemAV]
  refine ACalls.of_W tb_ok (fn := Tryz.f30) (n := 47) (by kernel_rfl) rfl (by kernel_rfl) rfl rfl (by simp) (go ?_)
  refine VAll.mk (fun b2 => go ?_)
  refine VAll.mk (fun b3 => go ?_)
  refine fork (fun h1 => go ?_) (fun h1 => go ?_)
  · refine Fn.use (h) (go ?_)
    cases hn : nmR s with
    | true =>
      rw [if_pos ⟨by omega, rfl⟩]
      refine go ?_
      exact VRet.mk [(b, .box [.int .i64 (left - 1)])] (.cons 2 rfl .nil) ⟨0, _, rfl, rfl, .inr rfl⟩
    | false =>
      rw [if_neg (by simp)]
      refine go ?_
      exact VRet.mk [(b, .box [.int .i64 (left - 1)])] (.cons 2 rfl .nil) ⟨0, _, rfl, rfl, .inl rfl⟩
  · rw [if_neg (by omega)]
    exact VRet.mk [(b, .box [.int .i64 (left - 1)])] (.cons 2 rfl .nil) ⟨0, _, rfl, rfl, .inl rfl⟩
theorem i_none (left nest : Int) (hb : 0 ≤ left ∧ left ≤ 1000000) : ItemC .nili none left nest := by
  intro b
  refine ACalls.of_W tb_ok (fn := Tryz.f30) (n := 47) (by kernel_rfl) rfl (by kernel_rfl) rfl rfl (by simp) (go ?_)
  refine VAll.mk (fun b2 => go ?_)
  refine VAll.mk (fun b3 => go ?_)
  exact VRet.mk [(b, .box [.int .i64 (left - 1)])] (.cons 2 rfl .nil) ⟨0, _, rfl, rfl, .inl rfl⟩
theorem i_push' {x : AV} {m : Option (Int × Int)} {left nest : Int} (h : MeasC x m left nest) (ho : x.one = true) : ItemC (.iface 78 (.agg [x])) m left nest := by
  intro b
  refine ACalls.of_W tb_ok (fn := Tryz.f30) (n := 47) (by kernel_rfl) rfl (by kernel_rfl) rfl rfl (by simp) (go ?_)
  refine VAll.mk (fun b2 => go ?_)
  refine ACalls.use (R := [(b2, .box [x])]) (h b) (.swap _ _ _) ?_
  rintro _ _ ⟨d, l', rfl, rfl, hm⟩
  refine go ?_
  exact VRet.mk [(b, .box [.int .i64 l'])] (.cons 0 rfl .nil) ⟨d, l', rfl, rfl, hm⟩
mutual
/-- No name of more than 2^62 bytes. -/
def Tree.nmS : Tree → Bool
  | .call s => decide (s.length ≤ 4611686018427387904)
  | .list l => nmSAll l
  | .quot l => nmSAll l
  | _ => true
def nmSAll : List Tree → Bool
  | [] => true
  | t :: r => t.nmS && nmSAll r
end
theorem nmSAll_at : ∀ {l : List Tree} {i : Nat} {t : Tree}, nmSAll l = true → l[i]? = some t → t.nmS = true
  | [], _, _, _, h => by simp at h
  | x :: l, 0, t, hc, h => by simp at h; subst h; simp [nmSAll] at hc; exact hc.1
  | x :: l, i + 1, t, hc, h => by simp [nmSAll] at hc; exact nmSAll_at hc.2 (by simpa using h)
theorem measT_less (it : Bool) {t : Tree} (h : t.isCall = false) {left nest : Int} (hl : left < 1 ∨ 32 < nest) : measT it t left nest = none := by
  cases t <;> first | (simp [Tree.isCall] at h; done) | (rw [measT, if_pos hl]; done) | (rw [measT]; done)
theorem measT_flag (it it' : Bool) {t : Tree} (h : t.isCall = false) (left nest : Int) : measT it t left nest = measT it' t left nest := by
  cases t <;> first | (simp [Tree.isCall] at h; done) | rw [measT, measT]
theorem f_meas (n : Nat) : ∀ t : Tree, t.depth ≤ n → t.clean = true → t.nmS = true → ∀ left nest, 0 ≤ left ∧ left ≤ 1000000 → 0 ≤ nest ∧ nest ≤ 33 →
    MeasC (valAV t) (measT false t left nest) left nest ∧ ItemC (itemAV t) (measT true t left nest) left nest := by
  have H : ∀ t : Tree, t.clean = true → t.nmS = true → ∀ left nest, 0 ≤ left ∧ left ≤ 1000000 → 0 ≤ nest ∧ nest ≤ 33 → MeasC (valAV t) (measT false t left nest) left nest → ItemC (itemAV t) (measT true t left nest) left nest := by
    intro t hc hs left nest hl hn h
    cases t with
    | none => rw [measT]; exact i_none left nest hl
    | call s =>
      rw [measT]
      simp only [true_and]
      exact i_call s (by simpa [Tree.nmS] using hs) left nest hl
    | odd u v => simp [Tree.clean] at hc
    | int m => rw [measT_flag true false rfl]; exact i_push' h rfl
    | str m => rw [measT_flag true false rfl]; exact i_push' h rfl
    | bool m => rw [measT_flag true false rfl]; exact i_push' h rfl
    | box m => rw [measT_flag true false rfl]; exact i_push' h rfl
    | list m => rw [measT_flag true false rfl]; exact i_push' h rfl
    | quot m => rw [measT_flag true false rfl]; exact i_push' h rfl
  suffices M : ∀ t : Tree, t.depth ≤ n → t.clean = true → t.nmS = true → ∀ left nest, 0 ≤ left ∧ left ≤ 1000000 → 0 ≤ nest ∧ nest ≤ 33 → MeasC (valAV t) (measT false t left nest) left nest from
    fun t hd hc hs left nest hl hn => ⟨M t hd hc hs left nest hl hn, H t hc hs left nest hl hn (M t hd hc hs left nest hl hn)⟩
  have L : ∀ t : Tree, t.clean = true → (∀ l, t ≠ .list l) → (∀ l, t ≠ .quot l) → ∀ left nest, 0 ≤ left ∧ left ≤ 1000000 → 0 ≤ nest ∧ nest ≤ 33 → ¬ (left < 1 ∨ 32 < nest) → MeasC (valAV t) (measT false t left nest) left nest := by
    intro t hc h4 h5 left nest hl hn h0
    cases t with
    | none => rw [measT]; exact m_none' left nest (by omega) (by omega)
    | call s => rw [measT, if_neg (by simp)]; exact m_none' left nest (by omega) (by omega)
    | odd u v => simp [Tree.clean] at hc
    | int m => rw [measT, if_neg h0]; exact m_int' m left nest (by omega) (by omega)
    | str m => rw [measT, if_neg h0]; exact m_str' m left nest (by omega) (by omega)
    | bool m => rw [measT, if_neg h0]; exact m_bool' m left nest (by omega) (by omega)
    | box m => rw [measT, if_neg h0]; exact m_box' m left nest (by omega) (by omega)
    | list l => exact absurd rfl (h4 l)
    | quot l => exact absurd rfl (h5 l)
  have B : ∀ t : Tree, ∀ left nest, 0 ≤ left ∧ left ≤ 1000000 → 0 ≤ nest ∧ nest ≤ 33 → (left < 1 ∨ 32 < nest) → MeasC (valAV t) (measT false t left nest) left nest := by
    intro t left nest hl hn h0
    have : measT false t left nest = none := by
      cases t with
      | call s => rw [measT, if_neg (by simp)]
      | _ => exact measT_less false rfl h0
    rw [this]; exact m_less h0 hl hn
  induction n with
  | zero =>
    intro t hd hc hs left nest hl hn
    by_cases h0 : left < 1 ∨ 32 < nest
    · exact B t left nest hl hn h0
    · refine L t hc ?_ ?_ left nest hl hn h0
      · rintro l rfl; rw [Tree.depth] at hd; omega
      · rintro l rfl; rw [Tree.depth] at hd; omega
  | succ n ih =>
    intro t hd hc hs left nest hl hn
    by_cases h0 : left < 1 ∨ 32 < nest
    · exact B t left nest hl hn h0
    cases t with
    | list l =>
      rw [Tree.depth] at hd
      simp only [Tree.clean, Bool.and_eq_true, decide_eq_true_eq] at hc
      rw [Tree.nmS] at hs
      rw [measT, if_neg h0]
      exact m_list l hc.1 left nest (by omega) (by omega) fun i t ht left nest hl hn => ih t (by have := depthAll_at ht; omega) (cleanAll_at hc.2 ht) (nmSAll_at hs ht) left nest hl hn
    | quot l =>
      rw [Tree.depth] at hd
      simp only [Tree.clean, Bool.and_eq_true, decide_eq_true_eq] at hc
      rw [Tree.nmS] at hs
      rw [measT, if_neg h0]
      exact m_quot l hc.1 left nest (by omega) (by omega) fun i t ht left nest hl hn => H t (cleanAll_at hc.2 ht) (nmSAll_at hs ht) left nest hl hn (ih t (by have := depthAll_at ht; omega) (cleanAll_at hc.2 ht) (nmSAll_at hs ht) left nest hl hn)
    | _ => exact L _ hc (by intro l e; cases e) (by intro l e; cases e) left nest hl hn h0
theorem f_tCheck {t : Tree} (hc : t.clean = true) (hs : t.nmS = true) : Av.Fn Tryz.prog 13 [valAV t] (.int .i64 (if (measT false t 1024 0).isSome = true then 0 else 1)) := by
  have h := (f_meas t.depth t (Nat.le_refl _) hc hs 1024 0 (by omega) (by omega)).1
  generalize measT false t 1024 0 = m at h
  refine ACalls.of_W tb_ok (fn := Tryz.f13) (n := 13) (by kernel_rfl) rfl (by kernel_rfl) rfl rfl (by simp) (go ?_)
  refine VAll.mk (fun b => go ?_)
  refine ACalls.use (R := []) (h b) (.refl _) ?_
  rintro _ _ ⟨d, l', rfl, rfl, hm⟩
  cases m with
  | some p =>
    refine go ?_
    refine VRet.mk [] .nil ?_
    exact ⟨rfl, rfl⟩
  | none =>
    refine go ?_
    refine VRet.mk [] .nil ?_
    exact ⟨rfl, rfl⟩
end Go.Proofs.YthhonmkmmalfjaaGreatDoor

namespace Go.Proofs.YthhonmkmmalfjaaGreatDoor
open Go Go.Av
theorem faultV_none (s : List UInt8) : decide (faultV s < 0) = decide (faultR s = none) := by
  unfold faultV
  cases faultR s with
  | none => simp
  | some i => simp
theorem valRV_kind (t : Tree) : (valRV t).kind ≠ 7 := by cases t <;> simp [valRV, RV.kind]
def refOf (it : Bool) (t : Tree) : RV := if it = true then itemRV t else valRV t
theorem refOf_call (s : List UInt8) : refOf true (.call s) = .mk 7 0 s [] := rfl
theorem refOf_val {it : Bool} {t : Tree} (h : t.isCall = false) : refOf it t = valRV t := by
  unfold refOf
  split
  · exact item_val h
  · rfl
def refsOf (it : Bool) (l : List Tree) : List RV := if it = true then itemRVs l else valRVs l
theorem refsOf_cons (it : Bool) (t : Tree) (r : List Tree) : refsOf it (t :: r) = refOf it t :: refsOf it r := by
  unfold refsOf refOf
  split
  · exact itemRVs_cons t r
  · rfl
theorem refsOf_nil (it : Bool) : refsOf it [] = [] := by cases it <;> simp [refsOf, itemRVs, valRVs]
theorem meas_step (vals it : Bool) (t : Tree) (hv : it = !vals) (r : List RV) (left nest size depth : Int) : measAll vals (refOf it t :: r) left nest size depth =
    if (measR (refOf it t) (left - size) (nest + 1)).2.2 = true then measAll vals r left nest (size + (measR (refOf it t) (left - size) (nest + 1)).1) (max depth (measR (refOf it t) (left - size) (nest + 1)).2.1) else (0, 0, false) := by
  rw [measAll, if_neg]
  subst hv
  cases vals with
  | false => simp
  | true => simp [refOf, valRV_kind]
mutual
theorem meas_fw : ∀ (it : Bool) (t : Tree) (left nest : Int), (measR (refOf it t) left nest).2.2 = true → measT it t left nest = some ((measR (refOf it t) left nest).2.1, left - (measR (refOf it t) left nest).1) := by
  intro it t left nest h
  cases t with
  | call s =>
    cases it with
    | false =>
      rw [show refOf false (.call s) = .mk 8 0 [] [] by simp [refOf, valRV]] at h
      rw [measR] at h
      simp at h
    | true =>
      rw [refOf_call, measR] at h ⊢
      simp only [show ¬ ((7 : Int) = 1) by decide, show ¬ ((7 : Int) = 2) by decide, show ¬ ((7 : Int) = 3) by decide, show ¬ ((7 : Int) = 6) by decide, if_false, if_true] at h ⊢
      split at h
      · simp at h
      · rename_i h0
        rw [if_neg h0, measT, if_pos ⟨rfl, by omega, h⟩]
  | none => rw [refOf_val rfl, valRV, measR] at h; simp at h
  | odd u v => rw [refOf_val rfl, valRV, measR] at h; simp at h
  | int n =>
    rw [refOf_val rfl, valRV, measR] at h ⊢
    simp only [if_true] at h ⊢
    split at h
    · simp at h
    · rename_i h0
      rw [if_neg h0, measT, if_neg h0, if_pos h]
  | str s =>
    rw [refOf_val rfl, valRV, measR] at h ⊢
    simp only [show ¬ ((2 : Int) = 1) by decide, if_false, if_true] at h ⊢
    split at h
    · simp at h
    · rename_i h0
      rw [faultV_none] at h
      simp only [Bool.and_eq_true, decide_eq_true_eq] at h
      rw [if_neg h0, measT, if_neg h0, if_pos h]
  | bool b =>
    rw [refOf_val rfl, valRV, measR] at h ⊢
    simp only [show ¬ ((3 : Int) = 1) by decide, show ¬ ((3 : Int) = 2) by decide, if_false, if_true] at h ⊢
    split at h
    · simp at h
    · rename_i h0
      rw [if_neg h0, measT, if_neg h0]
  | box n =>
    rw [refOf_val rfl, valRV, measR] at h ⊢
    simp only [show ¬ ((6 : Int) = 1) by decide, show ¬ ((6 : Int) = 2) by decide, show ¬ ((6 : Int) = 3) by decide, if_false, if_true] at h ⊢
    split at h
    · simp at h
    · rename_i h0
      simp only [Bool.and_eq_true, decide_eq_true_eq] at h
      rw [if_neg h0, measT, if_neg h0, if_pos h]
  | list l =>
    rw [refOf_val rfl, valRV, measR] at h ⊢
    simp only [show ¬ ((4 : Int) = 1) by decide, show ¬ ((4 : Int) = 2) by decide, show ¬ ((4 : Int) = 3) by decide, show ¬ ((4 : Int) = 6) by decide, show ¬ ((4 : Int) = 7) by decide, true_or, if_false, if_true, decide_true] at h ⊢
    split at h
    · simp at h
    · rename_i h0
      rw [if_neg h0, measT, if_neg h0]
      exact meass_fw true false rfl l left nest 1 0 (by omega) (by omega) h
  | quot l =>
    rw [refOf_val rfl, valRV, measR] at h ⊢
    simp only [show ¬ ((5 : Int) = 1) by decide, show ¬ ((5 : Int) = 2) by decide, show ¬ ((5 : Int) = 3) by decide, show ¬ ((5 : Int) = 6) by decide, show ¬ ((5 : Int) = 7) by decide, or_true, if_false, if_true, show decide ((5 : Int) = 4) = false by decide] at h ⊢
    split at h
    · simp at h
    · rename_i h0
      rw [if_neg h0, measT, if_neg h0]
      exact meass_fw false true rfl l left nest 1 0 (by omega) (by omega) h
theorem meass_fw : ∀ (vals it : Bool) (_ : it = !vals) (l : List Tree) (left nest size depth : Int), 0 ≤ size → 0 ≤ depth → (measAll vals (refsOf it l) left nest size depth).2.2 = true →
    measTs it l (left - size) nest depth = some ((measAll vals (refsOf it l) left nest size depth).2.1, left - (measAll vals (refsOf it l) left nest size depth).1)
  | vals, it, hv, [], left, nest, size, depth, hs, hd, h => by
    rw [refsOf_nil, measAll] at h ⊢
    simp only [decide_eq_true_eq] at h
    rw [measTs, if_pos h]
  | vals, it, hv, t :: r, left, nest, size, depth, hs, hd, h => by
    rw [refsOf_cons, meas_step vals it t hv] at h ⊢
    split at h
    · rename_i h2
      rw [if_pos h2, measTs, meas_fw it t (left - size) (nest + 1) h2]
      have hle := measR_le (refOf it t) (left - size) (nest + 1) h2
      dsimp only
      have := meass_fw vals it hv r left nest _ _ (by omega) (by omega) h
      rw [← this]
      congr 1; omega
    · simp at h
end
theorem measTs_depth : ∀ (it : Bool) (l : List Tree) (left nest depth d l' : Int), measTs it l left nest depth = some (d, l') → depth + 1 ≤ d
  | it, [], left, nest, depth, d, l', h => by
    rw [measTs] at h
    split at h
    · simp only [Option.some.injEq, Prod.mk.injEq] at h; omega
    · cases h
  | it, t :: r, left, nest, depth, d, l', h => by
    rw [measTs] at h
    split at h
    · have := measTs_depth it r _ nest _ d l' h
      omega
    · cases h
mutual
theorem meas_bw : ∀ (it : Bool) (t : Tree) (left nest d l' : Int), measT it t left nest = some (d, l') → d + nest ≤ 32 → measR (refOf it t) left nest = (left - l', d, true) := by
  intro it t left nest d l' h hd
  cases t with
  | call s =>
    rw [measT] at h
    split at h
    · rename_i h0
      obtain ⟨rfl, h1, h2⟩ := h0
      simp only [Option.some.injEq, Prod.mk.injEq] at h
      rw [refOf_call, measR, if_neg (by omega)]
      simp only [show ¬ ((7 : Int) = 1) by decide, show ¬ ((7 : Int) = 2) by decide, show ¬ ((7 : Int) = 3) by decide, show ¬ ((7 : Int) = 6) by decide, if_false, if_true]
      refine Prod.ext (by dsimp only; omega) (Prod.ext (by dsimp only; omega) h2)
    · cases h
  | none => rw [measT] at h; cases h
  | odd u v => rw [measT] at h; cases h
  | int n =>
    rw [measT] at h
    repeat' split at h
    · cases h
    · rename_i h0 h1
      simp only [Option.some.injEq, Prod.mk.injEq] at h
      rw [refOf_val rfl, valRV, measR, if_neg h0]
      simp only [if_true]
      refine Prod.ext (by dsimp only; omega) (Prod.ext (by dsimp only; omega) h1)
    · cases h
  | str s =>
    rw [measT] at h
    repeat' split at h
    · cases h
    · rename_i h0 h1
      simp only [Option.some.injEq, Prod.mk.injEq] at h
      rw [refOf_val rfl, valRV, measR, if_neg h0]
      simp only [show ¬ ((2 : Int) = 1) by decide, if_false, if_true]
      refine Prod.ext (by dsimp only; omega) (Prod.ext (by dsimp only; omega) ?_)
      rw [faultV_none]; simp [h1]
    · cases h
  | bool b =>
    rw [measT] at h
    repeat' split at h
    · cases h
    · rename_i h0
      simp only [Option.some.injEq, Prod.mk.injEq] at h
      rw [refOf_val rfl, valRV, measR, if_neg h0]
      simp only [show ¬ ((3 : Int) = 1) by decide, show ¬ ((3 : Int) = 2) by decide, if_false, if_true]
      refine Prod.ext (by dsimp only; omega) (Prod.ext (by dsimp only; omega) rfl)
  | box n =>
    rw [measT] at h
    repeat' split at h
    · cases h
    · rename_i h0 h1
      simp only [Option.some.injEq, Prod.mk.injEq] at h
      rw [refOf_val rfl, valRV, measR, if_neg h0]
      simp only [show ¬ ((6 : Int) = 1) by decide, show ¬ ((6 : Int) = 2) by decide, show ¬ ((6 : Int) = 3) by decide, if_false, if_true]
      refine Prod.ext (by dsimp only; omega) (Prod.ext (by dsimp only; omega) ?_)
      simp [h1]
    · cases h
  | list l =>
    rw [measT] at h
    split at h
    · cases h
    · rename_i h0
      rw [refOf_val rfl, valRV, measR, if_neg h0]
      simp only [show ¬ ((4 : Int) = 1) by decide, show ¬ ((4 : Int) = 2) by decide, show ¬ ((4 : Int) = 3) by decide, show ¬ ((4 : Int) = 6) by decide, show ¬ ((4 : Int) = 7) by decide, true_or, if_false, if_true, decide_true]
      exact meass_bw true false rfl l left nest 1 0 d l' (by omega) h hd
  | quot l =>
    rw [measT] at h
    split at h
    · cases h
    · rename_i h0
      rw [refOf_val rfl, valRV, measR, if_neg h0]
      simp only [show ¬ ((5 : Int) = 1) by decide, show ¬ ((5 : Int) = 2) by decide, show ¬ ((5 : Int) = 3) by decide, show ¬ ((5 : Int) = 6) by decide, show ¬ ((5 : Int) = 7) by decide, or_true, if_false, if_true, show decide ((5 : Int) = 4) = false by decide]
      exact meass_bw false true rfl l left nest 1 0 d l' (by omega) h hd
theorem meass_bw : ∀ (vals it : Bool) (_ : it = !vals) (l : List Tree) (left nest size depth d l' : Int), 0 ≤ depth → measTs it l (left - size) nest depth = some (d, l') → d + nest ≤ 32 →
    measAll vals (refsOf it l) left nest size depth = (left - l', d, true)
  | vals, it, hv, [], left, nest, size, depth, d, l', hp, h, hd => by
    rw [measTs] at h
    split at h
    · rename_i h1
      simp only [Option.some.injEq, Prod.mk.injEq] at h
      rw [refsOf_nil, measAll]
      refine Prod.ext (by dsimp only; omega) (Prod.ext (by dsimp only; omega) (decide_eq_true h1))
    · cases h
  | vals, it, hv, t :: r, left, nest, size, depth, d, l', hp, h, hd => by
    rw [measTs] at h
    split at h
    · rename_i d1 l1 e
      have hdp := measTs_depth it r _ nest _ d l' h
      have e1 := meas_bw it t (left - size) (nest + 1) d1 l1 e (by omega)
      rw [refsOf_cons, meas_step vals it t hv, e1, if_pos rfl]
      dsimp only
      exact meass_bw vals it hv r left nest _ _ d l' (by omega) (by rw [← h]; congr 1; omega) hd
    · cases h
end
/-- From the outside, both are the same. -/
theorem meas_top (t : Tree) : (measT false t 1024 0).isSome = (measR (valRV t) 1024 0).2.2 := by
  rw [Bool.eq_iff_iff]
  constructor
  · intro h
    obtain ⟨⟨d, l'⟩, e⟩ := Option.isSome_iff_exists.1 h
    have := measT_le false t 1024 0 d l' e
    have e2 := meas_bw false t 1024 0 d l' e (by omega)
    rw [show refOf false t = valRV t from rfl] at e2
    rw [e2]
  · intro h
    have := meas_fw false t 1024 0 (by rw [show refOf false t = valRV t from rfl]; exact h)
    rw [this]; rfl
end Go.Proofs.YthhonmkmmalfjaaGreatDoor
