/- The reference's Chars and Bad. The reference's Blank. The reference's numbers. The reference's names. The reference's Measure, Sound, Bare, Name. Conditions: as each says. term.Name, term.measure, term.item, term.Check: the walks. Conditions: as each says. measure and the reference's Measure: plain Lean. Conditions: as each says. term.Same, term.SameItems: the walks. Conditions: as each says. Effects: what effect.Of computes, in plain Lean. Conditions: none. Effects: the names of the primitives, and their effects: strings.Fields, strings.Cut, effect.Names, effect.Prim. Conditions: as each says. -/
import Derived.Test.YtonkeklageehbaaGreatDoorX8
import Derived.Test.YtonkeklageehbaaGreatDoorX7
import Derived.Lib.Fields
import Derived.Test.YtonkeklageehbaaGreatDoorX6
set_option linter.all false
set_option maxRecDepth 20000
namespace Go.Proofs.YtonkeklageehbaaGreatDoor
open Go Go.Av
structure Ch where
  r : Nat
  a : Nat
  z : Nat
  bad : Bool
def chL (i : Nat) : List (Nat × Nat) → List Ch
  | [] => []
  | (r, k) :: rs => ⟨r, i, i + k, badB (r, k)⟩ :: chL (i + k) rs
def Ch.cells (c : Ch) : List AV := [.int .i32 c.r, .int .i64 c.a, .int .i64 c.z, .bool c.bad]
def chC (l : List Ch) : List AV := (l.map Ch.cells).flatten
@[simp] theorem chC_length (l : List Ch) : (chC l).length = l.length * 4 := by
  induction l with
  | nil => rfl
  | cons t l ih => show (t.cells ++ chC l).length = _; rw [List.length_append, ih]; simp [Ch.cells]; omega
theorem chC_snoc (l : List Ch) (t : Ch) : chC (l ++ [t]) = chC l ++ t.cells := by simp [chC]
theorem take_chC (l : List Ch) : (chC l).take (l.length * 4) = chC l := List.take_of_length_le (by simp)
theorem chC_at : ∀ {l : List Ch} {r : List AV} {i : Nat} {t : Ch}, l[i]? = some t → ((chC l ++ r).drop (i * 4)).take 4 = t.cells
  | [], _, _, _, h => by simp at h
  | x :: l, r, 0, t, h => by simp at h; subst h; rfl
  | x :: l, r, i + 1, t, h => by
    have := chC_at (l := l) (r := r) (i := i) (t := t) (by simpa using h)
    rw [← this, show (i + 1) * 4 = 4 + i * 4 by omega, ← List.drop_drop]; rfl
theorem chL_length : ∀ (i : Nat) (rs : List (Nat × Nat)), (chL i rs).length = rs.length
  | _, [] => rfl
  | i, (r, k) :: rs => by simp [chL, chL_length]
theorem chL_append : ∀ (i : Nat) (a b : List (Nat × Nat)), chL i (a ++ b) = chL i a ++ chL (i + (a.map (·.2)).sum) b
  | i, [], b => by simp [chL]
  | i, (r, k) :: a, b => by simp [chL, chL_append (i + k) a b, Nat.add_assoc]
theorem runes_len (l : List UInt8) : (runes l).length ≤ l.length := by
  induction l using runes_ind with
  | h0 => simp
  | h1 l hl ih =>
    obtain ⟨h1, h2, _⟩ := dec_pos l hl
    rw [runes_cons hl, List.length_cons]
    rw [List.length_drop] at ih; omega
/-- How long a character's own bytes are. -/
def encN (r : Nat) : Nat := (Utf8.encode (r : Int)).data.toList.length
theorem enc_len (r : Nat) : encN r = if r ≤ 1114111 ∧ ¬ (55296 ≤ r ∧ r ≤ 57343) then (if r < 128 then 1 else if r < 2048 then 2 else if r < 65536 then 3 else 4) else 3 := by
  unfold encN
  have hv : Utf8.valid (r : Int) = decide (r ≤ 1114111 ∧ ¬ (55296 ≤ r ∧ r ≤ 57343)) := by
    simp only [Utf8.valid]
    rw [Bool.eq_iff_iff]; simp; omega
  by_cases h : r ≤ 1114111 ∧ ¬ (55296 ≤ r ∧ r ≤ 57343)
  · rw [if_pos h]
    rw [decide_eq_true h] at hv
    simp only [Utf8.encode, hv, if_true, Int.toNat_natCast]
    by_cases h1 : r < 128
    · rw [if_pos h1, if_pos h1]; rfl
    rw [if_neg h1, if_neg h1]
    by_cases h2 : r < 2048
    · rw [if_pos h2, if_pos h2]; rfl
    rw [if_neg h2, if_neg h2]
    by_cases h3 : r < 65536
    · rw [if_pos h3, if_pos h3]; rfl
    rw [if_neg h3, if_neg h3]; rfl
  · rw [if_neg h]
    rw [decide_eq_false h] at hv
    simp only [Utf8.encode, hv, Bool.false_eq_true, if_false]
    rw [if_neg (by decide), if_neg (by decide), if_pos (by decide)]; rfl
theorem dec_enc {l : List UInt8} (h : l ≠ []) : badB (dec l) = false → encN (dec l).1 = (dec l).2 := by
  have hl : 1 ≤ l.length := by cases l with | nil => exact absurd rfl h | cons => simp
  rw [enc_len, dec_N]
  generalize (l.getD 0 0).toNat = a
  generalize (l.getD 1 0).toNat = b
  generalize (l.getD 2 0).toNat = c
  generalize (l.getD 3 0).toNat = d
  intro hb
  unfold Lib.decodeN at hb ⊢
  repeat' split
  all_goals first | (simp [badB] at hb; done) | (dsimp only at *; omega) | skip
  all_goals simp_all [badB]
  all_goals omega
def charsR (l : List UInt8) : List Ch := chL 0 (runes l)
structure ChI where
  o : Option Nat
  i : Nat
  out : List Ch



set_option maxHeartbeats 800000 in
theorem f_Chars (l : List UInt8) (hl : l.length ≤ 1000000000) : Av.Fn Tryz.prog 106 [.str l] (.fz (chC (charsR l)) (charsR l).length false) := by
  refine ACalls.of_W tb_ok (fn := Tryz.f106) (n := 45) (by kernel_rfl) rfl (by kernel_rfl) rfl rfl (by simp) (go ?_)
  refine VAll.mk (fun b => go ?_)
  refine VLoop.mk [3] ChI (fun i => [accV i.o i.out.length]) (fun i => (b, .siter l i.i) :: accS i.o 4 (chC i.out))
    (fun i => i.i ≤ l.length ∧ i.out.length ≤ i.i ∧ (i.o = none → i.out = []) ∧ i.out ++ chL i.i (runes (l.drop i.i)) = charsR l) (fun i => l.length - i.i) ⟨none, 0, []⟩ ?_ ?_
  · exact ⟨⟨by simp, by simp, by simp, by simp [charsR]⟩, rfl, .cons 0 rfl .nil⟩
  rintro ⟨o, i, out⟩ ⟨hi, hol, ho, hI⟩
  dsimp only at hi hol ho hI ⊢
  cases o with
  | none =>
    have hacc := ho rfl
    subst hacc
    refine go ?_
    refine fork (fun hlt => go ?_) (fun hlt => go ?_)
    · have hlt : i < l.length := by omega
      have hne' : l.drop i ≠ [] := by simp; omega
      have hc := dec_pos _ hne'
      have hbad := dec_bad hne'
      have henc := dec_enc hne'
      have hru := runes_cons hne'
      rw [← dec_at] at hc hbad henc hru
      generalize hdc : Utf8.decode ⟨⟨l⟩⟩ i = c at hc hbad henc hru
      rw [List.drop_drop] at hru
      obtain ⟨r, k⟩ := c
      dsimp only at hc hbad henc hru ⊢
      rw [List.length_drop] at hc hbad
      rw [show (Utf8.encode (r : Int)).data.toList.length = encN r from rfl]
      cases hbb : badB (r, k) with
      | true =>
        have hrk : r = 65533 ∧ k = 1 := by simpa [badB] using hbb
        obtain ⟨rfl, rfl⟩ := hrk
        have he3 : encN 65533 = 3 := by rw [enc_len]; rfl
        rw [he3]
        rw [hbb, decide_eq_true rfl, Bool.true_and, Bool.not_eq_true', Bool.and_eq_false_iff] at hbad
        refine VInt.to ((i + 3 : Nat) : Int) (by omega) (by omega) (by omega) (go ?_)
        by_cases h3 : i + 3 ≤ l.length
        · have h4 : ¬ (l.drop i).take 3 = [239, 191, 189] := by
            rcases hbad with h | h
            · simp at h; omega
            · simpa using h
          refine VIf.no (decide_eq_false (by omega)) (go ?_)
          refine VIf.yes (by rw [List.drop_take, Nat.add_sub_cancel_left]; simp [h4]) (go ?_)
          refine VAll.mk (fun b2 => go ?_)
          refine ⟨⟨some b2, i + 1, [⟨65533, i, i + 1, true⟩]⟩, ⟨?_, ?_, ?_, ?_⟩, ?_, ?_, ?_⟩
          · dsimp only; omega
          · simp; try omega
          · intro h; cases h
          · dsimp only; rw [← hI, hru, chL, hbb]; rfl
          · dsimp only; omega
          · simp [accV]
          · exact .cons 1 rfl (.cons 0 rfl .nil)
        · refine VIf.yes (decide_eq_true (by omega)) (go ?_)
          refine VAll.mk (fun b2 => go ?_)
          refine ⟨⟨some b2, i + 1, [⟨65533, i, i + 1, true⟩]⟩, ⟨?_, ?_, ?_, ?_⟩, ?_, ?_, ?_⟩
          · dsimp only; omega
          · simp; try omega
          · intro h; cases h
          · dsimp only; rw [← hI, hru, chL, hbb]; rfl
          · dsimp only; omega
          · simp [accV]
          · exact .cons 1 rfl (.cons 0 rfl .nil)
      | false =>
        rw [henc hbb]
        refine VInt.to ((i + k : Nat) : Int) (by omega) (by omega) (by omega) (go ?_)
        by_cases hr : r = 65533
        · subst hr
          have hk3 : k = 3 := by rw [← henc hbb, enc_len]; rfl
          subst hk3
          rw [hbb, decide_eq_true rfl, Bool.true_and, Bool.not_eq_false', Bool.and_eq_true, decide_eq_true_eq, decide_eq_true_eq] at hbad
          refine go ?_
          refine VIf.no (decide_eq_false (by omega)) (go ?_)
          refine VIf.no (by rw [List.drop_take, Nat.add_sub_cancel_left, hbad.2]; rfl) (go ?_)
          refine VAll.mk (fun b2 => go ?_)
          refine ⟨⟨some b2, i + 3, [⟨65533, i, i + 3, false⟩]⟩, ⟨?_, ?_, ?_, ?_⟩, ?_, ?_, ?_⟩
          · dsimp only; omega
          · simp; try omega
          · intro h; cases h
          · dsimp only; rw [← hI, hru, chL, hbb]; rfl
          · dsimp only; omega
          · simp [accV]
          · exact .cons 1 rfl (.cons 0 rfl .nil)
        · refine VIf.no (decide_eq_false (by omega)) (go ?_)
          refine VAll.mk (fun b2 => go ?_)
          refine ⟨⟨some b2, i + k, [⟨r, i, i + k, false⟩]⟩, ⟨?_, ?_, ?_, ?_⟩, ?_, ?_, ?_⟩
          · dsimp only; omega
          · simp; try omega
          · intro h; cases h
          · dsimp only; rw [← hI, hru, chL, hbb]; rfl
          · dsimp only; omega
          · simp [accV]
          · exact .cons 1 rfl (.cons 0 rfl .nil)
    · rw [List.drop_eq_nil_of_le (by omega)] at hI
      refine VRet.mk [] .nil ?_
      rw [← hI]; simp [chL, chC]; try rfl
  | some bo =>
    refine go ?_
    refine fork (fun hlt => go ?_) (fun hlt => go ?_)
    · have hlt : i < l.length := by omega
      have hne' : l.drop i ≠ [] := by simp; omega
      have hc := dec_pos _ hne'
      have hbad := dec_bad hne'
      have henc := dec_enc hne'
      have hru := runes_cons hne'
      rw [← dec_at] at hc hbad henc hru
      generalize hdc : Utf8.decode ⟨⟨l⟩⟩ i = c at hc hbad henc hru
      rw [List.drop_drop] at hru
      obtain ⟨r, k⟩ := c
      dsimp only at hc hbad henc hru ⊢
      rw [List.length_drop] at hc hbad
      rw [show (Utf8.encode (r : Int)).data.toList.length = encN r from rfl]
      cases hbb : badB (r, k) with
      | true =>
        have hrk : r = 65533 ∧ k = 1 := by simpa [badB] using hbb
        obtain ⟨rfl, rfl⟩ := hrk
        have he3 : encN 65533 = 3 := by rw [enc_len]; rfl
        rw [he3]
        rw [hbb, decide_eq_true rfl, Bool.true_and, Bool.not_eq_true', Bool.and_eq_false_iff] at hbad
        refine VInt.to ((i + 3 : Nat) : Int) (by omega) (by omega) (by omega) (go ?_)
        by_cases h3 : i + 3 ≤ l.length
        · have h4 : ¬ (l.drop i).take 3 = [239, 191, 189] := by
            rcases hbad with h | h
            · simp at h; omega
            · simpa using h
          refine VIf.no (decide_eq_false (by omega)) (go ?_)
          refine VIf.yes (by rw [List.drop_take, Nat.add_sub_cancel_left]; simp [h4]) (go ?_)
          refine VGd.mk (by simp; omega) (go ?_)
          refine VAll.mk (fun b2 => go ?_)
          refine ⟨⟨some b2, i + 1, out ++ [⟨65533, i, i + 1, true⟩]⟩, ⟨?_, ?_, ?_, ?_⟩, ?_, ?_, ?_⟩
          · dsimp only; omega
          · simp; try omega
          · intro h; cases h
          · dsimp only; rw [List.append_assoc, ← hI, hru, chL, hbb]; rfl
          · dsimp only; omega
          · simp [accV]
          · simp only [accS, chC_snoc]; rw [mulN_eq, take_chC]; exact .cons 1 rfl (.cons 0 rfl .nil)
        · refine VIf.yes (decide_eq_true (by omega)) (go ?_)
          refine VGd.mk (by simp; omega) (go ?_)
          refine VAll.mk (fun b2 => go ?_)
          refine ⟨⟨some b2, i + 1, out ++ [⟨65533, i, i + 1, true⟩]⟩, ⟨?_, ?_, ?_, ?_⟩, ?_, ?_, ?_⟩
          · dsimp only; omega
          · simp; try omega
          · intro h; cases h
          · dsimp only; rw [List.append_assoc, ← hI, hru, chL, hbb]; rfl
          · dsimp only; omega
          · simp [accV]
          · simp only [accS, chC_snoc]; rw [mulN_eq, take_chC]; exact .cons 1 rfl (.cons 0 rfl .nil)
      | false =>
        rw [henc hbb]
        refine VInt.to ((i + k : Nat) : Int) (by omega) (by omega) (by omega) (go ?_)
        by_cases hr : r = 65533
        · subst hr
          have hk3 : k = 3 := by rw [← henc hbb, enc_len]; rfl
          subst hk3
          rw [hbb, decide_eq_true rfl, Bool.true_and, Bool.not_eq_false', Bool.and_eq_true, decide_eq_true_eq, decide_eq_true_eq] at hbad
          refine go ?_
          refine VIf.no (decide_eq_false (by omega)) (go ?_)
          refine VIf.no (by rw [List.drop_take, Nat.add_sub_cancel_left, hbad.2]; rfl) (go ?_)
          refine VGd.mk (by simp; omega) (go ?_)
          refine VAll.mk (fun b2 => go ?_)
          refine ⟨⟨some b2, i + 3, out ++ [⟨65533, i, i + 3, false⟩]⟩, ⟨?_, ?_, ?_, ?_⟩, ?_, ?_, ?_⟩
          · dsimp only; omega
          · simp; try omega
          · intro h; cases h
          · dsimp only; rw [List.append_assoc, ← hI, hru, chL, hbb]; rfl
          · dsimp only; omega
          · simp [accV]
          · simp only [accS, chC_snoc]; rw [mulN_eq, take_chC]; exact .cons 1 rfl (.cons 0 rfl .nil)
        · refine VIf.no (decide_eq_false (by omega)) (go ?_)
          refine VGd.mk (by simp; omega) (go ?_)
          refine VAll.mk (fun b2 => go ?_)
          refine ⟨⟨some b2, i + k, out ++ [⟨r, i, i + k, false⟩]⟩, ⟨?_, ?_, ?_, ?_⟩, ?_, ?_, ?_⟩
          · dsimp only; omega
          · simp; try omega
          · intro h; cases h
          · dsimp only; rw [List.append_assoc, ← hI, hru, chL, hbb]; rfl
          · dsimp only; omega
          · simp [accV]
          · simp only [accS, chC_snoc]; rw [mulN_eq, take_chC]; exact .cons 1 rfl (.cons 0 rfl .nil)
    · rw [List.drop_eq_nil_of_le (by omega)] at hI
      refine VRet.mk [] .nil ?_
      rw [← hI]; simp [chL, take_chC]; try rfl
def fb : List Ch → Int
  | [] => -1
  | c :: r => if c.bad then (c.a : Int) else fb r
theorem fb_chL : ∀ (a : Nat) (rs : List (Nat × Nat)), fb (chL a rs) = match faultL rs with
    | none => -1
    | some j => ((a + j : Nat) : Int)
  | a, [] => rfl
  | a, (r, k) :: rs => by
    rw [chL, fb, faultL, fb_chL (a + k) rs]
    cases badB (r, k) with
    | true => simp
    | false =>
      cases faultL rs with
      | none => simp
      | some j => simp [Nat.add_assoc]
theorem f_Bad (l : List UInt8) (hl : l.length ≤ 1000000000) : Av.Fn Tryz.prog 147 [.str l] (.int .i64 (faultV l)) := by
  have hfb : fb (charsR l) = faultV l := by
    unfold charsR faultV faultR
    rw [fb_chL]
    cases faultL (runes l) <;> simp
  have hcl : (charsR l).length ≤ 1000000000 := by
    have := runes_len l
    unfold charsR; rw [chL_length]; omega
  have fc := f_Chars l hl
  generalize charsR l = cs at fc hfb hcl
  refine ACalls.of_W tb_ok (fn := Tryz.f147) (n := 23) (by kernel_rfl) rfl (by kernel_rfl) rfl rfl (by simp) (go ?_)
  refine Fn.use (fc) (go ?_)
  refine VLoop.mk [4] Nat (fun i => [.int .i64 i]) (fun _ => []) (fun i => i ≤ cs.length ∧ fb (cs.drop i) = faultV l) (fun i => cs.length - i) 0 ?_ ?_
  · exact ⟨⟨by omega, hfb⟩, rfl, .nil⟩
  intro i ⟨hi, hI⟩
  refine go ?_
  refine fork (fun hlt => go ?_) (fun hlt => go ?_)
  · have hlt : i < cs.length := by omega
    have hdl : cs.drop i = cs[i] :: cs.drop (i + 1) := List.drop_eq_getElem_cons hlt
    have hx : cs[i]? = some cs[i] := by simp [hlt]
    generalize cs[i] = x at hx hdl
    have e1 := chC_at (r := []) hx
    rw [List.append_nil] at e1
    obtain ⟨r, a, z, bad⟩ := x
    rw [hdl, fb] at hI
    have hcells : (cs.length * 4) = (chC cs).length := by simp
    have n3 : ((chC cs).drop (i * 4))[3]? = some (.bool bad) := by
      have := congrArg (·[3]?) e1
      simpa [List.getElem?_take, Ch.cells] using this
    have n1 : ((chC cs).drop (i * 4))[1]? = some (.int .i64 a) := by
      have := congrArg (·[1]?) e1
      simpa [List.getElem?_take, Ch.cells] using this
    refine VNth.mk (.bool bad) (by simpa using n3) (go ?_)
    dsimp only at hI
    cases bad with
    | true =>
      refine go ?_
      refine VNth.mk (.int .i64 a) (by simpa using n1) (go ?_)
      refine VRet.mk [] .nil ?_
      rw [← hI]; exact ⟨rfl, rfl⟩
    | false =>
      refine go ?_
      exact ⟨i + 1, ⟨by omega, by simpa using hI⟩, by omega, rfl, .nil⟩
  · rw [List.drop_eq_nil_of_le (by omega)] at hI
    refine VRet.mk [] .nil ?_
    rw [← hI]; exact ⟨rfl, rfl⟩
end Go.Proofs.YtonkeklageehbaaGreatDoor

namespace Go.Proofs.YtonkeklageehbaaGreatDoor
open Go Go.Av
theorem f_refBlank (r : Int) : Av.Fn Tryz.prog 107 [.int .i32 r] (.bool (blankB r)) := by
  refine ACalls.of_W tb_ok (fn := Tryz.f107) (n := 25) (by kernel_rfl) rfl (by kernel_rfl) rfl rfl (by simp) (go ?_)
  refine fork (fun h1 => go ?_) (fun h1 => go ?_)
  · refine VRet.mk [] .nil ?_
    simp [blankB, h1]
  refine fork (fun h2 => go ?_) (fun h2 => go ?_)
  · refine VRet.mk [] .nil ?_
    simp [blankB, h2]
  refine fork (fun h3 => go ?_) (fun h3 => go ?_)
  · refine VRet.mk [] .nil ?_
    simp [blankB, h3]
  refine fork (fun h4 => go ?_) (fun h4 => go ?_)
  · refine VRet.mk [] .nil ?_
    simp [blankB, h4]
  refine fork (fun h5 => go ?_) (fun h5 => go ?_)
  · refine VRet.mk [] .nil ?_
    simp [blankB, h5]
  refine VRet.mk [] .nil ?_
  simp [blankB, h1, h2, h3, h4, h5]
end Go.Proofs.YtonkeklageehbaaGreatDoor

namespace Go.Proofs.YtonkeklageehbaaGreatDoor
open Go Go.Av
def scrR (r : Nat) : Int := if 48 ≤ r ∧ r ≤ 57 then 48 else if 1632 ≤ r ∧ r ≤ 1641 then 1632 else if 65296 ≤ r ∧ r ≤ 65305 then 65296 else 0
theorem f_script (r : Nat) : Av.Fn Tryz.prog 131 [.int .i32 r] (.int .i32 (scrR r)) := by
  refine ACalls.of_W tb_ok (fn := Tryz.f131) (n := 21) (by kernel_rfl) rfl (by kernel_rfl) rfl rfl (by simp) (go ?_)
  repeat' (refine fork (fun _ => go ?_) (fun _ => go ?_))
  all_goals
    refine VRet.mk [] .nil ?_
    refine ⟨congrArg (fun x => AOut.ret (.int .i32 x)) ?_, rfl⟩
    unfold scrR
    repeat' split
    all_goals omega
def numLoop (z : Int) : List Nat → Nat → Option Nat
  | [], n => some n
  | r :: rs, n => if scrR r ≠ z then none else numLoop z rs (min (10 * n + (r - z.toNat)) 1152921504606846977)
def minusR : List Nat → Bool
  | [] => false
  | r :: _ => decide (r = 45 ∨ r = 8722)
def numR' (l : List Nat) : Option Nat := match l with
  | [] => none
  | r :: rs => if scrR r = 0 then none else numLoop (scrR r) (r :: rs) 0
def numR (l : List Nat) : Option Nat := numR' (if minusR l then l.drop 1 else l)
def numV (m : Bool) (o : Option Nat) : AV := match o with
  | none => .tup [.int .u64 0, .bool m, .bool false]
  | some n => .tup [.int .u64 n, .bool m, .bool true]
theorem numLoop_le {z : Int} : ∀ {l : List Nat} {n m : Nat}, n ≤ 1152921504606846977 → numLoop z l n = some m → m ≤ 1152921504606846977
  | [], n, m, h, e => by cases e; exact h
  | r :: rs, n, m, h, e => by
    rw [numLoop] at e
    split at e
    · cases e
    · exact numLoop_le (Nat.min_le_right _ _) e
theorem chC_r {l : List Ch} {ra : List AV} {i : Nat} {x : Ch} (h : l[i]? = some x) : ((chC l ++ ra).drop (i * 4))[0]? = some (.int .i32 x.r) := by
  have e1 := chC_at (r := ra) h
  have := congrArg (·[0]?) e1
  simpa [List.getElem?_take, Ch.cells] using this
theorem scrR_bound {r : Nat} (h : scrR r ≠ 0) : (scrR r).toNat ≤ r ∧ r ≤ (scrR r).toNat + 9 ∧ 48 ≤ scrR r ∧ scrR r ≤ 65296 := by
  unfold scrR at h ⊢
  repeat' split
  all_goals (first | (exfalso; simp_all; done) | omega)


set_option maxHeartbeats 1600000 in
theorem f_number (cs : List Ch) (ra : List AV) (fl : Bool) (hb : ∀ c ∈ cs, c.r ≤ 1114111) (hl : cs.length ≤ 1000000000) :
    Av.Fn Tryz.prog 108 [.fz (chC cs ++ ra) cs.length fl] (numV (minusR (cs.map (·.r))) (numR (cs.map (·.r)))) := by
  unfold numR
  refine ACalls.of_W tb_ok (fn := Tryz.f108) (n := 75) (by kernel_rfl) rfl (by kernel_rfl) rfl rfl (by simp) (go ?_)
  cases cs with
  | nil =>
    refine go ?_
    refine VRet.mk [] .nil ?_
    exact ⟨rfl, rfl⟩
  | cons c cs =>
    have hcell : List.drop (mulN 1 4) (List.take (mulN (c :: cs).length 4) (chC (c :: cs) ++ ra)) = chC cs := by
      rw [mulN_eq, mulN_eq, List.take_append_of_le_length (by simp), take_chC]; rfl
    have hmin : minusR ((c :: cs).map (·.r)) = decide (c.r = 45 ∨ c.r = 8722) := rfl
    rw [hmin]
    refine VIf.yes (by simp) (go ?_)
    refine fork (fun h45 => go ?_) (fun h45 => go ?_)
    · rw [hcell]
      have hmm : decide (c.r = 45 ∨ c.r = 8722) = true := decide_eq_true (by omega)
      rw [hmm]
      rw [show (c :: cs).length - 1 = cs.length from rfl]
      cases cs with
      | nil =>
        refine go ?_
        refine VRet.mk [] .nil ?_
        exact ⟨rfl, rfl⟩
      | cons c cs =>
        refine VIf.no (by simp; try omega) (go ?_)
        rw [show ∀ q : Ch, numR' (if true = true then List.drop 1 ((q :: c :: cs).map (·.r)) else (q :: c :: cs).map (·.r)) = numR' ((c :: cs).map (·.r)) from fun _ => rfl]
        have e1 : ∀ {i : Nat} {x : Ch}, (c :: cs)[i]? = some x → ((chC (c :: cs)).drop (i * 4))[0]? = some (.int .i32 x.r) := fun h => by simpa using chC_r (ra := []) h
        refine Fn.use (f_script c.r) (go ?_)
        refine fork (fun h0 => go ?_) (fun h0 => go ?_)
        · refine VRet.mk [] .nil ?_
          rw [List.map_cons, numR', if_pos (by omega)]; exact ⟨rfl, rfl⟩
        · rw [List.map_cons, numR', if_neg (by omega), ← List.map_cons]
          have h0 : scrR c.r ≠ 0 := by omega
          have hsb := scrR_bound h0
          have hll : (c :: cs).length ≤ 1000000000 := (by simp at hl ⊢; omega)
          have hbb : ∀ x ∈ c :: cs, x.r ≤ 1114111 := (fun x hx => hb x (List.mem_cons_of_mem _ hx))
          refine VLoop.mk [5, 2, 3] (Nat × Nat) (fun x => [.int .i64 x.1, .int .u64 x.2, .bool true]) (fun _ => []) (fun x => x.1 ≤ (c :: cs).length ∧ x.2 ≤ 1152921504606846977 ∧ numLoop (scrR c.r) (((c :: cs).map (·.r)).drop x.1) x.2 = numLoop (scrR c.r) ((c :: cs).map (·.r)) 0) (fun x => (c :: cs).length - x.1) (0, 0) ?_ ?_
          · exact ⟨⟨by simp, by simp, by simp⟩, rfl, .nil⟩
          rintro ⟨i, n⟩ ⟨hi, hn, hI⟩
          dsimp only at hi hn hI ⊢
          refine go ?_
          refine fork (fun hlt => go ?_) (fun hlt => go ?_)
          · have hlt : i < (c :: cs).length := by simp at hlt ⊢; omega
            obtain ⟨x, hx⟩ : ∃ x, (c :: cs)[i]? = some x := ⟨(c :: cs)[i], by simp [hlt]⟩
            have hxr := hbb x (List.mem_of_getElem? hx)
            have hd : ((c :: cs).map (·.r)).drop i = x.r :: ((c :: cs).map (·.r)).drop (i + 1) := by
              obtain ⟨h1, h2⟩ := List.getElem?_eq_some_iff.1 hx
              rw [List.drop_eq_getElem_cons (by simpa using hlt), List.getElem_map, h2]
            have e0 := e1 hx
            rw [hd, numLoop] at hI
            refine VQ.mk (.int .i32 x.r) (by refine go ?_; exact VNth.mk _ (by simpa using e0) ⟨rfl, rfl⟩) (go ?_)
            refine VQ.mk (.int .i32 (scrR x.r)) (by refine go ?_; refine Fn.use (f_script x.r) (go ?_); exact ⟨congrArg _ (rfl), rfl⟩) (go ?_)
            refine VQ.mk (.int .i32 (scrR c.r)) (by refine go ?_; refine Fn.use (f_script c.r) (go ?_); exact ⟨congrArg _ (rfl), rfl⟩) (go ?_)
            refine fork (fun hne => go ?_) (fun hne => go ?_)
            · refine VRet.mk [] .nil ?_
              rw [if_pos (by omega)] at hI
              rw [← hI]; exact ⟨rfl, rfl⟩
            · rw [if_neg (by omega)] at hI
              have hsx := scrR_bound (r := x.r) (by omega)
              refine VQ.mk (.int .i32 x.r) (by refine go ?_; exact VNth.mk _ (by simpa using e0) ⟨rfl, rfl⟩) (go ?_)
              refine VQ.mk (.int .i32 x.r) (by refine go ?_; exact VNth.mk _ (by simpa using e0) ⟨rfl, rfl⟩) (go ?_)
              refine VQ.mk (.int .i32 (scrR x.r)) (by refine go ?_; refine Fn.use (f_script x.r) (go ?_); exact ⟨congrArg _ (rfl), rfl⟩) (go ?_)
              refine ⟨(i + 1, min (10 * n + (x.r - (scrR c.r).toNat)) 1152921504606846977), ⟨?_, Nat.min_le_right _ _, hI⟩, ?_, ?_, .nil⟩
              · dsimp only; omega
              · dsimp only; omega
              · dsimp only
                rw [show ((i + 1 : Nat) : Int) = (i : Int) + 1 by omega, show min (10 * (n : Int) + ((x.r : Int) - scrR x.r)) 1152921504606846977 = ((min (10 * n + (x.r - (scrR c.r).toNat)) 1152921504606846977 : Nat) : Int) by omega]
          · refine VRet.mk [] .nil ?_
            rw [List.drop_eq_nil_of_le (by simp at hlt ⊢; omega), numLoop] at hI
            rw [← hI]; exact ⟨rfl, rfl⟩
    · refine fork (fun h87 => go ?_) (fun h87 => go ?_)
      · rw [hcell]
        have hmm : decide (c.r = 45 ∨ c.r = 8722) = true := decide_eq_true (by omega)
        rw [hmm]
        rw [show (c :: cs).length - 1 = cs.length from rfl]
        cases cs with
        | nil =>
          refine go ?_
          refine VRet.mk [] .nil ?_
          exact ⟨rfl, rfl⟩
        | cons c cs =>
          refine VIf.no (by simp; try omega) (go ?_)
          rw [show ∀ q : Ch, numR' (if true = true then List.drop 1 ((q :: c :: cs).map (·.r)) else (q :: c :: cs).map (·.r)) = numR' ((c :: cs).map (·.r)) from fun _ => rfl]
          have e1 : ∀ {i : Nat} {x : Ch}, (c :: cs)[i]? = some x → ((chC (c :: cs)).drop (i * 4))[0]? = some (.int .i32 x.r) := fun h => by simpa using chC_r (ra := []) h
          refine Fn.use (f_script c.r) (go ?_)
          refine fork (fun h0 => go ?_) (fun h0 => go ?_)
          · refine VRet.mk [] .nil ?_
            rw [List.map_cons, numR', if_pos (by omega)]; exact ⟨rfl, rfl⟩
          · rw [List.map_cons, numR', if_neg (by omega), ← List.map_cons]
            have h0 : scrR c.r ≠ 0 := by omega
            have hsb := scrR_bound h0
            have hll : (c :: cs).length ≤ 1000000000 := (by simp at hl ⊢; omega)
            have hbb : ∀ x ∈ c :: cs, x.r ≤ 1114111 := (fun x hx => hb x (List.mem_cons_of_mem _ hx))
            refine VLoop.mk [5, 2, 3] (Nat × Nat) (fun x => [.int .i64 x.1, .int .u64 x.2, .bool true]) (fun _ => []) (fun x => x.1 ≤ (c :: cs).length ∧ x.2 ≤ 1152921504606846977 ∧ numLoop (scrR c.r) (((c :: cs).map (·.r)).drop x.1) x.2 = numLoop (scrR c.r) ((c :: cs).map (·.r)) 0) (fun x => (c :: cs).length - x.1) (0, 0) ?_ ?_
            · exact ⟨⟨by simp, by simp, by simp⟩, rfl, .nil⟩
            rintro ⟨i, n⟩ ⟨hi, hn, hI⟩
            dsimp only at hi hn hI ⊢
            refine go ?_
            refine fork (fun hlt => go ?_) (fun hlt => go ?_)
            · have hlt : i < (c :: cs).length := by simp at hlt ⊢; omega
              obtain ⟨x, hx⟩ : ∃ x, (c :: cs)[i]? = some x := ⟨(c :: cs)[i], by simp [hlt]⟩
              have hxr := hbb x (List.mem_of_getElem? hx)
              have hd : ((c :: cs).map (·.r)).drop i = x.r :: ((c :: cs).map (·.r)).drop (i + 1) := by
                obtain ⟨h1, h2⟩ := List.getElem?_eq_some_iff.1 hx
                rw [List.drop_eq_getElem_cons (by simpa using hlt), List.getElem_map, h2]
              have e0 := e1 hx
              rw [hd, numLoop] at hI
              refine VQ.mk (.int .i32 x.r) (by refine go ?_; exact VNth.mk _ (by simpa using e0) ⟨rfl, rfl⟩) (go ?_)
              refine VQ.mk (.int .i32 (scrR x.r)) (by refine go ?_; refine Fn.use (f_script x.r) (go ?_); exact ⟨congrArg _ (rfl), rfl⟩) (go ?_)
              refine VQ.mk (.int .i32 (scrR c.r)) (by refine go ?_; refine Fn.use (f_script c.r) (go ?_); exact ⟨congrArg _ (rfl), rfl⟩) (go ?_)
              refine fork (fun hne => go ?_) (fun hne => go ?_)
              · refine VRet.mk [] .nil ?_
                rw [if_pos (by omega)] at hI
                rw [← hI]; exact ⟨rfl, rfl⟩
              · rw [if_neg (by omega)] at hI
                have hsx := scrR_bound (r := x.r) (by omega)
                refine VQ.mk (.int .i32 x.r) (by refine go ?_; exact VNth.mk _ (by simpa using e0) ⟨rfl, rfl⟩) (go ?_)
                refine VQ.mk (.int .i32 x.r) (by refine go ?_; exact VNth.mk _ (by simpa using e0) ⟨rfl, rfl⟩) (go ?_)
                refine VQ.mk (.int .i32 (scrR x.r)) (by refine go ?_; refine Fn.use (f_script x.r) (go ?_); exact ⟨congrArg _ (rfl), rfl⟩) (go ?_)
                refine ⟨(i + 1, min (10 * n + (x.r - (scrR c.r).toNat)) 1152921504606846977), ⟨?_, Nat.min_le_right _ _, hI⟩, ?_, ?_, .nil⟩
                · dsimp only; omega
                · dsimp only; omega
                · dsimp only
                  rw [show ((i + 1 : Nat) : Int) = (i : Int) + 1 by omega, show min (10 * (n : Int) + ((x.r : Int) - scrR x.r)) 1152921504606846977 = ((min (10 * n + (x.r - (scrR c.r).toNat)) 1152921504606846977 : Nat) : Int) by omega]
            · refine VRet.mk [] .nil ?_
              rw [List.drop_eq_nil_of_le (by simp at hlt ⊢; omega), numLoop] at hI
              rw [← hI]; exact ⟨rfl, rfl⟩
      · have hmm : decide (c.r = 45 ∨ c.r = 8722) = false := decide_eq_false (by omega)
        rw [hmm]
        rw [if_neg Bool.false_ne_true]
        have e1 : ∀ {i : Nat} {x : Ch}, (c :: cs)[i]? = some x → ((chC (c :: cs) ++ ra).drop (i * 4))[0]? = some (.int .i32 x.r) := fun h => chC_r h
        refine Fn.use (f_script c.r) (go ?_)
        refine fork (fun h0 => go ?_) (fun h0 => go ?_)
        · refine VRet.mk [] .nil ?_
          rw [List.map_cons, numR', if_pos (by omega)]; exact ⟨rfl, rfl⟩
        · rw [List.map_cons, numR', if_neg (by omega), ← List.map_cons]
          have h0 : scrR c.r ≠ 0 := by omega
          have hsb := scrR_bound h0
          have hll : (c :: cs).length ≤ 1000000000 := hl
          have hbb : ∀ x ∈ c :: cs, x.r ≤ 1114111 := hb
          refine VLoop.mk [5, 2, 3] (Nat × Nat) (fun x => [.int .i64 x.1, .int .u64 x.2, .bool false]) (fun _ => []) (fun x => x.1 ≤ (c :: cs).length ∧ x.2 ≤ 1152921504606846977 ∧ numLoop (scrR c.r) (((c :: cs).map (·.r)).drop x.1) x.2 = numLoop (scrR c.r) ((c :: cs).map (·.r)) 0) (fun x => (c :: cs).length - x.1) (0, 0) ?_ ?_
          · exact ⟨⟨by simp, by simp, by simp⟩, rfl, .nil⟩
          rintro ⟨i, n⟩ ⟨hi, hn, hI⟩
          dsimp only at hi hn hI ⊢
          refine go ?_
          refine fork (fun hlt => go ?_) (fun hlt => go ?_)
          · have hlt : i < (c :: cs).length := by simp at hlt ⊢; omega
            obtain ⟨x, hx⟩ : ∃ x, (c :: cs)[i]? = some x := ⟨(c :: cs)[i], by simp [hlt]⟩
            have hxr := hbb x (List.mem_of_getElem? hx)
            have hd : ((c :: cs).map (·.r)).drop i = x.r :: ((c :: cs).map (·.r)).drop (i + 1) := by
              obtain ⟨h1, h2⟩ := List.getElem?_eq_some_iff.1 hx
              rw [List.drop_eq_getElem_cons (by simpa using hlt), List.getElem_map, h2]
            have e0 := e1 hx
            rw [hd, numLoop] at hI
            refine VQ.mk (.int .i32 x.r) (by refine go ?_; exact VNth.mk _ (by simpa using e0) ⟨rfl, rfl⟩) (go ?_)
            refine VQ.mk (.int .i32 (scrR x.r)) (by refine go ?_; refine Fn.use (f_script x.r) (go ?_); exact ⟨congrArg _ (rfl), rfl⟩) (go ?_)
            refine VQ.mk (.int .i32 (scrR c.r)) (by refine go ?_; refine Fn.use (f_script c.r) (go ?_); exact ⟨congrArg _ (rfl), rfl⟩) (go ?_)
            refine fork (fun hne => go ?_) (fun hne => go ?_)
            · refine VRet.mk [] .nil ?_
              rw [if_pos (by omega)] at hI
              rw [← hI]; exact ⟨rfl, rfl⟩
            · rw [if_neg (by omega)] at hI
              have hsx := scrR_bound (r := x.r) (by omega)
              refine VQ.mk (.int .i32 x.r) (by refine go ?_; exact VNth.mk _ (by simpa using e0) ⟨rfl, rfl⟩) (go ?_)
              refine VQ.mk (.int .i32 x.r) (by refine go ?_; exact VNth.mk _ (by simpa using e0) ⟨rfl, rfl⟩) (go ?_)
              refine VQ.mk (.int .i32 (scrR x.r)) (by refine go ?_; refine Fn.use (f_script x.r) (go ?_); exact ⟨congrArg _ (rfl), rfl⟩) (go ?_)
              refine ⟨(i + 1, min (10 * n + (x.r - (scrR c.r).toNat)) 1152921504606846977), ⟨?_, Nat.min_le_right _ _, hI⟩, ?_, ?_, .nil⟩
              · dsimp only; omega
              · dsimp only; omega
              · dsimp only
                rw [show ((i + 1 : Nat) : Int) = (i : Int) + 1 by omega, show min (10 * (n : Int) + ((x.r : Int) - scrR x.r)) 1152921504606846977 = ((min (10 * n + (x.r - (scrR c.r).toNat)) 1152921504606846977 : Nat) : Int) by omega]
          · refine VRet.mk [] .nil ?_
            rw [List.drop_eq_nil_of_le (by simp at hlt ⊢; omega), numLoop] at hI
            rw [← hI]; exact ⟨rfl, rfl⟩
theorem charsR_r (l : List UInt8) : (charsR l).map (·.r) = chars l := by
  unfold charsR chars
  generalize 0 = i
  induction runes l generalizing i with
  | nil => rfl
  | cons x rs ih => obtain ⟨r, k⟩ := x; simp [chL, ih]
theorem charsR_le (l : List UInt8) : ∀ c ∈ charsR l, c.r ≤ 1114111 := by
  intro c hc
  have : c.r ∈ chars l := by rw [← charsR_r]; exact List.mem_map_of_mem hc
  clear hc
  generalize c.r = r at this
  revert this
  induction l using runes_ind with
  | h0 => simp [chars]
  | h1 l hl ih =>
    rw [chars_cons hl, List.mem_cons]
    rintro (h | h)
    · rw [h]; exact (dec_pos l hl).2.2.2
    · exact ih h
theorem charsR_len (l : List UInt8) : (charsR l).length ≤ l.length := by
  have := runes_len l
  unfold charsR; rw [chL_length]; exact this
theorem f_number' (l : List UInt8) (hl : l.length ≤ 1000000000) : Av.Fn Tryz.prog 108 [.fz (chC (charsR l)) (charsR l).length false] (numV (minusR (chars l)) (numR (chars l))) := by
  have := f_number (charsR l) [] false (charsR_le l) (by have := charsR_len l; omega)
  rwa [List.append_nil, charsR_r] at this
/-- What the reference's Number says. -/
def refNumR (l : List Nat) : Int × Int := match numR l with
  | none => (0, 9)
  | some n => if minusR l ∧ n ≤ 1152921504606846976 then (-n, 0) else if 1152921504606846975 < n then (0, 11) else (n, 0)
theorem numR_le {l : List Nat} {n : Nat} (h : numR l = some n) : n ≤ 1152921504606846977 := by
  unfold numR numR' at h
  split at h
  · cases h
  · split at h
    · cases h
    · exact numLoop_le (by omega) h
end Go.Proofs.YtonkeklageehbaaGreatDoor

namespace Go.Proofs.YtonkeklageehbaaGreatDoor
open Go Go.Av
/-- What the reference's Name says. -/
def refNameR (l : List UInt8) : Bool := decide (1 ≤ (chars l).length ∧ (chars l).length ≤ 32) && !decide ((chars l).head? = some 34) && !decide (l = [33]) && (chars l).all (okCh false) && (numR (chars l)).isNone
theorem chC_cons (c : Ch) (r : List Ch) : chC (c :: r) = c.cells ++ chC r := by simp [chC]
theorem f_refName (l : List UInt8) (hl : l.length ≤ 1000000000) : Av.Fn Tryz.prog 77 [.str l] (.bool (refNameR l)) := by
  have h1 := f_Chars l hl
  have h2 := f_number' l hl
  have hr := charsR_r l
  have hle := charsR_le l
  have hlen := charsR_len l
  unfold refNameR
  rw [← hr] at h2 ⊢
  clear hr
  generalize charsR l = cs at h1 h2 hle hlen ⊢
  refine ACalls.of_W tb_ok (fn := Tryz.f77) (n := 73) (by kernel_rfl) rfl (by kernel_rfl) rfl rfl (by simp) (go ?_)
  refine Fn.use (h1) (go ?_)
  cases cs with
  | nil =>
    refine go ?_
    refine VRet.mk [] .nil ?_
    exact ⟨rfl, rfl⟩
  | cons c cs =>
    refine VIf.no (by simp; try omega) (go ?_)
    refine fork (fun h4 => go ?_) (fun h4 => go ?_)
    · refine VRet.mk [] .nil ?_
      simp at h4 ⊢; omega
    refine fork (fun h5 => go ?_) (fun h5 => go ?_)
    · refine VRet.mk [] .nil ?_
      simp at h5 ⊢; omega
    refine fork (fun h6 => go ?_) (fun h6 => go ?_)
    · refine VRet.mk [] .nil ?_
      simp at h6 ⊢; simp [h6]
    refine VLoop.mk [4] Nat (fun i => [.int .i64 i]) (fun _ => []) (fun i => i ≤ (c :: cs).length ∧ (((c :: cs).map (·.r)).drop i).all (okCh false) = ((c :: cs).map (·.r)).all (okCh false)) (fun i => (c :: cs).length - i) 0 ?_ ?_
    · exact ⟨⟨by simp, by simp⟩, rfl, .nil⟩
    rintro i ⟨hi, hI⟩
    refine go ?_
    refine fork (fun hlt => go ?_) (fun hlt => go ?_)
    · have hlt : i < (c :: cs).length := by omega
      obtain ⟨x, hx⟩ : ∃ x, (c :: cs)[i]? = some x := ⟨(c :: cs)[i], by simp [hlt]⟩
      have hxr := hle x (List.mem_of_getElem? hx)
      have hd : ((c :: cs).map (·.r)).drop i = x.r :: ((c :: cs).map (·.r)).drop (i + 1) := by
        obtain ⟨h1, h2⟩ := List.getElem?_eq_some_iff.1 hx
        rw [List.drop_eq_getElem_cons (by simpa using hlt), List.getElem_map, h2]
      have e0 := chC_r (ra := []) hx
      rw [List.append_nil] at e0
      rw [hd, List.all_cons] at hI
      refine VNth.mk (.int .i32 x.r) (by simpa using e0) (go ?_)
      refine Fn.use (f_refBlank x.r) (go ?_)
      refine fork (fun a1 => go ?_) (fun a1 => go ?_)
      · refine VRet.mk [] .nil ?_
        rw [← hI]; simp [okCh, a1]
      refine VNth.mk (.int .i32 x.r) (by simpa using e0) (go ?_)
      refine fork (fun a2 => go ?_) (fun a2 => go ?_)
      · refine VRet.mk [] .nil ?_
        have a2 : x.r < 32 := by omega
        rw [← hI]; simp [okCh, a2]
      refine VNth.mk (.int .i32 x.r) (by simpa using e0) (go ?_)
      refine fork (fun a3 => go ?_) (fun a3 => go ?_)
      · refine VRet.mk [] .nil ?_
        have a3 : x.r = 127 := by omega
        rw [← hI]; simp [okCh, a3]
      refine VNth.mk (.int .i32 x.r) (by simpa using e0) (go ?_)
      refine fork (fun a4 => go ?_) (fun a4 => go ?_)
      · refine VRet.mk [] .nil ?_
        have a4 : x.r = 65533 := by omega
        rw [← hI]; simp [okCh, a4]
      refine ⟨i + 1, ⟨by omega, ?_⟩, by omega, rfl, .nil⟩
      have hok : okCh false x.r = true := by simp [okCh, a1]; omega
      rw [hok, Bool.true_and] at hI
      exact hI
    · rw [List.drop_eq_nil_of_le (by simp; simp at hlt; omega)] at hI
      rw [← hI]
      refine Fn.use (h2) (go ?_)
      cases hn : numR ((c :: cs).map (·.r)) with
      | none =>
        refine go ?_
        refine VRet.mk [] .nil ?_
        simp at h4 h5 ⊢; simp [h6]; omega
      | some n =>
        refine go ?_
        refine VRet.mk [] .nil ?_
        simp
/-! Numbers: as the program has them. -/
theorem digR_scrR (r : Nat) : digR r = if scrR r = 0 then none else some ((r : Int) - scrR r, scrR r) := by
  unfold digR scrR
  repeat' split
  all_goals first | rfl | omega
theorem num_dig {z : Int} (hz : 48 ≤ z) : ∀ (rs : List Nat) (n : Nat) (n' : Int) (ok : Bool), ((ok = true ∧ n' = n ∧ n ≤ 1152921504606846976) ∨ (ok = false ∧ n = 1152921504606846977)) →
    (numLoop z rs n = none ∧ digLoop rs n' ok z = none) ∨ ∃ m m' ok', numLoop z rs n = some m ∧ digLoop rs n' ok z = some (m', ok', z) ∧ ((ok' = true ∧ m' = m ∧ m ≤ 1152921504606846976) ∨ (ok' = false ∧ m = 1152921504606846977))
  | [], n, n', ok, h => .inr ⟨n, n', ok, rfl, rfl, h⟩
  | r :: rs, n, n', ok, h => by
    rw [numLoop, digLoop, digR_scrR]
    by_cases h0 : scrR r = 0
    · rw [if_pos (by omega), if_pos h0]; exact .inl ⟨rfl, rfl⟩
    rw [if_neg h0]
    have hb := scrR_bound h0
    dsimp only
    by_cases h1 : scrR r = z
    · rw [if_neg (by omega), if_neg (by omega)]
      by_cases h2 : n' > (1152921504606846976 - ((r : Int) - scrR r)) / 10
      · rw [if_pos h2, h1]
        refine num_dig hz rs _ _ _ (.inr ⟨rfl, ?_⟩)
        rcases h with ⟨_, h, _⟩ | ⟨_, h⟩ <;> omega
      · rw [if_neg h2, h1]
        refine num_dig hz rs _ _ _ ?_
        rcases h with ⟨e, h, _⟩ | ⟨e, h⟩
        · exact .inl ⟨e, by omega, by omega⟩
        · exact .inr ⟨e, by omega⟩
    · rw [if_pos h1, if_pos (by omega)]; exact .inl ⟨rfl, rfl⟩
theorem num_dig0 (l : List Nat) : (numR' l = none ∧ (digLoop l 0 true (-1) = none ∨ l = [])) ∨ ∃ m m' ok' z, 48 ≤ z ∧ numR' l = some m ∧ digLoop l 0 true (-1) = some (m', ok', z) ∧ ((ok' = true ∧ m' = m ∧ m ≤ 1152921504606846976) ∨ (ok' = false ∧ m = 1152921504606846977)) := by
  cases l with
  | nil => exact .inl ⟨rfl, .inr rfl⟩
  | cons r rs =>
    rw [numR', digLoop, digR_scrR]
    by_cases h0 : scrR r = 0
    · rw [if_pos h0, if_pos h0]; exact .inl ⟨rfl, .inl rfl⟩
    · rw [if_neg h0, if_neg h0]
      have hb := scrR_bound h0
      dsimp only
      rw [if_neg (by omega), if_neg (by omega)]
      have := num_dig (z := scrR r) (by omega) rs (min (10 * 0 + (r - (scrR r).toNat)) 1152921504606846977) (10 * 0 + ((r : Int) - scrR r)) true (.inl ⟨rfl, by omega, by omega⟩)
      rw [numLoop, if_neg (by simp)]
      rcases this with h | ⟨m, m', ok', h1, h2, h3⟩
      · exact .inl ⟨h.1, .inl h.2⟩
      · exact .inr ⟨m, m', ok', _, by omega, h1, h2, h3⟩
theorem minus_eq (l : List UInt8) : minusB l = minusR (chars l) := by
  by_cases hl : l = []
  · subst hl; rfl
  rw [chars_cons hl, minusR]
  have hlen : 1 ≤ l.length := by cases l with | nil => exact absurd rfl hl | cons => simp
  have hs : minusB l = (decide ((l.getD 0 0).toNat = 45) || decide ((l.getD 0 0).toNat = 226 ∧ (l.getD 1 0).toNat = 136 ∧ (l.getD 2 0).toNat = 146)) := by
    unfold minusB begins
    match l with
    | [] => simp at hlen
    | [a] => simp [← UInt8.toNat_inj]
    | [a, b] => simp [← UInt8.toNat_inj]
    | a :: b :: d :: r => simp [← UInt8.toNat_inj]
  rw [hs, dec_N]
  have b0 := (l.getD 0 0).toNat_lt
  have b1 := (l.getD 1 0).toNat_lt
  have b2 := (l.getD 2 0).toNat_lt
  have b3 := (l.getD 3 0).toNat_lt
  have hlen2 : (l.getD 2 0).toNat ≠ 0 → 2 < l.length := by
    intro h; refine Decidable.byContradiction fun hn => h ?_
    rw [List.getD_eq_getElem?_getD, List.getElem?_eq_none (by omega)]; rfl
  generalize (l.getD 0 0).toNat = a at *
  generalize (l.getD 1 0).toNat = b at *
  generalize (l.getD 2 0).toNat = c at *
  generalize (l.getD 3 0).toNat = d at *
  generalize l.length = n at *
  rw [Bool.eq_iff_iff]
  simp only [Bool.or_eq_true, decide_eq_true_eq]
  unfold Lib.decodeN
  repeat' split
  all_goals (dsimp only; omega)
theorem digits_num (l : List UInt8) : (digitsR l).2.1 = (numR (chars l)).isSome ∧ ((digitsR l).2.1 = true → ((digitsR l).2.2 = true ↔ (refNumR (chars l)).2 = 0) ∧ ((digitsR l).2.2 = true → (digitsR l).1 = (refNumR (chars l)).1)) := by
  have hc : (runes (if minusB l then l.drop (dec l).2 else l)).map (·.1) = if minusR (chars l) then (chars l).drop 1 else chars l := by
    rw [minus_eq]
    by_cases hm : minusR (chars l) = true
    · rw [if_pos hm, if_pos hm]
      by_cases hl : l = []
      · subst hl; rfl
      · rw [chars_cons hl]; rfl
    · rw [if_neg hm, if_neg hm]; rfl
  unfold digitsR refNumR numR
  rw [hc, minus_eq]
  generalize (if minusR (chars l) then (chars l).drop 1 else chars l) = cs
  generalize minusR (chars l) = m
  rcases num_dig0 cs with ⟨h1, h2 | h2⟩ | ⟨n, n', ok, z, hz, h1, h2, h3⟩
  · rw [h1, h2]; simp
  · subst h2; rw [h1]; simp [digLoop]
  · rw [h1, h2]
    dsimp only
    rcases h3 with ⟨rfl, rfl, h3⟩ | ⟨rfl, rfl⟩
    · cases m with
      | true => simp [h3]; omega
      | false =>
        by_cases h4 : 1152921504606846975 < n
        · simp [h4]; omega
        · simp [h4]; omega
    · cases m with
      | true => simp; omega
      | false => simp; omega
theorem okAll_all : ∀ (f : Bool) (l : List Nat), okAll f l = (l.all (okCh false) && !(f && decide (l.head? = some 34)))
  | f, [] => by simp [okAll]
  | f, r :: rs => by
    rw [okAll, okAll_all false rs]
    simp only [List.all_cons, List.head?_cons, Option.some.injEq, Bool.false_and, Bool.not_false, Bool.and_true]
    have : okCh f r = (okCh false r && !(f && decide (r = 34))) := by
      unfold okCh
      cases decide (r = 65533) <;> cases blankB r <;> cases decide (r < 32) <;> cases decide (r = 127) <;> cases f <;> simp
    rw [this]
    cases okCh false r <;> cases (f && decide (r = 34)) <;> simp
theorem refName_eq (l : List UInt8) : refNameR l = nameR l := by
  unfold refNameR nameR
  rw [okAll_all, (digits_num l).1]
  have h1 : decide (1 ≤ (chars l).length ∧ (chars l).length ≤ 32) = (decide (1 ≤ (chars l).length) && decide ((chars l).length ≤ 32)) := by simp
  rw [h1]
  have h2 : decide (l ≠ [33]) = !decide (l = [33]) := by simp
  rw [h2]
  have h3 : (numR (chars l)).isNone = !(numR (chars l)).isSome := by cases numR (chars l) <;> rfl
  rw [h3]
  generalize decide (1 ≤ (chars l).length) = a
  generalize decide ((chars l).length ≤ 32) = b
  generalize decide ((chars l).head? = some 34) = c
  generalize decide (l = [33]) = d
  generalize (chars l).all (okCh false) = e
  generalize (numR (chars l)).isSome = f
  revert a b c d e f
  decide
theorem f_refName' (l : List UInt8) (hl : l.length ≤ 1000000000) : Av.Fn Tryz.prog 77 [.str l] (.bool (nameR l)) := by
  rw [← refName_eq]; exact f_refName l hl
end Go.Proofs.YtonkeklageehbaaGreatDoor

namespace Go.Proofs.YtonkeklageehbaaGreatDoor
open Go Go.Av
def RV.kind : RV → Int
  | .mk k _ _ _ => k
def inR (n : Int) : Bool := decide (-1152921504606846976 ≤ n) && decide (n ≤ 1152921504606846975)
mutual
/-- What Measure says: the size, the depth, is it sound? -/
def measR : RV → Int → Int → Int × Int × Bool
  | .mk k n s l, left, nest =>
    if left < 1 ∨ 32 < nest then (0, 0, false)
    else if k = 1 then (1, 0, inR n)
    else if k = 2 then (1, 0, decide (s.length ≤ 4096) && decide (faultV s < 0))
    else if k = 3 then (1, 0, true)
    else if k = 6 then (1, 0, decide (1 ≤ n) && decide (n ≤ 1048576))
    else if k = 7 then (1, 0, nameR s && !reservedR s)
    else if k = 4 ∨ k = 5 then measAll (decide (k = 4)) l left nest 1 0
    else (0, 0, false)
def measAll (vals : Bool) : List RV → Int → Int → Int → Int → Int × Int × Bool
  | [], _, _, size, depth => (size, depth + 1, decide (depth < 32))
  | v :: r, left, nest, size, depth =>
    if (vals && decide (v.kind = 7)) = true then (0, 0, false)
    else if (measR v (left - size) (nest + 1)).2.2 = true then measAll vals r left nest (size + (measR v (left - size) (nest + 1)).1) (max depth (measR v (left - size) (nest + 1)).2.1)
    else (0, 0, false)
end
mutual
/-- No list of more than 2^40, no name of more than 10^9 bytes. -/
def RV.fit : RV → Bool
  | .mk k _ s l => decide (l.length ≤ 2513169434916) && decide (k = 7 → s.length ≤ 1000000000) && (if k = 4 ∨ k = 5 then fitAll l else true)
def fitAll : List RV → Bool
  | [] => true
  | v :: r => v.fit && fitAll r
end
theorem fitAll_at : ∀ {l : List RV} {i : Nat} {t : RV}, fitAll l = true → l[i]? = some t → t.fit = true
  | [], _, _, _, h => by simp at h
  | x :: l, 0, t, hc, h => by simp at h; subst h; simp [fitAll] at hc; exact hc.1
  | x :: l, i + 1, t, hc, h => by simp [fitAll] at hc; exact fitAll_at hc.2 (by simpa using h)
mutual
theorem measR_le : ∀ (v : RV) (left nest : Int), (measR v left nest).2.2 = true → 1 ≤ (measR v left nest).1 ∧ (measR v left nest).1 ≤ left ∧ 0 ≤ (measR v left nest).2.1 ∧ (measR v left nest).2.1 ≤ 32
  | .mk k n s l, left, nest, h => by
    rw [measR] at h ⊢
    split at h
    · simp at h
    · rename_i h0
      rw [if_neg h0]
      repeat' split
      all_goals first
      | (dsimp only; omega)
      | skip
      · rename_i h1 h2 h3 h4 h5 h6
        rw [if_neg h1, if_neg h2, if_neg h3, if_neg h4, if_neg h5, if_pos h6] at h
        exact measAll_le _ l left nest 1 0 (by omega) (by omega) h
      · rename_i h1 h2 h3 h4 h5 h6
        rw [if_neg h1, if_neg h2, if_neg h3, if_neg h4, if_neg h5, if_neg h6] at h
        simp at h
theorem measAll_le : ∀ (vals : Bool) (l : List RV) (left nest size depth : Int), 1 ≤ size ∧ size ≤ left → 0 ≤ depth → (measAll vals l left nest size depth).2.2 = true →
    1 ≤ (measAll vals l left nest size depth).1 ∧ (measAll vals l left nest size depth).1 ≤ left ∧ 0 ≤ (measAll vals l left nest size depth).2.1 ∧ (measAll vals l left nest size depth).2.1 ≤ 32
  | vals, [], left, nest, size, depth, hs, hd, h => by
    rw [measAll] at h ⊢
    simp at h
    dsimp only
    omega
  | vals, v :: r, left, nest, size, depth, hs, hd, h => by
    rw [measAll] at h ⊢
    split at h
    · simp at h
    · rename_i h1
      rw [if_neg h1]
      split at h
      · rename_i h2
        rw [if_pos h2]
        have := measR_le v (left - size) (nest + 1) h2
        exact measAll_le vals r left nest _ _ (by omega) (by omega) h
      · simp at h
end
theorem f_refReserved (s : List UInt8) : Av.Fn Tryz.prog 109 [.str s] (.bool (reservedR s)) := by
  have e : reservedR s = decide (s = [58] ∨ s = [59] ∨ s = [40] ∨ s = [41] ∨ s = [45, 45] ∨ s = [91] ∨ s = [93] ∨ s = [123] ∨ s = [125] ∨ s = [116] ∨ s = [102]) := by
    rw [Bool.eq_iff_iff]
    simp [reservedR, reservedL]
  rw [e]
  refine ACalls.of_W tb_ok (fn := Tryz.f109) (n := 45) (by kernel_rfl) rfl (by kernel_rfl) rfl rfl (by simp) (go ?_)
  repeat' (refine fork (fun _ => go ?_) (fun _ => go ?_))
  all_goals
    refine VRet.mk [] .nil ?_
    refine ⟨congrArg (fun b => AOut.ret (.bool b)) ?_, rfl⟩
    simp_all
theorem f_ref07Name (s : List UInt8) (hl : s.length ≤ 1000000000) : Av.Fn Tryz.prog 81 [.str s] (.bool (nameR s && !reservedR s)) := by
  have h1 := f_refName' s hl
  have h2 := f_refReserved s
  refine ACalls.of_W tb_ok (fn := Tryz.f81) (n := 10) (by kernel_rfl) rfl (by kernel_rfl) rfl rfl (by simp) (go ?_)
  refine Fn.use (h1) (go ?_)
  cases nameR s with
  | true =>
    refine go ?_
    refine Fn.use (h2) (go ?_)
    refine VRet.mk [] .nil ?_
    exact ⟨rfl, rfl⟩
  | false =>
    refine go ?_
    refine VRet.mk [] .nil ?_
    exact ⟨rfl, rfl⟩
theorem f_In (n : Int) : Av.Fn Tryz.prog 146 [.int .i64 n] (.bool (inR n)) := by
  refine ACalls.of_W tb_ok (fn := Tryz.f146) (n := 9) (by kernel_rfl) rfl (by kernel_rfl) rfl rfl (by simp) (go ?_)
  refine fork (fun h => go ?_) (fun h => go ?_)
  · refine VRet.mk [] .nil ?_
    simp [inR, h]
  · refine VRet.mk [] .nil ?_
    simp [inR, h]
structure MeI where
  i : Nat
  size : Int
  depth : Int

theorem rvs_n {l : List RV} {i : Nat} {x : RV} (h : l[i]? = some x) : ((rvsC l).drop (i * 4))[0]? = some (.int .i64 x.kind) := by
  have e1 := rvsC_at (r := []) h
  rw [List.append_nil] at e1
  obtain ⟨k, n, s, l'⟩ := x
  have := congrArg (·[0]?) e1
  simpa [List.getElem?_take, rvAV, RV.kind] using this


theorem f_Measure (d : Nat) : ∀ (v : RV) (left nest : Int), v.deep ≤ d → v.fit = true → -1000000000 ≤ left ∧ left ≤ 1000000000 → 0 ≤ nest ∧ nest ≤ 1000000000 →
    Av.Fn Tryz.prog 133 [.agg (rvAV v), .int .i64 left, .int .i64 nest] (.tup [.int .i64 (measR v left nest).1, .int .i64 (measR v left nest).2.1, .bool (measR v left nest).2.2]) := by
  induction d with
  | zero =>
    intro v left nest hd
    obtain ⟨k, n, s, l⟩ := v
    rw [RV.deep] at hd; omega
  | succ d ih =>
    intro v left nest hd hf hl hn
    obtain ⟨k, n, s, l⟩ := v
    rw [RV.deep] at hd
    simp only [RV.fit, Bool.and_eq_true, decide_eq_true_eq] at hf
    obtain ⟨⟨hf1, hf2⟩, hf3⟩ := hf
    rw [rvAV]
    refine ACalls.of_W tb_ok (fn := Tryz.f133) (n := 105) (by kernel_rfl) rfl (by kernel_rfl) rfl rfl (by simp) (go ?_)
    refine VAll.mk (fun b => go ?_)
    refine fork (fun h1 => go ?_) (fun h1 => go ?_)
    · refine VRet.mk [] .nil ?_
      rw [measR, if_pos (by omega)]; exact ⟨rfl, rfl⟩
    refine fork (fun h2 => go ?_) (fun h2 => go ?_)
    · refine VRet.mk [] .nil ?_
      rw [measR, if_pos (by omega)]; exact ⟨rfl, rfl⟩
    rw [measR, if_neg (by omega)]
    refine fork (fun k1 => go ?_) (fun k1 => go ?_)
    · rw [if_pos k1]
      refine Fn.use (f_In n) (go ?_)
      refine VRet.mk [] .nil ?_
      exact ⟨rfl, rfl⟩
    rw [if_neg k1]
    refine fork (fun k2 => go ?_) (fun k2 => go ?_)
    · rw [if_pos k2]
      refine fork (fun h3 => go ?_) (fun h3 => go ?_)
      · refine Fn.use (f_Bad s (by omega)) (go ?_)
        refine VRet.mk [] .nil ?_
        rw [show decide (s.length ≤ 4096) = true from decide_eq_true (by omega)]; exact ⟨rfl, rfl⟩
      · refine VRet.mk [] .nil ?_
        rw [show decide (s.length ≤ 4096) = false from decide_eq_false (by omega)]; exact ⟨rfl, rfl⟩
    rw [if_neg k2]
    refine fork (fun k3 => go ?_) (fun k3 => go ?_)
    · rw [if_pos k3]
      refine VRet.mk [] .nil ?_
      exact ⟨rfl, rfl⟩
    rw [if_neg k3]
    refine fork (fun k6 => go ?_) (fun k6 => go ?_)
    · rw [if_pos k6]
      refine fork (fun h3 => go ?_) (fun h3 => go ?_)
      · refine VRet.mk [] .nil ?_
        rw [decide_eq_true h3]; exact ⟨rfl, rfl⟩
      · refine VRet.mk [] .nil ?_
        rw [decide_eq_false h3]; exact ⟨rfl, rfl⟩
    rw [if_neg k6]
    refine fork (fun k7 => go ?_) (fun k7 => go ?_)
    · rw [if_pos k7]
      refine Fn.use (f_ref07Name s (hf2 k7)) (go ?_)
      refine VRet.mk [] .nil ?_
      exact ⟨rfl, rfl⟩
    rw [if_neg k7]
    refine fork (fun k4 => go ?_) (fun k4 => go ?_)
    · rw [if_pos (.inl k4), decide_eq_true k4]
      subst k4
      rw [if_pos (.inl rfl)] at hf3
      refine go ?_
      refine VLoop.mk [6, 7, 9] MeI (fun i => [.int .i64 i.size, .int .i64 i.depth, .int .i64 i.i]) (fun _ => [(b, .box [.int .i64 4, .int .i64 n, .str s, .fz (rvsC l) l.length false])])
        (fun i => i.i ≤ l.length ∧ (1 ≤ i.size ∧ i.size ≤ left) ∧ (0 ≤ i.depth ∧ i.depth ≤ 32) ∧ measAll true (l.drop i.i) left nest i.size i.depth = measAll true l left nest 1 0) (fun i => l.length - i.i) ⟨0, 1, 0⟩ ?_ ?_
      · exact ⟨⟨by simp, by dsimp only; omega, by simp, by simp⟩, rfl, .cons 0 rfl .nil⟩
      rintro ⟨i, size, depth⟩ ⟨hi, hsz, hdp, hI⟩
      dsimp only at hi hsz hdp hI ⊢
      refine go ?_
      refine fork (fun hlt => go ?_) (fun hlt => go ?_)
      · have hlt : i < l.length := by omega
        obtain ⟨x, hx⟩ : ∃ x, l[i]? = some x := ⟨l[i], by simp [hlt]⟩
        have hda : l.drop i = x :: l.drop (i + 1) := by rw [List.drop_eq_getElem_cons hlt]; congr 1; rw [List.getElem?_eq_getElem hlt] at hx; exact Option.some.inj hx
        have hfx := ih x (left - size) (nest + 1) (by have := deepAll_at hx; omega) (fitAll_at hf3 hx) (by omega) (by omega)
        have hle := measR_le x (left - size) (nest + 1)
        have hk := rvs_n hx
        have ht := rvsC_at (r := []) hx
        rw [List.append_nil] at ht
        rw [hda, measAll] at hI
        refine VNth.mk _ (by simpa using hk) (go ?_)
        refine fork (fun h7 => go ?_) (fun h7 => go ?_)
        · rw [if_pos (by simp; omega)] at hI
          refine VRet.mk [] .nil ?_
          rw [← hI]; exact ⟨rfl, rfl⟩
        rw [if_neg (by simp; omega)] at hI
        refine VTake.mk (rvAV x) (by simpa using ht) (by simp) (go ?_)
        refine Fn.use (hfx) (go ?_)
        generalize measR x (left - size) (nest + 1) = m at hI hle
        obtain ⟨a, dd, c⟩ := m
        dsimp only at hI hle
        cases c with
        | false =>
          refine go ?_
          refine VRet.mk [] .nil ?_
          rw [← hI]; exact ⟨rfl, rfl⟩
        | true =>
          have hle := hle rfl
          rw [if_pos rfl] at hI
          refine go ?_
          refine ⟨⟨i + 1, size + a, max depth dd⟩, ⟨?_, ?_, ?_, hI⟩, ?_, rfl, .cons 0 rfl .nil⟩
          · dsimp only; omega
          · dsimp only; omega
          · dsimp only; omega
          · dsimp only; omega
      · rw [List.drop_eq_nil_of_le (by omega), measAll] at hI
        refine VRet.mk [] .nil ?_
        rw [← hI]; exact ⟨rfl, rfl⟩
    · refine fork (fun k5 => go ?_) (fun k5 => go ?_)
      · rw [if_pos (.inr k5), decide_eq_false k4]
        subst k5
        rw [if_pos (.inr rfl)] at hf3
        refine go ?_
        refine VLoop.mk [6, 7, 9] MeI (fun i => [.int .i64 i.size, .int .i64 i.depth, .int .i64 i.i]) (fun _ => [(b, .box [.int .i64 5, .int .i64 n, .str s, .fz (rvsC l) l.length false])])
          (fun i => i.i ≤ l.length ∧ (1 ≤ i.size ∧ i.size ≤ left) ∧ (0 ≤ i.depth ∧ i.depth ≤ 32) ∧ measAll false (l.drop i.i) left nest i.size i.depth = measAll false l left nest 1 0) (fun i => l.length - i.i) ⟨0, 1, 0⟩ ?_ ?_
        · exact ⟨⟨by simp, by dsimp only; omega, by simp, by simp⟩, rfl, .cons 0 rfl .nil⟩
        rintro ⟨i, size, depth⟩ ⟨hi, hsz, hdp, hI⟩
        dsimp only at hi hsz hdp hI ⊢
        refine go ?_
        refine fork (fun hlt => go ?_) (fun hlt => go ?_)
        · have hlt : i < l.length := by omega
          obtain ⟨x, hx⟩ : ∃ x, l[i]? = some x := ⟨l[i], by simp [hlt]⟩
          have hda : l.drop i = x :: l.drop (i + 1) := by rw [List.drop_eq_getElem_cons hlt]; congr 1; rw [List.getElem?_eq_getElem hlt] at hx; exact Option.some.inj hx
          have hfx := ih x (left - size) (nest + 1) (by have := deepAll_at hx; omega) (fitAll_at hf3 hx) (by omega) (by omega)
          have hle := measR_le x (left - size) (nest + 1)
          have hk := rvs_n hx
          have ht := rvsC_at (r := []) hx
          rw [List.append_nil] at ht
          rw [hda, measAll] at hI
          rw [if_neg (by simp)] at hI
          refine VTake.mk (rvAV x) (by simpa using ht) (by simp) (go ?_)
          refine Fn.use (hfx) (go ?_)
          generalize measR x (left - size) (nest + 1) = m at hI hle
          obtain ⟨a, dd, c⟩ := m
          dsimp only at hI hle
          cases c with
          | false =>
            refine go ?_
            refine VRet.mk [] .nil ?_
            rw [← hI]; exact ⟨rfl, rfl⟩
          | true =>
            have hle := hle rfl
            rw [if_pos rfl] at hI
            refine go ?_
            refine ⟨⟨i + 1, size + a, max depth dd⟩, ⟨?_, ?_, ?_, hI⟩, ?_, rfl, .cons 0 rfl .nil⟩
            · dsimp only; omega
            · dsimp only; omega
            · dsimp only; omega
            · dsimp only; omega
        · rw [List.drop_eq_nil_of_le (by omega), measAll] at hI
          refine VRet.mk [] .nil ?_
          rw [← hI]; exact ⟨rfl, rfl⟩
      · rw [if_neg (by omega)]
        refine VRet.mk [] .nil ?_
        exact ⟨rfl, rfl⟩
theorem f_Sound (v : RV) (hf : v.fit = true) : Av.Fn Tryz.prog 112 [.agg (rvAV v)] (.bool ((measR v 1024 0).2.2 && decide (v.kind ≠ 7))) := by
  have h := f_Measure v.deep v 1024 0 (Nat.le_refl _) hf (by omega) (by omega)
  obtain ⟨k, n, s, l⟩ := v
  rw [rvAV] at h ⊢
  rw [show (RV.mk k n s l).kind = k from rfl]
  generalize measR (.mk k n s l) 1024 0 = m at h ⊢
  obtain ⟨a, dd, c⟩ := m
  dsimp only at h ⊢
  refine ACalls.of_W tb_ok (fn := Tryz.f112) (n := 18) (by kernel_rfl) rfl (by kernel_rfl) rfl rfl (by simp) (go ?_)
  refine VAll.mk (fun b => go ?_)
  refine Fn.use (h) (go ?_)
  cases c with
  | true =>
    refine go ?_
    refine VRet.mk [] .nil ?_
    simp
  | false =>
    refine go ?_
    refine VRet.mk [] .nil ?_
    simp
theorem f_SoundItems (l : List RV) (hl : l.length ≤ 2513169434916) (hf : fitAll l = true) : Av.Fn Tryz.prog 83 [.fz (rvsC l) l.length false] (.bool (measR (.mk 5 0 [] l) 1024 0).2.2) := by
  have h := f_Sound (.mk 5 0 [] l) (by simp [RV.fit, hf, hl])
  rw [rvAV, show (RV.mk 5 0 [] l).kind = 5 from rfl, show decide ((5 : Int) ≠ 7) = true from rfl, Bool.and_true] at h
  refine ACalls.of_W tb_ok (fn := Tryz.f83) (n := 6) (by kernel_rfl) rfl (by kernel_rfl) rfl rfl (by simp) (go ?_)
  refine Fn.use (h) (go ?_)
  refine VRet.mk [] .nil ?_
  exact ⟨rfl, rfl⟩
mutual
/-- Does no box stand in a tree? -/
def bareR : RV → Bool
  | .mk k _ _ l => decide (k ≠ 6) && bareAll l
def bareAll : List RV → Bool
  | [] => true
  | v :: r => bareR v && bareAll r
end
theorem f_Bare (d : Nat) : ∀ (v : RV), v.deep ≤ d → v.small = true → Av.Fn Tryz.prog 84 [.agg (rvAV v)] (.bool (bareR v)) := by
  induction d with
  | zero =>
    intro v hd
    obtain ⟨k, n, s, l⟩ := v
    rw [RV.deep] at hd; omega
  | succ d ih =>
    intro v hd hs
    obtain ⟨k, n, s, l⟩ := v
    rw [RV.deep] at hd
    simp only [RV.small, Bool.and_eq_true, decide_eq_true_eq] at hs
    rw [rvAV, bareR]
    refine ACalls.of_W tb_ok (fn := Tryz.f84) (n := 21) (by kernel_rfl) rfl (by kernel_rfl) rfl rfl (by simp) (go ?_)
    refine VAll.mk (fun b => go ?_)
    refine fork (fun h6 => go ?_) (fun h6 => go ?_)
    · refine VRet.mk [] .nil ?_
      simp [h6]
    rw [show decide (k ≠ 6) = true by simpa using h6, Bool.true_and]
    refine VLoop.mk [3] Nat (fun i => [.int .i64 i]) (fun _ => [(b, .box [.int .i64 k, .int .i64 n, .str s, .fz (rvsC l) l.length false])]) (fun i => i ≤ l.length ∧ bareAll (l.drop i) = bareAll l) (fun i => l.length - i) 0 ?_ ?_
    · exact ⟨⟨by simp, by simp⟩, rfl, .cons 0 rfl .nil⟩
    rintro i ⟨hi, hI⟩
    refine go ?_
    refine fork (fun hlt => go ?_) (fun hlt => go ?_)
    · have hlt : i < l.length := by omega
      obtain ⟨x, hx⟩ : ∃ x, l[i]? = some x := ⟨l[i], by simp [hlt]⟩
      have hda : l.drop i = x :: l.drop (i + 1) := by rw [List.drop_eq_getElem_cons hlt]; congr 1; rw [List.getElem?_eq_getElem hlt] at hx; exact Option.some.inj hx
      have hfx := ih x (by have := deepAll_at hx; omega) (smallAll_at hs.2 hx)
      have ht := rvsC_at (r := []) hx
      rw [List.append_nil] at ht
      rw [hda, bareAll] at hI
      refine VTake.mk (rvAV x) (by simpa using ht) (by simp) (go ?_)
      refine Fn.use (hfx) (go ?_)
      cases hb : bareR x with
      | true =>
        rw [hb, Bool.true_and] at hI
        refine go ?_
        exact ⟨i + 1, ⟨by omega, hI⟩, by omega, rfl, .cons 0 rfl .nil⟩
      | false =>
        rw [hb, Bool.false_and] at hI
        refine go ?_
        refine VRet.mk [] .nil ?_
        rw [← hI]; exact ⟨rfl, rfl⟩
    · refine VRet.mk [] .nil ?_
      rw [List.drop_eq_nil_of_le (by omega), bareAll] at hI
      rw [← hI]; exact ⟨rfl, rfl⟩
def soundDefR (d : RDef) : Bool := nameR d.name && !reservedR d.name && (decide (0 ≤ d.inn) && decide (d.inn ≤ 16)) && (decide (0 ≤ d.out) && decide (d.out ≤ 16)) && (measR (.mk 5 0 [] d.body) 1024 0).2.2 && bareAll d.body
end Go.Proofs.YtonkeklageehbaaGreatDoor

namespace Go.Proofs.YtonkeklageehbaaGreatDoor
open Go Go.Av
def nmR (s : List UInt8) : Bool := nameR s && !reservedR s
theorem f_tName (s : List UInt8) (hs : s.length ≤ 4611686018427387904) : Av.Fn Tryz.prog 38 [.str s] (.bool (nmR s)) := by
  have h1 := f11_of s hs
  have h2 := f_Reserved s
  unfold nmR
  refine ACalls.of_W tb_ok (fn := Tryz.f38) (n := 10) (by kernel_rfl) rfl (by kernel_rfl) rfl rfl (by simp) (go ?_)
  refine Fn.use (h1) (go ?_)
  cases nameR s with
  | true =>
    refine go ?_
    refine Fn.use (h2) (go ?_)
    refine VRet.mk [] .nil ?_
    exact ⟨rfl, rfl⟩
  | false =>
    refine go ?_
    refine VRet.mk [] .nil ?_
    exact ⟨rfl, rfl⟩
mutual
/-- What measure says of a value (or item says of an item): its depth, and how many may still come. -/
def measT (it : Bool) : Tree → Int → Int → Option (Int × Int)
  | .none, _, _ => none
  | .odd _ _, _, _ => none
  | .call s, left, _ => if it = true ∧ 1 ≤ left ∧ nmR s = true then some (0, left - 1) else none
  | .int n, left, nest => if left < 1 ∨ 32 < nest then none else if inR n = true then some (0, left - 1) else none
  | .str s, left, nest => if left < 1 ∨ 32 < nest then none else if s.length ≤ 4096 ∧ faultR s = none then some (0, left - 1) else none
  | .bool _, left, nest => if left < 1 ∨ 32 < nest then none else some (0, left - 1)
  | .box n, left, nest => if left < 1 ∨ 32 < nest then none else if 1 ≤ n ∧ n ≤ 1048576 then some (0, left - 1) else none
  | .list l, left, nest => if left < 1 ∨ 32 < nest then none else measTs false l (left - 1) nest 0
  | .quot l, left, nest => if left < 1 ∨ 32 < nest then none else measTs true l (left - 1) nest 0
def measTs (it : Bool) : List Tree → Int → Int → Int → Option (Int × Int)
  | [], left, _, depth => if depth < 32 then some (depth + 1, left) else none
  | t :: r, left, nest, depth => match measT it t left (nest + 1) with
    | some (d, left) => measTs it r left nest (max depth d)
    | none => none
end
mutual
theorem measT_le : ∀ (it : Bool) (t : Tree) (left nest d l' : Int), measT it t left nest = some (d, l') → (0 ≤ d ∧ d ≤ 32) ∧ 0 ≤ l' ∧ l' < left := by
  intro it t left nest d l' h
  cases t with
  | none => rw [measT] at h; cases h
  | odd t v => rw [measT] at h; cases h
  | list l =>
    rw [measT] at h
    split at h
    · cases h
    · have := measTs_le _ l (left - 1) nest 0 d l' (by omega) (by omega) h; omega
  | quot l =>
    rw [measT] at h
    split at h
    · cases h
    · have := measTs_le _ l (left - 1) nest 0 d l' (by omega) (by omega) h; omega
  | _ =>
    rw [measT] at h
    repeat' split at h
    all_goals first
    | (cases h; done)
    | (simp only [Option.some.injEq, Prod.mk.injEq] at h; omega)
theorem measTs_le : ∀ (it : Bool) (l : List Tree) (left nest depth d l' : Int), 0 ≤ left → 0 ≤ depth → measTs it l left nest depth = some (d, l') → (0 ≤ d ∧ d ≤ 32) ∧ 0 ≤ l' ∧ l' ≤ left
  | it, [], left, nest, depth, d, l', hl, hd, h => by
    rw [measTs] at h
    split at h
    · simp only [Option.some.injEq, Prod.mk.injEq] at h; omega
    · cases h
  | it, t :: r, left, nest, depth, d, l', hl, hd, h => by
    rw [measTs] at h
    split at h
    · rename_i d1 l1 e
      have h1 := measT_le it t left (nest + 1) d1 l1 e
      have h2 := measTs_le it r l1 nest _ d l' (by omega) (by omega) h
      omega
    · cases h
end
/-- What measure does: the answer, and how many may still come. -/
def MeasC (x : AV) (m : Option (Int × Int)) (left nest : Int) : Prop := ∀ b, ACalls Tryz.prog 91 [x, .ptr b 0, .int .i64 nest] [(b, .box [.int .i64 left])] (fun out st => ∃ d l', out = .ret (.tup [.int .i64 d, .bool m.isSome]) ∧ st = [(b, .box [.int .i64 l'])] ∧ (m = none ∨ m = some (d, l')))
def ItemC (x : AV) (m : Option (Int × Int)) (left nest : Int) : Prop := ∀ b, ACalls Tryz.prog 117 [x, .ptr b 0, .int .i64 nest] [(b, .box [.int .i64 left])] (fun out st => ∃ d l', out = .ret (.tup [.int .i64 d, .bool m.isSome]) ∧ st = [(b, .box [.int .i64 l'])] ∧ (m = none ∨ m = some (d, l')))
structure MeT where
  i : Nat
  depth : Int
  left : Int

theorem m_list (l : List Tree) (hl : l.length ≤ 2513169434916) (left nest : Int) (hb : 1 ≤ left ∧ left ≤ 1000000) (hn : 0 ≤ nest ∧ nest ≤ 32)
    (ih : ∀ (i : Nat) t, l[i]? = some t → ∀ left nest, 0 ≤ left ∧ left ≤ 1000000 → 0 ≤ nest ∧ nest ≤ 33 → MeasC (valAV t) (measT false t left nest) left nest) :
    MeasC (valAV (.list l)) (measTs false l (left - 1) nest 0) left nest := by
  intro b
  rw [valAV]
  refine ACalls.of_W tb_ok (fn := Tryz.f91) (n := 129) (by kernel_rfl) rfl (by kernel_rfl) rfl rfl (by simp) (go ?_)
  refine VIf.no (by simp; omega) (go ?_)
  refine VIf.no (by simp; omega) (go ?_)
  refine VAll.mk (fun b2 => go ?_)
  refine VLoop.mk [79, 6] MeT (fun i => [.int .i64 i.i, .int .i64 i.depth]) (fun i => [(b, .box [.int .i64 i.left]), (b2, .box [.fz (valAVs l) l.length false])])
    (fun i => i.i ≤ l.length ∧ (0 ≤ i.left ∧ i.left ≤ 1000000) ∧ (0 ≤ i.depth ∧ i.depth ≤ 32) ∧ measTs false (l.drop i.i) i.left nest i.depth = measTs false l (left - 1) nest 0) (fun i => l.length - i.i) ⟨0, 0, left - 1⟩ ?_ ?_
  · exact ⟨⟨by simp, by dsimp only; omega, by simp, by simp⟩, rfl, .cons 1 rfl (.cons 0 rfl .nil)⟩
  rintro ⟨i, depth, lf⟩ ⟨hi, hlf, hdp, hI⟩
  dsimp only at hi hlf hdp hI ⊢
  refine go ?_
  refine fork (fun hlt => go ?_) (fun hlt => go ?_)
  · have hlt : i < l.length := by omega
    obtain ⟨x, hx⟩ : ∃ x, l[i]? = some x := ⟨l[i], by simp [hlt]⟩
    have hda : l.drop i = x :: l.drop (i + 1) := by rw [List.drop_eq_getElem_cons hlt]; congr 1; rw [List.getElem?_eq_getElem hlt] at hx; exact Option.some.inj hx
    rw [hda, measTs] at hI
    have hfx := ih i x hx lf (nest + 1) (by omega) (by omega) b
    have hle := measT_le false x lf (nest + 1)
    refine VNth.mk (valAV x) (by simp [mulN_eq, valAVs_map, hx]) (go ?_)
    generalize measT false x lf (nest + 1) = m at hI hfx hle
    refine ACalls.use (R := [(b2, .box [.fz (valAVs l) l.length false])]) hfx (.refl _) ?_
    rintro _ _ ⟨d, l', rfl, rfl, hm⟩
    cases m with
    | none =>
      rw [← hI]
      refine go ?_
      exact VRet.mk [(b, .box [.int .i64 l'])] (.cons 0 rfl .nil) ⟨0, l', rfl, rfl, .inl rfl⟩
    | some p =>
      obtain rfl : p = (d, l') := by simpa using hm
      have hle := hle d l' rfl
      dsimp only at hI
      refine go ?_
      refine ⟨⟨i + 1, max depth d, l'⟩, ⟨?_, ?_, ?_, hI⟩, ?_, rfl, .cons 0 rfl (.cons 0 rfl .nil)⟩
      · dsimp only; omega
      · dsimp only; omega
      · dsimp only; omega
      · dsimp only; omega
  · rw [List.drop_eq_nil_of_le (by omega), measTs] at hI
    rw [← hI]
    refine VRet.mk [(b, .box [.int .i64 lf])] (.cons 0 rfl .nil) ⟨depth + 1, lf, ?_, rfl, ?_⟩
    · by_cases h : depth < 32 <;> simp [h]
    · by_cases h : depth < 32 <;> simp [h]
theorem m_quot (l : List Tree) (hl : l.length ≤ 2513169434916) (left nest : Int) (hb : 1 ≤ left ∧ left ≤ 1000000) (hn : 0 ≤ nest ∧ nest ≤ 32)
    (ih : ∀ (i : Nat) t, l[i]? = some t → ∀ left nest, 0 ≤ left ∧ left ≤ 1000000 → 0 ≤ nest ∧ nest ≤ 33 → ItemC (itemAV t) (measT true t left nest) left nest) :
    MeasC (valAV (.quot l)) (measTs true l (left - 1) nest 0) left nest := by
  intro b
  rw [valAV]
  refine ACalls.of_W tb_ok (fn := Tryz.f91) (n := 129) (by kernel_rfl) rfl (by kernel_rfl) rfl rfl (by simp) (go ?_)
  refine VIf.no (by simp; omega) (go ?_)
  refine VIf.no (by simp; omega) (go ?_)
  refine VAll.mk (fun b2 => go ?_)
  refine VLoop.mk [107, 6] MeT (fun i => [.int .i64 i.i, .int .i64 i.depth]) (fun i => [(b, .box [.int .i64 i.left]), (b2, .box [.fz (itemAVs l) l.length false])])
    (fun i => i.i ≤ l.length ∧ (0 ≤ i.left ∧ i.left ≤ 1000000) ∧ (0 ≤ i.depth ∧ i.depth ≤ 32) ∧ measTs true (l.drop i.i) i.left nest i.depth = measTs true l (left - 1) nest 0) (fun i => l.length - i.i) ⟨0, 0, left - 1⟩ ?_ ?_
  · exact ⟨⟨by simp, by dsimp only; omega, by simp, by simp⟩, rfl, .cons 1 rfl (.cons 0 rfl .nil)⟩
  rintro ⟨i, depth, lf⟩ ⟨hi, hlf, hdp, hI⟩
  dsimp only at hi hlf hdp hI ⊢
  refine go ?_
  refine fork (fun hlt => go ?_) (fun hlt => go ?_)
  · have hlt : i < l.length := by omega
    obtain ⟨x, hx⟩ : ∃ x, l[i]? = some x := ⟨l[i], by simp [hlt]⟩
    have hda : l.drop i = x :: l.drop (i + 1) := by rw [List.drop_eq_getElem_cons hlt]; congr 1; rw [List.getElem?_eq_getElem hlt] at hx; exact Option.some.inj hx
    rw [hda, measTs] at hI
    have hfx := ih i x hx lf (nest + 1) (by omega) (by omega) b
    have hle := measT_le true x lf (nest + 1)
    refine VNth.mk (itemAV x) (by simp [mulN_eq, itemAVs_map, hx]) (go ?_)
    generalize measT true x lf (nest + 1) = m at hI hfx hle
    refine ACalls.use (R := [(b2, .box [.fz (itemAVs l) l.length false])]) hfx (.refl _) ?_
    rintro _ _ ⟨d, l', rfl, rfl, hm⟩
    cases m with
    | none =>
      rw [← hI]
      refine go ?_
      exact VRet.mk [(b, .box [.int .i64 l'])] (.cons 0 rfl .nil) ⟨0, l', rfl, rfl, .inl rfl⟩
    | some p =>
      obtain rfl : p = (d, l') := by simpa using hm
      have hle := hle d l' rfl
      dsimp only at hI
      refine go ?_
      refine ⟨⟨i + 1, max depth d, l'⟩, ⟨?_, ?_, ?_, hI⟩, ?_, rfl, .cons 0 rfl (.cons 0 rfl .nil)⟩
      · dsimp only; omega
      · dsimp only; omega
      · dsimp only; omega
      · dsimp only; omega
  · rw [List.drop_eq_nil_of_le (by omega), measTs] at hI
    rw [← hI]
    refine VRet.mk [(b, .box [.int .i64 lf])] (.cons 0 rfl .nil) ⟨depth + 1, lf, ?_, rfl, ?_⟩
    · by_cases h : depth < 32 <;> simp [h]
    · by_cases h : depth < 32 <;> simp [h]
theorem m_less {x : AV} {left nest : Int} (hl : left < 1 ∨ 32 < nest) (hb : 0 ≤ left ∧ left ≤ 1000000) (hn : 0 ≤ nest ∧ nest ≤ 33) : MeasC x none left nest := by
  intro b
  refine ACalls.of_W tb_ok (fn := Tryz.f91) (n := 129) (by kernel_rfl) rfl (by kernel_rfl) rfl rfl (by simp) (go ?_)
  refine fork (fun h1 => go ?_) (fun h1 => go ?_)
  · exact VRet.mk [(b, .box [.int .i64 (left - 1)])] (.cons 0 rfl .nil) ⟨0, _, rfl, rfl, .inl rfl⟩
  · refine VIf.yes (by simp; omega) (go ?_)
    exact VRet.mk [(b, .box [.int .i64 (left - 1)])] (.cons 0 rfl .nil) ⟨0, _, rfl, rfl, .inl rfl⟩

theorem m_int' (n left nest : Int) (hb : 1 ≤ left ∧ left ≤ 1000000) (hn : 0 ≤ nest ∧ nest ≤ 32) : MeasC (valAV (.int n)) (if inR n = true then some (0, left - 1) else none) left nest := by
  intro b
  rw [valAV]
  refine ACalls.of_W tb_ok (fn := Tryz.f91) (n := 129) (by kernel_rfl) rfl (by kernel_rfl) rfl rfl (by simp) (go ?_)
  refine VIf.no (by simp; omega) (go ?_)
  refine VIf.no (by simp; omega) (go ?_)
  refine VAll.mk (fun b2 => go ?_)
  refine fork (fun h1 => go ?_) (fun h1 => go ?_)
  · by_cases h2 : n ≤ 1152921504606846975
    · rw [if_pos (by simp [inR, h1, h2]), decide_eq_true h2]
      exact VRet.mk [(b, .box [.int .i64 (left - 1)])] (.cons 1 rfl .nil) ⟨0, _, rfl, rfl, .inr rfl⟩
    · rw [if_neg (by simp [inR, h2]), decide_eq_false h2]
      exact VRet.mk [(b, .box [.int .i64 (left - 1)])] (.cons 1 rfl .nil) ⟨0, _, rfl, rfl, .inl rfl⟩
  · rw [if_neg (by simp [inR, h1])]
    exact VRet.mk [(b, .box [.int .i64 (left - 1)])] (.cons 1 rfl .nil) ⟨0, _, rfl, rfl, .inl rfl⟩
theorem m_box' (n left nest : Int) (hb : 1 ≤ left ∧ left ≤ 1000000) (hn : 0 ≤ nest ∧ nest ≤ 32) : MeasC (valAV (.box n)) (if 1 ≤ n ∧ n ≤ 1048576 then some (0, left - 1) else none) left nest := by
  intro b
  rw [valAV]
  refine ACalls.of_W tb_ok (fn := Tryz.f91) (n := 129) (by kernel_rfl) rfl (by kernel_rfl) rfl rfl (by simp) (go ?_)
  refine VIf.no (by simp; omega) (go ?_)
  refine VIf.no (by simp; omega) (go ?_)
  refine VAll.mk (fun b2 => go ?_)
  refine fork (fun h1 => go ?_) (fun h1 => go ?_)
  · by_cases h2 : n ≤ 1048576
    · rw [if_pos (by omega), decide_eq_true h2]
      exact VRet.mk [(b, .box [.int .i64 (left - 1)])] (.cons 1 rfl .nil) ⟨0, _, rfl, rfl, .inr rfl⟩
    · rw [if_neg (by omega), decide_eq_false h2]
      exact VRet.mk [(b, .box [.int .i64 (left - 1)])] (.cons 1 rfl .nil) ⟨0, _, rfl, rfl, .inl rfl⟩
  · rw [if_neg (by omega)]
    exact VRet.mk [(b, .box [.int .i64 (left - 1)])] (.cons 1 rfl .nil) ⟨0, _, rfl, rfl, .inl rfl⟩
theorem m_bool' (n : Bool) (left nest : Int) (hb : 1 ≤ left ∧ left ≤ 1000000) (hn : 0 ≤ nest ∧ nest ≤ 32) : MeasC (valAV (.bool n)) (some (0, left - 1)) left nest := by
  intro b
  rw [valAV]
  refine ACalls.of_W tb_ok (fn := Tryz.f91) (n := 129) (by kernel_rfl) rfl (by kernel_rfl) rfl rfl (by simp) (go ?_)
  refine VIf.no (by simp; omega) (go ?_)
  refine VIf.no (by simp; omega) (go ?_)
  refine VAll.mk (fun b2 => go ?_)
  exact VRet.mk [(b, .box [.int .i64 (left - 1)])] (.cons 1 rfl .nil) ⟨0, _, rfl, rfl, .inr rfl⟩
theorem m_none' (left nest : Int) (hb : 1 ≤ left ∧ left ≤ 1000000) (hn : 0 ≤ nest ∧ nest ≤ 32) : MeasC .nili none left nest := by
  intro b
  refine ACalls.of_W tb_ok (fn := Tryz.f91) (n := 129) (by kernel_rfl) rfl (by kernel_rfl) rfl rfl (by simp) (go ?_)
  refine VIf.no (by simp; omega) (go ?_)
  refine VIf.no (by simp; omega) (go ?_)
  exact VRet.mk [(b, .box [.int .i64 (left - 1)])] (.cons 0 rfl .nil) ⟨0, _, rfl, rfl, .inl rfl⟩
theorem m_str' (s : List UInt8) (left nest : Int) (hb : 1 ≤ left ∧ left ≤ 1000000) (hn : 0 ≤ nest ∧ nest ≤ 32) : MeasC (valAV (.str s)) (if s.length ≤ 4096 ∧ faultR s = none then some (0, left - 1) else none) left nest := by
  have hv := f_Valid s
  intro b
  rw [valAV]
  refine ACalls.of_W tb_ok (fn := Tryz.f91) (n := 129) (by kernel_rfl) rfl (by kernel_rfl) rfl rfl (by simp) (go ?_)
  refine VIf.no (by simp; omega) (go ?_)
  refine VIf.no (by simp; omega) (go ?_)
  refine VAll.mk (fun b2 => go ?_)
  refine fork (fun h1 => go ?_) (fun h1 => go ?_)
  · refine Fn.use (hv) (go ?_)
    by_cases h2 : faultR s = none
    · rw [if_pos ⟨by omega, h2⟩, decide_eq_true h2]
      exact VRet.mk [(b, .box [.int .i64 (left - 1)])] (.cons 1 rfl .nil) ⟨0, _, rfl, rfl, .inr rfl⟩
    · rw [if_neg (fun h => h2 h.2), decide_eq_false h2]
      exact VRet.mk [(b, .box [.int .i64 (left - 1)])] (.cons 1 rfl .nil) ⟨0, _, rfl, rfl, .inl rfl⟩
  · rw [if_neg (by omega)]
    exact VRet.mk [(b, .box [.int .i64 (left - 1)])] (.cons 1 rfl .nil) ⟨0, _, rfl, rfl, .inl rfl⟩
theorem i_call (s : List UInt8) (hs : s.length ≤ 4611686018427387904) (left nest : Int) (hb : 0 ≤ left ∧ left ≤ 1000000) : ItemC (itemAV (.call s)) (if 1 ≤ left ∧ nmR s = true then some (0, left - 1) else none) left nest := by
  have h := f_tName s hs
  intro b
  rw [itemAV]
  refine ACalls.of_W tb_ok (fn := Tryz.f117) (n := 47) (by kernel_rfl) rfl (by kernel_rfl) rfl rfl (by simp) (go ?_)
  refine VAll.mk (fun b2 => go ?_)
  refine VAll.mk (fun b3 => go ?_)
  refine fork (fun h1 => go ?_) (fun h1 => go ?_)
  · refine Fn.use (h) (go ?_)
    cases hn : nmR s with
    | true =>
      rw [if_pos ⟨by omega, rfl⟩]
      refine go ?_
      exact VRet.mk [(b, .box [.int .i64 (left - 1)])] (.cons 2 rfl .nil) ⟨0, _, rfl, rfl, .inr rfl⟩
    | false =>
      rw [if_neg (by simp)]
      refine go ?_
      exact VRet.mk [(b, .box [.int .i64 (left - 1)])] (.cons 2 rfl .nil) ⟨0, _, rfl, rfl, .inl rfl⟩
  · rw [if_neg (by omega)]
    exact VRet.mk [(b, .box [.int .i64 (left - 1)])] (.cons 2 rfl .nil) ⟨0, _, rfl, rfl, .inl rfl⟩
theorem i_none (left nest : Int) (hb : 0 ≤ left ∧ left ≤ 1000000) : ItemC .nili none left nest := by
  intro b
  refine ACalls.of_W tb_ok (fn := Tryz.f117) (n := 47) (by kernel_rfl) rfl (by kernel_rfl) rfl rfl (by simp) (go ?_)
  refine VAll.mk (fun b2 => go ?_)
  refine VAll.mk (fun b3 => go ?_)
  exact VRet.mk [(b, .box [.int .i64 (left - 1)])] (.cons 2 rfl .nil) ⟨0, _, rfl, rfl, .inl rfl⟩
theorem i_push' {x : AV} {m : Option (Int × Int)} {left nest : Int} (h : MeasC x m left nest) (ho : x.one = true) : ItemC (.iface 136 (.agg [x])) m left nest := by
  intro b
  refine ACalls.of_W tb_ok (fn := Tryz.f117) (n := 47) (by kernel_rfl) rfl (by kernel_rfl) rfl rfl (by simp) (go ?_)
  refine VAll.mk (fun b2 => go ?_)
  refine ACalls.use (R := [(b2, .box [x])]) (h b) (.swap _ _ _) ?_
  rintro _ _ ⟨d, l', rfl, rfl, hm⟩
  refine go ?_
  exact VRet.mk [(b, .box [.int .i64 l'])] (.cons 0 rfl .nil) ⟨d, l', rfl, rfl, hm⟩
mutual
/-- No name of more than 2^62 bytes. -/
def Tree.nmS : Tree → Bool
  | .call s => decide (s.length ≤ 4611686018427387904)
  | .list l => nmSAll l
  | .quot l => nmSAll l
  | _ => true
def nmSAll : List Tree → Bool
  | [] => true
  | t :: r => t.nmS && nmSAll r
end
theorem nmSAll_at : ∀ {l : List Tree} {i : Nat} {t : Tree}, nmSAll l = true → l[i]? = some t → t.nmS = true
  | [], _, _, _, h => by simp at h
  | x :: l, 0, t, hc, h => by simp at h; subst h; simp [nmSAll] at hc; exact hc.1
  | x :: l, i + 1, t, hc, h => by simp [nmSAll] at hc; exact nmSAll_at hc.2 (by simpa using h)
theorem measT_less (it : Bool) {t : Tree} (h : t.isCall = false) {left nest : Int} (hl : left < 1 ∨ 32 < nest) : measT it t left nest = none := by
  cases t <;> first | (simp [Tree.isCall] at h; done) | (rw [measT, if_pos hl]; done) | (rw [measT]; done)
theorem measT_flag (it it' : Bool) {t : Tree} (h : t.isCall = false) (left nest : Int) : measT it t left nest = measT it' t left nest := by
  cases t <;> first | (simp [Tree.isCall] at h; done) | rw [measT, measT]
theorem f_meas (n : Nat) : ∀ t : Tree, t.depth ≤ n → t.clean = true → t.nmS = true → ∀ left nest, 0 ≤ left ∧ left ≤ 1000000 → 0 ≤ nest ∧ nest ≤ 33 →
    MeasC (valAV t) (measT false t left nest) left nest ∧ ItemC (itemAV t) (measT true t left nest) left nest := by
  have H : ∀ t : Tree, t.clean = true → t.nmS = true → ∀ left nest, 0 ≤ left ∧ left ≤ 1000000 → 0 ≤ nest ∧ nest ≤ 33 → MeasC (valAV t) (measT false t left nest) left nest → ItemC (itemAV t) (measT true t left nest) left nest := by
    intro t hc hs left nest hl hn h
    cases t with
    | none => rw [measT]; exact i_none left nest hl
    | call s =>
      rw [measT]
      simp only [true_and]
      exact i_call s (by simpa [Tree.nmS] using hs) left nest hl
    | odd u v => simp [Tree.clean] at hc
    | int m => rw [measT_flag true false rfl]; exact i_push' h rfl
    | str m => rw [measT_flag true false rfl]; exact i_push' h rfl
    | bool m => rw [measT_flag true false rfl]; exact i_push' h rfl
    | box m => rw [measT_flag true false rfl]; exact i_push' h rfl
    | list m => rw [measT_flag true false rfl]; exact i_push' h rfl
    | quot m => rw [measT_flag true false rfl]; exact i_push' h rfl
  suffices M : ∀ t : Tree, t.depth ≤ n → t.clean = true → t.nmS = true → ∀ left nest, 0 ≤ left ∧ left ≤ 1000000 → 0 ≤ nest ∧ nest ≤ 33 → MeasC (valAV t) (measT false t left nest) left nest from
    fun t hd hc hs left nest hl hn => ⟨M t hd hc hs left nest hl hn, H t hc hs left nest hl hn (M t hd hc hs left nest hl hn)⟩
  have L : ∀ t : Tree, t.clean = true → (∀ l, t ≠ .list l) → (∀ l, t ≠ .quot l) → ∀ left nest, 0 ≤ left ∧ left ≤ 1000000 → 0 ≤ nest ∧ nest ≤ 33 → ¬ (left < 1 ∨ 32 < nest) → MeasC (valAV t) (measT false t left nest) left nest := by
    intro t hc h4 h5 left nest hl hn h0
    cases t with
    | none => rw [measT]; exact m_none' left nest (by omega) (by omega)
    | call s => rw [measT, if_neg (by simp)]; exact m_none' left nest (by omega) (by omega)
    | odd u v => simp [Tree.clean] at hc
    | int m => rw [measT, if_neg h0]; exact m_int' m left nest (by omega) (by omega)
    | str m => rw [measT, if_neg h0]; exact m_str' m left nest (by omega) (by omega)
    | bool m => rw [measT, if_neg h0]; exact m_bool' m left nest (by omega) (by omega)
    | box m => rw [measT, if_neg h0]; exact m_box' m left nest (by omega) (by omega)
    | list l => exact absurd rfl (h4 l)
    | quot l => exact absurd rfl (h5 l)
  have B : ∀ t : Tree, ∀ left nest, 0 ≤ left ∧ left ≤ 1000000 → 0 ≤ nest ∧ nest ≤ 33 → (left < 1 ∨ 32 < nest) → MeasC (valAV t) (measT false t left nest) left nest := by
    intro t left nest hl hn h0
    have : measT false t left nest = none := by
      cases t with
      | call s => rw [measT, if_neg (by simp)]
      | _ => exact measT_less false rfl h0
    rw [this]; exact m_less h0 hl hn
  induction n with
  | zero =>
    intro t hd hc hs left nest hl hn
    by_cases h0 : left < 1 ∨ 32 < nest
    · exact B t left nest hl hn h0
    · refine L t hc ?_ ?_ left nest hl hn h0
      · rintro l rfl; rw [Tree.depth] at hd; omega
      · rintro l rfl; rw [Tree.depth] at hd; omega
  | succ n ih =>
    intro t hd hc hs left nest hl hn
    by_cases h0 : left < 1 ∨ 32 < nest
    · exact B t left nest hl hn h0
    cases t with
    | list l =>
      rw [Tree.depth] at hd
      simp only [Tree.clean, Bool.and_eq_true, decide_eq_true_eq] at hc
      rw [Tree.nmS] at hs
      rw [measT, if_neg h0]
      exact m_list l hc.1 left nest (by omega) (by omega) fun i t ht left nest hl hn => ih t (by have := depthAll_at ht; omega) (cleanAll_at hc.2 ht) (nmSAll_at hs ht) left nest hl hn
    | quot l =>
      rw [Tree.depth] at hd
      simp only [Tree.clean, Bool.and_eq_true, decide_eq_true_eq] at hc
      rw [Tree.nmS] at hs
      rw [measT, if_neg h0]
      exact m_quot l hc.1 left nest (by omega) (by omega) fun i t ht left nest hl hn => H t (cleanAll_at hc.2 ht) (nmSAll_at hs ht) left nest hl hn (ih t (by have := depthAll_at ht; omega) (cleanAll_at hc.2 ht) (nmSAll_at hs ht) left nest hl hn)
    | _ => exact L _ hc (by intro l e; cases e) (by intro l e; cases e) left nest hl hn h0
theorem f_tCheck {t : Tree} (hc : t.clean = true) (hs : t.nmS = true) : Av.Fn Tryz.prog 63 [valAV t] (.int .i64 (if (measT false t 1024 0).isSome = true then 0 else 1)) := by
  have h := (f_meas t.depth t (Nat.le_refl _) hc hs 1024 0 (by omega) (by omega)).1
  generalize measT false t 1024 0 = m at h
  refine ACalls.of_W tb_ok (fn := Tryz.f63) (n := 13) (by kernel_rfl) rfl (by kernel_rfl) rfl rfl (by simp) (go ?_)
  refine VAll.mk (fun b => go ?_)
  refine ACalls.use (R := []) (h b) (.refl _) ?_
  rintro _ _ ⟨d, l', rfl, rfl, hm⟩
  cases m with
  | some p =>
    refine go ?_
    refine VRet.mk [] .nil ?_
    exact ⟨rfl, rfl⟩
  | none =>
    refine go ?_
    refine VRet.mk [] .nil ?_
    exact ⟨rfl, rfl⟩
end Go.Proofs.YtonkeklageehbaaGreatDoor

namespace Go.Proofs.YtonkeklageehbaaGreatDoor
open Go Go.Av
theorem faultV_none (s : List UInt8) : decide (faultV s < 0) = decide (faultR s = none) := by
  unfold faultV
  cases faultR s with
  | none => simp
  | some i => simp
theorem valRV_kind (t : Tree) : (valRV t).kind ≠ 7 := by cases t <;> simp [valRV, RV.kind]
def refOf (it : Bool) (t : Tree) : RV := if it = true then itemRV t else valRV t
theorem refOf_call (s : List UInt8) : refOf true (.call s) = .mk 7 0 s [] := rfl
theorem refOf_val {it : Bool} {t : Tree} (h : t.isCall = false) : refOf it t = valRV t := by
  unfold refOf
  split
  · exact item_val h
  · rfl
def refsOf (it : Bool) (l : List Tree) : List RV := if it = true then itemRVs l else valRVs l
theorem refsOf_cons (it : Bool) (t : Tree) (r : List Tree) : refsOf it (t :: r) = refOf it t :: refsOf it r := by
  unfold refsOf refOf
  split
  · exact itemRVs_cons t r
  · rfl
theorem refsOf_nil (it : Bool) : refsOf it [] = [] := by cases it <;> simp [refsOf, itemRVs, valRVs]
theorem meas_step (vals it : Bool) (t : Tree) (hv : it = !vals) (r : List RV) (left nest size depth : Int) : measAll vals (refOf it t :: r) left nest size depth =
    if (measR (refOf it t) (left - size) (nest + 1)).2.2 = true then measAll vals r left nest (size + (measR (refOf it t) (left - size) (nest + 1)).1) (max depth (measR (refOf it t) (left - size) (nest + 1)).2.1) else (0, 0, false) := by
  rw [measAll, if_neg]
  subst hv
  cases vals with
  | false => simp
  | true => simp [refOf, valRV_kind]
mutual
theorem meas_fw : ∀ (it : Bool) (t : Tree) (left nest : Int), (measR (refOf it t) left nest).2.2 = true → measT it t left nest = some ((measR (refOf it t) left nest).2.1, left - (measR (refOf it t) left nest).1) := by
  intro it t left nest h
  cases t with
  | call s =>
    cases it with
    | false =>
      rw [show refOf false (.call s) = .mk 8 0 [] [] by simp [refOf, valRV]] at h
      rw [measR] at h
      simp at h
    | true =>
      rw [refOf_call, measR] at h ⊢
      simp only [show ¬ ((7 : Int) = 1) by decide, show ¬ ((7 : Int) = 2) by decide, show ¬ ((7 : Int) = 3) by decide, show ¬ ((7 : Int) = 6) by decide, if_false, if_true] at h ⊢
      split at h
      · simp at h
      · rename_i h0
        rw [if_neg h0, measT, if_pos ⟨rfl, by omega, h⟩]
  | none => rw [refOf_val rfl, valRV, measR] at h; simp at h
  | odd u v => rw [refOf_val rfl, valRV, measR] at h; simp at h
  | int n =>
    rw [refOf_val rfl, valRV, measR] at h ⊢
    simp only [if_true] at h ⊢
    split at h
    · simp at h
    · rename_i h0
      rw [if_neg h0, measT, if_neg h0, if_pos h]
  | str s =>
    rw [refOf_val rfl, valRV, measR] at h ⊢
    simp only [show ¬ ((2 : Int) = 1) by decide, if_false, if_true] at h ⊢
    split at h
    · simp at h
    · rename_i h0
      rw [faultV_none] at h
      simp only [Bool.and_eq_true, decide_eq_true_eq] at h
      rw [if_neg h0, measT, if_neg h0, if_pos h]
  | bool b =>
    rw [refOf_val rfl, valRV, measR] at h ⊢
    simp only [show ¬ ((3 : Int) = 1) by decide, show ¬ ((3 : Int) = 2) by decide, if_false, if_true] at h ⊢
    split at h
    · simp at h
    · rename_i h0
      rw [if_neg h0, measT, if_neg h0]
  | box n =>
    rw [refOf_val rfl, valRV, measR] at h ⊢
    simp only [show ¬ ((6 : Int) = 1) by decide, show ¬ ((6 : Int) = 2) by decide, show ¬ ((6 : Int) = 3) by decide, if_false, if_true] at h ⊢
    split at h
    · simp at h
    · rename_i h0
      simp only [Bool.and_eq_true, decide_eq_true_eq] at h
      rw [if_neg h0, measT, if_neg h0, if_pos h]
  | list l =>
    rw [refOf_val rfl, valRV, measR] at h ⊢
    simp only [show ¬ ((4 : Int) = 1) by decide, show ¬ ((4 : Int) = 2) by decide, show ¬ ((4 : Int) = 3) by decide, show ¬ ((4 : Int) = 6) by decide, show ¬ ((4 : Int) = 7) by decide, true_or, if_false, if_true, decide_true] at h ⊢
    split at h
    · simp at h
    · rename_i h0
      rw [if_neg h0, measT, if_neg h0]
      exact meass_fw true false rfl l left nest 1 0 (by omega) (by omega) h
  | quot l =>
    rw [refOf_val rfl, valRV, measR] at h ⊢
    simp only [show ¬ ((5 : Int) = 1) by decide, show ¬ ((5 : Int) = 2) by decide, show ¬ ((5 : Int) = 3) by decide, show ¬ ((5 : Int) = 6) by decide, show ¬ ((5 : Int) = 7) by decide, or_true, if_false, if_true, show decide ((5 : Int) = 4) = false by decide] at h ⊢
    split at h
    · simp at h
    · rename_i h0
      rw [if_neg h0, measT, if_neg h0]
      exact meass_fw false true rfl l left nest 1 0 (by omega) (by omega) h
theorem meass_fw : ∀ (vals it : Bool) (_ : it = !vals) (l : List Tree) (left nest size depth : Int), 0 ≤ size → 0 ≤ depth → (measAll vals (refsOf it l) left nest size depth).2.2 = true →
    measTs it l (left - size) nest depth = some ((measAll vals (refsOf it l) left nest size depth).2.1, left - (measAll vals (refsOf it l) left nest size depth).1)
  | vals, it, hv, [], left, nest, size, depth, hs, hd, h => by
    rw [refsOf_nil, measAll] at h ⊢
    simp only [decide_eq_true_eq] at h
    rw [measTs, if_pos h]
  | vals, it, hv, t :: r, left, nest, size, depth, hs, hd, h => by
    rw [refsOf_cons, meas_step vals it t hv] at h ⊢
    split at h
    · rename_i h2
      rw [if_pos h2, measTs, meas_fw it t (left - size) (nest + 1) h2]
      have hle := measR_le (refOf it t) (left - size) (nest + 1) h2
      dsimp only
      have := meass_fw vals it hv r left nest _ _ (by omega) (by omega) h
      rw [← this]
      congr 1; omega
    · simp at h
end
theorem measTs_depth : ∀ (it : Bool) (l : List Tree) (left nest depth d l' : Int), measTs it l left nest depth = some (d, l') → depth + 1 ≤ d
  | it, [], left, nest, depth, d, l', h => by
    rw [measTs] at h
    split at h
    · simp only [Option.some.injEq, Prod.mk.injEq] at h; omega
    · cases h
  | it, t :: r, left, nest, depth, d, l', h => by
    rw [measTs] at h
    split at h
    · have := measTs_depth it r _ nest _ d l' h
      omega
    · cases h
mutual
theorem meas_bw : ∀ (it : Bool) (t : Tree) (left nest d l' : Int), measT it t left nest = some (d, l') → d + nest ≤ 32 → measR (refOf it t) left nest = (left - l', d, true) := by
  intro it t left nest d l' h hd
  cases t with
  | call s =>
    rw [measT] at h
    split at h
    · rename_i h0
      obtain ⟨rfl, h1, h2⟩ := h0
      simp only [Option.some.injEq, Prod.mk.injEq] at h
      rw [refOf_call, measR, if_neg (by omega)]
      simp only [show ¬ ((7 : Int) = 1) by decide, show ¬ ((7 : Int) = 2) by decide, show ¬ ((7 : Int) = 3) by decide, show ¬ ((7 : Int) = 6) by decide, if_false, if_true]
      refine Prod.ext (by dsimp only; omega) (Prod.ext (by dsimp only; omega) h2)
    · cases h
  | none => rw [measT] at h; cases h
  | odd u v => rw [measT] at h; cases h
  | int n =>
    rw [measT] at h
    repeat' split at h
    · cases h
    · rename_i h0 h1
      simp only [Option.some.injEq, Prod.mk.injEq] at h
      rw [refOf_val rfl, valRV, measR, if_neg h0]
      simp only [if_true]
      refine Prod.ext (by dsimp only; omega) (Prod.ext (by dsimp only; omega) h1)
    · cases h
  | str s =>
    rw [measT] at h
    repeat' split at h
    · cases h
    · rename_i h0 h1
      simp only [Option.some.injEq, Prod.mk.injEq] at h
      rw [refOf_val rfl, valRV, measR, if_neg h0]
      simp only [show ¬ ((2 : Int) = 1) by decide, if_false, if_true]
      refine Prod.ext (by dsimp only; omega) (Prod.ext (by dsimp only; omega) ?_)
      rw [faultV_none]; simp [h1]
    · cases h
  | bool b =>
    rw [measT] at h
    repeat' split at h
    · cases h
    · rename_i h0
      simp only [Option.some.injEq, Prod.mk.injEq] at h
      rw [refOf_val rfl, valRV, measR, if_neg h0]
      simp only [show ¬ ((3 : Int) = 1) by decide, show ¬ ((3 : Int) = 2) by decide, if_false, if_true]
      refine Prod.ext (by dsimp only; omega) (Prod.ext (by dsimp only; omega) rfl)
  | box n =>
    rw [measT] at h
    repeat' split at h
    · cases h
    · rename_i h0 h1
      simp only [Option.some.injEq, Prod.mk.injEq] at h
      rw [refOf_val rfl, valRV, measR, if_neg h0]
      simp only [show ¬ ((6 : Int) = 1) by decide, show ¬ ((6 : Int) = 2) by decide, show ¬ ((6 : Int) = 3) by decide, if_false, if_true]
      refine Prod.ext (by dsimp only; omega) (Prod.ext (by dsimp only; omega) ?_)
      simp [h1]
    · cases h
  | list l =>
    rw [measT] at h
    split at h
    · cases h
    · rename_i h0
      rw [refOf_val rfl, valRV, measR, if_neg h0]
      simp only [show ¬ ((4 : Int) = 1) by decide, show ¬ ((4 : Int) = 2) by decide, show ¬ ((4 : Int) = 3) by decide, show ¬ ((4 : Int) = 6) by decide, show ¬ ((4 : Int) = 7) by decide, true_or, if_false, if_true, decide_true]
      exact meass_bw true false rfl l left nest 1 0 d l' (by omega) h hd
  | quot l =>
    rw [measT] at h
    split at h
    · cases h
    · rename_i h0
      rw [refOf_val rfl, valRV, measR, if_neg h0]
      simp only [show ¬ ((5 : Int) = 1) by decide, show ¬ ((5 : Int) = 2) by decide, show ¬ ((5 : Int) = 3) by decide, show ¬ ((5 : Int) = 6) by decide, show ¬ ((5 : Int) = 7) by decide, or_true, if_false, if_true, show decide ((5 : Int) = 4) = false by decide]
      exact meass_bw false true rfl l left nest 1 0 d l' (by omega) h hd
theorem meass_bw : ∀ (vals it : Bool) (_ : it = !vals) (l : List Tree) (left nest size depth d l' : Int), 0 ≤ depth → measTs it l (left - size) nest depth = some (d, l') → d + nest ≤ 32 →
    measAll vals (refsOf it l) left nest size depth = (left - l', d, true)
  | vals, it, hv, [], left, nest, size, depth, d, l', hp, h, hd => by
    rw [measTs] at h
    split at h
    · rename_i h1
      simp only [Option.some.injEq, Prod.mk.injEq] at h
      rw [refsOf_nil, measAll]
      refine Prod.ext (by dsimp only; omega) (Prod.ext (by dsimp only; omega) (decide_eq_true h1))
    · cases h
  | vals, it, hv, t :: r, left, nest, size, depth, d, l', hp, h, hd => by
    rw [measTs] at h
    split at h
    · rename_i d1 l1 e
      have hdp := measTs_depth it r _ nest _ d l' h
      have e1 := meas_bw it t (left - size) (nest + 1) d1 l1 e (by omega)
      rw [refsOf_cons, meas_step vals it t hv, e1, if_pos rfl]
      dsimp only
      exact meass_bw vals it hv r left nest _ _ d l' (by omega) (by rw [← h]; congr 1; omega) hd
    · cases h
end
/-- From the outside, both are the same. -/
theorem meas_top (t : Tree) : (measT false t 1024 0).isSome = (measR (valRV t) 1024 0).2.2 := by
  rw [Bool.eq_iff_iff]
  constructor
  · intro h
    obtain ⟨⟨d, l'⟩, e⟩ := Option.isSome_iff_exists.1 h
    have := measT_le false t 1024 0 d l' e
    have e2 := meas_bw false t 1024 0 d l' e (by omega)
    rw [show refOf false t = valRV t from rfl] at e2
    rw [e2]
  · intro h
    have := meas_fw false t 1024 0 (by rw [show refOf false t = valRV t from rfl]; exact h)
    rw [this]; rfl
end Go.Proofs.YtonkeklageehbaaGreatDoor

namespace Go.Proofs.YtonkeklageehbaaGreatDoor
open Go Go.Av
mutual
/-- Neither nil nor another dynamic type; calls among items alone. -/
def Tree.full (it : Bool) : Tree → Bool
  | .none => false
  | .odd _ _ => false
  | .call _ => it
  | .list l => fullAll false l
  | .quot l => fullAll true l
  | .int _ => true
  | .str _ => true
  | .bool _ => true
  | .box _ => true
def fullAll (it : Bool) : List Tree → Bool
  | [] => true
  | t :: r => t.full it && fullAll it r
end
theorem fullAll_at : ∀ {it : Bool} {l : List Tree} {i : Nat} {t : Tree}, fullAll it l = true → l[i]? = some t → t.full it = true
  | _, [], _, _, _, h => by simp at h
  | _, x :: l, 0, t, hc, h => by simp at h; subst h; simp [fullAll] at hc; exact hc.1
  | _, x :: l, i + 1, t, hc, h => by simp [fullAll] at hc; exact fullAll_at hc.2 (by simpa using h)
mutual
theorem meas_full : ∀ (it : Bool) (t : Tree) (left nest : Int), (measT it t left nest).isSome = true → t.full it = true := by
  intro it t left nest h
  cases t with
  | none => rw [measT] at h; cases h
  | odd u v => rw [measT] at h; cases h
  | call s =>
    rw [measT] at h
    split at h
    · rename_i h0; rw [Tree.full]; exact h0.1
    · cases h
  | list l =>
    rw [measT] at h
    split at h
    · cases h
    · rw [Tree.full]; exact meass_full false l _ _ _ h
  | quot l =>
    rw [measT] at h
    split at h
    · cases h
    · rw [Tree.full]; exact meass_full true l _ _ _ h
  | _ => rw [Tree.full]
theorem meass_full : ∀ (it : Bool) (l : List Tree) (left nest depth : Int), (measTs it l left nest depth).isSome = true → fullAll it l = true
  | it, [], _, _, _, _ => by rw [fullAll]
  | it, t :: r, left, nest, depth, h => by
    rw [measTs] at h
    split at h
    · rename_i d l' e
      rw [fullAll, meas_full it t left (nest + 1) (by rw [e]; rfl), meass_full it r _ _ _ h]; rfl
    · cases h
end

theorem f_EqFuncV (a b : List Tree) (h : ∀ (i : Nat) t u, a[i]? = some t → b[i]? = some u → Av.Fn Tryz.prog 45 [valAV t, valAV u] (.bool (sameV (valRV t) (valRV u)))) (ha : a.length ≤ 2513169434916) (hb : b.length ≤ 2513169434916) :
    Av.Fn Tryz.prog 70 [.fz (valAVs a) a.length false, .fz (valAVs b) b.length false, .fn (.func 45) [] []] (.bool (sameVs (valRVs a) (valRVs b))) := by
  refine ACalls.of_W tb_ok (fn := Tryz.f70) (n := 32) (by kernel_rfl) rfl (by kernel_rfl) rfl rfl (by simp) (go ?_)
  refine fork (fun hne => go ?_) (fun hne => go ?_)
  · refine VRet.mk [] .nil ?_
    refine ⟨?_, rfl⟩
    cases e : sameVs (valRVs a) (valRVs b) with
    | true => exact absurd (by have := sameVs_length e; simp at this; rw [this]) hne
    | false => rfl
  · have hne : a.length = b.length := by omega
    refine VLoop.mk [17] Nat (fun i => [.int .i64 i]) (fun _ => []) (fun i => i ≤ a.length ∧ sameVs (valRVs a) (valRVs b) = sameVs (valRVs (a.drop i)) (valRVs (b.drop i))) (fun i => a.length - i) 0 ?_ ?_
    · exact ⟨⟨by omega, by simp⟩, rfl, .nil⟩
    intro i ⟨hi, hI⟩
    refine go ?_
    refine fork (fun hlt => go ?_) (fun hlt => go ?_)
    · have hlt : i < a.length := by omega
      obtain ⟨x, hx⟩ : ∃ x, a[i]? = some x := ⟨a[i], by simp [hlt]⟩
      obtain ⟨y, hy⟩ : ∃ y, b[i]? = some y := ⟨b[i]'(by omega), by simp [hne ▸ hlt]⟩
      have hda : a.drop i = x :: a.drop (i + 1) := by rw [List.drop_eq_getElem_cons hlt]; congr 1; rw [List.getElem?_eq_getElem hlt] at hx; exact Option.some.inj hx
      have hdb : b.drop i = y :: b.drop (i + 1) := by rw [List.drop_eq_getElem_cons (hne ▸ hlt)]; congr 1; rw [List.getElem?_eq_getElem (hne ▸ hlt)] at hy; exact Option.some.inj hy
      rw [hda, hdb, valRVs, valRVs, sameVs] at hI
      have hxy := h i x y hx hy
      refine VNth.mk (valAV x) (by simp [mulN_eq, valAVs_map, hx]) (go ?_)
      refine VNth.mk (valAV y) (by simp [mulN_eq, valAVs_map, hy]) (go ?_)
      refine Fn.use (hxy) (go ?_)
      generalize sameV (valRV x) (valRV y) = q at hI
      cases q with
      | true =>
        refine go ?_
        exact ⟨i + 1, ⟨by omega, by rw [hI, Bool.true_and]⟩, by omega, rfl, .nil⟩
      | false =>
        refine go ?_
        refine VRet.mk [] .nil ?_
        rw [hI]; exact ⟨rfl, rfl⟩
    · rw [List.drop_eq_nil_of_le (by omega), List.drop_eq_nil_of_le (by omega)] at hI
      refine VRet.mk [] .nil ?_
      rw [hI]; exact ⟨by simp [valRVs, sameVs], rfl⟩
theorem f_EqFuncI (a b : List Tree) (h : ∀ (i : Nat) t u, a[i]? = some t → b[i]? = some u → Av.Fn Tryz.prog 96 [itemAV t, itemAV u] (.bool (sameV (itemRV t) (itemRV u)))) (ha : a.length ≤ 2513169434916) (hb : b.length ≤ 2513169434916) :
    Av.Fn Tryz.prog 95 [.fz (itemAVs a) a.length false, .fz (itemAVs b) b.length false, .fn (.func 96) [] []] (.bool (sameVs (itemRVs a) (itemRVs b))) := by
  refine ACalls.of_W tb_ok (fn := Tryz.f95) (n := 32) (by kernel_rfl) rfl (by kernel_rfl) rfl rfl (by simp) (go ?_)
  refine fork (fun hne => go ?_) (fun hne => go ?_)
  · refine VRet.mk [] .nil ?_
    refine ⟨?_, rfl⟩
    cases e : sameVs (itemRVs a) (itemRVs b) with
    | true => exact absurd (by have := sameVs_length e; simp at this; rw [this]) hne
    | false => rfl
  · have hne : a.length = b.length := by omega
    refine VLoop.mk [17] Nat (fun i => [.int .i64 i]) (fun _ => []) (fun i => i ≤ a.length ∧ sameVs (itemRVs a) (itemRVs b) = sameVs (itemRVs (a.drop i)) (itemRVs (b.drop i))) (fun i => a.length - i) 0 ?_ ?_
    · exact ⟨⟨by omega, by simp⟩, rfl, .nil⟩
    intro i ⟨hi, hI⟩
    refine go ?_
    refine fork (fun hlt => go ?_) (fun hlt => go ?_)
    · have hlt : i < a.length := by omega
      obtain ⟨x, hx⟩ : ∃ x, a[i]? = some x := ⟨a[i], by simp [hlt]⟩
      obtain ⟨y, hy⟩ : ∃ y, b[i]? = some y := ⟨b[i]'(by omega), by simp [hne ▸ hlt]⟩
      have hda : a.drop i = x :: a.drop (i + 1) := by rw [List.drop_eq_getElem_cons hlt]; congr 1; rw [List.getElem?_eq_getElem hlt] at hx; exact Option.some.inj hx
      have hdb : b.drop i = y :: b.drop (i + 1) := by rw [List.drop_eq_getElem_cons (hne ▸ hlt)]; congr 1; rw [List.getElem?_eq_getElem (hne ▸ hlt)] at hy; exact Option.some.inj hy
      rw [hda, hdb, itemRVs_cons, itemRVs_cons, sameVs] at hI
      have hxy := h i x y hx hy
      refine VNth.mk (itemAV x) (by simp [mulN_eq, itemAVs_map, hx]) (go ?_)
      refine VNth.mk (itemAV y) (by simp [mulN_eq, itemAVs_map, hy]) (go ?_)
      refine Fn.use (hxy) (go ?_)
      generalize sameV (itemRV x) (itemRV y) = q at hI
      cases q with
      | true =>
        refine go ?_
        exact ⟨i + 1, ⟨by omega, by rw [hI, Bool.true_and]⟩, by omega, rfl, .nil⟩
      | false =>
        refine go ?_
        refine VRet.mk [] .nil ?_
        rw [hI]; exact ⟨rfl, rfl⟩
    · rw [List.drop_eq_nil_of_le (by omega), List.drop_eq_nil_of_le (by omega)] at hI
      refine VRet.mk [] .nil ?_
      rw [hI]; exact ⟨by simp [itemRVs, sameVs], rfl⟩
theorem sameV_leaf (k n : Int) (s : List UInt8) (k' n' : Int) (s' : List UInt8) (l' : List RV) (h : k ≠ k') : sameV (.mk k n s []) (.mk k' n' s' l') = false := by
  rw [sameV, decide_eq_false h]; rfl
/-- A leaf and what it is compared with. -/
def Tree.leaf : Tree → Bool
  | .int _ => true
  | .str _ => true
  | .bool _ => true
  | .box _ => true
  | _ => false
set_option maxHeartbeats 2000000 in
theorem f_SameLeaf (t u : Tree) (ht : t.leaf = true) (hu : u.full false = true) : Av.Fn Tryz.prog 45 [valAV t, valAV u] (.bool (sameV (valRV t) (valRV u))) := by
  cases t <;> first | (simp [Tree.leaf] at ht; done) | skip
  all_goals cases u <;> first | (simp [Tree.full] at hu; done) | skip
  all_goals
    rw [valAV, valAV]
    refine ACalls.of_W tb_ok (fn := Tryz.f45) (n := 55) (by kernel_rfl) rfl (by kernel_rfl) rfl rfl (by simp) (go ?_)
    refine VRet.mk [] .nil ⟨congrArg (fun b => AOut.ret (.bool b)) ?_, rfl⟩
    first
    | (simp [valRV, sameV, leafSame, sameVs]; done)
    | (rename_i b1 b2; cases b1 <;> cases b2 <;> rfl)
theorem f_SameList (a b : List Tree) (h : Av.Fn Tryz.prog 70 [.fz (valAVs a) a.length false, .fz (valAVs b) b.length false, .fn (.func 45) [] []] (.bool (sameVs (valRVs a) (valRVs b)))) :
    Av.Fn Tryz.prog 45 [valAV (.list a), valAV (.list b)] (.bool (sameV (valRV (.list a)) (valRV (.list b)))) := by
  rw [valAV, valAV]
  refine ACalls.of_W tb_ok (fn := Tryz.f45) (n := 55) (by kernel_rfl) rfl (by kernel_rfl) rfl rfl (by simp) (go ?_)
  refine VAll.mk (fun b1 => go ?_)
  refine VAll.mk (fun b2 => go ?_)
  refine Fn.use (h) (go ?_)
  refine VRet.mk [] .nil ⟨congrArg (fun b => AOut.ret (.bool b)) ?_, rfl⟩
  simp only [valRV, sameV, leafSame, decide_true, Bool.true_and]
  cases e : sameVs (valRVs a) (valRVs b) with
  | true => have := sameVs_length e; simp at this; simp [this]
  | false => simp
theorem f_SameQuot (a b : List Tree) (h : Av.Fn Tryz.prog 71 [.fz (itemAVs a) a.length false, .fz (itemAVs b) b.length false] (.bool (sameVs (itemRVs a) (itemRVs b)))) :
    Av.Fn Tryz.prog 45 [valAV (.quot a), valAV (.quot b)] (.bool (sameV (valRV (.quot a)) (valRV (.quot b)))) := by
  rw [valAV, valAV]
  refine ACalls.of_W tb_ok (fn := Tryz.f45) (n := 55) (by kernel_rfl) rfl (by kernel_rfl) rfl rfl (by simp) (go ?_)
  refine VAll.mk (fun b1 => go ?_)
  refine VAll.mk (fun b2 => go ?_)
  refine Fn.use (h) (go ?_)
  refine VRet.mk [] .nil ⟨congrArg (fun b => AOut.ret (.bool b)) ?_, rfl⟩
  simp only [valRV, sameV, leafSame, decide_true, Bool.true_and]
  cases e : sameVs (itemRVs a) (itemRVs b) with
  | true => have := sameVs_length e; simp at this; simp [this]
  | false => simp
theorem f_SameOdd (t u : Tree) (ht : t.leaf = false) (hft : t.full false = true) (hu : u.full false = true) (h4 : ∀ a b, t = .list a → u = .list b → False) (h5 : ∀ a b, t = .quot a → u = .quot b → False) : Av.Fn Tryz.prog 45 [valAV t, valAV u] (.bool (sameV (valRV t) (valRV u))) := by
  cases t <;> first | (simp [Tree.leaf] at ht; done) | (simp [Tree.full] at hft; done) | skip
  all_goals cases u <;> first | (simp [Tree.full] at hu; done) | exact (h4 _ _ rfl rfl).elim | exact (h5 _ _ rfl rfl).elim | skip
  all_goals
    rw [valAV, valAV]
    refine ACalls.of_W tb_ok (fn := Tryz.f45) (n := 55) (by kernel_rfl) rfl (by kernel_rfl) rfl rfl (by simp) (go ?_)
    refine VAll.mk (fun b1 => go ?_)
    refine VAll.mk (fun b2 => go ?_)
    refine VRet.mk [] .nil ⟨congrArg (fun b => AOut.ret (.bool b)) ?_, rfl⟩
    simp [valRV, sameV]
theorem f_SameItems (a b : List Tree) (h : Av.Fn Tryz.prog 95 [.fz (itemAVs a) a.length false, .fz (itemAVs b) b.length false, .fn (.func 96) [] []] (.bool (sameVs (itemRVs a) (itemRVs b)))) :
    Av.Fn Tryz.prog 71 [.fz (itemAVs a) a.length false, .fz (itemAVs b) b.length false] (.bool (sameVs (itemRVs a) (itemRVs b))) := by
  refine ACalls.of_W tb_ok (fn := Tryz.f71) (n := 8) (by kernel_rfl) rfl (by kernel_rfl) rfl rfl (by simp) (go ?_)
  refine Fn.use (h) (go ?_)
  refine VRet.mk [] .nil ?_
  exact ⟨rfl, rfl⟩
theorem item_push {t : Tree} (hc : t.isCall = false) (hf : t.full true = true) : itemAV t = .iface 136 (.agg [valAV t]) := by
  cases t <;> first | rfl | (simp [Tree.isCall] at hc; done) | (simp [Tree.full] at hf; done)
theorem full_val {t : Tree} (hc : t.isCall = false) (hf : t.full true = true) : t.full false = true := by
  cases t <;> first | exact hf | (simp [Tree.isCall] at hc; done) | (simp [Tree.full] at hf; done)
theorem f_SameItem (t u : Tree) (ht : t.full true = true) (hu : u.full true = true) (h : t.isCall = false → u.isCall = false → Av.Fn Tryz.prog 45 [valAV t, valAV u] (.bool (sameV (valRV t) (valRV u)))) :
    Av.Fn Tryz.prog 96 [itemAV t, itemAV u] (.bool (sameV (itemRV t) (itemRV u))) := by
  cases hct : t.isCall with
  | true =>
    obtain ⟨s, rfl⟩ : ∃ s, t = .call s := by cases t <;> first | exact ⟨_, rfl⟩ | (simp [Tree.isCall] at hct; done)
    cases hcu : u.isCall with
    | true =>
      obtain ⟨s', rfl⟩ : ∃ s, u = .call s := by cases u <;> first | exact ⟨_, rfl⟩ | (simp [Tree.isCall] at hcu; done)
      rw [itemAV, itemAV]
      refine ACalls.of_W tb_ok (fn := Tryz.f96) (n := 31) (by kernel_rfl) rfl (by kernel_rfl) rfl rfl (by simp) (go ?_)
      refine VAll.mk (fun b1 => go ?_)
      refine VAll.mk (fun b2 => go ?_)
      refine VRet.mk [] .nil ⟨congrArg (fun b => AOut.ret (.bool b)) ?_, rfl⟩
      simp [itemRV, sameV, leafSame, sameVs]
    | false =>
      rw [item_push hcu hu, itemAV]
      have ho := valAV_one' u
      have hk := valRV_kind u
      rw [item_val hcu]
      generalize valAV u = y at ho ⊢
      refine ACalls.of_W tb_ok (fn := Tryz.f96) (n := 31) (by kernel_rfl) rfl (by kernel_rfl) rfl rfl (by simp) (go ?_)
      refine VAll.mk (fun b1 => go ?_)
      refine VAll.mk (fun b2 => go ?_)
      refine VRet.mk [] .nil ⟨congrArg (fun b => AOut.ret (.bool b)) ?_, rfl⟩
      generalize valRV u = z at hk ⊢
      obtain ⟨k, n, s', l⟩ := z
      exact (sameV_leaf _ _ _ _ _ _ _ (fun e => hk e.symm)).symm
  | false =>
    rw [item_push hct ht]
    have ho := valAV_one' t
    cases hcu : u.isCall with
    | true =>
      obtain ⟨s', rfl⟩ : ∃ s, u = .call s := by cases u <;> first | exact ⟨_, rfl⟩ | (simp [Tree.isCall] at hcu; done)
      rw [itemAV]
      have hk := valRV_kind t
      rw [item_val hct]
      generalize valAV t = y at ho ⊢
      refine ACalls.of_W tb_ok (fn := Tryz.f96) (n := 31) (by kernel_rfl) rfl (by kernel_rfl) rfl rfl (by simp) (go ?_)
      refine VAll.mk (fun b1 => go ?_)
      refine VAll.mk (fun b2 => go ?_)
      refine VRet.mk [] .nil ⟨congrArg (fun b => AOut.ret (.bool b)) ?_, rfl⟩
      generalize valRV t = z at hk ⊢
      obtain ⟨k, n, s, l⟩ := z
      show false = sameV (.mk k n s l) (.mk 7 0 s' [])
      have hk : k ≠ 7 := hk
      rw [sameV, decide_eq_false hk]; rfl
    | false =>
      rw [item_push hcu hu, item_val hct, item_val hcu]
      have hh := h hct hcu
      have ho' := valAV_one' u
      generalize valAV t = x at ho hh ⊢
      generalize valAV u = y at ho' hh ⊢
      refine ACalls.of_W tb_ok (fn := Tryz.f96) (n := 31) (by kernel_rfl) rfl (by kernel_rfl) rfl rfl (by simp) (go ?_)
      refine VAll.mk (fun b1 => go ?_)
      refine VAll.mk (fun b2 => go ?_)
      refine Fn.use (hh) (go ?_)
      refine VRet.mk [] .nil ?_
      exact ⟨rfl, rfl⟩
theorem f_tSame' (n : Nat) : ∀ t u : Tree, t.depth ≤ n → t.clean = true → u.clean = true → t.full false = true → u.full false = true → Av.Fn Tryz.prog 45 [valAV t, valAV u] (.bool (sameV (valRV t) (valRV u))) := by
  induction n with
  | zero =>
    intro t u hd hct hcu ht hu
    cases hl : t.leaf with
    | true => exact f_SameLeaf t u hl hu
    | false => refine f_SameOdd t u hl ht hu ?_ ?_ <;> (rintro a b rfl _; rw [Tree.depth] at hd; omega)
  | succ n ih =>
    intro t u hd hct hcu ht hu
    cases hl : t.leaf with
    | true => exact f_SameLeaf t u hl hu
    | false =>
      by_cases h4 : ∃ a b, t = .list a ∧ u = .list b
      · obtain ⟨a, b, rfl, rfl⟩ := h4
        rw [Tree.depth] at hd
        simp only [Tree.clean, Bool.and_eq_true, decide_eq_true_eq] at hct hcu
        rw [Tree.full] at ht hu
        exact f_SameList a b (f_EqFuncV a b (fun i x y hx hy => ih x y (by have := depthAll_at hx; omega) (cleanAll_at hct.2 hx) (cleanAll_at hcu.2 hy) (fullAll_at ht hx) (fullAll_at hu hy)) hct.1 hcu.1)
      by_cases h5 : ∃ a b, t = .quot a ∧ u = .quot b
      · obtain ⟨a, b, rfl, rfl⟩ := h5
        rw [Tree.depth] at hd
        simp only [Tree.clean, Bool.and_eq_true, decide_eq_true_eq] at hct hcu
        rw [Tree.full] at ht hu
        exact f_SameQuot a b (f_SameItems a b (f_EqFuncI a b (fun i x y hx hy => f_SameItem x y (fullAll_at ht hx) (fullAll_at hu hy) fun c1 c2 =>
          ih x y (by have := depthAll_at hx; omega) (cleanAll_at hct.2 hx) (cleanAll_at hcu.2 hy) (full_val c1 (fullAll_at ht hx)) (full_val c2 (fullAll_at hu hy))) hct.1 hcu.1))
      exact f_SameOdd t u hl ht hu (fun a b e1 e2 => h4 ⟨a, b, e1, e2⟩) (fun a b e1 e2 => h5 ⟨a, b, e1, e2⟩)
theorem f_tSame {t u : Tree} (hct : t.clean = true) (hcu : u.clean = true) (ht : t.full false = true) (hu : u.full false = true) : Av.Fn Tryz.prog 45 [valAV t, valAV u] (.bool (sameV (valRV t) (valRV u))) := f_tSame' t.depth t u (Nat.le_refl _) hct hcu ht hu
end Go.Proofs.YtonkeklageehbaaGreatDoor

namespace Go.Proofs.YtonkeklageehbaaGreatDoor
open Go Go.Av
/-- The table of the primitives: its text. -/
def tableT : List UInt8 := [49, 50, 58, 100, 117, 112, 32, 49, 48, 58, 100, 114, 111, 112, 32, 50, 50, 58, 115, 119, 97, 112, 32, 50, 51, 58, 111, 118, 101, 114, 32, 51, 51, 58, 114, 111, 116, 32, 50, 49, 58, 110, 105, 112, 32, 50, 51, 58, 116, 117, 99, 107, 32, 50, 49, 58, 43, 32, 50, 49, 58, 45, 32, 50, 49, 58, 42, 32, 50, 49, 58, 47, 32, 50, 49, 58, 109, 111, 100, 32, 49, 49, 58, 110, 101, 103, 32, 49, 49, 58, 97, 98, 115, 32, 50, 49, 58, 109, 105, 110, 32, 50, 49, 58, 109, 97, 120, 32, 50, 49, 58, 60, 32, 50, 49, 58, 62, 32, 50, 49, 58, 61, 32, 50, 49, 58, 97, 110, 100, 32, 50, 49, 58, 111, 114, 32, 49, 49, 58, 110, 111, 116, 32, 49, 49, 58, 105, 110, 116, 63, 32, 49, 49, 58, 115, 116, 114, 63, 32, 49, 49, 58, 98, 111, 111, 108, 63, 32, 49, 49, 58, 108, 105, 115, 116, 63, 32, 49, 49, 58, 113, 117, 111, 116, 63, 32, 49, 49, 58, 98, 111, 120, 63, 32, 49, 49, 58, 108, 101, 110, 103, 116, 104, 32, 50, 49, 58, 97, 112, 112, 101, 110, 100, 32, 50, 49, 58, 110, 116, 104, 32, 51, 49, 58, 115, 108, 105, 99, 101, 32, 49, 49, 58, 119, 114, 97, 112, 32, 50, 49, 58, 112, 97, 105, 114, 32, 49, 50, 58, 117, 110, 112, 97, 105, 114, 32, 49, 49, 58, 114, 101, 118, 101, 114, 115, 101, 32, 50, 49, 58, 99, 117, 114, 114, 121, 32, 50, 49, 58, 99, 111, 109, 112, 111, 115, 101, 32, 49, 49, 58, 62, 115, 116, 114, 32, 49, 49, 58, 62, 105, 110, 116, 32, 99, 97, 108, 108, 32, 100, 105, 112, 32, 107, 101, 101, 112, 32, 105, 102, 32, 119, 104, 101, 110, 32, 116, 105, 109, 101, 115, 32, 101, 97, 99, 104, 32, 108, 111, 111, 112, 32, 49, 49, 58, 98, 111, 120, 32, 49, 49, 58, 103, 101, 116, 32, 50, 48, 58, 112, 117, 116, 32, 49, 48, 58, 46]
/-- A name with its effect, if it has one of its own. -/
structure PrimE where
  name : List UInt8
  eff : Option (Nat × Nat)
/-- The primitives in order. -/
def primsL : List PrimE := [⟨[100, 117, 112], some (1, 2)⟩,
  ⟨[100, 114, 111, 112], some (1, 0)⟩,
  ⟨[115, 119, 97, 112], some (2, 2)⟩,
  ⟨[111, 118, 101, 114], some (2, 3)⟩,
  ⟨[114, 111, 116], some (3, 3)⟩,
  ⟨[110, 105, 112], some (2, 1)⟩,
  ⟨[116, 117, 99, 107], some (2, 3)⟩,
  ⟨[43], some (2, 1)⟩,
  ⟨[45], some (2, 1)⟩,
  ⟨[42], some (2, 1)⟩,
  ⟨[47], some (2, 1)⟩,
  ⟨[109, 111, 100], some (2, 1)⟩,
  ⟨[110, 101, 103], some (1, 1)⟩,
  ⟨[97, 98, 115], some (1, 1)⟩,
  ⟨[109, 105, 110], some (2, 1)⟩,
  ⟨[109, 97, 120], some (2, 1)⟩,
  ⟨[60], some (2, 1)⟩,
  ⟨[62], some (2, 1)⟩,
  ⟨[61], some (2, 1)⟩,
  ⟨[97, 110, 100], some (2, 1)⟩,
  ⟨[111, 114], some (2, 1)⟩,
  ⟨[110, 111, 116], some (1, 1)⟩,
  ⟨[105, 110, 116, 63], some (1, 1)⟩,
  ⟨[115, 116, 114, 63], some (1, 1)⟩,
  ⟨[98, 111, 111, 108, 63], some (1, 1)⟩,
  ⟨[108, 105, 115, 116, 63], some (1, 1)⟩,
  ⟨[113, 117, 111, 116, 63], some (1, 1)⟩,
  ⟨[98, 111, 120, 63], some (1, 1)⟩,
  ⟨[108, 101, 110, 103, 116, 104], some (1, 1)⟩,
  ⟨[97, 112, 112, 101, 110, 100], some (2, 1)⟩,
  ⟨[110, 116, 104], some (2, 1)⟩,
  ⟨[115, 108, 105, 99, 101], some (3, 1)⟩,
  ⟨[119, 114, 97, 112], some (1, 1)⟩,
  ⟨[112, 97, 105, 114], some (2, 1)⟩,
  ⟨[117, 110, 112, 97, 105, 114], some (1, 2)⟩,
  ⟨[114, 101, 118, 101, 114, 115, 101], some (1, 1)⟩,
  ⟨[99, 117, 114, 114, 121], some (2, 1)⟩,
  ⟨[99, 111, 109, 112, 111, 115, 101], some (2, 1)⟩,
  ⟨[62, 115, 116, 114], some (1, 1)⟩,
  ⟨[62, 105, 110, 116], some (1, 1)⟩,
  ⟨[99, 97, 108, 108], none⟩,
  ⟨[100, 105, 112], none⟩,
  ⟨[107, 101, 101, 112], none⟩,
  ⟨[105, 102], none⟩,
  ⟨[119, 104, 101, 110], none⟩,
  ⟨[116, 105, 109, 101, 115], none⟩,
  ⟨[101, 97, 99, 104], none⟩,
  ⟨[108, 111, 111, 112], none⟩,
  ⟨[98, 111, 120], some (1, 1)⟩,
  ⟨[103, 101, 116], some (1, 1)⟩,
  ⟨[112, 117, 116], some (2, 0)⟩,
  ⟨[46], some (1, 0)⟩]
def namesL : List (List UInt8) := primsL.map (·.name)
def primR (s : List UInt8) : Option (Nat × Nat) := (primsL.find? fun p => p.eff.isSome && decide (p.name = s)).bind (·.eff)
/-- The primitives that move values: which they put back, from the bottom up. -/
def moveR (s : List UInt8) : Option (Nat × List Nat) :=
  if s = [100, 117, 112] then some (1, [0, 0]) else if s = [100, 114, 111, 112] then some (1, []) else if s = [115, 119, 97, 112] then some (2, [1, 0])
  else if s = [111, 118, 101, 114] then some (2, [0, 1, 0]) else if s = [114, 111, 116] then some (3, [1, 2, 0]) else if s = [110, 105, 112] then some (2, [1])
  else if s = [116, 117, 99, 107] then some (2, [1, 0, 1]) else none
/-- What stands on the list: a quotation that is known, or none. -/
abbrev Slot := Option (List Tree)
/-- An inference: how many items may still come; how many were taken from below; the list, its top first. -/
structure EfS where
  left : Nat
  inn : Int
  stk : List Slot
def popS (s : EfS) : Slot × EfS := match s.stk with
  | [] => (none, { s with inn := s.inn + 1 })
  | x :: r => (x, { s with stk := r })
/-- So many are taken: the last taken first. -/
def popsS : Nat → EfS → List Slot × EfS
  | 0, s => ([], s)
  | n + 1, s => ((popsS n (popS s).2).1 ++ [(popS s).1], (popsS n (popS s).2).2)
def pushS (s : EfS) (x : Slot) : EfS := { s with stk := x :: s.stk }
def applyS (i o : Nat) (s : EfS) : EfS := let t := (popsS i s).2; { t with stk := List.replicate o none ++ t.stk }
def quotS (s : EfS) : Except Int (List Tree × EfS) := match popS s with
  | (some l, t) => .ok (l, t)
  | (none, _) => .error 12
def slotOf : Tree → Slot
  | .quot l => some l
  | _ => none
def movesS (n : Nat) (ks : List Nat) (s : EfS) : EfS := ks.foldl (fun t k => pushS t ((popsS n s).1.getD k none)) (popsS n s).2
/-- A quotation by itself: what it takes and leaves. -/
def ownS (run : List Tree → EfS → Except Int EfS) (q : List Tree) (s : EfS) : Except Int (Int × Int × EfS) := match run q ⟨s.left, 0, []⟩ with
  | .ok t => .ok (t.inn, (t.stk.length : Int), { s with left := t.left })
  | .error e => .error e
/-- The primitives that call quotations; none: it is none of them. -/
def controlS (run : List Tree → EfS → Except Int EfS) (name : List UInt8) (s : EfS) : Option (Except Int EfS) :=
  if name = [99, 97, 108, 108] then some (match quotS s with
    | .error e => .error e
    | .ok (q, s) => run q s)
  else if name = [100, 105, 112] then some (match quotS s with
    | .error e => .error e
    | .ok (q, s) => match run q (popS s).2 with
      | .error e => .error e
      | .ok t => .ok (pushS t (popS s).1))
  else if name = [107, 101, 101, 112] then some (match quotS s with
    | .error e => .error e
    | .ok (q, s) => match run q (pushS (popS s).2 (popS s).1) with
      | .error e => .error e
      | .ok t => .ok (pushS t (popS s).1))
  else if name = [105, 102] then some (match quotS s with
    | .error e => .error e
    | .ok (b, s) => match quotS s with
      | .error e => .error e
      | .ok (a, s) => match ownS run a (popS s).2 with
        | .error e => .error e
        | .ok (ai, ao, s) => match ownS run b s with
          | .error e => .error e
          | .ok (bi, bo, s) => if ao - ai = bo - bi then .ok (applyS (max ai bi).toNat (max ai bi + ao - ai).toNat s) else .error 12)
  else if name = [119, 104, 101, 110] ∨ name = [116, 105, 109, 101, 115] then some (match quotS s with
    | .error e => .error e
    | .ok (q, s) => match ownS run q (popS s).2 with
      | .error e => .error e
      | .ok (ai, ao, s) => if ai = ao then .ok (applyS ai.toNat ao.toNat s) else .error 12)
  else if name = [108, 111, 111, 112] then some (match quotS s with
    | .error e => .error e
    | .ok (q, s) => match ownS run q s with
      | .error e => .error e
      | .ok (ai, ao, s) => if ao = ai + 1 then .ok (applyS ai.toNat ai.toNat s) else .error 12)
  else if name = [101, 97, 99, 104] then some (match quotS s with
    | .error e => .error e
    | .ok (q, s) => match ownS run q (popS s).2 with
      | .error e => .error e
      | .ok (ai, ao, s) => if 1 ≤ ai ∧ ao = ai - 1 then .ok (applyS ao.toNat ao.toNat s) else .error 12)
  else none
/-- One item. -/
def stepS (run : List Tree → EfS → Except Int EfS) (known : List UInt8 → Option (Int × Int)) (y : Tree) (s : EfS) : Except Int EfS :=
  match y with
  | .call name => match moveR name with
    | some (k, ks) => .ok (movesS k ks s)
    | none => match controlS run name s with
      | some r => r
      | none => match primR name with
        | some (i, o) => .ok (applyS i o s)
        | none => match known name with
          | some (i, o) => .ok (applyS i.toNat o.toNat s)
          | none => .error 10
  | t => .ok (pushS s (slotOf t))
/-- Items, one after the other. -/
def runS (known : List UInt8 → Option (Int × Int)) : Nat → List Tree → EfS → Except Int EfS
  | _, [], s => .ok s
  | 0, _ :: _, _ => .error 11
  | n + 1, y :: r, s => if s.left = 0 then .error 11 else
    match stepS (fun q s => runS known n q s) known y { s with left := s.left - 1 } with
    | .error e => .error e
    | .ok t => runS known n r t
end Go.Proofs.YtonkeklageehbaaGreatDoor

namespace Go.Proofs.YtonkeklageehbaaGreatDoor
open Go Go.Av
theorem fn_IndexByteL (l : List UInt8) (c : Int) : Av.Fn Tryz.prog 158 [.str l, .int .u8 c] (.int .i64 (Lib.indexByte l c.toNat.toUInt8)) := by
  refine Fn.of_calls (fn := Tryz.f158) (by kernel_rfl) rfl (by kernel_rfl) ?_
  intro W w g us hl hr hb
  obtain ⟨u1, _, rfl, ⟨h1, _⟩, u2, _, rfl, ⟨h2, _⟩, h3⟩ := hr
  have h1 : u1 = _ := h1; have h2 : u2 = _ := h2; have h3 : _ = [] := h3
  subst h1; subst h2; subst h3
  refine (Tryz.stringslite_IndexByte ⟨⟨l⟩⟩ c w).mono fun e w' ⟨h1, h2⟩ => ?_
  subst h2
  exact ⟨_, h1, rfl, RowKit.Below.refl _ _⟩
/-- The table's words. -/
def wordsL : List (List UInt8) := Lib.fields tableT
theorem f_Fields : Av.Fn Tryz.prog 104 [.str tableT] (.fz (wordsL.map .str) wordsL.length true) := by
  refine Fn.of_texts (fn := Tryz.f104) (by kernel_rfl) rfl (by kernel_rfl) ?_
  intro W w g us hl hr hb
  obtain ⟨u1, _, rfl, ⟨h1, _⟩, h3⟩ := hr
  have h1 : u1 = _ := h1; have h3 : _ = [] := h3
  subst h1; subst h3
  have hsz : tableT.length < 4294967281 := by decide
  have hasc : tableT.all (fun b => decide (b.toNat < 128)) = true := by decide +kernel
  refine (Tryz.strings_Fields ⟨⟨tableT⟩⟩ w hsz (fun j b h => ?_) (hl.space (a := 0) hb (by kernel_rfl))).mono fun e w' ⟨h1, h2⟩ => ⟨_, h1, h2⟩
  exact of_decide_eq_true (List.all_eq_true.1 hasc b (List.mem_of_getElem? h))
theorem f_Index (w : List UInt8) : Av.Fn Tryz.prog 145 [.str w, .str [58]] (.int .i64 (Lib.indexByte w 58)) := by
  have h : Av.Fn Tryz.prog 158 [.str w, .int .u8 58] (.int .i64 (Lib.indexByte w 58)) := fn_IndexByteL w 58
  refine ACalls.of_W tb_ok (fn := Tryz.f145) (n := 143) (by kernel_rfl) rfl (by kernel_rfl) rfl rfl (by simp) (go ?_)
  refine fork (fun h0 => go ?_) (fun h0 => go ?_)
  · refine VRet.mk [] .nil ?_
    have : w = [58] := (of_decide_eq_true (by simpa using h0)) |> Eq.symm
    subst this
    rw [show Lib.indexByte [58] 58 = 0 by decide]
    exact ⟨rfl, rfl⟩
  · refine Fn.use (h) (go ?_)
    refine VRet.mk [] .nil ?_
    exact ⟨rfl, rfl⟩
/-- A text, cut at its first colon. -/
def cutR (w : List UInt8) : List UInt8 × List UInt8 × Bool := if 0 ≤ Lib.indexByte w 58 then (w.take (Lib.indexByte w 58).toNat, w.drop ((Lib.indexByte w 58).toNat + 1), true) else (w, [], false)
theorem f_sCut (w : List UInt8) (hw : w.length ≤ 140737488351232) : Av.Fn Tryz.prog 130 [.str w, .str [58]] (.tup [.str (cutR w).1, .str (cutR w).2.1, .bool (cutR w).2.2]) := by
  have hb := indexByte_lt w 58
  have hi := f_Index w
  unfold cutR
  generalize Lib.indexByte w 58 = i at hb hi ⊢
  refine ACalls.of_W tb_ok (fn := Tryz.f130) (n := 23) (by kernel_rfl) rfl (by kernel_rfl) rfl rfl (by simp) (go ?_)
  refine Fn.use (hi) (go ?_)
  refine fork (fun h => go ?_) (fun h => go ?_)
  · rw [if_pos h]
    obtain ⟨k, rfl⟩ := Int.eq_ofNat_of_zero_le h
    have hk : k < w.length := by omega
    refine VQ.mk (.str (w.take k)) (go ?_) (go ?_)
    · exact ⟨rfl, rfl⟩
    refine VQ.mk (.int .i64 ((k : Int) + (([58] : List UInt8).length : Nat))) (by refine go ?_; refine VInt.fit (by show _ ≤ (k : Int) + 1; omega) (by show (k : Int) + 1 ≤ _; omega) (go ?_); exact ⟨rfl, rfl⟩) (go ?_)
    refine VRet.mk [] .nil ?_
    exact ⟨rfl, rfl⟩
  · rw [if_neg h]
    refine VRet.mk [] .nil ?_
    exact ⟨rfl, rfl⟩
theorem f_Cut (w : List UInt8) (hw : w.length ≤ 140737488351232) : Av.Fn Tryz.prog 105 [.str w, .str [58]] (.tup [.str (cutR w).1, .str (cutR w).2.1, .bool (cutR w).2.2]) := by
  refine ACalls.of_W tb_ok (fn := Tryz.f105) (n := 13) (by kernel_rfl) rfl (by kernel_rfl) rfl rfl (by simp) (go ?_)
  refine Fn.use (f_sCut w hw) (go ?_)
  refine VRet.mk [] .nil ?_
  exact ⟨rfl, rfl⟩
def entryR (w : List UInt8) : PrimE := match (cutR w).2.2 with
  | true => ⟨(cutR w).2.1, some (((cutR w).1.getD 0 0).toNat - 48, ((cutR w).1.getD 1 0).toNat - 48)⟩
  | false => ⟨w, none⟩
theorem entries : wordsL.map entryR = primsL := by kernel_rfl
theorem words_length : wordsL.length = 52 := by kernel_rfl
theorem words_ok : (wordsL.all fun w => decide (w.length ≤ 100) && (!(cutR w).2.2 || (decide ((cutR w).1.length = 2) && decide (48 ≤ ((cutR w).1.getD 0 0).toNat) && decide (((cutR w).1.getD 0 0).toNat ≤ 51) && decide (48 ≤ ((cutR w).1.getD 1 0).toNat) && decide (((cutR w).1.getD 1 0).toNat ≤ 51)))) = true := by decide +kernel
theorem word_ok {w : List UInt8} (h : w ∈ wordsL) : w.length ≤ 100 ∧ ((cutR w).2.2 = true → (cutR w).1.length = 2 ∧ 48 ≤ ((cutR w).1.getD 0 0).toNat ∧ ((cutR w).1.getD 0 0).toNat ≤ 51 ∧ 48 ≤ ((cutR w).1.getD 1 0).toNat ∧ ((cutR w).1.getD 1 0).toNat ≤ 51) := by
  have := List.all_eq_true.1 words_ok w h
  simp only [Bool.and_eq_true, Bool.or_eq_true, Bool.not_eq_true', decide_eq_true_eq] at this
  refine ⟨this.1, fun hc => ?_⟩
  rcases this.2 with h | h
  · rw [hc] at h; cases h
  · exact ⟨h.1.1.1.1, h.1.1.1.2, h.1.1.2, h.1.2, h.2⟩
def namesW (l : List (List UInt8)) : List AV := l.map fun w => .str (entryR w).name
theorem namesW_fold (l : List (List UInt8)) : l.map (fun w => AV.str (entryR w).name) = namesW l := rfl
@[simp] theorem namesW_length (l : List (List UInt8)) : (namesW l).length = l.length := by simp [namesW]

theorem f_Names : Av.Fn Tryz.prog 76 [] (.fz (namesL.map .str) 52 false) := by
  have hN : namesL.map AV.str = namesW wordsL := by
    rw [namesL, ← entries, namesW, List.map_map, List.map_map]; rfl
  rw [hN]
  have hF := f_Fields
  have hlen := words_length
  have hok : ∀ w ∈ wordsL, _ := fun w h => word_ok h
  generalize wordsL = l at hF hlen hok ⊢
  refine ACalls.of_W tb_ok (fn := Tryz.f76) (n := 27) (by kernel_rfl) rfl (by kernel_rfl) rfl rfl (by simp) (go ?_)
  refine Fn.use (hF) (go ?_)
  refine VLoop.mk [1, 9] AccI (fun i => [accV i.o i.k, .int .i64 i.k]) (fun i => accS i.o 1 (namesW (l.take i.k))) (fun i => i.k ≤ l.length ∧ (i.o = none → i.k = 0)) (fun i => l.length - i.k) ⟨0, none⟩ ?_ ?_
  · exact ⟨⟨by simp, by simp⟩, rfl, .nil⟩
  rintro ⟨k, o⟩ ⟨hk, ho⟩
  dsimp only at hk ho ⊢
  refine go ?_
  refine fork (fun hlt => go ?_) (fun hlt => ?_)
  · have hlt : k < l.length := by omega
    obtain ⟨t, ht⟩ : ∃ t, l[k]? = some t := ⟨l[k], by simp [hlt]⟩
    have hacc : namesW (l.take (k + 1)) = namesW (l.take k) ++ [.str (entryR t).name] := by
      rw [take_succ_at ht]; simp [namesW]
    have hl2 : (namesW (l.take k)).length = k := by simp [namesW]; omega
    have hw := (hok t (List.mem_of_getElem? ht)).1
    have hC := f_Cut t (by omega)
    have he : ∀ c, (cutR t).2.2 = c → (entryR t).name = if c = true then (cutR t).2.1 else t := fun c hc => by
      unfold entryR; rw [hc]; cases c <;> rfl
    generalize hc : (cutR t).2.2 = c at hC he
    have he := he c rfl
    refine VNth.mk (.str t) (by rw [mulN_eq]; simp [ht]) (go ?_)
    refine Fn.use (hC) (go ?_)
    cases c with
    | true =>
      rw [if_pos rfl] at he
      refine go ?_
      cases o with
      | none =>
        obtain rfl : k = 0 := ho rfl
        refine go ?_
        refine VAll.mk (fun b2 => go ?_)
        refine ⟨⟨1, some b2⟩, ⟨by dsimp only; omega, by simp⟩, by dsimp only; omega, rfl, .cons 0 ?_ .nil⟩
        dsimp only
        rw [hacc, he]; simp [namesW]
      | some bo =>
        refine go ?_
        refine VGd.mk ⟨rfl, by omega, by rw [mulN_eq, hl2]; simp, by simp; omega⟩ (go ?_)
        refine VAll.mk (fun b2 => go ?_)
        refine ⟨⟨k + 1, some b2⟩, ⟨by dsimp only; omega, by simp⟩, by dsimp only; omega, rfl, .cons 0 ?_ .nil⟩
        dsimp only
        rw [hacc, he, mulN_eq, List.take_of_length_le (by rw [hl2]; simp)]; rfl
    | false =>
      rw [if_neg (by simp)] at he
      refine go ?_
      cases o with
      | none =>
        obtain rfl : k = 0 := ho rfl
        refine go ?_
        refine VAll.mk (fun b2 => go ?_)
        refine ⟨⟨1, some b2⟩, ⟨by dsimp only; omega, by simp⟩, by dsimp only; omega, rfl, .cons 0 ?_ .nil⟩
        dsimp only
        rw [hacc, he]; simp [namesW]
      | some bo =>
        refine go ?_
        refine VGd.mk ⟨rfl, by omega, by rw [mulN_eq, hl2]; simp, by simp; omega⟩ (go ?_)
        refine VAll.mk (fun b2 => go ?_)
        refine ⟨⟨k + 1, some b2⟩, ⟨by dsimp only; omega, by simp⟩, by dsimp only; omega, rfl, .cons 0 ?_ .nil⟩
        dsimp only
        rw [hacc, he, mulN_eq, List.take_of_length_le (by rw [hl2]; simp)]; rfl
  · obtain rfl : k = l.length := by omega
    rw [List.take_length]
    cases o with
    | none =>
      have := ho rfl
      omega
    | some bo =>
      refine go ?_
      refine VRet.mk [] .nil ?_
      have hnl : (namesW l).length = l.length := by simp [namesW]
      have htk : (namesW l).take l.length = namesW l := List.take_of_length_le (by omega)
      refine ⟨?_, rfl⟩
      simp only [mulN_eq, Nat.mul_one, htk]
      rw [hlen]
/-- The first that has an effect of its own and this name. -/
def primE (l : List PrimE) (s : List UInt8) : Option (Nat × Nat) := (l.find? fun p => p.eff.isSome && decide (p.name = s)).bind (·.eff)
theorem primE_hit {n s : List UInt8} {x : Nat × Nat} {r : List PrimE} (h : n = s) : primE (⟨n, some x⟩ :: r) s = some x := by
  subst h; simp [primE]
theorem primE_miss {p : PrimE} {s : List UInt8} {r : List PrimE} (h : (p.eff.isSome && decide (p.name = s)) = false) : primE (p :: r) s = primE r s := by
  unfold primE
  rw [List.find?_cons_of_neg (by rw [h]; simp)]
def primV (x : Option (Nat × Nat)) : AV := .tup [.agg [.int .i64 ((x.map (·.1)).getD 0 : Nat), .int .i64 ((x.map (·.2)).getD 0 : Nat)], .bool x.isSome]
theorem f_Prim (s : List UInt8) : Av.Fn Tryz.prog 124 [.str s] (primV (primR s)) := by
  have hN : primR s = primE (wordsL.map entryR) s := by rw [entries]; rfl
  rw [hN]
  have hF := f_Fields
  have hlen := words_length
  have hok : ∀ w ∈ wordsL, _ := fun w h => word_ok h
  generalize wordsL = l at hF hlen hok ⊢
  refine ACalls.of_W tb_ok (fn := Tryz.f124) (n := 38) (by kernel_rfl) rfl (by kernel_rfl) rfl rfl (by simp) (go ?_)
  refine VAll.mk (fun b => go ?_)
  refine Fn.use (hF) (go ?_)
  refine VLoop.mk [11] Nat (fun k => [.int .i64 k]) (fun _ => [(b, .box [.int .i64 0, .int .i64 0])]) (fun k => k ≤ l.length ∧ primE ((l.drop k).map entryR) s = primE (l.map entryR) s) (fun k => l.length - k) 0 ?_ ?_
  · exact ⟨⟨by simp, by simp⟩, rfl, .cons 0 rfl .nil⟩
  rintro k ⟨hk, hI⟩
  dsimp only at hk hI ⊢
  refine go ?_
  refine fork (fun hlt => go ?_) (fun hlt => ?_)
  · have hlt : k < l.length := by omega
    obtain ⟨t, ht⟩ : ∃ t, l[k]? = some t := ⟨l[k], by simp [hlt]⟩
    obtain ⟨hw, hw2⟩ := hok t (List.mem_of_getElem? ht)
    have hC := f_Cut t (by omega)
    have hd : l.drop k = t :: l.drop (k + 1) := by
      rw [List.drop_eq_getElem_cons hlt]
      congr 1
      rw [List.getElem?_eq_getElem hlt] at ht
      exact Option.some.inj ht
    rw [hd, List.map_cons] at hI
    have he : ∀ c, (cutR t).2.2 = c → entryR t = match c with
        | true => ⟨(cutR t).2.1, some (((cutR t).1.getD 0 0).toNat - 48, ((cutR t).1.getD 1 0).toNat - 48)⟩
        | false => ⟨t, none⟩ := fun c hc => by
      unfold entryR; rw [hc]
    generalize hc : (cutR t).2.2 = c at hC he hw2
    have he := he c rfl
    rw [he] at hI
    refine VNth.mk (.str t) (by rw [mulN_eq]; simp [ht]) (go ?_)
    refine Fn.use (hC) (go ?_)
    cases c with
    | true =>
      refine go ?_
      obtain ⟨h1, h2, h3, h4, h5⟩ := hw2 rfl
      refine fork (fun hs => go ?_) (fun hs => go ?_)
      · have hs : (cutR t).2.1 = s := of_decide_eq_true (by simpa using hs)
        refine VDraw.chain [9] (go ?_)
        have d0 : (0 : Int) ≤ (((cutR t).1.getD 0 0).toNat : Int) - 48 ∧ (((cutR t).1.getD 0 0).toNat : Int) - 48 ≤ 3 := by omega
        have d1 : (0 : Int) ≤ (((cutR t).1.getD 1 0).toNat : Int) - 48 ∧ (((cutR t).1.getD 1 0).toNat : Int) - 48 ≤ 3 := by omega
        refine VQ.mk (.int .u8 ((((cutR t).1.getD 0 0).toNat : Int) - 48)) (by refine go ?_; refine VInt.fit d0.1 (Int.le_trans d0.2 (by decide)) (go ?_); exact ⟨rfl, rfl⟩) (go ?_)
        refine VQ.mk (.int .u8 ((((cutR t).1.getD 1 0).toNat : Int) - 48)) (by refine go ?_; refine VInt.fit d1.1 (Int.le_trans d1.2 (by decide)) (go ?_); exact ⟨rfl, rfl⟩) (go ?_)
        refine VRet.mk [] .nil ?_
        rw [← hI, primE_hit hs]
        refine ⟨?_, rfl⟩
        have e0 : ((((cutR t).1.getD 0 0).toNat - 48 : Nat) : Int) = (((cutR t).1.getD 0 0).toNat : Int) - 48 := by omega
        have e1 : ((((cutR t).1.getD 1 0).toNat - 48 : Nat) : Int) = (((cutR t).1.getD 1 0).toNat : Int) - 48 := by omega
        unfold primV
        simp only [Option.map_some, Option.getD_some, Option.isSome_some, e0, e1]
        rfl
      · have hs : ¬ (cutR t).2.1 = s := by simpa using hs
        rw [primE_miss (by simp [hs])] at hI
        exact ⟨k + 1, ⟨by omega, hI⟩, by omega, rfl, .cons 0 rfl .nil⟩
    | false =>
      refine go ?_
      rw [primE_miss (by simp)] at hI
      exact ⟨k + 1, ⟨by omega, hI⟩, by omega, rfl, .cons 0 rfl .nil⟩
  · obtain rfl : k = l.length := by omega
    rw [List.drop_length] at hI
    rw [← hI]
    refine go ?_
    refine VRet.mk [] .nil ?_
    exact ⟨rfl, rfl⟩
end Go.Proofs.YtonkeklageehbaaGreatDoor
