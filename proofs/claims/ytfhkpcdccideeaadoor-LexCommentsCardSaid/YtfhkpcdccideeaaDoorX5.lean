/- Lex: awake. The reference's Chars and Bad. Tokens of texts that stand one behind the other: plain Lean. Conditions: as each says. LexComments: the walk. -/
import Derived.Test.YtfhkpcdccideeaaDoorX4
set_option linter.all false
namespace Go.Proofs.YtfhkpcdccideeaaDoor
open Go Go.Av
theorem name_dup : nameR [100, 117, 112] = true := by decide +kernel
theorem name_7 : nameR [55] = false := by decide +kernel
theorem f8_of : Av.Fn Tryd.prog 8 [] (.bool true) := by
  have h1 := f11_of [100, 117, 112] (by decide)
  have h2 := f11_of [55] (by decide)
  rw [name_dup] at h1
  rw [name_7] at h2
  refine ACalls.of_W tb_ok (fn := Tryd.f8) (n := 6) (by kernel_rfl) rfl (by kernel_rfl) rfl rfl (by simp) (go ?_)
  refine Fn.use (h1) (go ?_)
  refine Fn.use (h2) (go ?_)
  refine VRet.mk [] .nil ?_
  simp
end Go.Proofs.YtfhkpcdccideeaaDoor

namespace Go.Proofs.YtfhkpcdccideeaaDoor
open Go Go.Av
structure Ch where
  r : Nat
  a : Nat
  z : Nat
  bad : Bool
def chL (i : Nat) : List (Nat × Nat) → List Ch
  | [] => []
  | (r, k) :: rs => ⟨r, i, i + k, badB (r, k)⟩ :: chL (i + k) rs
def Ch.cells (c : Ch) : List AV := [.int .i32 c.r, .int .i64 c.a, .int .i64 c.z, .bool c.bad]
def chC (l : List Ch) : List AV := (l.map Ch.cells).flatten
@[simp] theorem chC_length (l : List Ch) : (chC l).length = l.length * 4 := by
  induction l with
  | nil => rfl
  | cons t l ih => show (t.cells ++ chC l).length = _; rw [List.length_append, ih]; simp [Ch.cells]; omega
theorem chC_snoc (l : List Ch) (t : Ch) : chC (l ++ [t]) = chC l ++ t.cells := by simp [chC]
theorem take_chC (l : List Ch) : (chC l).take (l.length * 4) = chC l := List.take_of_length_le (by simp)
theorem chC_at : ∀ {l : List Ch} {r : List AV} {i : Nat} {t : Ch}, l[i]? = some t → ((chC l ++ r).drop (i * 4)).take 4 = t.cells
  | [], _, _, _, h => by simp at h
  | x :: l, r, 0, t, h => by simp at h; subst h; rfl
  | x :: l, r, i + 1, t, h => by
    have := chC_at (l := l) (r := r) (i := i) (t := t) (by simpa using h)
    rw [← this, show (i + 1) * 4 = 4 + i * 4 by omega, ← List.drop_drop]; rfl
theorem chL_length : ∀ (i : Nat) (rs : List (Nat × Nat)), (chL i rs).length = rs.length
  | _, [] => rfl
  | i, (r, k) :: rs => by simp [chL, chL_length]
theorem chL_append : ∀ (i : Nat) (a b : List (Nat × Nat)), chL i (a ++ b) = chL i a ++ chL (i + (a.map (·.2)).sum) b
  | i, [], b => by simp [chL]
  | i, (r, k) :: a, b => by simp [chL, chL_append (i + k) a b, Nat.add_assoc]
theorem runes_len (l : List UInt8) : (runes l).length ≤ l.length := by
  induction l using runes_ind with
  | h0 => simp
  | h1 l hl ih =>
    obtain ⟨h1, h2, _⟩ := dec_pos l hl
    rw [runes_cons hl, List.length_cons]
    rw [List.length_drop] at ih; omega
/-- How long a character's own bytes are. -/
def encN (r : Nat) : Nat := (Utf8.encode (r : Int)).data.toList.length
theorem enc_len (r : Nat) : encN r = if r ≤ 1114111 ∧ ¬ (55296 ≤ r ∧ r ≤ 57343) then (if r < 128 then 1 else if r < 2048 then 2 else if r < 65536 then 3 else 4) else 3 := by
  unfold encN
  have hv : Utf8.valid (r : Int) = decide (r ≤ 1114111 ∧ ¬ (55296 ≤ r ∧ r ≤ 57343)) := by
    simp only [Utf8.valid]
    rw [Bool.eq_iff_iff]; simp; omega
  by_cases h : r ≤ 1114111 ∧ ¬ (55296 ≤ r ∧ r ≤ 57343)
  · rw [if_pos h]
    rw [decide_eq_true h] at hv
    simp only [Utf8.encode, hv, if_true, Int.toNat_natCast]
    by_cases h1 : r < 128
    · rw [if_pos h1, if_pos h1]; rfl
    rw [if_neg h1, if_neg h1]
    by_cases h2 : r < 2048
    · rw [if_pos h2, if_pos h2]; rfl
    rw [if_neg h2, if_neg h2]
    by_cases h3 : r < 65536
    · rw [if_pos h3, if_pos h3]; rfl
    rw [if_neg h3, if_neg h3]; rfl
  · rw [if_neg h]
    rw [decide_eq_false h] at hv
    simp only [Utf8.encode, hv, Bool.false_eq_true, if_false]
    rw [if_neg (by decide), if_neg (by decide), if_pos (by decide)]; rfl
theorem dec_enc {l : List UInt8} (h : l ≠ []) : badB (dec l) = false → encN (dec l).1 = (dec l).2 := by
  have hl : 1 ≤ l.length := by cases l with | nil => exact absurd rfl h | cons => simp
  rw [enc_len, dec_N]
  generalize (l.getD 0 0).toNat = a
  generalize (l.getD 1 0).toNat = b
  generalize (l.getD 2 0).toNat = c
  generalize (l.getD 3 0).toNat = d
  intro hb
  unfold Lib.decodeN at hb ⊢
  repeat' split
  all_goals first | (simp [badB] at hb; done) | (dsimp only at *; omega) | skip
  all_goals simp_all [badB]
  all_goals omega
def charsR (l : List UInt8) : List Ch := chL 0 (runes l)
structure ChI where
  o : Option Nat
  i : Nat
  out : List Ch
set_option maxHeartbeats 800000 in
theorem f_Chars (l : List UInt8) (hl : l.length ≤ 1000000000) : Av.Fn Tryd.prog 24 [.str l] (.fz (chC (charsR l)) (charsR l).length false) := by
  refine ACalls.of_W tb_ok (fn := Tryd.f24) (n := 45) (by kernel_rfl) rfl (by kernel_rfl) rfl rfl (by simp) (go ?_)
  refine VAll.mk (fun b => go ?_)
  refine VLoop.mk [3] ChI (fun i => [accV i.o i.out.length]) (fun i => (b, .siter l i.i) :: accS i.o 4 (chC i.out))
    (fun i => i.i ≤ l.length ∧ i.out.length ≤ i.i ∧ (i.o = none → i.out = []) ∧ i.out ++ chL i.i (runes (l.drop i.i)) = charsR l) (fun i => l.length - i.i) ⟨none, 0, []⟩ ?_ ?_
  · exact ⟨⟨by simp, by simp, by simp, by simp [charsR]⟩, rfl, .cons 0 rfl .nil⟩
  rintro ⟨o, i, out⟩ ⟨hi, hol, ho, hI⟩
  dsimp only at hi hol ho hI ⊢
  cases o with
  | none =>
    have hacc := ho rfl
    subst hacc
    refine go ?_
    refine fork (fun hlt => go ?_) (fun hlt => go ?_)
    · have hlt : i < l.length := by omega
      have hne' : l.drop i ≠ [] := by simp; omega
      have hc := dec_pos _ hne'
      have hbad := dec_bad hne'
      have henc := dec_enc hne'
      have hru := runes_cons hne'
      rw [← dec_at] at hc hbad henc hru
      generalize hdc : Utf8.decode ⟨⟨l⟩⟩ i = c at hc hbad henc hru
      rw [List.drop_drop] at hru
      obtain ⟨r, k⟩ := c
      dsimp only at hc hbad henc hru ⊢
      rw [List.length_drop] at hc hbad
      rw [show (Utf8.encode (r : Int)).data.toList.length = encN r from rfl]
      cases hbb : badB (r, k) with
      | true =>
        have hrk : r = 65533 ∧ k = 1 := by simpa [badB] using hbb
        obtain ⟨rfl, rfl⟩ := hrk
        have he3 : encN 65533 = 3 := by rw [enc_len]; rfl
        rw [he3]
        rw [hbb, decide_eq_true rfl, Bool.true_and, Bool.not_eq_true', Bool.and_eq_false_iff] at hbad
        refine VInt.to ((i + 3 : Nat) : Int) (by omega) (by omega) (by omega) (go ?_)
        by_cases h3 : i + 3 ≤ l.length
        · have h4 : ¬ (l.drop i).take 3 = [239, 191, 189] := by
            rcases hbad with h | h
            · simp at h; omega
            · simpa using h
          refine VIf.no (decide_eq_false (by omega)) (go ?_)
          refine VIf.yes (by rw [List.drop_take, Nat.add_sub_cancel_left]; simp [h4]) (go ?_)
          refine VAll.mk (fun b2 => go ?_)
          refine ⟨⟨some b2, i + 1, [⟨65533, i, i + 1, true⟩]⟩, ⟨?_, ?_, ?_, ?_⟩, ?_, ?_, ?_⟩
          · dsimp only; omega
          · simp; try omega
          · intro h; cases h
          · dsimp only; rw [← hI, hru, chL, hbb]; rfl
          · dsimp only; omega
          · simp [accV]
          · exact .cons 1 rfl (.cons 0 rfl .nil)
        · refine VIf.yes (decide_eq_true (by omega)) (go ?_)
          refine VAll.mk (fun b2 => go ?_)
          refine ⟨⟨some b2, i + 1, [⟨65533, i, i + 1, true⟩]⟩, ⟨?_, ?_, ?_, ?_⟩, ?_, ?_, ?_⟩
          · dsimp only; omega
          · simp; try omega
          · intro h; cases h
          · dsimp only; rw [← hI, hru, chL, hbb]; rfl
          · dsimp only; omega
          · simp [accV]
          · exact .cons 1 rfl (.cons 0 rfl .nil)
      | false =>
        rw [henc hbb]
        refine VInt.to ((i + k : Nat) : Int) (by omega) (by omega) (by omega) (go ?_)
        by_cases hr : r = 65533
        · subst hr
          have hk3 : k = 3 := by rw [← henc hbb, enc_len]; rfl
          subst hk3
          rw [hbb, decide_eq_true rfl, Bool.true_and, Bool.not_eq_false', Bool.and_eq_true, decide_eq_true_eq, decide_eq_true_eq] at hbad
          refine go ?_
          refine VIf.no (decide_eq_false (by omega)) (go ?_)
          refine VIf.no (by rw [List.drop_take, Nat.add_sub_cancel_left, hbad.2]; rfl) (go ?_)
          refine VAll.mk (fun b2 => go ?_)
          refine ⟨⟨some b2, i + 3, [⟨65533, i, i + 3, false⟩]⟩, ⟨?_, ?_, ?_, ?_⟩, ?_, ?_, ?_⟩
          · dsimp only; omega
          · simp; try omega
          · intro h; cases h
          · dsimp only; rw [← hI, hru, chL, hbb]; rfl
          · dsimp only; omega
          · simp [accV]
          · exact .cons 1 rfl (.cons 0 rfl .nil)
        · refine VIf.no (decide_eq_false (by omega)) (go ?_)
          refine VAll.mk (fun b2 => go ?_)
          refine ⟨⟨some b2, i + k, [⟨r, i, i + k, false⟩]⟩, ⟨?_, ?_, ?_, ?_⟩, ?_, ?_, ?_⟩
          · dsimp only; omega
          · simp; try omega
          · intro h; cases h
          · dsimp only; rw [← hI, hru, chL, hbb]; rfl
          · dsimp only; omega
          · simp [accV]
          · exact .cons 1 rfl (.cons 0 rfl .nil)
    · rw [List.drop_eq_nil_of_le (by omega)] at hI
      refine VRet.mk [] .nil ?_
      rw [← hI]; simp [chL, chC]; try rfl
  | some bo =>
    refine go ?_
    refine fork (fun hlt => go ?_) (fun hlt => go ?_)
    · have hlt : i < l.length := by omega
      have hne' : l.drop i ≠ [] := by simp; omega
      have hc := dec_pos _ hne'
      have hbad := dec_bad hne'
      have henc := dec_enc hne'
      have hru := runes_cons hne'
      rw [← dec_at] at hc hbad henc hru
      generalize hdc : Utf8.decode ⟨⟨l⟩⟩ i = c at hc hbad henc hru
      rw [List.drop_drop] at hru
      obtain ⟨r, k⟩ := c
      dsimp only at hc hbad henc hru ⊢
      rw [List.length_drop] at hc hbad
      rw [show (Utf8.encode (r : Int)).data.toList.length = encN r from rfl]
      cases hbb : badB (r, k) with
      | true =>
        have hrk : r = 65533 ∧ k = 1 := by simpa [badB] using hbb
        obtain ⟨rfl, rfl⟩ := hrk
        have he3 : encN 65533 = 3 := by rw [enc_len]; rfl
        rw [he3]
        rw [hbb, decide_eq_true rfl, Bool.true_and, Bool.not_eq_true', Bool.and_eq_false_iff] at hbad
        refine VInt.to ((i + 3 : Nat) : Int) (by omega) (by omega) (by omega) (go ?_)
        by_cases h3 : i + 3 ≤ l.length
        · have h4 : ¬ (l.drop i).take 3 = [239, 191, 189] := by
            rcases hbad with h | h
            · simp at h; omega
            · simpa using h
          refine VIf.no (decide_eq_false (by omega)) (go ?_)
          refine VIf.yes (by rw [List.drop_take, Nat.add_sub_cancel_left]; simp [h4]) (go ?_)
          refine VGd.mk (by simp; omega) (go ?_)
          refine VAll.mk (fun b2 => go ?_)
          refine ⟨⟨some b2, i + 1, out ++ [⟨65533, i, i + 1, true⟩]⟩, ⟨?_, ?_, ?_, ?_⟩, ?_, ?_, ?_⟩
          · dsimp only; omega
          · simp; try omega
          · intro h; cases h
          · dsimp only; rw [List.append_assoc, ← hI, hru, chL, hbb]; rfl
          · dsimp only; omega
          · simp [accV]
          · simp only [accS, chC_snoc]; rw [mulN_eq, take_chC]; exact .cons 1 rfl (.cons 0 rfl .nil)
        · refine VIf.yes (decide_eq_true (by omega)) (go ?_)
          refine VGd.mk (by simp; omega) (go ?_)
          refine VAll.mk (fun b2 => go ?_)
          refine ⟨⟨some b2, i + 1, out ++ [⟨65533, i, i + 1, true⟩]⟩, ⟨?_, ?_, ?_, ?_⟩, ?_, ?_, ?_⟩
          · dsimp only; omega
          · simp; try omega
          · intro h; cases h
          · dsimp only; rw [List.append_assoc, ← hI, hru, chL, hbb]; rfl
          · dsimp only; omega
          · simp [accV]
          · simp only [accS, chC_snoc]; rw [mulN_eq, take_chC]; exact .cons 1 rfl (.cons 0 rfl .nil)
      | false =>
        rw [henc hbb]
        refine VInt.to ((i + k : Nat) : Int) (by omega) (by omega) (by omega) (go ?_)
        by_cases hr : r = 65533
        · subst hr
          have hk3 : k = 3 := by rw [← henc hbb, enc_len]; rfl
          subst hk3
          rw [hbb, decide_eq_true rfl, Bool.true_and, Bool.not_eq_false', Bool.and_eq_true, decide_eq_true_eq, decide_eq_true_eq] at hbad
          refine go ?_
          refine VIf.no (decide_eq_false (by omega)) (go ?_)
          refine VIf.no (by rw [List.drop_take, Nat.add_sub_cancel_left, hbad.2]; rfl) (go ?_)
          refine VGd.mk (by simp; omega) (go ?_)
          refine VAll.mk (fun b2 => go ?_)
          refine ⟨⟨some b2, i + 3, out ++ [⟨65533, i, i + 3, false⟩]⟩, ⟨?_, ?_, ?_, ?_⟩, ?_, ?_, ?_⟩
          · dsimp only; omega
          · simp; try omega
          · intro h; cases h
          · dsimp only; rw [List.append_assoc, ← hI, hru, chL, hbb]; rfl
          · dsimp only; omega
          · simp [accV]
          · simp only [accS, chC_snoc]; rw [mulN_eq, take_chC]; exact .cons 1 rfl (.cons 0 rfl .nil)
        · refine VIf.no (decide_eq_false (by omega)) (go ?_)
          refine VGd.mk (by simp; omega) (go ?_)
          refine VAll.mk (fun b2 => go ?_)
          refine ⟨⟨some b2, i + k, out ++ [⟨r, i, i + k, false⟩]⟩, ⟨?_, ?_, ?_, ?_⟩, ?_, ?_, ?_⟩
          · dsimp only; omega
          · simp; try omega
          · intro h; cases h
          · dsimp only; rw [List.append_assoc, ← hI, hru, chL, hbb]; rfl
          · dsimp only; omega
          · simp [accV]
          · simp only [accS, chC_snoc]; rw [mulN_eq, take_chC]; exact .cons 1 rfl (.cons 0 rfl .nil)
    · rw [List.drop_eq_nil_of_le (by omega)] at hI
      refine VRet.mk [] .nil ?_
      rw [← hI]; simp [chL, take_chC]; try rfl
def fb : List Ch → Int
  | [] => -1
  | c :: r => if c.bad then (c.a : Int) else fb r
theorem fb_chL : ∀ (a : Nat) (rs : List (Nat × Nat)), fb (chL a rs) = match faultL rs with
    | none => -1
    | some j => ((a + j : Nat) : Int)
  | a, [] => rfl
  | a, (r, k) :: rs => by
    rw [chL, fb, faultL, fb_chL (a + k) rs]
    cases badB (r, k) with
    | true => simp
    | false =>
      cases faultL rs with
      | none => simp
      | some j => simp [Nat.add_assoc]
theorem f_Bad (l : List UInt8) (hl : l.length ≤ 1000000000) : Av.Fn Tryd.prog 15 [.str l] (.int .i64 (faultV l)) := by
  have hfb : fb (charsR l) = faultV l := by
    unfold charsR faultV faultR
    rw [fb_chL]
    cases faultL (runes l) <;> simp
  have hcl : (charsR l).length ≤ 1000000000 := by
    have := runes_len l
    unfold charsR; rw [chL_length]; omega
  have fc := f_Chars l hl
  generalize charsR l = cs at fc hfb hcl
  refine ACalls.of_W tb_ok (fn := Tryd.f15) (n := 23) (by kernel_rfl) rfl (by kernel_rfl) rfl rfl (by simp) (go ?_)
  refine Fn.use (fc) (go ?_)
  refine VLoop.mk [4] Nat (fun i => [.int .i64 i]) (fun _ => []) (fun i => i ≤ cs.length ∧ fb (cs.drop i) = faultV l) (fun i => cs.length - i) 0 ?_ ?_
  · exact ⟨⟨by omega, hfb⟩, rfl, .nil⟩
  intro i ⟨hi, hI⟩
  refine go ?_
  refine fork (fun hlt => go ?_) (fun hlt => go ?_)
  · have hlt : i < cs.length := by omega
    have hdl : cs.drop i = cs[i] :: cs.drop (i + 1) := List.drop_eq_getElem_cons hlt
    have hx : cs[i]? = some cs[i] := by simp [hlt]
    generalize cs[i] = x at hx hdl
    have e1 := chC_at (r := []) hx
    rw [List.append_nil] at e1
    obtain ⟨r, a, z, bad⟩ := x
    rw [hdl, fb] at hI
    have hcells : (cs.length * 4) = (chC cs).length := by simp
    have n3 : ((chC cs).drop (i * 4))[3]? = some (.bool bad) := by
      have := congrArg (·[3]?) e1
      simpa [List.getElem?_take, Ch.cells] using this
    have n1 : ((chC cs).drop (i * 4))[1]? = some (.int .i64 a) := by
      have := congrArg (·[1]?) e1
      simpa [List.getElem?_take, Ch.cells] using this
    refine VNth.mk (.bool bad) (by simpa using n3) (go ?_)
    dsimp only at hI
    cases bad with
    | true =>
      refine go ?_
      refine VNth.mk (.int .i64 a) (by simpa using n1) (go ?_)
      refine VRet.mk [] .nil ?_
      rw [← hI]; exact ⟨rfl, rfl⟩
    | false =>
      refine go ?_
      exact ⟨i + 1, ⟨by omega, by simpa using hI⟩, by omega, rfl, .nil⟩
  · rw [List.drop_eq_nil_of_le (by omega)] at hI
    refine VRet.mk [] .nil ?_
    rw [← hI]; exact ⟨rfl, rfl⟩
end Go.Proofs.YtfhkpcdccideeaaDoor

namespace Go.Proofs.YtfhkpcdccideeaaDoor
open Go Go.Av
theorem spanR_append (p : Nat → Bool) : ∀ (a b : List (Nat × Nat)), spanR p (a ++ b) = if a.any (fun x => p x.1) then spanR p a else (a.map (·.2)).sum + spanR p b
  | [], b => by simp
  | (r, k) :: a, b => by
    rw [List.cons_append, spanR, spanR_append p a b]
    cases h : p r with
    | true => simp [h, spanR]
    | false =>
      simp only [h, List.any_cons, Bool.false_or, Bool.false_eq_true, if_false, spanR, List.map_cons, List.sum_cons]
      split <;> omega
theorem blank_nl : blankB ((10 : UInt8).toNat : Nat) = true := by decide
theorem wlen_nl (r t : List UInt8) : wlen (r ++ 10 :: t) = wlen r := by
  unfold wlen
  rw [runes_app r 10 t (by decide), spanR_append]
  split
  · rfl
  · rename_i h
    rw [runes_ascii 10 t (by decide), spanR, if_pos blank_nl, spanR_none (by simpa using h)]; rfl
theorem trimL_nl (l t : List UInt8) : trimL (l ++ 10 :: t) = if trimL l = [] then trimL t else trimL l ++ 10 :: t := by
  unfold trimL
  rw [runes_app l 10 t (by decide), spanR_append]
  by_cases h : (runes l).any (fun x => !blankB x.1) = true
  · rw [if_pos h]
    have hlt : spanR (fun r => !blankB r) (runes l) < l.length := by
      rw [← sum_runes l]
      clear t
      have hp : ∀ x ∈ runes l, 1 ≤ x.2 := by
        clear h
        induction l using runes_ind with
        | h0 => simp
        | h1 l hl ih =>
          rw [runes_cons hl]
          intro x hx
          rcases List.mem_cons.1 hx with rfl | hx
          · exact (dec_pos l hl).1
          · exact ih x hx
      revert h hp
      generalize runes l = rs
      intro h hp
      induction rs with
      | nil => simp at h
      | cons c rs ih =>
        obtain ⟨r, k⟩ := c
        have hk : 1 ≤ k := hp (r, k) (List.mem_cons_self ..)
        rw [spanR, List.map_cons, List.sum_cons]
        cases hr : blankB r with
        | false => simp; omega
        | true =>
          simp [hr] at h
          have := ih (by simpa using h) (fun x hx => hp x (List.mem_cons_of_mem _ hx))
          simp; omega
    rw [if_neg (by simp; omega), List.drop_append_of_le_length (by omega)]
  · rw [if_neg h]
    rw [Bool.not_eq_true] at h
    rw [spanR_none (rs := runes l) h, sum_runes, if_pos (by simp), runes_ascii 10 t (by decide), spanR]
    rw [if_neg (by rw [blank_nl]; simp)]
    rw [show l.length + (1 + spanR (fun r => !blankB r) (runes t)) = l.length + (spanR (fun r => !blankB r) (runes t) + 1) by omega, ← List.drop_drop, List.drop_left]
    rfl
theorem trimL_nl0 (t : List UInt8) : trimL (10 :: t) = trimL t := by
  have := trimL_nl [] t
  rw [if_pos (show trimL [] = [] from rfl)] at this; exact this
theorem indexByte_nl : ∀ (r t : List UInt8), Lib.indexByte (r ++ 10 :: t) 10 = if Lib.indexByte r 10 < 0 then (r.length : Int) else Lib.indexByte r 10
  | [], t => by simp [Lib.indexByte]
  | c :: r, t => by
    have ih := indexByte_nl r t
    have hb := indexByte_lt r 10
    have hb2 := indexByte_lt (r ++ 10 :: t) 10
    rw [List.cons_append]
    unfold Lib.indexByte
    rw [ih] at hb2 ⊢
    simp only [beq_iff_eq, List.length_cons]
    repeat' split
    all_goals omega
theorem textL_app (a : Nat) (y : List UInt8) : ∀ (r acc : List UInt8) (i : Nat), (textL a r acc i).2.2 = 0 → textL a (r ++ y) acc i = textL a r acc i
  | [], acc, i, h => by simp [textL] at h
  | c :: r, acc, i, h => by
    rw [List.cons_append, textL_cons, textL_cons]
    rw [textL_cons] at h
    by_cases h1 : c = 34
    · rw [if_pos h1, if_pos h1]
    · rw [if_neg h1] at h ⊢
      rw [if_neg h1]
      by_cases h2 : c = 92
      · rw [if_pos h2] at h ⊢
        rw [if_pos h2]
        match r with
        | [] => simp at h
        | d :: r' =>
          rw [List.cons_append]
          dsimp only at h ⊢
          cases he : esc d with
          | none => rfl
          | some e =>
            rw [he] at h
            dsimp only at h ⊢
            exact textL_app a y r' _ _ h
      · rw [if_neg h2] at h ⊢
        rw [if_neg h2]
        exact textL_app a y r _ _ h
theorem textL_shift (a d : Nat) : ∀ (r acc : List UInt8) (i : Nat), textL (d + a) r acc (d + i) = ((textL a r acc i).1, (d : Int) + (textL a r acc i).2.1, (textL a r acc i).2.2)
  | [], acc, i => by simp [textL]
  | c :: r, acc, i => by
    rw [textL_cons, textL_cons]
    by_cases h1 : c = 34
    · rw [if_pos h1, if_pos h1]
      by_cases h2 : acc.length > 4096
      · rw [if_pos h2, if_pos h2]; simp
      · rw [if_neg h2, if_neg h2]; simp; try omega
    · rw [if_neg h1, if_neg h1]
      by_cases h2 : c = 92
      · rw [if_pos h2, if_pos h2]
        match r with
        | [] => simp
        | d' :: r' =>
          dsimp only
          cases he : esc d' with
          | none => simp
          | some e =>
            dsimp only
            rw [show d + i + 2 = d + (i + 2) by omega]
            exact textL_shift a d r' _ _
      · rw [if_neg h2, if_neg h2, show d + i + 1 = d + (i + 1) by omega]
        exact textL_shift a d r _ _
/-- What a step is where a line's end and more stand behind. -/
def stepApp (y : List UInt8) : TStep → TStep
  | .skip l => .skip (l ++ y)
  | .tok t l => .tok t (l ++ y)
  | .bad p e => .bad p e
  | .stop => .skip y
theorem tokAt_nl (n : Nat) (r t : List UInt8) (hr : r.length ≤ n) (hne : r.take (wlen r) ≠ []) (hbad : ∀ p e, tokAt n r ≠ .bad p e) :
    tokAt (n + 1 + t.length) (r ++ 10 :: t) = stepApp (10 :: t) (tokAt n r) := by
  have hw := wlen_le r
  have htk : (r ++ 10 :: t).take (wlen r) = r.take (wlen r) := List.take_append_of_le_length hw
  have hN : n + 1 + t.length - (r ++ 10 :: t).length = n - r.length := by simp; omega
  unfold tokAt at hbad ⊢
  rw [wlen_nl, htk, hN]
  by_cases h1 : r.take (wlen r) = [33]
  · rw [if_pos h1, if_pos h1, indexByte_nl]
    have hb := indexByte_lt r 10
    by_cases h2 : Lib.indexByte r 10 < 0
    · rw [if_pos h2, if_pos h2, if_neg (by omega), stepApp, show ((r.length : Int)).toNat = r.length by omega, List.drop_left]
    · rw [if_neg h2, if_neg h2, if_neg h2, stepApp, List.drop_append_of_le_length (by omega)]
  · rw [if_neg h1] at hbad ⊢
    rw [if_neg h1]
    cases hx : r.take (wlen r) with
    | nil => exact absurd hx hne
    | cons c q =>
      rw [hx] at hbad
      dsimp only at hbad ⊢
      have hdrop : (r ++ 10 :: t).drop (wlen r) = r.drop (wlen r) ++ 10 :: t := List.drop_append_of_le_length hw
      have hr0 : 1 ≤ r.length := by
        cases r with
        | nil => simp at hx
        | cons => simp
      by_cases h3 : c = 34
      · rw [if_pos h3] at hbad ⊢
        rw [if_pos h3]
        rw [List.drop_append_of_le_length (l₁ := r) hr0]
        by_cases he : (textL (n - r.length) (r.drop 1) [] (n - r.length + 1)).2.2 = 0
        · rw [textL_app _ _ _ _ _ he]
          have hnx := textL_next _ _ _ _ he
          rw [if_pos he, if_pos he, stepApp, List.drop_append_of_le_length]
          rw [List.length_drop] at hnx; omega
        · rw [if_neg he] at hbad; exact absurd rfl (hbad _ _)
      · rw [if_neg h3] at hbad ⊢
        rw [if_neg h3]
        rw [hdrop]
        cases hd : (digitsR (c :: q)).2.1 with
        | true =>
          rw [hd] at hbad
          rw [if_pos rfl] at hbad ⊢
          cases ho : (digitsR (c :: q)).2.2 with
          | true => rw [ho] at *; simp [stepApp]
          | false => rw [ho] at hbad; simp at hbad
        | false =>
          rw [hd] at hbad
          rw [if_neg (by simp)] at hbad ⊢
          cases ho : nameR (c :: q) with
          | true => rw [ho] at *; simp [stepApp]
          | false => rw [ho] at hbad; simp at hbad
theorem textL_bad (a : Nat) : ∀ (r acc : List UInt8) (i : Nat), (textL a r acc i).2.2 = 0 ∨ (textL a r acc i).2.2 = 9 ∨ (textL a r acc i).2.2 = 11
  | [], acc, i => by simp [textL]
  | c :: r, acc, i => by
    rw [textL_cons]
    by_cases h1 : c = 34
    · rw [if_pos h1]
      by_cases h2 : acc.length > 4096
      · rw [if_pos h2]; simp
      · rw [if_neg h2]; simp
    · rw [if_neg h1]
      by_cases h2 : c = 92
      · rw [if_pos h2]
        match r with
        | [] => simp
        | d' :: r' =>
          dsimp only
          cases he : esc d' with
          | none => simp
          | some e => exact textL_bad a r' _ _
      · rw [if_neg h2]; exact textL_bad a r _ _
theorem tokAt_bad (n : Nat) (r : List UInt8) (p : Int) : tokAt n r ≠ .bad p 0 := by
  intro h
  unfold tokAt at h
  split at h
  · split at h <;> cases h
  · split at h
    · cases h
    · split at h
      · split at h
        · cases h
        · rename_i hne
          injection h with _ h
          exact hne h
      · split at h
        · split at h
          · cases h
          · injection h with _ h; exact absurd h (by decide)
        · split at h
          · cases h
          · injection h with _ h; exact absurd h (by decide)
theorem tokAt_pos {n : Nat} {r l' : List UInt8} {t : Tok} (h : tokAt n r = .tok t l') : 0 ≤ t.pos ∧ t.pos ≤ n := by
  unfold tokAt at h
  split at h
  · split at h <;> cases h
  · split at h
    · cases h
    · split at h
      · split at h
        · injection h with h _; subst h; dsimp only; omega
        · cases h
      · split at h
        · split at h
          · injection h with h _; subst h; dsimp only; omega
          · cases h
        · split at h
          · injection h with h _; subst h; dsimp only; omega
          · cases h
/-- Tokens are only added. -/
theorem toks_len (n : Nat) : ∀ (l : List UInt8) (out : List Tok), (toks n l out).2.2 = 0 → out.length ≤ (toks n l out).1.length := by
  intro l
  induction hm : l.length using Nat.strongRecOn generalizing l with
  | _ m ih =>
    intro out h
    rw [toks_step] at h ⊢
    by_cases e : l = []
    · rw [if_pos e]; exact Nat.le_refl _
    · rw [if_neg e] at h ⊢
      have hl := trimL_le l
      cases hs : tokAt n (trimL l) with
      | stop => exact Nat.le_refl _
      | bad p e' => rw [hs] at h; dsimp only at h; subst h; exact absurd hs (tokAt_bad _ _ _)
      | skip l' =>
        rw [hs] at h
        have := (tokAt_less (.inl hs)).1
        exact ih _ (by omega) l' rfl out h
      | tok t l' =>
        rw [hs] at h
        have := (tokAt_less (.inr ⟨t, hs⟩)).1
        dsimp only at h ⊢
        by_cases hb : out.length ≥ 4096
        · rw [if_pos hb] at h; simp at h
        · rw [if_neg hb] at h ⊢
          have := ih _ (by omega) l' rfl (out ++ [t]) h
          simp at this; omega
def Tok.shift (d : Nat) (t : Tok) : Tok := { t with pos := d + t.pos }
def stepShift (d : Nat) : TStep → TStep
  | .skip l => .skip l
  | .tok t l => .tok (t.shift d) l
  | .bad p e => .bad (d + p) e
  | .stop => .stop
theorem tokAt_shift (n d : Nat) (r : List UInt8) (hr : r.length ≤ n) : tokAt (d + n) r = stepShift d (tokAt n r) := by
  have hN : d + n - r.length = d + (n - r.length) := by omega
  unfold tokAt
  rw [hN]
  by_cases h1 : r.take (wlen r) = [33]
  · rw [if_pos h1, if_pos h1]
    by_cases h2 : Lib.indexByte r 10 < 0
    · rw [if_pos h2, stepShift]
    · rw [if_neg h2, stepShift]
  · rw [if_neg h1, if_neg h1]
    cases hx : r.take (wlen r) with
    | nil => rfl
    | cons c q =>
      dsimp only
      by_cases h3 : c = 34
      · rw [if_pos h3, if_pos h3]
        have hs := textL_shift (n - r.length) d (r.drop 1) [] (n - r.length + 1)
        rw [show d + (n - r.length + 1) = d + (n - r.length) + 1 by omega] at hs
        rw [hs]
        dsimp only
        by_cases he : (textL (n - r.length) (r.drop 1) [] (n - r.length + 1)).2.2 = 0
        · rw [if_pos he, if_pos he, stepShift]
          simp only [Tok.shift]
          congr 2
          omega
        · rw [if_neg he, if_neg he, stepShift]
      · rw [if_neg h3, if_neg h3]
        cases hd : (digitsR (c :: q)).2.1 with
        | true =>
          cases ho : (digitsR (c :: q)).2.2 with
          | true => simp [stepShift, Tok.shift]
          | false => simp [stepShift]
        | false =>
          cases ho : nameR (c :: q) with
          | true => simp [stepShift, Tok.shift]
          | false => simp [stepShift]
/-- The rest of a text, where it stands further behind, and behind other tokens. -/
theorem toks_shift (n d : Nat) : ∀ (m : Nat) (l : List UInt8) (out pre : List Tok), l.length ≤ m → l.length ≤ n → (toks n l out).2.2 = 0 → pre.length + (toks n l out).1.length ≤ 4096 →
    toks (d + n) l (pre ++ out.map (Tok.shift d)) = (pre ++ (toks n l out).1.map (Tok.shift d), 0, 0) := by
  intro m
  induction m with
  | zero =>
    intro l out pre hm hn h hc
    obtain rfl : l = [] := List.length_eq_zero_iff.1 (by omega)
    rfl
  | succ m ih =>
    intro l out pre hm hn h hc
    rw [toks_step] at h hc ⊢
    rw [toks_step n]
    by_cases e : l = []
    · rw [if_pos e, if_pos e]
    · rw [if_neg e] at h hc ⊢
      rw [if_neg e]
      have hl := trimL_le l
      rw [tokAt_shift n d (trimL l) (by omega)]
      cases hs : tokAt n (trimL l) with
      | stop => rfl
      | bad p e' =>
        rw [hs] at h
        dsimp only at h
        subst h
        exact absurd hs (tokAt_bad _ _ _)
      | skip l' =>
        rw [hs] at h hc
        have := (tokAt_less (.inl hs)).1
        exact ih l' out pre (by omega) (by omega) h hc
      | tok t l' =>
        rw [hs] at h hc
        have := (tokAt_less (.inr ⟨t, hs⟩)).1
        dsimp only [stepShift] at h hc ⊢
        by_cases hb : out.length ≥ 4096
        · rw [if_pos hb] at h; simp at h
        · rw [if_neg hb] at h hc ⊢
          have hlen := toks_len n l' (out ++ [t])
          have := ih l' (out ++ [t]) pre (by omega) (by omega) h hc
          rw [if_neg, ← this]
          · simp
          · have h3 := hlen h
            simp at h3 ⊢; omega
theorem toks_run (N : Nat) (l : List UInt8) (out : List Tok) : toks N l out = match tokAt N (trimL l) with
    | .stop => (out, 0, 0)
    | .skip l' => toks N l' out
    | .bad p e => ([], p, e)
    | .tok t l' => if out.length ≥ 4096 then ([], t.pos, 11) else toks N l' (out ++ [t]) := by
  rw [toks_step]
  by_cases e : l = []
  · subst e; rfl
  · rw [if_neg e]
    cases tokAt N (trimL l) <;> rfl
theorem runes_drop_span (p : Nat → Bool) (l : List UInt8) : l.drop (spanR p (runes l)) = [] ∨ p (dec (l.drop (spanR p (runes l)))).1 = true := by
  induction l using runes_ind with
  | h0 => left; rfl
  | h1 l hl ih =>
    rw [runes_cons hl]
    unfold spanR
    cases h : p (dec l).1 with
    | true => right; simpa using h
    | false =>
      simp only [Bool.false_eq_true, if_false]
      rw [← List.drop_drop]
      exact ih
theorem trimL_first {l : List UInt8} (h : trimL l ≠ []) : blankB (dec (trimL l)).1 = false := by
  rcases runes_drop_span (fun r => !blankB r) l with h1 | h1
  · exact absurd h1 h
  · unfold trimL; simpa using h1
theorem word_ne {l : List UInt8} (h : trimL l ≠ []) : (trimL l).take (wlen (trimL l)) ≠ [] := by
  have h1 := trimL_first h
  obtain ⟨h2, h3, _⟩ := dec_pos _ h
  unfold wlen
  rw [runes_cons h, spanR, if_neg (by simp [h1])]
  intro h4
  have := congrArg List.length h4
  simp at this
  rcases this with h5 | h5
  · omega
  · exact h h5
theorem toks_join (n : Nat) (t : List UInt8) : ∀ (m : Nat) (l : List UInt8) (out : List Tok), l.length ≤ m → l.length ≤ n → (toks n l out).2.2 = 0 →
    toks (n + 1 + t.length) (l ++ 10 :: t) out = toks (n + 1 + t.length) t (toks n l out).1 := by
  intro m
  induction m with
  | zero =>
    intro l out hm hn h
    obtain rfl : l = [] := List.length_eq_zero_iff.1 (by omega)
    rw [List.nil_append, toks_run, trimL_nl0, toks_run _ t]
    rfl
  | succ m ih =>
    intro l out hm hn h
    have hl := trimL_le l
    by_cases ht : trimL l = []
    · rw [toks_run n l, ht]
      rw [toks_run, trimL_nl, if_pos ht, toks_run _ t]
      rfl
    · rw [toks_run, trimL_nl, if_neg ht]
      rw [toks_run n l] at h ⊢
      have hb : ∀ p e, tokAt n (trimL l) ≠ .bad p e := by
        intro p e hs
        rw [hs] at h
        dsimp only at h
        subst h
        exact absurd hs (tokAt_bad _ _ _)
      rw [tokAt_nl n (trimL l) t (by omega) (word_ne ht) hb]
      cases hs : tokAt n (trimL l) with
      | stop =>
        dsimp only [stepApp]
        rw [toks_run, trimL_nl0, ← toks_run]
      | bad p e => exact absurd hs (hb p e)
      | skip l' =>
        rw [hs] at h
        have := (tokAt_less (.inl hs)).1
        exact ih l' out (by omega) (by omega) h
      | tok x l' =>
        rw [hs] at h
        have := (tokAt_less (.inr ⟨x, hs⟩)).1
        dsimp only [stepApp] at h ⊢
        by_cases hb : out.length ≥ 4096
        · rw [if_pos hb] at h; simp at h
        · rw [if_neg hb] at h ⊢
          rw [if_neg hb]
          exact ih l' _ (by omega) (by omega) h
theorem toks_ok (n : Nat) : ∀ (l : List UInt8) (out : List Tok), (toks n l out).2.2 = 0 → (toks n l out).2.1 = 0 ∧ (out.length ≤ 4096 → (toks n l out).1.length ≤ 4096) ∧ ((∀ t ∈ out, 0 ≤ t.pos ∧ t.pos ≤ n) → ∀ t ∈ (toks n l out).1, 0 ≤ t.pos ∧ t.pos ≤ n) := by
  intro l
  induction hm : l.length using Nat.strongRecOn generalizing l with
  | _ m ih =>
    intro out h
    rw [toks_step] at h ⊢
    by_cases e : l = []
    · rw [if_pos e]; exact ⟨rfl, id, id⟩
    · rw [if_neg e] at h ⊢
      have hl := trimL_le l
      cases hs : tokAt n (trimL l) with
      | stop => exact ⟨rfl, id, id⟩
      | bad p e' => rw [hs] at h; dsimp only at h; subst h; exact absurd hs (tokAt_bad _ _ _)
      | skip l' =>
        rw [hs] at h
        have := (tokAt_less (.inl hs)).1
        exact ih _ (by omega) l' rfl out h
      | tok t l' =>
        rw [hs] at h
        have := (tokAt_less (.inr ⟨t, hs⟩)).1
        dsimp only at h ⊢
        by_cases hb : out.length ≥ 4096
        · rw [if_pos hb] at h; simp at h
        · rw [if_neg hb] at h ⊢
          obtain ⟨h1, h2, h3⟩ := ih _ (by omega) l' rfl (out ++ [t]) h
          refine ⟨h1, fun _ => h2 (by simp; omega), fun ho => h3 ?_⟩
          intro x hx
          rcases List.mem_append.1 hx with hx | hx
          · exact ho x hx
          · rw [List.mem_singleton.1 hx]
            exact tokAt_pos hs
theorem tokens_ok (s : List UInt8) (h : (tokensR s).2.2 = 0) : s.length ≤ 65536 ∧ (tokensR s).2.1 = 0 ∧ (tokensR s).1.length ≤ 4096 ∧ ∀ t ∈ (tokensR s).1, 0 ≤ t.pos ∧ t.pos ≤ s.length := by
  unfold tokensR at h ⊢
  by_cases hs : s.length > 65536
  · rw [if_pos hs] at h; simp at h
  · rw [if_neg hs] at h ⊢
    cases f1 : faultR s with
    | some i => rw [f1] at h; simp at h
    | none =>
      rw [f1] at h
      obtain ⟨h1, h2, h3⟩ := toks_ok s.length s [] h
      exact ⟨by omega, h1, h2 (by simp), h3 (by simp)⟩
/-- Two texts, a line's end between. -/
theorem tokens_join {s t : List UInt8} (hs : (tokensR s).2.2 = 0) (ht : (tokensR t).2.2 = 0) (hlen : s.length + t.length < 65536) (hcnt : (tokensR s).1.length + (tokensR t).1.length ≤ 4096) :
    tokensR (s ++ 10 :: t) = ((tokensR s).1 ++ (tokensR t).1.map (Tok.shift (s.length + 1)), 0, 0) := by
  unfold tokensR at hs ht hcnt ⊢
  rw [if_neg (by omega)] at hs ht
  rw [if_neg (show ¬ s.length > 65536 by omega), if_neg (show ¬ t.length > 65536 by omega)] at hcnt ⊢
  rw [if_neg (by simp; omega)]
  cases f1 : faultR s with
  | some i => rw [f1] at hs; simp at hs
  | none =>
    cases f2 : faultR t with
    | some i => rw [f2] at ht; simp at ht
    | none =>
      rw [f1] at hs hcnt
      rw [f2] at ht hcnt
      rw [(faultR_app s 10 t (by decide)).2 ⟨f1, f2⟩]
      dsimp only at hs ht hcnt ⊢
      have h1 := toks_join s.length t s.length s [] (Nat.le_refl _) (Nat.le_refl _) hs
      rw [show (s ++ 10 :: t).length = s.length + 1 + t.length by simp; omega, h1]
      have h2 := toks_shift t.length (s.length + 1) t.length t [] (toks s.length s []).1 (Nat.le_refl _) (Nat.le_refl _) ht hcnt
      simpa using h2
end Go.Proofs.YtfhkpcdccideeaaDoor

namespace Go.Proofs.YtfhkpcdccideeaaDoor
open Go Go.Av
theorem indexByte_none : ∀ (l : List UInt8) (c : UInt8), (∀ x ∈ l, x ≠ c) → Lib.indexByte l c = -1
  | [], c, _ => rfl
  | b :: l, c, h => by
    have ih := indexByte_none l c (fun x hx => h x (List.mem_cons_of_mem _ hx))
    have hb := h b (List.mem_cons_self ..)
    unfold Lib.indexByte
    simp only [beq_iff_eq]
    rw [if_neg hb, if_pos ih]
theorem tokens_comment {t : List UInt8} (hf : faultR t = none) (hn : ∀ c ∈ t, c ≠ 10) (hl : t.length + 2 ≤ 65536) : tokensR (33 :: 32 :: t) = ([], 0, 0) := by
  have hr : runes (33 :: 32 :: t) = (33, 1) :: (32, 1) :: runes t := by rw [runes_ascii _ _ (by decide), runes_ascii _ _ (by decide)]; rfl
  have hfl : faultR (33 :: 32 :: t) = none := by
    unfold faultR at hf ⊢
    rw [hr]
    simp [faultL, badB, hf]
  unfold tokensR
  rw [if_neg (by simp; omega), hfl]
  dsimp only
  rw [toks_run]
  have htr : trimL (33 :: 32 :: t) = 33 :: 32 :: t := by
    unfold trimL; rw [hr]; simp [spanR, blankB]
  have hwl : wlen (33 :: 32 :: t) = 1 := by
    unfold wlen; rw [hr]; simp [spanR, blankB]
  rw [htr]
  unfold tokAt
  rw [hwl, indexByte_none _ 10 (by
    intro x hx
    rcases List.mem_cons.1 hx with rfl | hx
    · decide
    · rcases List.mem_cons.1 hx with rfl | hx
      · decide
      · exact hn x hx)]
  rfl
theorem tokens_nil : tokensR [] = ([], 0, 0) := by
  unfold tokensR
  rw [if_neg (by simp)]
  rfl
set_option maxHeartbeats 800000 in
theorem f_LexComments (s t : List UInt8) (hs : s.length ≤ 140737488351232) (ht : t.length ≤ 140737488351232) : Av.Fn Tryd.prog 6 [.str s, .str t] (.bool true) := by
  have fs := f_Tokens s
  have fj := f_Tokens (s ++ 10 :: 33 :: 32 :: t)
  have fj2 := f_Tokens (s ++ 10 :: 33 :: 32 :: (t ++ [10]))
  have hok := tokens_ok s
  have hj := tokens_join (s := s) (t := 33 :: 32 :: t)
  have hj2 := tokens_join (s := s) (t := 33 :: 32 :: (t ++ [10]))
  obtain ⟨A, hA⟩ : ∃ A, A = tokensR s := ⟨_, rfl⟩
  rw [← hA] at fs hok hj hj2
  obtain ⟨a, i, e⟩ := A
  dsimp only at fs hok hj hj2
  refine ACalls.of_W tb_ok (fn := Tryd.f6) (n := 87) (by kernel_rfl) rfl (by kernel_rfl) rfl rfl (by simp) (go ?_)
  refine Fn.use (f8_of) (go ?_)
  refine Fn.use (fs) (go ?_)
  refine fork (fun he => go ?_) (fun he => go ?_)
  · refine VRet.mk [] .nil ?_
    exact ⟨rfl, rfl⟩
  obtain ⟨hs1, _, hal, _⟩ := hok he
  refine fork (fun h1 => go ?_) (fun h1 => go ?_)
  · refine VRet.mk [] .nil ?_
    exact ⟨rfl, rfl⟩
  have hbd := f_Bad t (by omega)
  refine Fn.use (hbd) (go ?_)
  refine fork (fun h2 => go ?_) (fun h2 => go ?_)
  · refine VRet.mk [] .nil ?_
    exact ⟨rfl, rfl⟩
  have hft : faultR t = none := by
    cases hf : faultR t with
    | none => rfl
    | some j =>
      exfalso; refine h2 ?_
      simp [faultV, hf]
  refine VLoop.mk [8] Nat (fun i => [.int .i64 i]) (fun _ => []) (fun i => i ≤ t.length ∧ ∀ c ∈ t.take i, c ≠ 10) (fun i => t.length - i) 0 ?_ ?_
  · exact ⟨⟨by omega, by simp⟩, rfl, .nil⟩
  intro j ⟨hj0, hI⟩
  refine go ?_
  refine fork (fun hlt => go ?_) (fun hlt => go ?_)
  · have hlt : j < t.length := by omega
    refine fork (fun h10 => go ?_) (fun h10 => go ?_)
    · refine VRet.mk [] .nil ?_
      exact ⟨rfl, rfl⟩
    · refine ⟨j + 1, ⟨by omega, ?_⟩, by omega, rfl, .nil⟩
      intro c hc
      rw [List.take_add_one] at hc
      rcases List.mem_append.1 hc with hc | hc
      · exact hI c hc
      · intro hc10
        apply h10
        have : t[j]? = some c := by simpa using hc
        rw [List.getD_eq_getElem?_getD, this, hc10]; rfl
  · have hn : ∀ c ∈ t, c ≠ 10 := by
      rw [List.take_of_length_le (by omega)] at hI; exact hI
    have hc := tokens_comment hft hn (by omega)
    have hc2 := tokens_join (s := 33 :: 32 :: t) (t := []) (by rw [hc]) (by rw [tokens_nil]) (by simp; omega) (by rw [hc, tokens_nil]; simp)
    rw [hc, tokens_nil] at hc2
    rw [show (33 :: 32 :: t) ++ [10] = 33 :: 32 :: (t ++ [10]) from rfl] at hc2
    rw [hj he (by rw [hc]) (by simp; omega) (by rw [hc]; simpa using hal), hc] at fj
    rw [hj2 he (by rw [hc2]) (by simp; omega) (by rw [hc2]; simpa using hal), hc2] at fj2
    simp only [List.map_nil, List.append_nil] at fj fj2
    refine VGd.mk (by simp; omega) (go ?_)
    refine VGd.mk (by simp; omega) (go ?_)
    rw [show s ++ [10, 33, 32] ++ t = s ++ 10 :: 33 :: 32 :: t by simp]
    refine Fn.use (fj) (go ?_)
    refine VGd.mk (by simp; omega) (go ?_)
    refine VGd.mk (by simp; omega) (go ?_)
    refine VGd.mk (by simp; omega) (go ?_)
    rw [show s ++ [10, 33, 32] ++ t ++ [10] = s ++ 10 :: 33 :: 32 :: (t ++ [10]) by simp]
    refine Fn.use (fj2) (go ?_)
    have hsm := f_same a a [] [] false false (by omega)
    rw [List.append_nil, decide_eq_true (Eq.refl a)] at hsm
    refine Fn.use (hsm) (go ?_)
    refine Fn.use (hsm) (go ?_)
    refine VRet.mk [] .nil ?_
    exact ⟨rfl, rfl⟩
end Go.Proofs.YtfhkpcdccideeaaDoor
