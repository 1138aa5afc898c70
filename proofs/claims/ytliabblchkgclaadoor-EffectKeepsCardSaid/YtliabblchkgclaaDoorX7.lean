/- strings.IndexFunc and strings.TrimLeftFunc, at a function with a contract. Texts that stand one behind the other, and bytes that belong to no character. Conditions: as each says. Lex: fault. Lex: blanks. Lex: is a character a blank? Lex: digits, numbers. Lex: Name. The tokens of a text, as plain Lean tells them. Conditions: none. Effects: what effect.Of computes, in plain Lean. Conditions: none. Effects: the names of the primitives, and their effects: strings.Fields, strings.Cut, effect.Names, effect.Prim. Conditions: as each says. Effects: how far an inference goes: bounds, and that the measure of its work is enough. Conditions: as each says. Effects: the state of an inference in memory; pop, quot, need, apply. Conditions: as each says. Effects: own, move, control, run. Conditions: as each says. -/
import Derived.Test.YtliabblchkgclaaDoorX5
import Derived.Lib.Fields
import Derived.Test.YtliabblchkgclaaDoorX6
set_option linter.all false
set_option maxRecDepth 20000
namespace Go.Proofs.YtliabblchkgclaaDoor
open Go Go.Av
end Go.Proofs.YtliabblchkgclaaDoor

namespace Go.Av
open Go
theorem dec_ascii (c : UInt8) (t : List UInt8) (hc : c.toNat < 128) : dec (c :: t) = (c.toNat, 1) := by
  rw [dec_N]; simp [Lib.decodeN, hc]
/-- A byte of ASCII ends what stands ahead. -/
theorem dec_app {x : List UInt8} (hx : x ≠ []) (c : UInt8) (t : List UInt8) (hc : c.toNat < 128) : dec (x ++ c :: t) = dec x := by
  rw [dec_N, dec_N]
  match x, hx with
  | [a], _ => simp [Lib.decodeN]; repeat' split
              all_goals first | rfl | (exfalso; omega)
  | [a, b], _ => simp [Lib.decodeN]; repeat' split
                 all_goals first | rfl | (exfalso; omega)
  | [a, b, d], _ => simp [Lib.decodeN]; repeat' split
                    all_goals first | rfl | (exfalso; omega)
  | a :: b :: d :: e :: r, _ => simp [Lib.decodeN]
theorem runes_app (x : List UInt8) (c : UInt8) (t : List UInt8) (hc : c.toNat < 128) : runes (x ++ c :: t) = runes x ++ runes (c :: t) := by
  induction x using runes_ind with
  | h0 => rfl
  | h1 x hx ih =>
    obtain ⟨h1, h2, _⟩ := dec_pos x hx
    rw [runes_cons (l := x ++ c :: t) (by simp), dec_app hx c t hc, runes_cons hx, List.cons_append]
    congr 1
    rw [List.drop_append_of_le_length h2]
    exact ih
theorem runes_ascii (c : UInt8) (t : List UInt8) (hc : c.toNat < 128) : runes (c :: t) = (c.toNat, 1) :: runes t := by
  rw [runes_cons (by simp), dec_ascii c t hc]; rfl
def badB (c : Nat × Nat) : Bool := decide (c = (65533, 1))
theorem begins_fffd (l : List UInt8) : (decide ((3 : Nat) ≤ l.length) && decide (l.take 3 = [239, 191, 189])) = decide ((l.getD 0 0).toNat = 239 ∧ (l.getD 1 0).toNat = 191 ∧ (l.getD 2 0).toNat = 189) := by
  match l with
  | [] => simp
  | [a] => simp
  | [a, b] => simp
  | a :: b :: d :: r =>
    simp only [← UInt8.toNat_inj, List.take_succ_cons, List.take_zero, List.cons.injEq, and_true, List.getD_cons_zero, List.getD_cons_succ]
    simp
/-- The replacement character is no fault where its own bytes stand. -/
theorem dec_bad {l : List UInt8} (h : l ≠ []) : (decide ((dec l).1 = 65533) && !(decide ((3 : Nat) ≤ l.length) && decide (l.take 3 = [239, 191, 189]))) = badB (dec l) := by
  have hl : 1 ≤ l.length := by cases l with | nil => exact absurd rfl h | cons => simp
  rw [begins_fffd]
  rw [dec_N]
  have b0 := (l.getD 0 0).toNat_lt
  have b1 := (l.getD 1 0).toNat_lt
  have b2 := (l.getD 2 0).toNat_lt
  have b3 := (l.getD 3 0).toNat_lt
  have hlen : (l.getD 1 0).toNat ≠ 0 → 1 < l.length := by
    intro h; refine Decidable.byContradiction fun hn => h ?_
    rw [List.getD_eq_getElem?_getD, List.getElem?_eq_none (by omega)]; rfl
  have hlen2 : (l.getD 2 0).toNat ≠ 0 → 2 < l.length := by
    intro h; refine Decidable.byContradiction fun hn => h ?_
    rw [List.getD_eq_getElem?_getD, List.getElem?_eq_none (by omega)]; rfl
  generalize (l.getD 0 0).toNat = a at *
  generalize (l.getD 1 0).toNat = b at *
  generalize (l.getD 2 0).toNat = c at *
  generalize (l.getD 3 0).toNat = d at *
  generalize l.length = n at *
  rw [Bool.eq_iff_iff]
  simp only [badB, Bool.and_eq_true, Bool.not_eq_true', decide_eq_true_eq, decide_eq_false_iff_not]
  unfold Lib.decodeN
  repeat' split
  all_goals
    simp only [Prod.mk.injEq]
    first
    | (refine ⟨fun h => ⟨h.1, ?_⟩, fun h => ⟨h.1, ?_⟩⟩ <;> (obtain ⟨e1, e2⟩ := h; omega))
    | (simp; omega)
def faultL : List (Nat × Nat) → Option Nat
  | [] => none
  | c :: rs => if badB c then some 0 else (faultL rs).map (c.2 + ·)
def faultR (l : List UInt8) : Option Nat := faultL (runes l)
def faultV (l : List UInt8) : Int := match faultR l with
  | none => -1
  | some i => i
theorem faultL_app : ∀ (a b : List (Nat × Nat)), faultL (a ++ b) = none ↔ faultL a = none ∧ faultL b = none
  | [], b => by simp [faultL]
  | c :: a, b => by
    rw [List.cons_append, faultL, faultL]
    cases badB c with
    | true => simp
    | false => simp [faultL_app a b]
theorem faultR_app (x : List UInt8) (c : UInt8) (t : List UInt8) (hc : c.toNat < 128) : faultR (x ++ c :: t) = none ↔ faultR x = none ∧ faultR t = none := by
  unfold faultR
  rw [runes_app x c t hc, faultL_app, runes_ascii c t hc, faultL]
  have : badB (c.toNat, 1) = false := by simp [badB]; omega
  rw [this]; simp
end Go.Av

namespace Go.Proofs.YtliabblchkgclaaDoor
open Go Go.Av
end Go.Proofs.YtliabblchkgclaaDoor

namespace Go.Proofs.YtliabblchkgclaaDoor
open Go Go.Av
/-- The blanks, as a text. -/
def blanks : List UInt8 := [9, 10, 13, 32, 194, 160, 227, 128, 128]
def blankB (r : Int) : Bool := decide (r = 9) || decide (r = 10) || decide (r = 13) || decide (r = 32) || decide (r = 160) || decide (r = 12288)
theorem ascii_blank : ∀ n : Fin 128, (decide (0 ≤ Lib.indexByte blanks (UInt8.ofNat n.1)) = blankB n.1) := by decide +kernel
def posn (i : Nat) : Nat := [0, 1, 2, 3, 4, 6, 9].getD i 9
theorem posn_next : ∀ i : Fin 6, (Utf8.decode ⟨⟨blanks⟩⟩ (posn i.1)).1 < 13000 ∧ posn i.1 + (Utf8.decode ⟨⟨blanks⟩⟩ (posn i.1)).2 = posn (i.1 + 1) ∧ posn i.1 < 9 := by decide +kernel
theorem f37_ascii (r : Int) (h0 : 0 ≤ r) (h1 : r < 128) : ∃ k : Int, decide (0 ≤ k) = blankB r ∧ Av.Fn Tryd.prog 77 [.str blanks, .int .i32 r] (.int .i64 k) := by
  refine ⟨Lib.indexByte blanks r.toNat.toUInt8, ?_, ?_⟩
  · have := ascii_blank ⟨r.toNat, by omega⟩
    simp only [show ((r.toNat : Nat) : Int) = r by omega] at this
    exact this
  · refine ACalls.of_W tb_ok (fn := Tryd.f77) (n := 187) (by kernel_rfl) rfl (by kernel_rfl) rfl rfl (by simp) (go ?_)
    refine fork (fun h2 => go ?_) (fun h2 => go ?_)
    · refine fork (fun h3 => go ?_) (fun h3 => go ?_)
      · refine Fn.use (fn_IndexByte blanks r) (go ?_)
        refine VRet.mk [] .nil ?_
        simp
      · omega
    · omega
theorem f37_bad : Av.Fn Tryd.prog 77 [.str blanks, .int .i32 65533] (.int .i64 (-1)) := by
  refine ACalls.of_W tb_ok (fn := Tryd.f77) (n := 187) (by kernel_rfl) rfl (by kernel_rfl) rfl rfl (by simp) (go ?_)
  refine VAll.mk (fun b => go ?_)
  refine VLoop.mk [] Nat (fun _ => []) (fun i => [(b, .siter blanks (posn i))]) (fun i => i ≤ 6) (fun i => 6 - i) 0 ?_ ?_
  · exact ⟨by omega, rfl, .cons 0 rfl .nil⟩
  intro i hi
  refine go ?_
  refine fork (fun h => go ?_) (fun h => go ?_)
  · have hi6 : i < 6 := by
      rcases Nat.lt_or_ge i 6 with h6 | h6
      · exact h6
      · obtain rfl : i = 6 := by omega
        exact absurd h (by decide)
    obtain ⟨h1, h2, h3⟩ := posn_next ⟨i, hi6⟩
    dsimp only at h1 h2 h3
    generalize Utf8.decode ⟨⟨blanks⟩⟩ (posn i) = c at *
    refine go ?_
    refine fork (fun h4 => go ?_) (fun h4 => go ?_)
    · omega
    · exact ⟨i + 1, by omega, by omega, rfl, .cons 0 (by rw [h2]; rfl) .nil⟩
  · refine VRet.mk [] .nil ?_
    simp
theorem f37_invalid (r : Int) (h0 : 128 ≤ r) (h1 : r ≠ 65533) (h3 : Lib.validRune r = false) : Av.Fn Tryd.prog 77 [.str blanks, .int .i32 r] (.int .i64 (-1)) := by
  refine ACalls.of_W tb_ok (fn := Tryd.f77) (n := 187) (by kernel_rfl) rfl (by kernel_rfl) rfl rfl (by simp) (go ?_)
  refine fork (fun h4 => go ?_) (fun h4 => go ?_)
  · refine fork (fun h5 => go ?_) (fun h5 => go ?_)
    · omega
    · refine fork (fun h6 => go ?_) (fun h6 => go ?_)
      · omega
      · have h := fn_ValidRune r
        rw [h3] at h
        refine Fn.use (h) (go ?_)
        refine VRet.mk [] .nil ?_
        simp
  · omega








theorem blanks_other {c : UInt8} (hc : 128 ≤ c.toNat ∧ c.toNat < 192 ∧ c.toNat ≠ 160 ∧ c.toNat ≠ 128) (k : Nat) : Lib.indexByte (List.drop k blanks) (c.toNat : Int).toNat.toUInt8 = -1 := by
  have key : ∀ n : Fin 256, (128 ≤ n.1 ∧ n.1 < 192 ∧ n.1 ≠ 160 ∧ n.1 ≠ 128) → ∀ k : Fin 10, Lib.indexByte (List.drop k.1 blanks) n.1.toUInt8 = -1 := by decide +kernel
  have h := key ⟨c.toNat, c.toNat_lt⟩ hc
  by_cases hk : k < 10
  · exact h ⟨k, hk⟩
  · rw [List.drop_eq_nil_of_le (by simp [blanks]; omega)]; rfl
theorem f37_2a (r : Int) (e : UInt8) (h0 : 128 ≤ r) (h1 : r ≠ 65533) (h3 : Lib.validRune r = true) (hE : (Utf8.encode r).data.toList = [e, 160]) :
    Av.Fn Tryd.prog 77 [.str blanks, .int .i32 r] (.int .i64 (if e.toNat = 194 then 4 else -1)) := by
  refine ACalls.of_W tb_ok (fn := Tryd.f77) (n := 187) (by kernel_rfl) rfl (by kernel_rfl) rfl rfl (by simp) (go ?_)
  refine fork (fun h4 => go ?_) (fun h4 => go ?_)
  · refine fork (fun h5 => go ?_) (fun h5 => go ?_)
    · omega
    · refine fork (fun h6 => go ?_) (fun h6 => go ?_)
      · omega
      · have h := fn_ValidRune r
        rw [h3] at h
        refine Fn.use (h) (go ?_)
        refine VSem.scope 1 ?_
        refine go ?_
        rw [hE]
        refine go ?_
        refine VInt.to (1) (by simp) (by omega) (by omega) (go ?_)
        refine VLoop.un 5 [9, 10] ?_
        refine go ?_
        refine VSem.scope 1 ?_
        refine go ?_
        refine VQ.mk (.int .i64 3) (by refine go ?_; refine Fn.use (fn_IndexByte _ _) (go ?_); exact ⟨congrArg _ (by show Lib.indexByte (List.drop 2 blanks) 160 = 3; decide +kernel), rfl⟩) (go ?_)
        refine VLoop.un 5 [12] ?_
        refine go ?_
        refine fork (fun h7 => go ?_) (fun h7 => go ?_)
        · have h7 : ¬ (194 : Int) = e.toNat := h7
          rw [if_neg (by omega)]
          refine Fn.use (fn_Cutover _ (by decide) (by decide)) (go ?_)
          refine VSem.scope 1 ?_
          refine go ?_
          refine VQ.mk (.int .i64 (-1)) (by refine go ?_; refine Fn.use (fn_IndexByte _ _) (go ?_); exact ⟨congrArg _ (by show Lib.indexByte (List.drop 7 blanks) 160 = -1; decide +kernel), rfl⟩) (go ?_)
          refine VRet.mk [] .nil ?_
          simp
        · refine VRet.mk [] .nil ?_
          have h7 : (194 : Int) = e.toNat := h7
          rw [if_pos (by omega)]
          simp
  · omega
theorem f37_2b (r : Int) (e : UInt8) (h0 : 128 ≤ r) (h1 : r ≠ 65533) (h3 : Lib.validRune r = true) (hE : (Utf8.encode r).data.toList = [e, 128]) (he : 194 ≤ e.toNat ∧ e.toNat < 224) :
    Av.Fn Tryd.prog 77 [.str blanks, .int .i32 r] (.int .i64 (-1)) := by
  refine ACalls.of_W tb_ok (fn := Tryd.f77) (n := 187) (by kernel_rfl) rfl (by kernel_rfl) rfl rfl (by simp) (go ?_)
  refine fork (fun h4 => go ?_) (fun h4 => go ?_)
  · refine fork (fun h5 => go ?_) (fun h5 => go ?_)
    · omega
    · refine fork (fun h6 => go ?_) (fun h6 => go ?_)
      · omega
      · have h := fn_ValidRune r
        rw [h3] at h
        refine Fn.use (h) (go ?_)
        refine VSem.scope 1 ?_
        refine go ?_
        rw [hE]
        refine go ?_
        refine VInt.to (1) (by simp) (by omega) (by omega) (go ?_)
        refine VLoop.un 5 [9, 10] ?_
        refine go ?_
        refine VSem.scope 1 ?_
        refine go ?_
        refine VQ.mk (.int .i64 5) (by refine go ?_; refine Fn.use (fn_IndexByte _ _) (go ?_); exact ⟨congrArg _ (by show Lib.indexByte (List.drop 2 blanks) 128 = 5; decide +kernel), rfl⟩) (go ?_)
        refine VLoop.un 5 [12] ?_
        refine go ?_
        refine fork (fun h7 => go ?_) (fun h7 => go ?_)
        · refine Fn.use (fn_Cutover _ (by decide) (by decide)) (go ?_)
          refine VSem.scope 1 ?_
          refine go ?_
          refine VLoop.un 5 [12] ?_
          refine go ?_
          refine fork (fun h8 => go ?_) (fun h8 => go ?_)
          · refine Fn.use (fn_Cutover _ (by decide) (by decide)) (go ?_)
            refine VRet.mk [] .nil ?_
            simp
          · exfalso
            have h8 : (128 : Int) = e.toNat := h8
            omega
        · exfalso
          have h7 : (227 : Int) = e.toNat := h7
          omega
  · omega
theorem f37_3a (r : Int) (e e' : UInt8) (h0 : 128 ≤ r) (h1 : r ≠ 65533) (h3 : Lib.validRune r = true) (hE : (Utf8.encode r).data.toList = [e, e', 160]) (he : 128 ≤ e'.toNat ∧ e'.toNat < 192) :
    Av.Fn Tryd.prog 77 [.str blanks, .int .i32 r] (.int .i64 (-1)) := by
  refine ACalls.of_W tb_ok (fn := Tryd.f77) (n := 187) (by kernel_rfl) rfl (by kernel_rfl) rfl rfl (by simp) (go ?_)
  refine fork (fun h4 => go ?_) (fun h4 => go ?_)
  · refine fork (fun h5 => go ?_) (fun h5 => go ?_)
    · omega
    · refine fork (fun h6 => go ?_) (fun h6 => go ?_)
      · omega
      · have h := fn_ValidRune r
        rw [h3] at h
        refine Fn.use (h) (go ?_)
        refine VSem.scope 1 ?_
        refine go ?_
        rw [hE]
        refine go ?_
        refine VInt.to (2) (by simp) (by omega) (by omega) (go ?_)
        refine VLoop.un 5 [9, 10] ?_
        refine go ?_
        refine VSem.scope 1 ?_
        refine go ?_
        refine VQ.mk (.int .i64 2) (by refine go ?_; refine Fn.use (fn_IndexByte _ _) (go ?_); exact ⟨congrArg _ (by show Lib.indexByte (List.drop 3 blanks) 160 = 2; decide +kernel), rfl⟩) (go ?_)
        refine VLoop.un 5 [12] ?_
        refine go ?_
        refine fork (fun h7 => go ?_) (fun h7 => go ?_)
        · refine Fn.use (fn_Cutover _ (by decide) (by decide)) (go ?_)
          refine VSem.scope 1 ?_
          refine go ?_
          refine VQ.mk (.int .i64 (-1)) (by refine go ?_; refine Fn.use (fn_IndexByte _ _) (go ?_); exact ⟨congrArg _ (by show Lib.indexByte (List.drop 7 blanks) 160 = -1; decide +kernel), rfl⟩) (go ?_)
          refine VRet.mk [] .nil ?_
          simp
        · exfalso
          have h7 : (194 : Int) = e'.toNat := h7
          omega
  · omega
theorem f37_3b (r : Int) (e e' : UInt8) (h0 : 128 ≤ r) (h1 : r ≠ 65533) (h3 : Lib.validRune r = true) (hE : (Utf8.encode r).data.toList = [e, e', 128]) (he : 128 ≤ e'.toNat ∧ e'.toNat < 192) :
    Av.Fn Tryd.prog 77 [.str blanks, .int .i32 r] (.int .i64 (if e.toNat = 227 ∧ e'.toNat = 128 then 6 else -1)) := by
  refine ACalls.of_W tb_ok (fn := Tryd.f77) (n := 187) (by kernel_rfl) rfl (by kernel_rfl) rfl rfl (by simp) (go ?_)
  refine fork (fun h4 => go ?_) (fun h4 => go ?_)
  · refine fork (fun h5 => go ?_) (fun h5 => go ?_)
    · omega
    · refine fork (fun h6 => go ?_) (fun h6 => go ?_)
      · omega
      · have h := fn_ValidRune r
        rw [h3] at h
        refine Fn.use (h) (go ?_)
        refine VSem.scope 1 ?_
        refine go ?_
        rw [hE]
        refine go ?_
        refine VInt.to (2) (by simp) (by omega) (by omega) (go ?_)
        refine VLoop.un 5 [9, 10] ?_
        refine go ?_
        refine VSem.scope 1 ?_
        refine go ?_
        refine VQ.mk (.int .i64 4) (by refine go ?_; refine Fn.use (fn_IndexByte _ _) (go ?_); exact ⟨congrArg _ (by show Lib.indexByte (List.drop 3 blanks) 128 = 4; decide +kernel), rfl⟩) (go ?_)
        refine VLoop.un 5 [12] ?_
        refine go ?_
        refine fork (fun h7 => go ?_) (fun h7 => go ?_)
        · refine Fn.use (fn_Cutover _ (by decide) (by decide)) (go ?_)
          refine VSem.scope 1 ?_
          refine go ?_
          refine VLoop.un 5 [12] ?_
          refine go ?_
          refine fork (fun h8 => go ?_) (fun h8 => go ?_)
          · have h8 : ¬ (128 : Int) = e'.toNat := h8
            rw [if_neg (by omega)]
            refine Fn.use (fn_Cutover _ (by decide) (by decide)) (go ?_)
            refine VRet.mk [] .nil ?_
            simp
          · have h8 : (128 : Int) = e'.toNat := h8
            refine fork (fun h9 => go ?_) (fun h9 => go ?_)
            · have h9 : ¬ (227 : Int) = e.toNat := h9
              rw [if_neg (by omega)]
              refine Fn.use (fn_Cutover _ (by decide) (by decide)) (go ?_)
              refine VRet.mk [] .nil ?_
              simp
            · have h9 : (227 : Int) = e.toNat := h9
              rw [if_pos (by omega)]
              refine VRet.mk [] .nil ?_
              simp
        · exfalso
          have h7 : (227 : Int) = e'.toNat := h7
          omega
  · omega
theorem f37_4a (r : Int) (e e'' e' : UInt8) (h0 : 128 ≤ r) (h1 : r ≠ 65533) (h3 : Lib.validRune r = true) (hE : (Utf8.encode r).data.toList = [e, e'', e', 160]) (he : 128 ≤ e'.toNat ∧ e'.toNat < 192) :
    Av.Fn Tryd.prog 77 [.str blanks, .int .i32 r] (.int .i64 (-1)) := by
  refine ACalls.of_W tb_ok (fn := Tryd.f77) (n := 187) (by kernel_rfl) rfl (by kernel_rfl) rfl rfl (by simp) (go ?_)
  refine fork (fun h4 => go ?_) (fun h4 => go ?_)
  · refine fork (fun h5 => go ?_) (fun h5 => go ?_)
    · omega
    · refine fork (fun h6 => go ?_) (fun h6 => go ?_)
      · omega
      · have h := fn_ValidRune r
        rw [h3] at h
        refine Fn.use (h) (go ?_)
        refine VSem.scope 1 ?_
        refine go ?_
        rw [hE]
        refine go ?_
        refine VInt.to (3) (by simp) (by omega) (by omega) (go ?_)
        refine VLoop.un 5 [9, 10] ?_
        refine go ?_
        refine VSem.scope 1 ?_
        refine go ?_
        refine VQ.mk (.int .i64 1) (by refine go ?_; refine Fn.use (fn_IndexByte _ _) (go ?_); exact ⟨congrArg _ (by show Lib.indexByte (List.drop 4 blanks) 160 = 1; decide +kernel), rfl⟩) (go ?_)
        refine VLoop.un 5 [12] ?_
        refine go ?_
        refine fork (fun h7 => go ?_) (fun h7 => go ?_)
        · refine Fn.use (fn_Cutover _ (by decide) (by decide)) (go ?_)
          refine VSem.scope 1 ?_
          refine go ?_
          refine VQ.mk (.int .i64 (-1)) (by refine go ?_; refine Fn.use (fn_IndexByte _ _) (go ?_); exact ⟨congrArg _ (by show Lib.indexByte (List.drop 7 blanks) 160 = -1; decide +kernel), rfl⟩) (go ?_)
          refine VRet.mk [] .nil ?_
          simp
        · exfalso
          have h7 : (194 : Int) = e'.toNat := h7
          omega
  · omega
theorem f37_4b (r : Int) (e e'' e' : UInt8) (h0 : 128 ≤ r) (h1 : r ≠ 65533) (h3 : Lib.validRune r = true) (hE : (Utf8.encode r).data.toList = [e, e'', e', 128]) (he : 128 ≤ e'.toNat ∧ e'.toNat < 192) (he' : 128 ≤ e''.toNat ∧ e''.toNat < 192) :
    Av.Fn Tryd.prog 77 [.str blanks, .int .i32 r] (.int .i64 (-1)) := by
  refine ACalls.of_W tb_ok (fn := Tryd.f77) (n := 187) (by kernel_rfl) rfl (by kernel_rfl) rfl rfl (by simp) (go ?_)
  refine fork (fun h4 => go ?_) (fun h4 => go ?_)
  · refine fork (fun h5 => go ?_) (fun h5 => go ?_)
    · omega
    · refine fork (fun h6 => go ?_) (fun h6 => go ?_)
      · omega
      · have h := fn_ValidRune r
        rw [h3] at h
        refine Fn.use (h) (go ?_)
        refine VSem.scope 1 ?_
        refine go ?_
        rw [hE]
        refine go ?_
        refine VInt.to (3) (by simp) (by omega) (by omega) (go ?_)
        refine VLoop.un 5 [9, 10] ?_
        refine go ?_
        refine VSem.scope 1 ?_
        refine go ?_
        refine VQ.mk (.int .i64 3) (by refine go ?_; refine Fn.use (fn_IndexByte _ _) (go ?_); exact ⟨congrArg _ (by show Lib.indexByte (List.drop 4 blanks) 128 = 3; decide +kernel), rfl⟩) (go ?_)
        refine VLoop.un 5 [12] ?_
        refine go ?_
        refine fork (fun h7 => go ?_) (fun h7 => go ?_)
        · refine Fn.use (fn_Cutover _ (by decide) (by decide)) (go ?_)
          refine VSem.scope 1 ?_
          refine go ?_
          refine VLoop.un 5 [12] ?_
          refine go ?_
          refine fork (fun h8 => go ?_) (fun h8 => go ?_)
          · refine Fn.use (fn_Cutover _ (by decide) (by decide)) (go ?_)
            refine VRet.mk [] .nil ?_
            simp
          · refine fork (fun h9 => go ?_) (fun h9 => go ?_)
            · refine Fn.use (fn_Cutover _ (by decide) (by decide)) (go ?_)
              refine VRet.mk [] .nil ?_
              simp
            · exfalso
              have h9 : (227 : Int) = e''.toNat := h9
              omega
        · exfalso
          have h7 : (227 : Int) = e'.toNat := h7
          omega
  · omega
theorem f37_2c (r : Int) (e c : UInt8) (h0 : 128 ≤ r) (h1 : r ≠ 65533) (h3 : Lib.validRune r = true) (hE : (Utf8.encode r).data.toList = [e, c]) (hc : 128 ≤ c.toNat ∧ c.toNat < 192 ∧ c.toNat ≠ 160 ∧ c.toNat ≠ 128) :
    Av.Fn Tryd.prog 77 [.str blanks, .int .i32 r] (.int .i64 (-1)) := by
  refine ACalls.of_W tb_ok (fn := Tryd.f77) (n := 187) (by kernel_rfl) rfl (by kernel_rfl) rfl rfl (by simp) (go ?_)
  refine fork (fun h4 => go ?_) (fun h4 => go ?_)
  · refine fork (fun h5 => go ?_) (fun h5 => go ?_)
    · omega
    · refine fork (fun h6 => go ?_) (fun h6 => go ?_)
      · omega
      · have h := fn_ValidRune r
        rw [h3] at h
        refine Fn.use (h) (go ?_)
        refine VSem.scope 1 ?_
        refine go ?_
        rw [hE]
        refine go ?_
        refine VInt.to (1) (by simp) (by omega) (by omega) (go ?_)
        refine VLoop.un 5 [9, 10] ?_
        refine go ?_
        refine VSem.scope 1 ?_
        refine go ?_
        refine fork (fun h7 => go ?_) (fun h7 => go ?_)
        · refine VQ.mk (.int .i64 (-1)) (by refine go ?_; refine Fn.use (fn_IndexByte _ _) (go ?_); exact ⟨congrArg _ (by show Lib.indexByte (List.drop 2 blanks) (c.toNat : Int).toNat.toUInt8 = -1; exact blanks_other hc 2), rfl⟩) (go ?_)
          refine VRet.mk [] .nil ?_
          simp
        · exfalso
          have h7 : (10 : Int) = c.toNat := h7
          omega
  · omega
theorem f37_3c (r : Int) (e e' c : UInt8) (h0 : 128 ≤ r) (h1 : r ≠ 65533) (h3 : Lib.validRune r = true) (hE : (Utf8.encode r).data.toList = [e, e', c]) (hc : 128 ≤ c.toNat ∧ c.toNat < 192 ∧ c.toNat ≠ 160 ∧ c.toNat ≠ 128) :
    Av.Fn Tryd.prog 77 [.str blanks, .int .i32 r] (.int .i64 (-1)) := by
  refine ACalls.of_W tb_ok (fn := Tryd.f77) (n := 187) (by kernel_rfl) rfl (by kernel_rfl) rfl rfl (by simp) (go ?_)
  refine fork (fun h4 => go ?_) (fun h4 => go ?_)
  · refine fork (fun h5 => go ?_) (fun h5 => go ?_)
    · omega
    · refine fork (fun h6 => go ?_) (fun h6 => go ?_)
      · omega
      · have h := fn_ValidRune r
        rw [h3] at h
        refine Fn.use (h) (go ?_)
        refine VSem.scope 1 ?_
        refine go ?_
        rw [hE]
        refine go ?_
        refine VInt.to (2) (by simp) (by omega) (by omega) (go ?_)
        refine VLoop.un 5 [9, 10] ?_
        refine go ?_
        refine VSem.scope 1 ?_
        refine go ?_
        refine fork (fun h7 => go ?_) (fun h7 => go ?_)
        · refine VQ.mk (.int .i64 (-1)) (by refine go ?_; refine Fn.use (fn_IndexByte _ _) (go ?_); exact ⟨congrArg _ (by show Lib.indexByte (List.drop 3 blanks) (c.toNat : Int).toNat.toUInt8 = -1; exact blanks_other hc 3), rfl⟩) (go ?_)
          refine VRet.mk [] .nil ?_
          simp
        · exfalso
          have h7 : (13 : Int) = c.toNat := h7
          omega
  · omega
theorem f37_4c (r : Int) (e e'' e' c : UInt8) (h0 : 128 ≤ r) (h1 : r ≠ 65533) (h3 : Lib.validRune r = true) (hE : (Utf8.encode r).data.toList = [e, e'', e', c]) (hc : 128 ≤ c.toNat ∧ c.toNat < 192 ∧ c.toNat ≠ 160 ∧ c.toNat ≠ 128) :
    Av.Fn Tryd.prog 77 [.str blanks, .int .i32 r] (.int .i64 (-1)) := by
  refine ACalls.of_W tb_ok (fn := Tryd.f77) (n := 187) (by kernel_rfl) rfl (by kernel_rfl) rfl rfl (by simp) (go ?_)
  refine fork (fun h4 => go ?_) (fun h4 => go ?_)
  · refine fork (fun h5 => go ?_) (fun h5 => go ?_)
    · omega
    · refine fork (fun h6 => go ?_) (fun h6 => go ?_)
      · omega
      · have h := fn_ValidRune r
        rw [h3] at h
        refine Fn.use (h) (go ?_)
        refine VSem.scope 1 ?_
        refine go ?_
        rw [hE]
        refine go ?_
        refine VInt.to (3) (by simp) (by omega) (by omega) (go ?_)
        refine VLoop.un 5 [9, 10] ?_
        refine go ?_
        refine VSem.scope 1 ?_
        refine go ?_
        refine fork (fun h7 => go ?_) (fun h7 => go ?_)
        · refine VQ.mk (.int .i64 (-1)) (by refine go ?_; refine Fn.use (fn_IndexByte _ _) (go ?_); exact ⟨congrArg _ (by show Lib.indexByte (List.drop 4 blanks) (c.toNat : Int).toNat.toUInt8 = -1; exact blanks_other hc 4), rfl⟩) (go ?_)
          refine VRet.mk [] .nil ?_
          simp
        · exfalso
          have h7 : (32 : Int) = c.toNat := h7
          omega
  · omega
end Go.Proofs.YtliabblchkgclaaDoor

namespace Go.Proofs.YtliabblchkgclaaDoor
open Go Go.Av
theorem ofNat_toNat {n : Nat} (h : n < 256) : (UInt8.ofNat n).toNat = n := by simp; omega
theorem f37_of (r : Int) (hr : 0 ≤ r ∧ r ≤ 1114111) : ∃ k : Int, decide (0 ≤ k) = blankB r ∧ Av.Fn Tryd.prog 77 [.str blanks, .int .i32 r] (.int .i64 k) := by
  by_cases h1 : r < 128
  · exact f37_ascii r hr.1 h1
  by_cases h2 : r = 65533
  · exact ⟨-1, by subst h2; decide, by subst h2; exact f37_bad⟩
  cases h3 : Lib.validRune r with
  | false =>
    refine ⟨-1, ?_, f37_invalid r (by omega) h2 h3⟩
    simp [Lib.validRune] at h3
    simp [blankB]
    omega
  | true =>
    have hv : Utf8.valid r = true := by
      simp [Lib.validRune] at h3
      simp [Utf8.valid]; omega
    obtain ⟨n, rfl⟩ : ∃ n : Nat, r = n := ⟨r.toNat, by omega⟩
    have hn : (n : Int).toNat = n := by omega
    by_cases c2 : n < 2048
    · have hE : (Utf8.encode n).data.toList = [UInt8.ofNat (192 + n / 64), UInt8.ofNat (128 + n % 64)] := by
        simp only [Utf8.encode, hv, if_true, hn]
        rw [if_neg (by omega), if_pos (by omega)]
      by_cases ca : n % 64 = 32
      · rw [ca] at hE
        refine ⟨_, ?_, f37_2a n _ (by omega) h2 h3 hE⟩
        rw [ofNat_toNat (by omega)]
        by_cases hh : 192 + n / 64 = 194
        · rw [if_pos hh]; simp [blankB]; omega
        · rw [if_neg hh]; simp [blankB]; omega
      by_cases cb : n % 64 = 0
      · rw [cb] at hE
        refine ⟨_, ?_, f37_2b n _ (by omega) h2 h3 hE (by rw [ofNat_toNat (by omega)]; omega)⟩
        simp [blankB]; omega
      · refine ⟨_, ?_, f37_2c n _ _ (by omega) h2 h3 hE (by rw [ofNat_toNat (by omega)]; omega)⟩
        simp [blankB]; omega
    by_cases c3 : n < 65536
    · have hE : (Utf8.encode n).data.toList = [UInt8.ofNat (224 + n / 4096), UInt8.ofNat (128 + n / 64 % 64), UInt8.ofNat (128 + n % 64)] := by
        simp only [Utf8.encode, hv, if_true, hn]
        rw [if_neg (by omega), if_neg (by omega), if_pos (by omega)]
      by_cases ca : n % 64 = 32
      · rw [ca] at hE
        refine ⟨_, ?_, f37_3a n _ _ (by omega) h2 h3 hE (by rw [ofNat_toNat (by omega)]; omega)⟩
        simp [blankB]; omega
      by_cases cb : n % 64 = 0
      · rw [cb] at hE
        refine ⟨_, ?_, f37_3b n _ _ (by omega) h2 h3 hE (by rw [ofNat_toNat (by omega)]; omega)⟩
        rw [ofNat_toNat (by omega), ofNat_toNat (by omega)]
        by_cases hh : 224 + n / 4096 = 227 ∧ 128 + n / 64 % 64 = 128
        · rw [if_pos hh]; simp [blankB]; omega
        · rw [if_neg hh]; simp [blankB]; omega
      · refine ⟨_, ?_, f37_3c n _ _ _ (by omega) h2 h3 hE (by rw [ofNat_toNat (by omega)]; omega)⟩
        simp [blankB]; omega
    · have hE : (Utf8.encode n).data.toList = [UInt8.ofNat (240 + n / 262144), UInt8.ofNat (128 + n / 4096 % 64), UInt8.ofNat (128 + n / 64 % 64), UInt8.ofNat (128 + n % 64)] := by
        simp only [Utf8.encode, hv, if_true, hn]
        rw [if_neg (by omega), if_neg (by omega), if_neg (by omega)]
      by_cases ca : n % 64 = 32
      · rw [ca] at hE
        refine ⟨_, ?_, f37_4a n _ _ _ (by omega) h2 h3 hE (by rw [ofNat_toNat (by omega)]; omega)⟩
        simp [blankB]; omega
      by_cases cb : n % 64 = 0
      · rw [cb] at hE
        refine ⟨_, ?_, f37_4b n _ _ _ (by omega) h2 h3 hE (by rw [ofNat_toNat (by omega)]; omega) (by rw [ofNat_toNat (by omega)]; omega)⟩
        simp [blankB]; omega
      · refine ⟨_, ?_, f37_4c n _ _ _ _ (by omega) h2 h3 hE (by rw [ofNat_toNat (by omega)]; omega)⟩
        simp [blankB]; omega
theorem f30_of (r : Int) (hr : 0 ≤ r ∧ r ≤ 1114111) : Av.Fn Tryd.prog 72 [.str blanks, .int .i32 r] (.bool (blankB r)) := by
  obtain ⟨k, h1, h2⟩ := f37_of r hr
  refine ACalls.of_W tb_ok (fn := Tryd.f72) (n := 9) (by kernel_rfl) rfl (by kernel_rfl) rfl rfl (by simp) (go ?_)
  refine Fn.use (h2) (go ?_)
  refine VRet.mk [] .nil ?_
  simp [← h1]
theorem f18_of (r : Int) (hr : 0 ≤ r ∧ r ≤ 1114111) : Av.Fn Tryd.prog 69 [.int .i32 r] (.bool (blankB r)) := by
  refine ACalls.of_W tb_ok (fn := Tryd.f69) (n := 5) (by kernel_rfl) rfl (by kernel_rfl) rfl rfl (by simp) (go ?_)
  refine Fn.use (f30_of r hr) (go ?_)
  refine VRet.mk [] .nil ?_
  simp
end Go.Proofs.YtliabblchkgclaaDoor

namespace Go.Proofs.YtliabblchkgclaaDoor
open Go Go.Av
def zeros : List Int := [48, 1632, 65296]
def digOf (r : Int) : List Int → AV
  | [] => .tup [.int .i64 0, .int .i32 0, .bool false]
  | z :: l => if z ≤ r ∧ r ≤ z + 9 then .tup [.int .i64 (r - z), .int .i32 z, .bool true] else digOf r l
theorem f29_of (r : Int) (hr : -2147483648 ≤ r ∧ r ≤ 2147483647) : Av.Fn Tryd.prog 75 [.int .i32 r] (digOf r zeros) := by
  refine ACalls.of_W tb_ok (fn := Tryd.f75) (n := 28) (by kernel_rfl) rfl (by kernel_rfl) rfl rfl (by simp) (go ?_)
  refine VLoop.mk [9] Nat (fun i => [.int .i64 i]) (fun _ => []) (fun i => i ≤ 3 ∧ digOf r zeros = digOf r (zeros.drop i)) (fun i => 3 - i) 0 ?_ ?_
  · exact ⟨⟨by omega, rfl⟩, rfl, .nil⟩
  intro i ⟨hi, he⟩
  refine go ?_
  refine fork (fun h => go ?_) (fun h => go ?_)
  · obtain ⟨z, hz, hz1, hz2⟩ : ∃ z, ([.int .i32 48, .int .i32 1632, .int .i32 65296] : List AV)[i]? = some (.int .i32 z) ∧ (48 ≤ z ∧ z ≤ 65296) ∧ digOf r (zeros.drop i) = digOf r (z :: zeros.drop (i + 1)) := by
      obtain rfl | rfl | rfl : i = 0 ∨ i = 1 ∨ i = 2 := by omega
      · exact ⟨48, rfl, by omega, rfl⟩
      · exact ⟨1632, rfl, by omega, rfl⟩
      · exact ⟨65296, rfl, by omega, rfl⟩
    refine VNth.mk (.int .i32 z) (by simpa using hz) ?_
    refine go ?_
    rw [hz2, digOf] at he
    refine fork (fun h2 => go ?_) (fun h2 => go ?_)
    · refine fork (fun h3 => go ?_) (fun h3 => go ?_)
      · refine VRet.mk [] .nil ?_
        simp only [he]
        rw [if_pos (by omega)]
        simp
      · rw [if_neg (by omega)] at he
        exact ⟨i + 1, ⟨by omega, he⟩, by omega, rfl, .nil⟩
    · rw [if_neg (by omega)] at he
      exact ⟨i + 1, ⟨by omega, he⟩, by omega, rfl, .nil⟩
  · refine VRet.mk [] .nil ?_
    obtain rfl : i = 3 := by omega
    rw [he]
    simp [zeros, digOf]
end Go.Proofs.YtliabblchkgclaaDoor

namespace Go.Proofs.YtliabblchkgclaaDoor
open Go Go.Av
/-- A character as a digit: its value, its script's nought. -/
def digR (r : Int) : Option (Int × Int) :=
  if 48 ≤ r ∧ r ≤ 57 then some (r - 48, 48) else if 1632 ≤ r ∧ r ≤ 1641 then some (r - 1632, 1632) else if 65296 ≤ r ∧ r ≤ 65305 then some (r - 65296, 65296) else none
def digV : Option (Int × Int) → AV
  | none => .tup [.int .i64 0, .int .i32 0, .bool false]
  | some (d, z) => .tup [.int .i64 d, .int .i32 z, .bool true]
theorem digOf_eq (r : Int) : digOf r zeros = digV (digR r) := by
  simp only [digOf, zeros, digR]
  repeat' split
  all_goals first | rfl | omega
theorem digR_bound {r d z : Int} (h : digR r = some (d, z)) : 0 ≤ d ∧ d ≤ 9 ∧ 48 ≤ z ∧ z ≤ 65296 ∧ r = z + d := by
  unfold digR at h
  repeat' split at h
  all_goals simp at h
  all_goals omega
/-- The digits of a number, one behind the other: what has been read, is it small enough, its script. -/
def digLoop : List Nat → Int → Bool → Int → Option (Int × Bool × Int)
  | [], n, ok, z => some (n, ok, z)
  | r :: rs, n, ok, z => match digR r with
    | none => none
    | some (d, z') => if 0 ≤ z ∧ z' ≠ z then none else
      if n > (1152921504606846976 - d) / 10 then digLoop rs d false z' else digLoop rs (10 * n + d) ok z'
def minusB (l : List UInt8) : Bool := begins l [45] || begins l [226, 136, 146]
def digitsR (l : List UInt8) : Int × Bool × Bool :=
  match digLoop ((runes (if minusB l then l.drop (dec l).2 else l)).map (·.1)) 0 true (-1) with
  | none => (0, false, false)
  | some (n, ok, z) => (if minusB l then -n else n, decide (0 ≤ z), ok && decide ((if minusB l then -n else n) ≤ 1152921504606846975))
theorem decodeGo_eq {l : List UInt8} (h : l ≠ []) : Lib.decodeGo ⟨⟨l⟩⟩ = dec l := by
  unfold Lib.decodeGo dec
  rw [if_neg]
  intro e
  exact h (List.length_eq_zero_iff.1 e)
theorem begins_ne {l p : List UInt8} (hp : p ≠ []) (h : begins l p = true) : l ≠ [] := by
  intro e; subst e
  simp [begins] at h
  exact hp h
theorem digitsR_some {l l' : List UInt8} {n z : Int} {ok : Bool} (hl : l' = if minusB l then l.drop (dec l).2 else l) (h : digLoop ((runes l').map (·.1)) 0 true (-1) = some (n, ok, z)) :
    digitsR l = (if minusB l then -n else n, decide (0 ≤ z), ok && decide ((if minusB l then -n else n) ≤ 1152921504606846975)) := by
  subst hl; simp only [digitsR, h]
theorem digitsR_none {l l' : List UInt8} (hl : l' = if minusB l then l.drop (dec l).2 else l) (h : digLoop ((runes l').map (·.1)) 0 true (-1) = none) : digitsR l = (0, false, false) := by
  subst hl; simp only [digitsR, h]
theorem f29_digR (r : Int) (hr : -2147483648 ≤ r ∧ r ≤ 2147483647) : Av.Fn Tryd.prog 75 [.int .i32 r] (digV (digR r)) := by
  rw [← digOf_eq]; exact f29_of r hr

/-- What Number says: the number, the error. -/
def numberR (l : List UInt8) : Int × Int :=
  if (digitsR l).2.1 then (if (digitsR l).2.2 then ((digitsR l).1, 0) else (0, 11)) else (0, 9)
structure DigI where
  p : Nat
  n : Int
  ok : Bool
  z : Int


theorem f17_of (l : List UInt8) : Av.Fn Tryd.prog 70 [.str l] (.tup [.int .i64 (digitsR l).1, .bool (digitsR l).2.1, .bool (digitsR l).2.2]) := by
  refine ACalls.of_W tb_ok (fn := Tryd.f70) (n := 72) (by kernel_rfl) rfl (by kernel_rfl) rfl rfl (by simp) (go ?_)
  have g1 := fn_HasPrefix l [45]
  have g2 := fn_HasPrefix l [226, 136, 146]
  cases h1 : begins l [45] with
  | true =>
    rw [h1] at g1
    refine Fn.use (g1) (go ?_)
    have hne := begins_ne (by simp) h1
    have hd := dec_pos l hne
    have hm : minusB l = true := by simp [minusB, h1]
    have fd := fn_Decode l
    rw [decodeGo_eq hne] at fd
    refine Fn.use (fd) (go ?_)
    obtain ⟨l', hl'⟩ : ∃ l', l' = l.drop (dec l).2 := ⟨_, rfl⟩
    rw [← hl']
    replace hl' : l' = if minusB l then l.drop (dec l).2 else l := by rw [if_pos hm]; exact hl'
    refine go ?_
    refine VAll.mk (fun b => go ?_)
    refine VLoop.mk [2, 4, 8] DigI (fun i => [.int .i64 i.n, .bool i.ok, .int .i32 i.z]) (fun i => [(b, .siter l' i.p)])
      (fun i => i.p ≤ l'.length ∧ (0 ≤ i.n ∧ i.n ≤ 1152921504606846976) ∧ (-1 ≤ i.z ∧ i.z ≤ 65296) ∧ digLoop ((runes (l'.drop i.p)).map (·.1)) i.n i.ok i.z = digLoop ((runes l').map (·.1)) 0 true (-1)) (fun i => l'.length - i.p) ⟨0, 0, true, -1⟩ ?_ ?_
    · exact ⟨⟨by simp, by simp, by simp, by simp⟩, rfl, .cons 0 rfl .nil⟩
    rintro ⟨p, n, ok, z⟩ ⟨hp, hn, hz, hI⟩
    dsimp only at hp hn hz hI ⊢
    refine go ?_
    refine fork (fun hlt => go ?_) (fun hlt => go ?_)
    · have hne' : l'.drop p ≠ [] := by simp; omega
      have hc := dec_pos _ hne'
      have hru := runes_cons hne'
      rw [← dec_at] at hc hru
      generalize hdc : Utf8.decode ⟨⟨l'⟩⟩ p = c
      rw [hdc] at hc hru
      rw [List.length_drop] at hc
      rw [List.drop_drop] at hru
      rw [hru, List.map_cons, digLoop] at hI
      obtain ⟨r, k⟩ := c
      dsimp only at hc hru hI ⊢
      refine Fn.use (f29_digR r (by omega)) (go ?_)
      cases hd : digR r with
      | none =>
        rw [hd] at hI
        dsimp only at hI
        refine go ?_
        refine VRet.mk [] .nil ?_
        rw [digitsR_none (l := l) hl' hI.symm]
        simp
      | some dz =>
        obtain ⟨d, z'⟩ := dz
        have hb := digR_bound hd
        rw [hd] at hI
        dsimp only at hI
        refine go ?_
        refine fork (fun hz0 => go ?_) (fun hz0 => go ?_)
        · refine fork (fun hz1 => go ?_) (fun hz1 => go ?_)
          · rw [if_pos ⟨hz0, hz1⟩] at hI
            refine VRet.mk [] .nil ?_
            rw [digitsR_none (l := l) hl' hI.symm]
            simp
          · have hz1 : z' = z := hz1
            rw [if_neg (by simp [hz1])] at hI
            rw [Int.tdiv_eq_ediv_of_nonneg (by omega)]
            refine go ?_
            refine fork (fun hgt => go ?_) (fun hgt => go ?_)
            · rw [if_pos (by omega)] at hI
              refine ⟨⟨p + k, 10 * 0 + d, false, z'⟩, ⟨?_, ?_, ?_, ?_⟩, ?_, rfl, .cons 0 rfl .nil⟩
              · dsimp only; omega
              · dsimp only; omega
              · dsimp only; omega
              · dsimp only; rw [show (10 * 0 + d : Int) = d by omega]; exact hI
              · dsimp only; omega
            · rw [if_neg (by omega)] at hI
              refine ⟨⟨p + k, 10 * n + d, ok, z'⟩, ⟨?_, ?_, ?_, ?_⟩, ?_, rfl, .cons 0 rfl .nil⟩
              · dsimp only; omega
              · dsimp only; omega
              · dsimp only; omega
              · exact hI
              · dsimp only; omega
        · rw [if_neg (fun h => hz0 h.1)] at hI
          rw [Int.tdiv_eq_ediv_of_nonneg (by omega)]
          refine go ?_
          refine fork (fun hgt => go ?_) (fun hgt => go ?_)
          · rw [if_pos (by omega)] at hI
            refine ⟨⟨p + k, 10 * 0 + d, false, z'⟩, ⟨?_, ?_, ?_, ?_⟩, ?_, rfl, .cons 0 rfl .nil⟩
            · dsimp only; omega
            · dsimp only; omega
            · dsimp only; omega
            · dsimp only; rw [show (10 * 0 + d : Int) = d by omega]; exact hI
            · dsimp only; omega
          · rw [if_neg (by omega)] at hI
            refine ⟨⟨p + k, 10 * n + d, ok, z'⟩, ⟨?_, ?_, ?_, ?_⟩, ?_, rfl, .cons 0 rfl .nil⟩
            · dsimp only; omega
            · dsimp only; omega
            · dsimp only; omega
            · exact hI
            · dsimp only; omega
    · rw [List.drop_eq_nil_of_le (by omega), runes_nil, List.map_nil, digLoop] at hI
      rw [digitsR_some (l := l) hl' hI.symm]
      cases hok : ok with
      | true =>
        refine go ?_
        refine VRet.mk [] .nil ?_
        simp [hm]
      | false =>
        refine go ?_
        refine VRet.mk [] .nil ?_
        simp [hm]
  | false =>
    rw [h1] at g1
    refine Fn.use (g1) (go ?_)
    cases h2 : begins l [226, 136, 146] with
    | true =>
      rw [h2] at g2
      refine Fn.use (g2) (go ?_)
      have hne := begins_ne (by simp) h2
      have hd := dec_pos l hne
      have hm : minusB l = true := by simp [minusB, h2]
      have fd := fn_Decode l
      rw [decodeGo_eq hne] at fd
      refine Fn.use (fd) (go ?_)
      obtain ⟨l', hl'⟩ : ∃ l', l' = l.drop (dec l).2 := ⟨_, rfl⟩
      rw [← hl']
      replace hl' : l' = if minusB l then l.drop (dec l).2 else l := by rw [if_pos hm]; exact hl'
      refine go ?_
      refine VAll.mk (fun b => go ?_)
      refine VLoop.mk [2, 4, 8] DigI (fun i => [.int .i64 i.n, .bool i.ok, .int .i32 i.z]) (fun i => [(b, .siter l' i.p)])
        (fun i => i.p ≤ l'.length ∧ (0 ≤ i.n ∧ i.n ≤ 1152921504606846976) ∧ (-1 ≤ i.z ∧ i.z ≤ 65296) ∧ digLoop ((runes (l'.drop i.p)).map (·.1)) i.n i.ok i.z = digLoop ((runes l').map (·.1)) 0 true (-1)) (fun i => l'.length - i.p) ⟨0, 0, true, -1⟩ ?_ ?_
      · exact ⟨⟨by simp, by simp, by simp, by simp⟩, rfl, .cons 0 rfl .nil⟩
      rintro ⟨p, n, ok, z⟩ ⟨hp, hn, hz, hI⟩
      dsimp only at hp hn hz hI ⊢
      refine go ?_
      refine fork (fun hlt => go ?_) (fun hlt => go ?_)
      · have hne' : l'.drop p ≠ [] := by simp; omega
        have hc := dec_pos _ hne'
        have hru := runes_cons hne'
        rw [← dec_at] at hc hru
        generalize hdc : Utf8.decode ⟨⟨l'⟩⟩ p = c
        rw [hdc] at hc hru
        rw [List.length_drop] at hc
        rw [List.drop_drop] at hru
        rw [hru, List.map_cons, digLoop] at hI
        obtain ⟨r, k⟩ := c
        dsimp only at hc hru hI ⊢
        refine Fn.use (f29_digR r (by omega)) (go ?_)
        cases hd : digR r with
        | none =>
          rw [hd] at hI
          dsimp only at hI
          refine go ?_
          refine VRet.mk [] .nil ?_
          rw [digitsR_none (l := l) hl' hI.symm]
          simp
        | some dz =>
          obtain ⟨d, z'⟩ := dz
          have hb := digR_bound hd
          rw [hd] at hI
          dsimp only at hI
          refine go ?_
          refine fork (fun hz0 => go ?_) (fun hz0 => go ?_)
          · refine fork (fun hz1 => go ?_) (fun hz1 => go ?_)
            · rw [if_pos ⟨hz0, hz1⟩] at hI
              refine VRet.mk [] .nil ?_
              rw [digitsR_none (l := l) hl' hI.symm]
              simp
            · have hz1 : z' = z := hz1
              rw [if_neg (by simp [hz1])] at hI
              rw [Int.tdiv_eq_ediv_of_nonneg (by omega)]
              refine go ?_
              refine fork (fun hgt => go ?_) (fun hgt => go ?_)
              · rw [if_pos (by omega)] at hI
                refine ⟨⟨p + k, 10 * 0 + d, false, z'⟩, ⟨?_, ?_, ?_, ?_⟩, ?_, rfl, .cons 0 rfl .nil⟩
                · dsimp only; omega
                · dsimp only; omega
                · dsimp only; omega
                · dsimp only; rw [show (10 * 0 + d : Int) = d by omega]; exact hI
                · dsimp only; omega
              · rw [if_neg (by omega)] at hI
                refine ⟨⟨p + k, 10 * n + d, ok, z'⟩, ⟨?_, ?_, ?_, ?_⟩, ?_, rfl, .cons 0 rfl .nil⟩
                · dsimp only; omega
                · dsimp only; omega
                · dsimp only; omega
                · exact hI
                · dsimp only; omega
          · rw [if_neg (fun h => hz0 h.1)] at hI
            rw [Int.tdiv_eq_ediv_of_nonneg (by omega)]
            refine go ?_
            refine fork (fun hgt => go ?_) (fun hgt => go ?_)
            · rw [if_pos (by omega)] at hI
              refine ⟨⟨p + k, 10 * 0 + d, false, z'⟩, ⟨?_, ?_, ?_, ?_⟩, ?_, rfl, .cons 0 rfl .nil⟩
              · dsimp only; omega
              · dsimp only; omega
              · dsimp only; omega
              · dsimp only; rw [show (10 * 0 + d : Int) = d by omega]; exact hI
              · dsimp only; omega
            · rw [if_neg (by omega)] at hI
              refine ⟨⟨p + k, 10 * n + d, ok, z'⟩, ⟨?_, ?_, ?_, ?_⟩, ?_, rfl, .cons 0 rfl .nil⟩
              · dsimp only; omega
              · dsimp only; omega
              · dsimp only; omega
              · exact hI
              · dsimp only; omega
      · rw [List.drop_eq_nil_of_le (by omega), runes_nil, List.map_nil, digLoop] at hI
        rw [digitsR_some (l := l) hl' hI.symm]
        cases hok : ok with
        | true =>
          refine go ?_
          refine VRet.mk [] .nil ?_
          simp [hm]
        | false =>
          refine go ?_
          refine VRet.mk [] .nil ?_
          simp [hm]
    | false =>
      rw [h2] at g2
      refine Fn.use (g2) (go ?_)
      have hm : minusB l = false := by simp [minusB, h1, h2]
      have hl' : l = if minusB l then l.drop (dec l).2 else l := by simp [hm]
      refine VAll.mk (fun b => go ?_)
      refine VLoop.mk [2, 4, 8] DigI (fun i => [.int .i64 i.n, .bool i.ok, .int .i32 i.z]) (fun i => [(b, .siter l i.p)])
        (fun i => i.p ≤ l.length ∧ (0 ≤ i.n ∧ i.n ≤ 1152921504606846976) ∧ (-1 ≤ i.z ∧ i.z ≤ 65296) ∧ digLoop ((runes (l.drop i.p)).map (·.1)) i.n i.ok i.z = digLoop ((runes l).map (·.1)) 0 true (-1)) (fun i => l.length - i.p) ⟨0, 0, true, -1⟩ ?_ ?_
      · exact ⟨⟨by simp, by simp, by simp, by simp⟩, rfl, .cons 0 rfl .nil⟩
      rintro ⟨p, n, ok, z⟩ ⟨hp, hn, hz, hI⟩
      dsimp only at hp hn hz hI ⊢
      refine go ?_
      refine fork (fun hlt => go ?_) (fun hlt => go ?_)
      · have hne' : l.drop p ≠ [] := by simp; omega
        have hc := dec_pos _ hne'
        have hru := runes_cons hne'
        rw [← dec_at] at hc hru
        generalize hdc : Utf8.decode ⟨⟨l⟩⟩ p = c
        rw [hdc] at hc hru
        rw [List.length_drop] at hc
        rw [List.drop_drop] at hru
        rw [hru, List.map_cons, digLoop] at hI
        obtain ⟨r, k⟩ := c
        dsimp only at hc hru hI ⊢
        refine Fn.use (f29_digR r (by omega)) (go ?_)
        cases hd : digR r with
        | none =>
          rw [hd] at hI
          dsimp only at hI
          refine go ?_
          refine VRet.mk [] .nil ?_
          rw [digitsR_none (l := l) hl' hI.symm]
          simp
        | some dz =>
          obtain ⟨d, z'⟩ := dz
          have hb := digR_bound hd
          rw [hd] at hI
          dsimp only at hI
          refine go ?_
          refine fork (fun hz0 => go ?_) (fun hz0 => go ?_)
          · refine fork (fun hz1 => go ?_) (fun hz1 => go ?_)
            · rw [if_pos ⟨hz0, hz1⟩] at hI
              refine VRet.mk [] .nil ?_
              rw [digitsR_none (l := l) hl' hI.symm]
              simp
            · have hz1 : z' = z := hz1
              rw [if_neg (by simp [hz1])] at hI
              rw [Int.tdiv_eq_ediv_of_nonneg (by omega)]
              refine go ?_
              refine fork (fun hgt => go ?_) (fun hgt => go ?_)
              · rw [if_pos (by omega)] at hI
                refine ⟨⟨p + k, 10 * 0 + d, false, z'⟩, ⟨?_, ?_, ?_, ?_⟩, ?_, rfl, .cons 0 rfl .nil⟩
                · dsimp only; omega
                · dsimp only; omega
                · dsimp only; omega
                · dsimp only; rw [show (10 * 0 + d : Int) = d by omega]; exact hI
                · dsimp only; omega
              · rw [if_neg (by omega)] at hI
                refine ⟨⟨p + k, 10 * n + d, ok, z'⟩, ⟨?_, ?_, ?_, ?_⟩, ?_, rfl, .cons 0 rfl .nil⟩
                · dsimp only; omega
                · dsimp only; omega
                · dsimp only; omega
                · exact hI
                · dsimp only; omega
          · rw [if_neg (fun h => hz0 h.1)] at hI
            rw [Int.tdiv_eq_ediv_of_nonneg (by omega)]
            refine go ?_
            refine fork (fun hgt => go ?_) (fun hgt => go ?_)
            · rw [if_pos (by omega)] at hI
              refine ⟨⟨p + k, 10 * 0 + d, false, z'⟩, ⟨?_, ?_, ?_, ?_⟩, ?_, rfl, .cons 0 rfl .nil⟩
              · dsimp only; omega
              · dsimp only; omega
              · dsimp only; omega
              · dsimp only; rw [show (10 * 0 + d : Int) = d by omega]; exact hI
              · dsimp only; omega
            · rw [if_neg (by omega)] at hI
              refine ⟨⟨p + k, 10 * n + d, ok, z'⟩, ⟨?_, ?_, ?_, ?_⟩, ?_, rfl, .cons 0 rfl .nil⟩
              · dsimp only; omega
              · dsimp only; omega
              · dsimp only; omega
              · exact hI
              · dsimp only; omega
      · rw [List.drop_eq_nil_of_le (by omega), runes_nil, List.map_nil, digLoop] at hI
        rw [digitsR_some (l := l) hl' hI.symm]
        cases hok : ok with
        | true =>
          refine go ?_
          refine VRet.mk [] .nil ?_
          simp [hm]
        | false =>
          refine go ?_
          refine VRet.mk [] .nil ?_
          simp [hm]
end Go.Proofs.YtliabblchkgclaaDoor

namespace Go.Proofs.YtliabblchkgclaaDoor
open Go Go.Av
/-- May a character stand in a name? -/
def okCh (first : Bool) (r : Nat) : Bool := !(decide (r = 65533) || blankB r || decide (r < 32) || decide (r = 127) || (first && decide (r = 34)))
def okAll : Bool → List Nat → Bool
  | _, [] => true
  | f, r :: rs => okCh f r && okAll false rs
def chars (l : List UInt8) : List Nat := (runes l).map (·.1)
def nameR (l : List UInt8) : Bool := okAll true (chars l) && (decide (1 ≤ (chars l).length) && decide ((chars l).length ≤ 32) && decide (l ≠ [33]) && !(digitsR l).2.1)
theorem chars_cons {l : List UInt8} (h : l ≠ []) : chars l = (dec l).1 :: chars (l.drop (dec l).2) := by simp [chars, runes_cons h]
theorem nameR_bad {l : List UInt8} (h : okAll true (chars l) = false) : nameR l = false := by simp [nameR, h]


theorem f11_of (l : List UInt8) (hlen : l.length ≤ 4611686018427387904) : Av.Fn Tryd.prog 67 [.str l] (.bool (nameR l)) := by
  refine ACalls.of_W tb_ok (fn := Tryd.f67) (n := 59) (by kernel_rfl) rfl (by kernel_rfl) rfl rfl (by simp) (go ?_)
  refine VAll.mk (fun b => go ?_)
  refine VLoop.mk [3] (Nat × Nat) (fun i => [.int .i64 i.2]) (fun i => [(b, .siter l i.1)])
    (fun i => i.1 ≤ l.length ∧ i.2 ≤ i.1 ∧ (okAll (decide (i.1 = 0)) (chars (l.drop i.1)) = okAll true (chars l) ∧ i.2 + (chars (l.drop i.1)).length = (chars l).length)) (fun i => l.length - i.1) ⟨0, 0⟩ ?_ ?_
  · exact ⟨⟨by simp, by simp, by simp, by simp⟩, rfl, .cons 0 rfl .nil⟩
  rintro ⟨p, n⟩ ⟨hp, hn, hI⟩
  dsimp only at hp hn hI ⊢
  refine go ?_
  refine fork (fun hlt => go ?_) (fun hlt => go ?_)
  · have hne' : l.drop p ≠ [] := by simp; omega
    have hc := dec_pos _ hne'
    rw [chars_cons hne', List.length_drop] at *
    rw [← dec_at] at hc hI
    generalize hdc : Utf8.decode ⟨⟨l⟩⟩ p = c
    rw [hdc] at hc hI
    rw [List.drop_drop] at hI
    obtain ⟨r, k⟩ := c
    dsimp only at hc hI ⊢
    refine fork (fun a1 => go ?_) (fun a1 => go ?_)
    · have a1 : r = 65533 := by omega
      refine VRet.mk [] .nil ?_
      rw [nameR_bad (by rw [← hI.1]; simp [okAll, okCh, a1])]
      simp
    · have hb := f18_of r (by omega)
      cases a2 : blankB r with
      | true =>
        rw [a2] at hb
        refine Fn.use (hb) (go ?_)
        refine VRet.mk [] .nil ?_
        rw [nameR_bad (by rw [← hI.1]; simp [okAll, okCh, a2])]
        simp
      | false =>
        rw [a2] at hb
        refine Fn.use (hb) (go ?_)
        refine fork (fun a3 => go ?_) (fun a3 => go ?_)
        · have a3 : r < 32 := by omega
          refine VRet.mk [] .nil ?_
          rw [nameR_bad (by rw [← hI.1]; simp [okAll, okCh, a3])]
          simp
        · have a3 : ¬ r < 32 := by omega
          refine fork (fun a4 => go ?_) (fun a4 => go ?_)
          · have a4 : r = 127 := by omega
            refine VRet.mk [] .nil ?_
            rw [nameR_bad (by rw [← hI.1]; simp [okAll, okCh, a4])]
            simp
          · have a4 : ¬ r = 127 := by omega
            have a1 : ¬ r = 65533 := by omega
            refine fork (fun a5 => go ?_) (fun a5 => go ?_)
            · have a5 : p = 0 := by omega
              refine fork (fun a6 => go ?_) (fun a6 => go ?_)
              · have a6 : r = 34 := by omega
                refine VRet.mk [] .nil ?_
                rw [nameR_bad (by rw [← hI.1]; simp [okAll, okCh, a5, a6])]
                simp
              · have a6 : ¬ r = 34 := by omega
                refine ⟨⟨p + k, n + 1⟩, ⟨?_, ?_, ?_⟩, ?_, rfl, .cons 0 rfl .nil⟩
                · dsimp only; omega
                · dsimp only; omega
                · dsimp only
                  refine ⟨?_, ?_⟩
                  · rw [← hI.1, okAll, decide_eq_false (show ¬ p + k = 0 by omega)]
                    have : okCh (decide (p = 0)) r = true := by simp [okCh, a1, a2, a3, a4, a6]; try omega
                    rw [this, Bool.true_and]
                  · rw [← hI.2, List.length_cons]; omega
                · dsimp only; omega
            · have a5 : ¬ p = 0 := by omega
              refine ⟨⟨p + k, n + 1⟩, ⟨?_, ?_, ?_⟩, ?_, rfl, .cons 0 rfl .nil⟩
              · dsimp only; omega
              · dsimp only; omega
              · dsimp only
                refine ⟨?_, ?_⟩
                · rw [← hI.1, okAll, decide_eq_false (show ¬ p + k = 0 by omega)]
                  have : okCh (decide (p = 0)) r = true := by simp [okCh, a1, a2, a3, a4, a5]; try omega
                  rw [this, Bool.true_and]
                · rw [← hI.2, List.length_cons]; omega
              · dsimp only; omega
  · have h17 := f17_of l
    rw [List.drop_eq_nil_of_le (by omega)] at hI
    have hok : okAll true (chars l) = true := by rw [← hI.1]; rfl
    have hct : (chars l).length = n := by rw [← hI.2]; simp [chars]
    cases hd : (digitsR l).2.1 with
    | true =>
      rw [hd] at h17
      refine Fn.use (h17) (go ?_)
      refine fork (fun b1 => go ?_) (fun b1 => go ?_)
      · refine fork (fun b2 => go ?_) (fun b2 => go ?_)
        · refine fork (fun b3 => go ?_) (fun b3 => go ?_)
          · refine VRet.mk [] .nil ?_
            simp [nameR, hok, hct, hd]
          · refine VRet.mk [] .nil ?_
            simp [nameR, hok, hct, hd]
        · refine VRet.mk [] .nil ?_
          simp [nameR, hok, hct, hd]
      · refine VRet.mk [] .nil ?_
        simp [nameR, hok, hct, hd]
    | false =>
      rw [hd] at h17
      refine Fn.use (h17) (go ?_)
      refine fork (fun b1 => go ?_) (fun b1 => go ?_)
      · refine fork (fun b2 => go ?_) (fun b2 => go ?_)
        · refine fork (fun b3 => go ?_) (fun b3 => go ?_)
          · refine VRet.mk [] .nil ?_
            simp [nameR, hok, hct, hd]
            exact ⟨⟨by omega, by omega⟩, b3⟩
          · refine VRet.mk [] .nil ?_
            simp [nameR, hok, hct, hd]
            exact fun _ _ => b3
        · refine VRet.mk [] .nil ?_
          simp [nameR, hok, hct, hd]
          intros; omega
      · refine VRet.mk [] .nil ?_
        simp [nameR, hok, hct, hd]
        intros; omega
end Go.Proofs.YtliabblchkgclaaDoor

namespace Go.Proofs.YtliabblchkgclaaDoor
open Go Go.Av
structure Tok where
  kind : Int
  text : List UInt8
  n : Int
  pos : Int
  deriving DecidableEq
def trimL (l : List UInt8) : List UInt8 := l.drop (spanR (fun r => !blankB r) (runes l))
def wlen (l : List UInt8) : Nat := spanR (fun r => blankB r) (runes l)
inductive TStep where
  | stop
  | skip (l : List UInt8)
  | bad (p e : Int)
  | tok (t : Tok) (l : List UInt8)
  deriving DecidableEq
/-- The next token, where so many bytes are in the whole. -/
def tokAt (N : Nat) (r : List UInt8) : TStep :=
  if r.take (wlen r) = [33] then
    (if Lib.indexByte r 10 < 0 then .stop else .skip (r.drop (Lib.indexByte r 10).toNat))
  else match r.take (wlen r) with
    | [] => .stop
    | c :: _ => if c = 34 then
        (if (textL (N - r.length) (r.drop 1) [] (N - r.length + 1)).2.2 = 0
          then .tok ⟨3, (textL (N - r.length) (r.drop 1) [] (N - r.length + 1)).1, 0, (N - r.length : Nat)⟩ (r.drop ((textL (N - r.length) (r.drop 1) [] (N - r.length + 1)).2.1 - (N - r.length : Nat)).toNat)
          else .bad (textL (N - r.length) (r.drop 1) [] (N - r.length + 1)).2.1 (textL (N - r.length) (r.drop 1) [] (N - r.length + 1)).2.2)
      else if (digitsR (r.take (wlen r))).2.1 then
        (if (digitsR (r.take (wlen r))).2.2 then .tok ⟨2, [], (digitsR (r.take (wlen r))).1, (N - r.length : Nat)⟩ (r.drop (wlen r)) else .bad (N - r.length : Nat) 11)
      else if nameR (r.take (wlen r)) then .tok ⟨1, r.take (wlen r), 0, (N - r.length : Nat)⟩ (r.drop (wlen r)) else .bad (N - r.length : Nat) 10
def toksN (N : Nat) : Nat → List UInt8 → List Tok → List Tok × Int × Int
  | 0, _, _ => ([], 0, -1)
  | k + 1, l, out => if l = [] then (out, 0, 0) else match tokAt N (trimL l) with
    | .stop => (out, 0, 0)
    | .skip l' => toksN N k l' out
    | .bad p e => ([], p, e)
    | .tok t l' => if out.length ≥ 4096 then ([], t.pos, 11) else toksN N k l' (out ++ [t])
def toks (N : Nat) (l : List UInt8) (out : List Tok) : List Tok × Int × Int := toksN N (l.length + 1) l out
def tokensR (s : List UInt8) : List Tok × Int × Int :=
  if s.length > 65536 then ([], 0, 11) else match faultR s with
    | some i => ([], i, 8)
    | none => toks s.length s []
def Tok.cells (t : Tok) : List AV := [.int .i64 t.kind, .str t.text, .int .i64 t.n, .int .i64 t.pos]
def toksC (l : List Tok) : List AV := (l.map Tok.cells).flatten
@[simp] theorem toksC_length (l : List Tok) : (toksC l).length = l.length * 4 := by
  induction l with
  | nil => rfl
  | cons t l ih => show (t.cells ++ toksC l).length = _; rw [List.length_append, ih]; simp [Tok.cells]; omega
theorem toksC_snoc (l : List Tok) (t : Tok) : toksC (l ++ [t]) = toksC l ++ t.cells := by simp [toksC]
theorem trimL_le (l : List UInt8) : (trimL l).length ≤ l.length := by simp [trimL]
theorem wlen_le (l : List UInt8) : wlen l ≤ l.length := spanR_le _ _
theorem indexByte_lt : ∀ (l : List UInt8) (c : UInt8), Lib.indexByte l c < l.length ∧ -1 ≤ Lib.indexByte l c
  | [], c => by simp [Lib.indexByte]
  | b :: l, c => by
    have := indexByte_lt l c
    unfold Lib.indexByte
    simp only [beq_iff_eq, List.length_cons]
    repeat' split
    all_goals omega
theorem textL_next (a : Nat) : ∀ (r acc : List UInt8) (i : Nat), (textL a r acc i).2.2 = 0 → (i : Int) + 1 ≤ (textL a r acc i).2.1 ∧ (textL a r acc i).2.1 ≤ i + r.length
  | [], acc, i, h => by simp [textL] at h
  | c :: r, acc, i, h => by
    rw [textL_cons] at h ⊢
    by_cases h1 : c = 34
    · rw [if_pos h1] at h ⊢
      by_cases h2 : acc.length > 4096
      · rw [if_pos h2] at h; simp at h
      · rw [if_neg h2]; simp; omega
    · rw [if_neg h1] at h ⊢
      by_cases h2 : c = 92
      · rw [if_pos h2] at h ⊢
        match r with
        | [] => simp at h
        | d :: r' =>
          dsimp only at h ⊢
          cases he : esc d with
          | none => rw [he] at h; simp at h
          | some e =>
            rw [he] at h
            dsimp only at h ⊢
            have := textL_next a r' (acc ++ [e]) (i + 2) h
            simp; omega
      · rw [if_neg h2] at h ⊢
        have := textL_next a r (acc ++ [c]) (i + 1) h
        simp; omega
/-- A step takes something away. -/
theorem tokAt_less {N : Nat} {r l' : List UInt8} (h : tokAt N r = .skip l' ∨ ∃ t, tokAt N r = .tok t l') : l'.length < r.length ∧ ∃ k, l' = r.drop k := by
  have hw := wlen_le r
  unfold tokAt at h
  by_cases h1 : r.take (wlen r) = [33]
  · rw [if_pos h1] at h
    have hb := indexByte_lt r 10
    by_cases h2 : Lib.indexByte r 10 < 0
    · rw [if_pos h2] at h; simp at h
    · rw [if_neg h2] at h
      simp at h
      subst h
      refine ⟨?_, _, rfl⟩
      have h3 : Lib.indexByte r 10 ≠ 0 := by
        cases r with
        | nil => simp at h1
        | cons c r =>
          have hc : c = 33 := by
            cases hn : wlen (c :: r) with
            | zero => rw [hn] at h1; simp at h1
            | succ n => rw [hn] at h1; simp at h1; exact h1.1
          subst hc
          unfold Lib.indexByte
          have := indexByte_lt r 10
          simp only [beq_iff_eq]
          rw [if_neg (by decide)]
          split
          all_goals omega
      rw [List.length_drop]; omega
  · rw [if_neg h1] at h
    cases hr : r.take (wlen r) with
    | nil => rw [hr] at h; simp at h
    | cons c q =>
      have hw0 : 0 < wlen r := by
        rcases Nat.eq_zero_or_pos (wlen r) with h0 | h0
        · rw [h0] at hr; simp at hr
        · exact h0
      have hcut : (r.drop (wlen r)).length < r.length := by rw [List.length_drop]; omega
      rw [hr] at h
      dsimp only at h
      by_cases hq : c = 34
      · rw [if_pos hq] at h
        by_cases he : (textL (N - r.length) (r.drop 1) [] (N - r.length + 1)).2.2 = 0
        · rw [if_pos he] at h
          obtain h | ⟨t, h⟩ := h
          · cases h
          · injection h with _ h
            subst h
            have := textL_next _ _ _ _ he
            refine ⟨?_, _, rfl⟩
            rw [List.length_drop]; omega
        · rw [if_neg he] at h; simp at h
      · rw [if_neg hq] at h
        cases hd : (digitsR (c :: q)).2.1 with
        | true =>
          rw [hd, if_pos rfl] at h
          cases ho : (digitsR (c :: q)).2.2 with
          | true => rw [ho, if_pos rfl] at h; simp at h; subst h; exact ⟨hcut, _, rfl⟩
          | false => rw [ho, if_neg (by simp)] at h; simp at h
        | false =>
          rw [hd, if_neg (by simp)] at h
          cases ho : nameR (c :: q) with
          | true => rw [ho, if_pos rfl] at h; simp at h; subst h; exact ⟨hcut, _, rfl⟩
          | false => rw [ho, if_neg (by simp)] at h; simp at h
theorem trimL_drop (l : List UInt8) : ∃ k, trimL l = l.drop k := ⟨_, rfl⟩
theorem toksN_eq (N : Nat) : ∀ (k : Nat) (l : List UInt8) (out : List Tok), l.length < k → toksN N k l out = toks N l out
  | 0, l, out, h => by omega
  | k + 1, l, out, h => by
    have hl := trimL_le l
    unfold toks
    simp only [toksN]
    by_cases e : l = []
    · rw [if_pos e, if_pos e]
    · rw [if_neg e, if_neg e]
      cases hs : tokAt N (trimL l) with
      | stop => rfl
      | bad p e => rfl
      | skip l' =>
        have := (tokAt_less (.inl hs)).1
        dsimp only
        rw [toksN_eq N k l' out (by omega)]
        obtain ⟨m, hm⟩ : ∃ m, l.length = m + 1 := ⟨l.length - 1, by omega⟩
        rw [hm, toksN_eq N (m + 1) l' out (by omega)]
      | tok t l' =>
        have := (tokAt_less (.inr ⟨t, hs⟩)).1
        dsimp only
        rw [toksN_eq N k l' _ (by omega)]
        obtain ⟨m, hm⟩ : ∃ m, l.length = m + 1 := ⟨l.length - 1, by omega⟩
        rw [hm, toksN_eq N (m + 1) l' _ (by omega)]
theorem toks_step (N : Nat) (l : List UInt8) (out : List Tok) : toks N l out = if l = [] then (out, 0, 0) else match tokAt N (trimL l) with
    | .stop => (out, 0, 0)
    | .skip l' => toks N l' out
    | .bad p e => ([], p, e)
    | .tok t l' => if out.length ≥ 4096 then ([], t.pos, 11) else toks N l' (out ++ [t]) := by
  have hl := trimL_le l
  by_cases e : l = []
  · subst e; rfl
  · unfold toks
    rw [toksN, if_neg e]
    obtain ⟨m, hm⟩ : ∃ m, l.length = m + 1 := ⟨l.length - 1, by cases l with | nil => exact absurd rfl e | cons => simp⟩
    cases hs : tokAt N (trimL l) with
    | stop => rw [if_neg e]
    | bad p e' => rw [if_neg e]
    | skip l' =>
      have := (tokAt_less (.inl hs)).1
      dsimp only
      rw [if_neg e, toksN_eq N _ l' out (by omega)]; rfl
    | tok t l' =>
      have := (tokAt_less (.inr ⟨t, hs⟩)).1
      dsimp only
      rw [if_neg e, toksN_eq N _ l' _ (by omega)]; rfl
end Go.Proofs.YtliabblchkgclaaDoor

namespace Go.Proofs.YtliabblchkgclaaDoor
open Go Go.Av
/-- The table of the primitives: its text. -/
def tableT : List UInt8 := [49, 50, 58, 100, 117, 112, 32, 49, 48, 58, 100, 114, 111, 112, 32, 50, 50, 58, 115, 119, 97, 112, 32, 50, 51, 58, 111, 118, 101, 114, 32, 51, 51, 58, 114, 111, 116, 32, 50, 49, 58, 110, 105, 112, 32, 50, 51, 58, 116, 117, 99, 107, 32, 50, 49, 58, 43, 32, 50, 49, 58, 45, 32, 50, 49, 58, 42, 32, 50, 49, 58, 47, 32, 50, 49, 58, 109, 111, 100, 32, 49, 49, 58, 110, 101, 103, 32, 49, 49, 58, 97, 98, 115, 32, 50, 49, 58, 109, 105, 110, 32, 50, 49, 58, 109, 97, 120, 32, 50, 49, 58, 60, 32, 50, 49, 58, 62, 32, 50, 49, 58, 61, 32, 50, 49, 58, 97, 110, 100, 32, 50, 49, 58, 111, 114, 32, 49, 49, 58, 110, 111, 116, 32, 49, 49, 58, 105, 110, 116, 63, 32, 49, 49, 58, 115, 116, 114, 63, 32, 49, 49, 58, 98, 111, 111, 108, 63, 32, 49, 49, 58, 108, 105, 115, 116, 63, 32, 49, 49, 58, 113, 117, 111, 116, 63, 32, 49, 49, 58, 98, 111, 120, 63, 32, 49, 49, 58, 108, 101, 110, 103, 116, 104, 32, 50, 49, 58, 97, 112, 112, 101, 110, 100, 32, 50, 49, 58, 110, 116, 104, 32, 51, 49, 58, 115, 108, 105, 99, 101, 32, 49, 49, 58, 119, 114, 97, 112, 32, 50, 49, 58, 112, 97, 105, 114, 32, 49, 50, 58, 117, 110, 112, 97, 105, 114, 32, 49, 49, 58, 114, 101, 118, 101, 114, 115, 101, 32, 50, 49, 58, 99, 117, 114, 114, 121, 32, 50, 49, 58, 99, 111, 109, 112, 111, 115, 101, 32, 49, 49, 58, 62, 115, 116, 114, 32, 49, 49, 58, 62, 105, 110, 116, 32, 99, 97, 108, 108, 32, 100, 105, 112, 32, 107, 101, 101, 112, 32, 105, 102, 32, 119, 104, 101, 110, 32, 116, 105, 109, 101, 115, 32, 101, 97, 99, 104, 32, 108, 111, 111, 112, 32, 49, 49, 58, 98, 111, 120, 32, 49, 49, 58, 103, 101, 116, 32, 50, 48, 58, 112, 117, 116, 32, 49, 48, 58, 46]
/-- A name with its effect, if it has one of its own. -/
structure PrimE where
  name : List UInt8
  eff : Option (Nat × Nat)
/-- The primitives in order. -/
def primsL : List PrimE := [⟨[100, 117, 112], some (1, 2)⟩,
  ⟨[100, 114, 111, 112], some (1, 0)⟩,
  ⟨[115, 119, 97, 112], some (2, 2)⟩,
  ⟨[111, 118, 101, 114], some (2, 3)⟩,
  ⟨[114, 111, 116], some (3, 3)⟩,
  ⟨[110, 105, 112], some (2, 1)⟩,
  ⟨[116, 117, 99, 107], some (2, 3)⟩,
  ⟨[43], some (2, 1)⟩,
  ⟨[45], some (2, 1)⟩,
  ⟨[42], some (2, 1)⟩,
  ⟨[47], some (2, 1)⟩,
  ⟨[109, 111, 100], some (2, 1)⟩,
  ⟨[110, 101, 103], some (1, 1)⟩,
  ⟨[97, 98, 115], some (1, 1)⟩,
  ⟨[109, 105, 110], some (2, 1)⟩,
  ⟨[109, 97, 120], some (2, 1)⟩,
  ⟨[60], some (2, 1)⟩,
  ⟨[62], some (2, 1)⟩,
  ⟨[61], some (2, 1)⟩,
  ⟨[97, 110, 100], some (2, 1)⟩,
  ⟨[111, 114], some (2, 1)⟩,
  ⟨[110, 111, 116], some (1, 1)⟩,
  ⟨[105, 110, 116, 63], some (1, 1)⟩,
  ⟨[115, 116, 114, 63], some (1, 1)⟩,
  ⟨[98, 111, 111, 108, 63], some (1, 1)⟩,
  ⟨[108, 105, 115, 116, 63], some (1, 1)⟩,
  ⟨[113, 117, 111, 116, 63], some (1, 1)⟩,
  ⟨[98, 111, 120, 63], some (1, 1)⟩,
  ⟨[108, 101, 110, 103, 116, 104], some (1, 1)⟩,
  ⟨[97, 112, 112, 101, 110, 100], some (2, 1)⟩,
  ⟨[110, 116, 104], some (2, 1)⟩,
  ⟨[115, 108, 105, 99, 101], some (3, 1)⟩,
  ⟨[119, 114, 97, 112], some (1, 1)⟩,
  ⟨[112, 97, 105, 114], some (2, 1)⟩,
  ⟨[117, 110, 112, 97, 105, 114], some (1, 2)⟩,
  ⟨[114, 101, 118, 101, 114, 115, 101], some (1, 1)⟩,
  ⟨[99, 117, 114, 114, 121], some (2, 1)⟩,
  ⟨[99, 111, 109, 112, 111, 115, 101], some (2, 1)⟩,
  ⟨[62, 115, 116, 114], some (1, 1)⟩,
  ⟨[62, 105, 110, 116], some (1, 1)⟩,
  ⟨[99, 97, 108, 108], none⟩,
  ⟨[100, 105, 112], none⟩,
  ⟨[107, 101, 101, 112], none⟩,
  ⟨[105, 102], none⟩,
  ⟨[119, 104, 101, 110], none⟩,
  ⟨[116, 105, 109, 101, 115], none⟩,
  ⟨[101, 97, 99, 104], none⟩,
  ⟨[108, 111, 111, 112], none⟩,
  ⟨[98, 111, 120], some (1, 1)⟩,
  ⟨[103, 101, 116], some (1, 1)⟩,
  ⟨[112, 117, 116], some (2, 0)⟩,
  ⟨[46], some (1, 0)⟩]
def namesL : List (List UInt8) := primsL.map (·.name)
def primR (s : List UInt8) : Option (Nat × Nat) := (primsL.find? fun p => p.eff.isSome && decide (p.name = s)).bind (·.eff)
/-- The primitives that move values: which they put back, from the bottom up. -/
def moveR (s : List UInt8) : Option (Nat × List Nat) :=
  if s = [100, 117, 112] then some (1, [0, 0]) else if s = [100, 114, 111, 112] then some (1, []) else if s = [115, 119, 97, 112] then some (2, [1, 0])
  else if s = [111, 118, 101, 114] then some (2, [0, 1, 0]) else if s = [114, 111, 116] then some (3, [1, 2, 0]) else if s = [110, 105, 112] then some (2, [1])
  else if s = [116, 117, 99, 107] then some (2, [1, 0, 1]) else none
/-- What stands on the list: a quotation that is known, or none. -/
abbrev Slot := Option (List Tree)
/-- An inference: how many items may still come; how many were taken from below; the list, its top first. -/
structure EfS where
  left : Nat
  inn : Int
  stk : List Slot
def popS (s : EfS) : Slot × EfS := match s.stk with
  | [] => (none, { s with inn := s.inn + 1 })
  | x :: r => (x, { s with stk := r })
/-- So many are taken: the last taken first. -/
def popsS : Nat → EfS → List Slot × EfS
  | 0, s => ([], s)
  | n + 1, s => ((popsS n (popS s).2).1 ++ [(popS s).1], (popsS n (popS s).2).2)
def pushS (s : EfS) (x : Slot) : EfS := { s with stk := x :: s.stk }
def applyS (i o : Nat) (s : EfS) : EfS := let t := (popsS i s).2; { t with stk := List.replicate o none ++ t.stk }
def quotS (s : EfS) : Except Int (List Tree × EfS) := match popS s with
  | (some l, t) => .ok (l, t)
  | (none, _) => .error 12
def slotOf : Tree → Slot
  | .quot l => some l
  | _ => none
def movesS (n : Nat) (ks : List Nat) (s : EfS) : EfS := ks.foldl (fun t k => pushS t ((popsS n s).1.getD k none)) (popsS n s).2
/-- A quotation by itself: what it takes and leaves. -/
def ownS (run : List Tree → EfS → Except Int EfS) (q : List Tree) (s : EfS) : Except Int (Int × Int × EfS) := match run q ⟨s.left, 0, []⟩ with
  | .ok t => .ok (t.inn, (t.stk.length : Int), { s with left := t.left })
  | .error e => .error e
/-- The primitives that call quotations; none: it is none of them. -/
def controlS (run : List Tree → EfS → Except Int EfS) (name : List UInt8) (s : EfS) : Option (Except Int EfS) :=
  if name = [99, 97, 108, 108] then some (match quotS s with
    | .error e => .error e
    | .ok (q, s) => run q s)
  else if name = [100, 105, 112] then some (match quotS s with
    | .error e => .error e
    | .ok (q, s) => match run q (popS s).2 with
      | .error e => .error e
      | .ok t => .ok (pushS t (popS s).1))
  else if name = [107, 101, 101, 112] then some (match quotS s with
    | .error e => .error e
    | .ok (q, s) => match run q (pushS (popS s).2 (popS s).1) with
      | .error e => .error e
      | .ok t => .ok (pushS t (popS s).1))
  else if name = [105, 102] then some (match quotS s with
    | .error e => .error e
    | .ok (b, s) => match quotS s with
      | .error e => .error e
      | .ok (a, s) => match ownS run a (popS s).2 with
        | .error e => .error e
        | .ok (ai, ao, s) => match ownS run b s with
          | .error e => .error e
          | .ok (bi, bo, s) => if ao - ai = bo - bi then .ok (applyS (max ai bi).toNat (max ai bi + ao - ai).toNat s) else .error 12)
  else if name = [119, 104, 101, 110] ∨ name = [116, 105, 109, 101, 115] then some (match quotS s with
    | .error e => .error e
    | .ok (q, s) => match ownS run q (popS s).2 with
      | .error e => .error e
      | .ok (ai, ao, s) => if ai = ao then .ok (applyS ai.toNat ao.toNat s) else .error 12)
  else if name = [108, 111, 111, 112] then some (match quotS s with
    | .error e => .error e
    | .ok (q, s) => match ownS run q s with
      | .error e => .error e
      | .ok (ai, ao, s) => if ao = ai + 1 then .ok (applyS ai.toNat ai.toNat s) else .error 12)
  else if name = [101, 97, 99, 104] then some (match quotS s with
    | .error e => .error e
    | .ok (q, s) => match ownS run q (popS s).2 with
      | .error e => .error e
      | .ok (ai, ao, s) => if 1 ≤ ai ∧ ao = ai - 1 then .ok (applyS ao.toNat ao.toNat s) else .error 12)
  else none
/-- One item. -/
def stepS (run : List Tree → EfS → Except Int EfS) (known : List UInt8 → Option (Int × Int)) (y : Tree) (s : EfS) : Except Int EfS :=
  match y with
  | .call name => match moveR name with
    | some (k, ks) => .ok (movesS k ks s)
    | none => match controlS run name s with
      | some r => r
      | none => match primR name with
        | some (i, o) => .ok (applyS i o s)
        | none => match known name with
          | some (i, o) => .ok (applyS i.toNat o.toNat s)
          | none => .error 10
  | t => .ok (pushS s (slotOf t))
/-- Items, one after the other. -/
def runS (known : List UInt8 → Option (Int × Int)) : Nat → List Tree → EfS → Except Int EfS
  | _, [], s => .ok s
  | 0, _ :: _, _ => .error 11
  | n + 1, y :: r, s => if s.left = 0 then .error 11 else
    match stepS (fun q s => runS known n q s) known y { s with left := s.left - 1 } with
    | .error e => .error e
    | .ok t => runS known n r t
end Go.Proofs.YtliabblchkgclaaDoor

namespace Go.Proofs.YtliabblchkgclaaDoor
open Go Go.Av
theorem fn_IndexByteL (l : List UInt8) (c : Int) : Av.Fn Tryd.prog 59 [.str l, .int .u8 c] (.int .i64 (Lib.indexByte l c.toNat.toUInt8)) := by
  refine Fn.of_calls (fn := Tryd.f59) (by kernel_rfl) rfl (by kernel_rfl) ?_
  intro W w g us hl hr hb
  obtain ⟨u1, _, rfl, ⟨h1, _⟩, u2, _, rfl, ⟨h2, _⟩, h3⟩ := hr
  have h1 : u1 = _ := h1; have h2 : u2 = _ := h2; have h3 : _ = [] := h3
  subst h1; subst h2; subst h3
  refine (Tryd.stringslite_IndexByte ⟨⟨l⟩⟩ c w).mono fun e w' ⟨h1, h2⟩ => ?_
  subst h2
  exact ⟨_, h1, rfl, RowKit.Below.refl _ _⟩
/-- The table's words. -/
def wordsL : List (List UInt8) := Lib.fields tableT
theorem f_Fields : Av.Fn Tryd.prog 28 [.str tableT] (.fz (wordsL.map .str) wordsL.length true) := by
  refine Fn.of_texts (fn := Tryd.f28) (by kernel_rfl) rfl (by kernel_rfl) ?_
  intro W w g us hl hr hb
  obtain ⟨u1, _, rfl, ⟨h1, _⟩, h3⟩ := hr
  have h1 : u1 = _ := h1; have h3 : _ = [] := h3
  subst h1; subst h3
  have hsz : tableT.length < 4294967281 := by decide
  have hasc : tableT.all (fun b => decide (b.toNat < 128)) = true := by decide +kernel
  refine (Tryd.strings_Fields ⟨⟨tableT⟩⟩ w hsz (fun j b h => ?_) (hl.space (a := 0) hb (by kernel_rfl))).mono fun e w' ⟨h1, h2⟩ => ⟨_, h1, h2⟩
  exact of_decide_eq_true (List.all_eq_true.1 hasc b (List.mem_of_getElem? h))
theorem f_Index (w : List UInt8) : Av.Fn Tryd.prog 53 [.str w, .str [58]] (.int .i64 (Lib.indexByte w 58)) := by
  have h : Av.Fn Tryd.prog 59 [.str w, .int .u8 58] (.int .i64 (Lib.indexByte w 58)) := fn_IndexByteL w 58
  refine ACalls.of_W tb_ok (fn := Tryd.f53) (n := 143) (by kernel_rfl) rfl (by kernel_rfl) rfl rfl (by simp) (go ?_)
  refine fork (fun h0 => go ?_) (fun h0 => go ?_)
  · refine VRet.mk [] .nil ?_
    have : w = [58] := (of_decide_eq_true (by simpa using h0)) |> Eq.symm
    subst this
    rw [show Lib.indexByte [58] 58 = 0 by decide]
    exact ⟨rfl, rfl⟩
  · refine Fn.use (h) (go ?_)
    refine VRet.mk [] .nil ?_
    exact ⟨rfl, rfl⟩
/-- A text, cut at its first colon. -/
def cutR (w : List UInt8) : List UInt8 × List UInt8 × Bool := if 0 ≤ Lib.indexByte w 58 then (w.take (Lib.indexByte w 58).toNat, w.drop ((Lib.indexByte w 58).toNat + 1), true) else (w, [], false)
theorem f_sCut (w : List UInt8) (hw : w.length ≤ 140737488351232) : Av.Fn Tryd.prog 43 [.str w, .str [58]] (.tup [.str (cutR w).1, .str (cutR w).2.1, .bool (cutR w).2.2]) := by
  have hb := indexByte_lt w 58
  have hi := f_Index w
  unfold cutR
  generalize Lib.indexByte w 58 = i at hb hi ⊢
  refine ACalls.of_W tb_ok (fn := Tryd.f43) (n := 23) (by kernel_rfl) rfl (by kernel_rfl) rfl rfl (by simp) (go ?_)
  refine Fn.use (hi) (go ?_)
  refine fork (fun h => go ?_) (fun h => go ?_)
  · rw [if_pos h]
    obtain ⟨k, rfl⟩ := Int.eq_ofNat_of_zero_le h
    have hk : k < w.length := by omega
    refine VQ.mk (.str (w.take k)) (go ?_) (go ?_)
    · exact ⟨rfl, rfl⟩
    refine VQ.mk (.int .i64 ((k : Int) + (([58] : List UInt8).length : Nat))) (by refine go ?_; refine VInt.fit (by show _ ≤ (k : Int) + 1; omega) (by show (k : Int) + 1 ≤ _; omega) (go ?_); exact ⟨rfl, rfl⟩) (go ?_)
    refine VRet.mk [] .nil ?_
    exact ⟨rfl, rfl⟩
  · rw [if_neg h]
    refine VRet.mk [] .nil ?_
    exact ⟨rfl, rfl⟩
theorem f_Cut (w : List UInt8) (hw : w.length ≤ 140737488351232) : Av.Fn Tryd.prog 29 [.str w, .str [58]] (.tup [.str (cutR w).1, .str (cutR w).2.1, .bool (cutR w).2.2]) := by
  refine ACalls.of_W tb_ok (fn := Tryd.f29) (n := 13) (by kernel_rfl) rfl (by kernel_rfl) rfl rfl (by simp) (go ?_)
  refine Fn.use (f_sCut w hw) (go ?_)
  refine VRet.mk [] .nil ?_
  exact ⟨rfl, rfl⟩
def entryR (w : List UInt8) : PrimE := match (cutR w).2.2 with
  | true => ⟨(cutR w).2.1, some (((cutR w).1.getD 0 0).toNat - 48, ((cutR w).1.getD 1 0).toNat - 48)⟩
  | false => ⟨w, none⟩
theorem entries : wordsL.map entryR = primsL := by kernel_rfl
theorem words_length : wordsL.length = 52 := by kernel_rfl
theorem words_ok : (wordsL.all fun w => decide (w.length ≤ 100) && (!(cutR w).2.2 || (decide ((cutR w).1.length = 2) && decide (48 ≤ ((cutR w).1.getD 0 0).toNat) && decide (((cutR w).1.getD 0 0).toNat ≤ 51) && decide (48 ≤ ((cutR w).1.getD 1 0).toNat) && decide (((cutR w).1.getD 1 0).toNat ≤ 51)))) = true := by decide +kernel
theorem word_ok {w : List UInt8} (h : w ∈ wordsL) : w.length ≤ 100 ∧ ((cutR w).2.2 = true → (cutR w).1.length = 2 ∧ 48 ≤ ((cutR w).1.getD 0 0).toNat ∧ ((cutR w).1.getD 0 0).toNat ≤ 51 ∧ 48 ≤ ((cutR w).1.getD 1 0).toNat ∧ ((cutR w).1.getD 1 0).toNat ≤ 51) := by
  have := List.all_eq_true.1 words_ok w h
  simp only [Bool.and_eq_true, Bool.or_eq_true, Bool.not_eq_true', decide_eq_true_eq] at this
  refine ⟨this.1, fun hc => ?_⟩
  rcases this.2 with h | h
  · rw [hc] at h; cases h
  · exact ⟨h.1.1.1.1, h.1.1.1.2, h.1.1.2, h.1.2, h.2⟩
def namesW (l : List (List UInt8)) : List AV := l.map fun w => .str (entryR w).name
theorem namesW_fold (l : List (List UInt8)) : l.map (fun w => AV.str (entryR w).name) = namesW l := rfl
@[simp] theorem namesW_length (l : List (List UInt8)) : (namesW l).length = l.length := by simp [namesW]

theorem f_Names : Av.Fn Tryd.prog 32 [] (.fz (namesL.map .str) 52 false) := by
  have hN : namesL.map AV.str = namesW wordsL := by
    rw [namesL, ← entries, namesW, List.map_map, List.map_map]; rfl
  rw [hN]
  have hF := f_Fields
  have hlen := words_length
  have hok : ∀ w ∈ wordsL, _ := fun w h => word_ok h
  generalize wordsL = l at hF hlen hok ⊢
  refine ACalls.of_W tb_ok (fn := Tryd.f32) (n := 27) (by kernel_rfl) rfl (by kernel_rfl) rfl rfl (by simp) (go ?_)
  refine Fn.use (hF) (go ?_)
  refine VLoop.mk [1, 9] AccI (fun i => [accV i.o i.k, .int .i64 i.k]) (fun i => accS i.o 1 (namesW (l.take i.k))) (fun i => i.k ≤ l.length ∧ (i.o = none → i.k = 0)) (fun i => l.length - i.k) ⟨0, none⟩ ?_ ?_
  · exact ⟨⟨by simp, by simp⟩, rfl, .nil⟩
  rintro ⟨k, o⟩ ⟨hk, ho⟩
  dsimp only at hk ho ⊢
  refine go ?_
  refine fork (fun hlt => go ?_) (fun hlt => ?_)
  · have hlt : k < l.length := by omega
    obtain ⟨t, ht⟩ : ∃ t, l[k]? = some t := ⟨l[k], by simp [hlt]⟩
    have hacc : namesW (l.take (k + 1)) = namesW (l.take k) ++ [.str (entryR t).name] := by
      rw [take_succ_at ht]; simp [namesW]
    have hl2 : (namesW (l.take k)).length = k := by simp [namesW]; omega
    have hw := (hok t (List.mem_of_getElem? ht)).1
    have hC := f_Cut t (by omega)
    have he : ∀ c, (cutR t).2.2 = c → (entryR t).name = if c = true then (cutR t).2.1 else t := fun c hc => by
      unfold entryR; rw [hc]; cases c <;> rfl
    generalize hc : (cutR t).2.2 = c at hC he
    have he := he c rfl
    refine VNth.mk (.str t) (by rw [mulN_eq]; simp [ht]) (go ?_)
    refine Fn.use (hC) (go ?_)
    cases c with
    | true =>
      rw [if_pos rfl] at he
      refine go ?_
      cases o with
      | none =>
        obtain rfl : k = 0 := ho rfl
        refine go ?_
        refine VAll.mk (fun b2 => go ?_)
        refine ⟨⟨1, some b2⟩, ⟨by dsimp only; omega, by simp⟩, by dsimp only; omega, rfl, .cons 0 ?_ .nil⟩
        dsimp only
        rw [hacc, he]; simp [namesW]
      | some bo =>
        refine go ?_
        refine VGd.mk ⟨rfl, by omega, by rw [mulN_eq, hl2]; simp, by simp; omega⟩ (go ?_)
        refine VAll.mk (fun b2 => go ?_)
        refine ⟨⟨k + 1, some b2⟩, ⟨by dsimp only; omega, by simp⟩, by dsimp only; omega, rfl, .cons 0 ?_ .nil⟩
        dsimp only
        rw [hacc, he, mulN_eq, List.take_of_length_le (by rw [hl2]; simp)]; rfl
    | false =>
      rw [if_neg (by simp)] at he
      refine go ?_
      cases o with
      | none =>
        obtain rfl : k = 0 := ho rfl
        refine go ?_
        refine VAll.mk (fun b2 => go ?_)
        refine ⟨⟨1, some b2⟩, ⟨by dsimp only; omega, by simp⟩, by dsimp only; omega, rfl, .cons 0 ?_ .nil⟩
        dsimp only
        rw [hacc, he]; simp [namesW]
      | some bo =>
        refine go ?_
        refine VGd.mk ⟨rfl, by omega, by rw [mulN_eq, hl2]; simp, by simp; omega⟩ (go ?_)
        refine VAll.mk (fun b2 => go ?_)
        refine ⟨⟨k + 1, some b2⟩, ⟨by dsimp only; omega, by simp⟩, by dsimp only; omega, rfl, .cons 0 ?_ .nil⟩
        dsimp only
        rw [hacc, he, mulN_eq, List.take_of_length_le (by rw [hl2]; simp)]; rfl
  · obtain rfl : k = l.length := by omega
    rw [List.take_length]
    cases o with
    | none =>
      have := ho rfl
      omega
    | some bo =>
      refine go ?_
      refine VRet.mk [] .nil ?_
      have hnl : (namesW l).length = l.length := by simp [namesW]
      have htk : (namesW l).take l.length = namesW l := List.take_of_length_le (by omega)
      refine ⟨?_, rfl⟩
      simp only [mulN_eq, Nat.mul_one, htk]
      rw [hlen]
/-- The first that has an effect of its own and this name. -/
def primE (l : List PrimE) (s : List UInt8) : Option (Nat × Nat) := (l.find? fun p => p.eff.isSome && decide (p.name = s)).bind (·.eff)
theorem primE_hit {n s : List UInt8} {x : Nat × Nat} {r : List PrimE} (h : n = s) : primE (⟨n, some x⟩ :: r) s = some x := by
  subst h; simp [primE]
theorem primE_miss {p : PrimE} {s : List UInt8} {r : List PrimE} (h : (p.eff.isSome && decide (p.name = s)) = false) : primE (p :: r) s = primE r s := by
  unfold primE
  rw [List.find?_cons_of_neg (by rw [h]; simp)]
def primV (x : Option (Nat × Nat)) : AV := .tup [.agg [.int .i64 ((x.map (·.1)).getD 0 : Nat), .int .i64 ((x.map (·.2)).getD 0 : Nat)], .bool x.isSome]
theorem f_Prim (s : List UInt8) : Av.Fn Tryd.prog 16 [.str s] (primV (primR s)) := by
  have hN : primR s = primE (wordsL.map entryR) s := by rw [entries]; rfl
  rw [hN]
  have hF := f_Fields
  have hlen := words_length
  have hok : ∀ w ∈ wordsL, _ := fun w h => word_ok h
  generalize wordsL = l at hF hlen hok ⊢
  refine ACalls.of_W tb_ok (fn := Tryd.f16) (n := 38) (by kernel_rfl) rfl (by kernel_rfl) rfl rfl (by simp) (go ?_)
  refine VAll.mk (fun b => go ?_)
  refine Fn.use (hF) (go ?_)
  refine VLoop.mk [11] Nat (fun k => [.int .i64 k]) (fun _ => [(b, .box [.int .i64 0, .int .i64 0])]) (fun k => k ≤ l.length ∧ primE ((l.drop k).map entryR) s = primE (l.map entryR) s) (fun k => l.length - k) 0 ?_ ?_
  · exact ⟨⟨by simp, by simp⟩, rfl, .cons 0 rfl .nil⟩
  rintro k ⟨hk, hI⟩
  dsimp only at hk hI ⊢
  refine go ?_
  refine fork (fun hlt => go ?_) (fun hlt => ?_)
  · have hlt : k < l.length := by omega
    obtain ⟨t, ht⟩ : ∃ t, l[k]? = some t := ⟨l[k], by simp [hlt]⟩
    obtain ⟨hw, hw2⟩ := hok t (List.mem_of_getElem? ht)
    have hC := f_Cut t (by omega)
    have hd : l.drop k = t :: l.drop (k + 1) := by
      rw [List.drop_eq_getElem_cons hlt]
      congr 1
      rw [List.getElem?_eq_getElem hlt] at ht
      exact Option.some.inj ht
    rw [hd, List.map_cons] at hI
    have he : ∀ c, (cutR t).2.2 = c → entryR t = match c with
        | true => ⟨(cutR t).2.1, some (((cutR t).1.getD 0 0).toNat - 48, ((cutR t).1.getD 1 0).toNat - 48)⟩
        | false => ⟨t, none⟩ := fun c hc => by
      unfold entryR; rw [hc]
    generalize hc : (cutR t).2.2 = c at hC he hw2
    have he := he c rfl
    rw [he] at hI
    refine VNth.mk (.str t) (by rw [mulN_eq]; simp [ht]) (go ?_)
    refine Fn.use (hC) (go ?_)
    cases c with
    | true =>
      refine go ?_
      obtain ⟨h1, h2, h3, h4, h5⟩ := hw2 rfl
      refine fork (fun hs => go ?_) (fun hs => go ?_)
      · have hs : (cutR t).2.1 = s := of_decide_eq_true (by simpa using hs)
        refine VDraw.chain [9] (go ?_)
        have d0 : (0 : Int) ≤ (((cutR t).1.getD 0 0).toNat : Int) - 48 ∧ (((cutR t).1.getD 0 0).toNat : Int) - 48 ≤ 3 := by omega
        have d1 : (0 : Int) ≤ (((cutR t).1.getD 1 0).toNat : Int) - 48 ∧ (((cutR t).1.getD 1 0).toNat : Int) - 48 ≤ 3 := by omega
        refine VQ.mk (.int .u8 ((((cutR t).1.getD 0 0).toNat : Int) - 48)) (by refine go ?_; refine VInt.fit d0.1 (Int.le_trans d0.2 (by decide)) (go ?_); exact ⟨rfl, rfl⟩) (go ?_)
        refine VQ.mk (.int .u8 ((((cutR t).1.getD 1 0).toNat : Int) - 48)) (by refine go ?_; refine VInt.fit d1.1 (Int.le_trans d1.2 (by decide)) (go ?_); exact ⟨rfl, rfl⟩) (go ?_)
        refine VRet.mk [] .nil ?_
        rw [← hI, primE_hit hs]
        refine ⟨?_, rfl⟩
        have e0 : ((((cutR t).1.getD 0 0).toNat - 48 : Nat) : Int) = (((cutR t).1.getD 0 0).toNat : Int) - 48 := by omega
        have e1 : ((((cutR t).1.getD 1 0).toNat - 48 : Nat) : Int) = (((cutR t).1.getD 1 0).toNat : Int) - 48 := by omega
        unfold primV
        simp only [Option.map_some, Option.getD_some, Option.isSome_some, e0, e1]
        rfl
      · have hs : ¬ (cutR t).2.1 = s := by simpa using hs
        rw [primE_miss (by simp [hs])] at hI
        exact ⟨k + 1, ⟨by omega, hI⟩, by omega, rfl, .cons 0 rfl .nil⟩
    | false =>
      refine go ?_
      rw [primE_miss (by simp)] at hI
      exact ⟨k + 1, ⟨by omega, hI⟩, by omega, rfl, .cons 0 rfl .nil⟩
  · obtain rfl : k = l.length := by omega
    rw [List.drop_length] at hI
    rw [← hI]
    refine go ?_
    refine VRet.mk [] .nil ?_
    exact ⟨rfl, rfl⟩
end Go.Proofs.YtliabblchkgclaaDoor

namespace Go.Proofs.YtliabblchkgclaaDoor
open Go Go.Av
/-- From one state to another: so many more may have been taken, so many more may stand on the list, besides 16 for each item gone through. -/
structure Gr (c d : Nat) (s t : EfS) : Prop where
  left : t.left ≤ s.left
  inn0 : s.inn ≤ t.inn
  inn : t.inn + 16 * t.left ≤ s.inn + 16 * s.left + c
  len : t.stk.length + 16 * t.left ≤ s.stk.length + 16 * s.left + d
theorem Gr.trans {c d c' d' : Nat} {s t u : EfS} (h : Gr c d s t) (k : Gr c' d' t u) : Gr (c + c') (d + d') s u :=
  ⟨by have := h.left; have := k.left; omega, by have := h.inn0; have := k.inn0; omega, by have := h.inn; have := k.inn; omega, by have := h.len; have := k.len; omega⟩
theorem Gr.refl (s : EfS) : Gr 0 0 s s := ⟨Nat.le_refl _, Int.le_refl _, by omega, by omega⟩
theorem Gr.mono {c d c' d' : Nat} {s t : EfS} (h : Gr c d s t) (hc : c ≤ c') (hd : d ≤ d') : Gr c' d' s t := ⟨h.left, h.inn0, by have := h.inn; omega, by have := h.len; omega⟩
theorem popS_left (s : EfS) : (popS s).2.left = s.left := by unfold popS; split <;> rfl
theorem popS_gr (s : EfS) : Gr 1 0 s (popS s).2 := by
  unfold popS
  split
  · exact ⟨Nat.le_refl _, by simp; omega, by simp; omega, by simp_all⟩
  · rename_i x r h
    exact ⟨Nat.le_refl _, Int.le_refl _, by simp; omega, by simp [h]⟩
theorem pushS_gr (s : EfS) (x : Slot) : Gr 0 1 s (pushS s x) := ⟨Nat.le_refl _, Int.le_refl _, by simp [pushS], by simp [pushS]; omega⟩
theorem popsS_gr : ∀ (n : Nat) (s : EfS), Gr n 0 s (popsS n s).2 ∧ (popsS n s).2.left = s.left ∧ (popsS n s).1.length = n
  | 0, s => ⟨.refl s, rfl, rfl⟩
  | n + 1, s => by
    obtain ⟨h1, h2, h3⟩ := popsS_gr n (popS s).2
    refine ⟨((popS_gr s).trans h1).mono (by omega) (by omega), ?_, ?_⟩
    · show (popsS n (popS s).2).2.left = _
      rw [h2, popS_left]
    · show ((popsS n (popS s).2).1 ++ [(popS s).1]).length = _
      simp [h3]
theorem applyS_left (i o : Nat) (s : EfS) : (applyS i o s).left = s.left := (popsS_gr i s).2.1
theorem applyS_gr (i o : Nat) (s : EfS) : Gr i o s (applyS i o s) := by
  obtain ⟨⟨h1, h2, h3, h4⟩, h5, _⟩ := popsS_gr i s
  refine ⟨h1, h2, h3, ?_⟩
  show (List.replicate o none ++ (popsS i s).2.stk).length + _ ≤ _
  rw [List.length_append, List.length_replicate]
  show _ + 16 * (popsS i s).2.left ≤ _
  omega
theorem quotS_gr {s t : EfS} {q : List Tree} (h : quotS s = .ok (q, t)) : Gr 1 0 s t ∧ t.left = s.left := by
  unfold quotS at h
  have h1 := popS_gr s
  have h2 := popS_left s
  split at h
  · rename_i l u hp
    rw [hp] at h1 h2
    cases h; exact ⟨h1, h2⟩
  · cases h
theorem movesS_gr (n : Nat) (ks : List Nat) (s : EfS) : Gr n ks.length s (movesS n ks s) := by
  unfold movesS
  obtain ⟨h1, _, _⟩ := popsS_gr n s
  have key : ∀ (l : List Slot) (ks : List Nat) (t : EfS), Gr 0 ks.length t (ks.foldl (fun t k => pushS t (l.getD k none)) t) := by
    intro l ks
    induction ks with
    | nil => exact fun t => .refl t
    | cons k ks ih => exact fun t => ((pushS_gr t _).trans (ih _)).mono (by omega) (by simp; omega)
  exact (h1.trans (key _ _ _)).mono (by omega) (by omega)
theorem movesS_left (n : Nat) (ks : List Nat) (s : EfS) : (movesS n ks s).left = s.left := by
  unfold movesS
  rw [← (popsS_gr n s).2.1]
  generalize (popsS n s).2 = t
  generalize (popsS n s).1 = l
  induction ks generalizing t with
  | nil => rfl
  | cons k ks ih => rw [List.foldl_cons, ih]; rfl
section
variable {run : List Tree → EfS → Except Int EfS} {known : List UInt8 → Option (Int × Int)}
theorem ownS_gr (hr : ∀ q s t, run q s = .ok t → Gr 0 0 s t) {q : List Tree} {s t : EfS} {i o : Int} (h : ownS run q s = .ok (i, o, t)) :
    0 ≤ i ∧ 0 ≤ o ∧ i + 16 * t.left ≤ 16 * s.left ∧ o + 16 * t.left ≤ 16 * s.left ∧ t.left ≤ s.left ∧ t = { s with left := t.left } := by
  unfold ownS at h
  split at h
  · rename_i u hu
    obtain ⟨h1, h2, h3, h4⟩ := hr _ _ _ hu
    cases h
    refine ⟨h2, by omega, by simpa using h3, ?_, h1, rfl⟩
    simp at h4 ⊢; omega
  · cases h
theorem ownS_gr' {s t : EfS} (h : t.left ≤ s.left ∧ t = { s with left := t.left }) : Gr 0 0 s t := by
  obtain ⟨h1, h2⟩ := h
  have e1 : t.inn = s.inn := by rw [h2]
  have e2 : t.stk = s.stk := by rw [h2]
  exact ⟨h1, by omega, by omega, by rw [e2]; omega⟩
theorem controlS_gr (hr : ∀ q s t, run q s = .ok t → Gr 0 0 s t) {name : List UInt8} {s t : EfS} (h : controlS run name s = some (.ok t)) : Gr 16 16 s t := by
  unfold controlS at h
  split at h
  · -- call
    simp only [Option.some.injEq] at h
    split at h
    · cases h
    · rename_i q u hq
      exact ((quotS_gr hq).1.trans (hr _ _ _ h)).mono (by omega) (by omega)
  split at h
  · -- dip
    simp only [Option.some.injEq] at h
    split at h
    · cases h
    · rename_i q u hq
      split at h
      · cases h
      · rename_i v hv
        cases h
        exact ((((quotS_gr hq).1.trans (popS_gr u)).trans (hr _ _ _ hv)).trans (pushS_gr v _)).mono (by omega) (by omega)
  split at h
  · -- keep
    simp only [Option.some.injEq] at h
    split at h
    · cases h
    · rename_i q u hq
      split at h
      · cases h
      · rename_i v hv
        cases h
        exact (((((quotS_gr hq).1.trans (popS_gr u)).trans (pushS_gr _ _)).trans (hr _ _ _ hv)).trans (pushS_gr v _)).mono (by omega) (by omega)
  split at h
  · -- if
    simp only [Option.some.injEq] at h
    split at h
    · cases h
    · rename_i b u hq
      split at h
      · cases h
      · rename_i a v hq2
        split at h
        · cases h
        · rename_i ai ao w ha
          split at h
          · cases h
          · rename_i bi bo x hb
            split at h
            · rename_i he
              cases h
              obtain ⟨a1, a2, a3, a4, a5, a6⟩ := ownS_gr hr ha
              obtain ⟨b1, b2, b3, b4, b5, b6⟩ := ownS_gr hr hb
              have g1 := (((quotS_gr hq).1.trans (quotS_gr hq2).1).trans (popS_gr v)).trans ((ownS_gr' ⟨a5, a6⟩).trans (ownS_gr' ⟨b5, b6⟩))
              have e1 : x.inn = (popS v).2.inn := by rw [b6, a6]
              have e2 : x.stk = (popS v).2.stk := by rw [b6, a6]
              have g0 := ((quotS_gr hq).1.trans (quotS_gr hq2).1).trans (popS_gr v)
              have g2 := applyS_gr (max ai bi).toNat (max ai bi + ao - ai).toNat x
              have l2 := applyS_left (max ai bi).toNat (max ai bi + ao - ai).toNat x
              have h1 : ((max ai bi).toNat : Int) = max ai bi := by omega
              have h2 : ((max ai bi + ao - ai).toNat : Int) = max ai bi + ao - ai := by omega
              obtain ⟨q1, q2, q3, q4⟩ := g0
              obtain ⟨p1, p2, p3, p4⟩ := g2
              rw [e1] at p2 p3
              rw [e2] at p4
              exact ⟨by omega, by omega, by omega, by omega⟩
            · cases h
  split at h
  · -- when, times
    simp only [Option.some.injEq] at h
    split at h
    · cases h
    · rename_i q u hq
      split at h
      · cases h
      · rename_i ai ao w ha
        split at h
        · rename_i he
          cases h
          obtain ⟨a1, a2, a3, a4, a5, a6⟩ := ownS_gr hr ha
          have e1 : w.inn = (popS u).2.inn := by rw [a6]
          have e2 : w.stk = (popS u).2.stk := by rw [a6]
          obtain ⟨q1, q2, q3, q4⟩ := (quotS_gr hq).1.trans (popS_gr u)
          obtain ⟨p1, p2, p3, p4⟩ := applyS_gr ai.toNat ao.toNat w
          have l2 := applyS_left ai.toNat ao.toNat w
          rw [e1] at p2 p3
          rw [e2] at p4
          exact ⟨by omega, by omega, by omega, by omega⟩
        · cases h
  split at h
  · -- loop
    simp only [Option.some.injEq] at h
    split at h
    · cases h
    · rename_i q u hq
      split at h
      · cases h
      · rename_i ai ao w ha
        split at h
        · rename_i he
          cases h
          obtain ⟨a1, a2, a3, a4, a5, a6⟩ := ownS_gr hr ha
          have e1 : w.inn = u.inn := by rw [a6]
          have e2 : w.stk = u.stk := by rw [a6]
          obtain ⟨q1, q2, q3, q4⟩ := (quotS_gr hq).1
          obtain ⟨p1, p2, p3, p4⟩ := applyS_gr ai.toNat ai.toNat w
          have l2 := applyS_left ai.toNat ai.toNat w
          rw [e1] at p2 p3
          rw [e2] at p4
          exact ⟨by omega, by omega, by omega, by omega⟩
        · cases h
  split at h
  · -- each
    simp only [Option.some.injEq] at h
    split at h
    · cases h
    · rename_i q u hq
      split at h
      · cases h
      · rename_i ai ao w ha
        split at h
        · rename_i he
          cases h
          obtain ⟨a1, a2, a3, a4, a5, a6⟩ := ownS_gr hr ha
          have e1 : w.inn = (popS u).2.inn := by rw [a6]
          have e2 : w.stk = (popS u).2.stk := by rw [a6]
          obtain ⟨q1, q2, q3, q4⟩ := (quotS_gr hq).1.trans (popS_gr u)
          obtain ⟨p1, p2, p3, p4⟩ := applyS_gr ao.toNat ao.toNat w
          have l2 := applyS_left ao.toNat ao.toNat w
          rw [e1] at p2 p3
          rw [e2] at p4
          exact ⟨by omega, by omega, by omega, by omega⟩
        · cases h
  · cases h
theorem primR_le {name : List UInt8} {i o : Nat} (h : primR name = some (i, o)) : i ≤ 3 ∧ o ≤ 3 := by
  unfold primR at h
  cases hf : primsL.find? fun p => p.eff.isSome && decide (p.name = name) with
  | none => rw [hf] at h; cases h
  | some p =>
    rw [hf] at h
    have hm := List.mem_of_find?_eq_some hf
    have key : ∀ p ∈ primsL, ∀ x, p.eff = some x → x.1 ≤ 3 ∧ x.2 ≤ 3 := by
      have : (primsL.all fun p => match p.eff with | some x => decide (x.1 ≤ 3 ∧ x.2 ≤ 3) | none => true) = true := by decide
      intro p hp x hx
      have := List.all_eq_true.1 this p hp
      rw [hx] at this; simpa using this
    exact key p hm (i, o) h
theorem moveR_le {name : List UInt8} {k : Nat} {ks : List Nat} (h : moveR name = some (k, ks)) : k ≤ 3 ∧ ks.length ≤ 3 := by
  unfold moveR at h
  repeat' (split at h)
  all_goals first
    | (cases h; exact ⟨by decide, by decide⟩)
    | cases h
theorem stepS_gr (hk : ∀ n i o, known n = some (i, o) → 0 ≤ i ∧ i ≤ 16 ∧ 0 ≤ o ∧ o ≤ 16) (hr : ∀ q s t, run q s = .ok t → Gr 0 0 s t) {y : Tree} {s t : EfS} (h : stepS run known y s = .ok t) : Gr 16 16 s t := by
  unfold stepS at h
  split at h
  · rename_i name
    split at h
    · rename_i k ks hm
      cases h
      have := moveR_le hm
      exact (movesS_gr k ks s).mono (by omega) (by omega)
    · split at h
      · rename_i r hc
        subst h
        exact controlS_gr hr hc
      · split at h
        · rename_i i o hp
          cases h
          have := primR_le hp
          exact (applyS_gr i o s).mono (by omega) (by omega)
        · split at h
          · rename_i i o hp
            cases h
            have := hk _ _ _ hp
            exact (applyS_gr i.toNat o.toNat s).mono (by omega) (by omega)
          · cases h
  · cases h
    exact (pushS_gr s _).mono (by omega) (by omega)
theorem runS_gr (hk : ∀ n i o, known n = some (i, o) → 0 ≤ i ∧ i ≤ 16 ∧ 0 ≤ o ∧ o ≤ 16) : ∀ (n : Nat) (l : List Tree) (s t : EfS), runS known n l s = .ok t → Gr 0 0 s t
  | n, [], s, t, h => by
    unfold runS at h; cases h; exact .refl s
  | 0, _ :: _, s, t, h => by unfold runS at h; cases h
  | n + 1, y :: r, s, t, h => by
    unfold runS at h
    split at h
    · cases h
    · rename_i hl
      split at h
      · cases h
      · rename_i u hu
        obtain ⟨p1, p2, p3, p4⟩ := stepS_gr hk (fun q s t h => runS_gr hk n q s t h) hu
        obtain ⟨q1, q2, q3, q4⟩ := runS_gr hk n r u t h
        simp only at p1 p2 p3 p4
        exact ⟨by omega, by omega, by omega, by omega⟩
theorem controlS_congr {r1 r2 : List Tree → EfS → Except Int EfS} {name : List UInt8} {s : EfS} (h : ∀ q t, t.left ≤ s.left → r1 q t = r2 q t) (hr : ∀ q s t, r1 q s = .ok t → Gr 0 0 s t) :
    controlS r1 name s = controlS r2 name s := by
  have own : ∀ q (t : EfS), t.left ≤ s.left → ownS r1 q t = ownS r2 q t := fun q t ht => by unfold ownS; rw [h q ⟨t.left, 0, []⟩ ht]
  have hq0 : ∀ {q t}, quotS s = .ok (q, t) → t.left = s.left := fun h => (quotS_gr h).2
  unfold controlS
  refine ite_congr rfl (fun _ => ?_) fun _ => ite_congr rfl (fun _ => ?_) fun _ => ite_congr rfl (fun _ => ?_) fun _ => ite_congr rfl (fun _ => ?_) fun _ => ite_congr rfl (fun _ => ?_) fun _ => ite_congr rfl (fun _ => ?_) fun _ => ite_congr rfl (fun _ => ?_) fun _ => rfl
  · cases hq : quotS s with
    | error e => rfl
    | ok p => obtain ⟨q, t⟩ := p; have := hq0 hq; simp only; rw [h q t (by omega)]
  · cases hq : quotS s with
    | error e => rfl
    | ok p => obtain ⟨q, t⟩ := p; have := hq0 hq; simp only; rw [h q _ (by rw [popS_left]; omega)]
  · cases hq : quotS s with
    | error e => rfl
    | ok p => obtain ⟨q, t⟩ := p; have := hq0 hq; simp only; rw [h q _ (by show (popS t).2.left ≤ _; rw [popS_left]; omega)]
  · cases hq : quotS s with
    | error e => rfl
    | ok p =>
      obtain ⟨b, t⟩ := p; have := hq0 hq; simp only
      cases hq2 : quotS t with
      | error e => rfl
      | ok p =>
        obtain ⟨a, u⟩ := p
        have h2 := (quotS_gr hq2).2
        simp only
        rw [← own a _ (by rw [popS_left]; omega)]
        cases ha : ownS r1 a (popS u).2 with
        | error e => rfl
        | ok p =>
          obtain ⟨ai, ao, v⟩ := p
          have h3 := (ownS_gr hr ha).2.2.2.2.1
          rw [popS_left] at h3
          simp only
          rw [own b v (by omega)]
  · cases hq : quotS s with
    | error e => rfl
    | ok p => obtain ⟨q, t⟩ := p; have := hq0 hq; simp only; rw [own q _ (by rw [popS_left]; omega)]
  · cases hq : quotS s with
    | error e => rfl
    | ok p => obtain ⟨q, t⟩ := p; have := hq0 hq; simp only; rw [own q _ (by omega)]
  · cases hq : quotS s with
    | error e => rfl
    | ok p => obtain ⟨q, t⟩ := p; have := hq0 hq; simp only; rw [own q _ (by rw [popS_left]; omega)]
theorem stepS_congr {r1 r2 : List Tree → EfS → Except Int EfS} {y : Tree} {s : EfS} (h : ∀ q t, t.left ≤ s.left → r1 q t = r2 q t) (hr : ∀ q s t, r1 q s = .ok t → Gr 0 0 s t) :
    stepS r1 known y s = stepS r2 known y s := by
  unfold stepS
  cases y <;> first | rfl | skip
  simp only
  rw [controlS_congr h hr]
theorem runS_fuel (hk : ∀ n i o, known n = some (i, o) → 0 ≤ i ∧ i ≤ 16 ∧ 0 ≤ o ∧ o ≤ 16) : ∀ (a b : Nat) (l : List Tree) (s : EfS), s.left ≤ a → s.left ≤ b → runS known a l s = runS known b l s
  | a, b, [], s, _, _ => by unfold runS; rfl
  | 0, 0, _ :: _, _, _, _ => rfl
  | 0, b + 1, y :: r, s, ha, _ => by
    unfold runS
    rw [if_pos (by omega)]
  | a + 1, 0, y :: r, s, _, hb => by
    unfold runS
    rw [if_pos (by omega)]
  | a + 1, b + 1, y :: r, s, ha, hb => by
    unfold runS
    by_cases hl : s.left = 0
    · rw [if_pos hl, if_pos hl]
    rw [if_neg hl, if_neg hl]
    rw [stepS_congr (r1 := fun q s => runS known a q s) (r2 := fun q s => runS known b q s) (s := { s with left := s.left - 1 }) (fun q t ht => runS_fuel hk a b q t (by simp at ht; omega) (by simp at ht; omega)) (fun q s t h => runS_gr hk a q s t h)]
    cases hs : stepS (fun q s => runS known b q s) known y { s with left := s.left - 1 } with
    | error e => rfl
    | ok u =>
      have h1 := (stepS_gr hk (fun q s t h => runS_gr hk b q s t h) hs).left
      simp only at h1 ⊢
      exact runS_fuel hk a b r u (by omega) (by omega)
/-- All that may still come. -/
noncomputable def runL (known : List UInt8 → Option (Int × Int)) (l : List Tree) (s : EfS) : Except Int EfS := runS known s.left l s
theorem runL_nil (s : EfS) : runL known [] s = .ok s := by unfold runL runS; rfl
theorem runL_cons (hk : ∀ n i o, known n = some (i, o) → 0 ≤ i ∧ i ≤ 16 ∧ 0 ≤ o ∧ o ≤ 16) (y : Tree) (r : List Tree) (s : EfS) :
    runL known (y :: r) s = if s.left = 0 then .error 11 else match stepS (runL known) known y { s with left := s.left - 1 } with
      | .error e => .error e
      | .ok t => runL known r t := by
  unfold runL
  cases hl : s.left with
  | zero => rfl
  | succ n =>
    conv => lhs; unfold runS
    rw [if_neg (by omega), if_neg (by omega), hl]
    rw [stepS_congr (r1 := fun q s => runS known n q s) (r2 := fun q s => runS known s.left q s) (s := { s with left := n + 1 - 1 }) (fun q t ht => runS_fuel hk n t.left q t (by simpa using ht) (Nat.le_refl _)) (fun q s t h => runS_gr hk n q s t h)]
    cases hs : stepS (fun q s => runS known s.left q s) known y { s with left := n + 1 - 1 } with
    | error e => rfl
    | ok u =>
      have h1 := (stepS_gr hk (fun q s t h => runS_gr hk _ q s t h) hs).left
      simp only at h1 ⊢
      exact runS_fuel hk n u.left r u (by omega) (Nat.le_refl _)
theorem runL_gr (hk : ∀ n i o, known n = some (i, o) → 0 ≤ i ∧ i ≤ 16 ∧ 0 ≤ o ∧ o ≤ 16) {l : List Tree} {s t : EfS} (h : runL known l s = .ok t) : Gr 0 0 s t := runS_gr hk _ l s t h
end
end Go.Proofs.YtliabblchkgclaaDoor

namespace Go.Proofs.YtliabblchkgclaaDoor
open Go Go.Av
def slotC (x : Slot) : List AV := [.bool x.isSome, .fz (itemAVs (x.getD [])) (x.getD []).length false]
/-- Slots, the lowest first. -/
def slotsC : List Slot → List AV
  | [] => []
  | x :: r => slotC x ++ slotsC r
theorem slotC_len (x : Slot) : (slotC x).length = 2 := rfl
theorem slotsC_len : ∀ l : List Slot, (slotsC l).length = 2 * l.length
  | [] => rfl
  | x :: r => by rw [slotsC, List.length_append, slotC_len, slotsC_len r, List.length_cons]; omega
theorem slotsC_append : ∀ l r : List Slot, slotsC (l ++ r) = slotsC l ++ slotsC r
  | [], r => rfl
  | x :: l, r => by rw [List.cons_append, slotsC, slotsC, slotsC_append l r, List.append_assoc]
theorem slotsC_snoc (l : List Slot) (x : Slot) : slotsC (l ++ [x]) = slotsC l ++ slotC x := by
  rw [slotsC_append, slotsC, slotsC, List.append_nil]
/-- Where the list lies, and what stands behind its end. -/
abbrev LR := Option (Nat × List AV)
def lvV (o : LR) (n : Nat) : AV := match o with
  | none => .nils
  | some x => .own x.1 n
def lvS (o : LR) (stk : List Slot) : St := match o with
  | none => []
  | some x => [(x.1, .arr 2 (slotsC stk.reverse ++ x.2) 0)]
def fbox (bf bm bw : Nat) (o : LR) (s : EfS) : Nat × AObj := (bf, .box [.mapr bm, .ptr bw 0, .int .i64 s.inn, lvV o s.stk.length])
def FS (bf bm bw : Nat) (o : LR) (s : EfS) : St := fbox bf bm bw o s :: lvS o s.stk
def okL (o : LR) (s : EfS) : Prop := o = none → s.stk = []
/-- How far an inference may be. -/
def Fine (s : EfS) : Prop := 0 ≤ s.inn ∧ s.inn ≤ 2000000 ∧ s.stk.length ≤ 2000000
theorem top_cells (x : Slot) (r : List Slot) (junk : List AV) : (List.drop (mulN r.length 2) (slotsC (x :: r).reverse ++ junk)).take 2 = slotC x := by
  have h1 : (slotsC r.reverse).length = mulN r.length 2 := by rw [slotsC_len, mulN_eq, List.length_reverse]; omega
  rw [List.reverse_cons, slotsC_snoc, List.append_assoc, List.drop_append_of_le_length (by omega), ← h1, List.drop_length, List.nil_append, List.take_append_of_le_length (by rw [slotC_len]; exact Nat.le_refl _)]
  exact List.take_of_length_le (by rw [slotC_len]; exact Nat.le_refl _)
theorem app_len (l : List Slot) (junk : List AV) : mulN l.length 2 ≤ (slotsC l.reverse ++ junk).length := by
  rw [mulN_eq, List.length_append, slotsC_len, List.length_reverse]; omega
theorem app_cells (l : List Slot) (x : Slot) (junk : List AV) : (slotsC l.reverse ++ junk).take (mulN l.length 2) ++ slotC x = slotsC (x :: l).reverse ++ [] := by
  have h1 : (slotsC l.reverse).length = mulN l.length 2 := by rw [slotsC_len, mulN_eq, List.length_reverse]; omega
  rw [List.reverse_cons, slotsC_snoc, List.append_nil, ← h1, List.take_append_of_le_length (Nat.le_refl _), List.take_length]
theorem slots_pop (x : Slot) (r : List Slot) (junk : List AV) : slotsC (x :: r).reverse ++ junk = slotsC r.reverse ++ (slotC x ++ junk) := by
  rw [List.reverse_cons, slotsC_snoc, List.append_assoc]

/-- What is answered may be said more weakly. -/
theorem ACalls.retw {P : Program} {f : FuncId} {args : List AV} {st : St} {Q Post : AOut → St → Prop} (h : ACalls P f args st Q) (k : ∀ out s', Q out s' → ∃ out', (∀ g e, OutR g out e → OutR g out' e) ∧ Post out' s') : ACalls P f args st Post :=
  ⟨h.ent, fun W F g w us hl hr inv => (h.run W F g w us hl hr inv).mono fun _ _ ⟨g', out, st', a, b, c, d⟩ => by
    obtain ⟨out', k1, k2⟩ := k out st' d
    exact ⟨g', out', st', a, k1 _ _ b, c, k2⟩⟩
theorem nils_weak (g : Gh) (e : Ending) (h : OutR g (.ret (.agg [.bool false, .nils])) e) : OutR g (.ret (.agg [.bool false, .fz [] 0 false])) e := by
  obtain ⟨u, rfl, us, rfl, x, xs, rfl, h1, y, ys, rfl, ⟨h2, h3⟩, h4⟩ := h
  have h2 : y = _ := h2
  subst h2
  exact ⟨_, rfl, _, rfl, _, _, rfl, h1, _, _, rfl, ⟨⟨none, 0, rfl, Nat.le_refl _, (fun h => by cases h), .inl ⟨rfl, rfl⟩⟩, h3⟩, h4⟩
theorem f_pop (bf bm bw : Nat) (o : LR) (s : EfS) (ho : okL o s) (hs : Fine s) : ACalls Tryd.prog 45 [.ptr bf 0] (FS bf bm bw o s) fun out st' =>
    out = .ret (.agg (slotC (popS s).1)) ∧ ∃ o', okL o' (popS s).2 ∧ st' = FS bf bm bw o' (popS s).2 := by
  suffices H : ACalls Tryd.prog 45 [.ptr bf 0] (FS bf bm bw o s) fun out st' =>
      (out = .ret (.agg (slotC (popS s).1)) ∨ (out = .ret (.agg [.bool false, .nils]) ∧ (popS s).1 = none)) ∧ ∃ o', okL o' (popS s).2 ∧ st' = FS bf bm bw o' (popS s).2 by
    refine ACalls.retw H fun out s' ⟨h1, h2⟩ => ?_
    rcases h1 with rfl | ⟨rfl, h3⟩
    · exact ⟨_, fun _ _ h => h, rfl, h2⟩
    · refine ⟨_, nils_weak, ?_, h2⟩
      rw [h3]; rfl
  obtain ⟨left, inn, stk⟩ := s
  obtain ⟨h1, h2, h3⟩ := hs
  simp only at h1 h2 h3
  unfold FS fbox
  cases o with
  | none =>
    have ho : stk = [] := ho rfl
    subst ho
    refine ACalls.of_W tb_ok (fn := Tryd.f45) (n := 45) (by kernel_rfl) rfl (by kernel_rfl) rfl rfl (by simp) (go ?_)
    refine VAll.mk (fun b => go ?_)
    refine VInt.fit (by dsimp only; omega) (by dsimp only; omega) (go ?_)
    exact VRet.mk _ (.cons 1 rfl .nil) ⟨.inr ⟨rfl, rfl⟩, none, fun _ => rfl, rfl⟩
  | some x =>
    obtain ⟨bl, junk⟩ := x
    cases stk with
    | nil =>
      refine ACalls.of_W tb_ok (fn := Tryd.f45) (n := 45) (by kernel_rfl) rfl (by kernel_rfl) rfl rfl (by simp) (go ?_)
      refine VAll.mk (fun b => go ?_)
      refine VInt.fit (by dsimp only; omega) (by dsimp only; omega) (go ?_)
      exact VRet.mk _ (.cons 1 rfl (.cons 1 rfl .nil)) ⟨.inr ⟨rfl, rfl⟩, some (bl, junk), fun _ => rfl, rfl⟩
    | cons x r =>
      simp only [List.length_cons] at h3
      refine ACalls.of_W tb_ok (fn := Tryd.f45) (n := 45) (by kernel_rfl) rfl (by kernel_rfl) rfl rfl (by simp) (go ?_)
      refine VAll.mk (fun b => go ?_)
      refine VDraw.chain [12, 13] (go ?_)
      refine VQ.mk (.int .i64 (r.length : Int)) (by refine go ?_; refine VInt.to (r.length : Int) (by simp) (by omega) (by omega) (go ?_); exact ⟨rfl, rfl⟩) (go ?_)
      refine VQ.mk (.agg (slotC x)) (by refine go ?_; refine VTake.mk (slotC x) (top_cells x r junk) (by simp [slotC_len]) (go ?_); exact ⟨rfl, rfl⟩) (go ?_)
      refine VAll.mk (fun b2 => go ?_)
      refine VDraw.chain [14] (go ?_)
      refine VQ.mk (.int .i64 (r.length : Int)) (by refine go ?_; refine VInt.to (r.length : Int) (by simp) (by omega) (by omega) (go ?_); exact ⟨rfl, rfl⟩) (go ?_)
      exact VRet.mk _ (.cons 2 rfl (.cons 2 rfl .nil)) ⟨.inl rfl, some (bl, slotC x ++ junk), (fun h => by cases h), congrArg (fun c => ([(bf, AObj.box [.mapr bm, .ptr bw 0, .int .i64 inn, .own bl r.length]), (bl, AObj.arr 2 c 0)] : St)) (slots_pop x r junk)⟩
theorem pop_use {bf bm bw : Nat} {o : LR} {s : EfS} {R st : St} {Post : AOut → St → Prop} (ho : okL o s) (hs : Fine s) (hp : (FS bf bm bw o s ++ R).Perm st)
    (k : ∀ o', okL o' (popS s).2 → Post (.ret (.agg (slotC (popS s).1))) (R ++ FS bf bm bw o' (popS s).2)) : ACalls Tryd.prog 45 [.ptr bf 0] st Post :=
  ACalls.usep (f_pop bf bm bw o s ho hs) hp (by rintro out s' ⟨rfl, o', h, rfl⟩; exact k o' h)
/-- What ends an inference. -/
def stopV (e : Int) : AV := .iface 69 (.agg [.int .i64 e])
def QuotP (bf bm bw : Nat) (r : Except Int (List Tree × EfS)) (out : AOut) (st : St) : Prop := match r with
  | .ok (q, t) => out = .ret (.fz (itemAVs q) q.length false) ∧ ∃ o', okL o' t ∧ st = FS bf bm bw o' t
  | .error e => out = .panic (stopV e) ∧ st = []
theorem f_quot (bf bm bw : Nat) (o : LR) (s : EfS) (ho : okL o s) (hs : Fine s) : ACalls Tryd.prog 46 [.ptr bf 0] (FS bf bm bw o s) (QuotP bf bm bw (quotS s)) := by
  have hp := fun {R st : St} {Post : AOut → St → Prop} => pop_use (R := R) (st := st) (Post := Post) (bf := bf) (bm := bm) (bw := bw) ho hs
  unfold quotS
  generalize popS s = p at hp
  obtain ⟨x, t⟩ := p
  dsimp only at hp
  refine ACalls.of_W tb_ok (fn := Tryd.f46) (n := 13) (by kernel_rfl) rfl (by kernel_rfl) rfl rfl (by simp) (go ?_)
  refine hp (R := []) (by simp) fun o' ho' => ?_
  cases x with
  | none =>
    refine go ?_
    refine VAll.mk (fun b => go ?_)
    exact VRet.mk [] .nil ⟨rfl, rfl⟩
  | some l =>
    refine go ?_
    refine VAll.mk (fun b => go ?_)
    exact VRet.mk _ (VSel.skip (VSel.refl _) _) ⟨rfl, o', ho', rfl⟩
theorem f_need (b : Bool) : ACalls Tryd.prog 48 [.bool b] [] fun out st' => st' = [] ∧ match b with
    | true => out = .ret (.tup [])
    | false => out = .panic (stopV 12) := by
  cases b with
  | true =>
    refine ACalls.of_W tb_ok (fn := Tryd.f48) (n := 6) (by kernel_rfl) rfl (by kernel_rfl) rfl rfl (by simp) (go ?_)
    refine VRet.mk [] .nil ?_
    exact ⟨rfl, rfl⟩
  | false =>
    refine ACalls.of_W tb_ok (fn := Tryd.f48) (n := 6) (by kernel_rfl) rfl (by kernel_rfl) rfl rfl (by simp) (go ?_)
    refine VRet.mk [] .nil ?_
    exact ⟨rfl, rfl⟩
theorem popsS_next : ∀ (n : Nat) (s : EfS), (popsS (n + 1) s).2 = (popS (popsS n s).2).2 ∧ (popsS (n + 1) s).1 = (popS (popsS n s).2).1 :: (popsS n s).1
  | 0, s => ⟨rfl, rfl⟩
  | n + 1, s => by
    obtain ⟨h1, h2⟩ := popsS_next n (popS s).2
    refine ⟨?_, ?_⟩
    · show (popsS (n + 1) (popS s).2).2 = _
      rw [h1]; rfl
    · show (popsS (n + 1) (popS s).2).1 ++ [(popS s).1] = _
      rw [h2]; rfl
theorem Fine.pops {s : EfS} {k : Nat} (h : 0 ≤ s.inn ∧ s.inn ≤ 1000000 ∧ s.stk.length ≤ 1000000) (hk : k ≤ 65536) : Fine (popsS k s).2 := by
  obtain ⟨⟨h1, h2, h3, h4⟩, h5, _⟩ := popsS_gr k s
  exact ⟨by omega, by omega, by omega⟩
/-- Some unknown values on top. -/
def pushN (j : Nat) (s : EfS) : EfS := { s with stk := List.replicate j none ++ s.stk }
theorem f_apply (bf bm bw : Nat) (o : LR) (s : EfS) (i u : Int) (ho : okL o s) (hs : 0 ≤ s.inn ∧ s.inn ≤ 1000000 ∧ s.stk.length ≤ 1000000) (hi : i.toNat ≤ 65536) (hu : u.toNat ≤ 65536) :
    ACalls Tryd.prog 35 [.ptr bf 0, .agg [.int .i64 i, .int .i64 u]] (FS bf bm bw o s) fun out st' => out = .ret (.tup []) ∧ ∃ o', okL o' (applyS i.toNat u.toNat s) ∧ st' = FS bf bm bw o' (applyS i.toNat u.toNat s) := by
  refine ACalls.of_W tb_ok (fn := Tryd.f35) (n := 26) (by kernel_rfl) rfl (by kernel_rfl) rfl rfl (by simp) (go ?_)
  refine VAll.mk (fun b => go ?_)
  refine VLoop.mk [6] (Nat × LR) (fun k => [.int .i64 k.1]) (fun k => (b, .box [.int .i64 i, .int .i64 u]) :: FS bf bm bw k.2 (popsS k.1 s).2) (fun k => k.1 ≤ i.toNat ∧ okL k.2 (popsS k.1 s).2) (fun k => i.toNat - k.1) (0, o) ?_ ?_
  · exact ⟨⟨Nat.zero_le _, ho⟩, rfl, VSel.refl _⟩
  rintro ⟨k, o1⟩ ⟨hk, ho1⟩
  dsimp only at hk ho1 ⊢
  refine go ?_
  refine fork (fun hlt => go ?_) (fun hlt => ?_)
  · refine pop_use ho1 (Fine.pops hs (by omega)) (R := [(b, .box [.int .i64 i, .int .i64 u])]) (List.perm_append_comm) fun o2 ho2 => ?_
    refine go ?_
    obtain ⟨e1, _⟩ := popsS_next k s
    rw [← e1] at ho2 ⊢
    exact ⟨(k + 1, o2), ⟨by dsimp only; omega, ho2⟩, by dsimp only; omega, rfl, VSel.refl _⟩
  have hk : k = i.toNat := by omega
  subst hk
  have hF := Fine.pops hs (Nat.le_trans (Nat.le_refl _) hi)
  have hA : ∀ j, j = u.toNat → pushN j (popsS i.toNat s).2 = applyS i.toNat u.toNat s := fun j hj => by subst hj; rfl
  generalize (popsS i.toNat s).2 = t at ho1 hF hA ⊢
  refine go ?_
  refine VLoop.mk [13] (Nat × LR) (fun k => [.int .i64 k.1]) (fun k => (b, .box [.int .i64 i, .int .i64 u]) :: FS bf bm bw k.2 (pushN k.1 t)) (fun k => k.1 ≤ u.toNat ∧ okL k.2 (pushN k.1 t)) (fun k => u.toNat - k.1) (0, o1) ?_ ?_
  · exact ⟨⟨Nat.zero_le _, ho1⟩, rfl, VSel.refl _⟩
  rintro ⟨k, o2⟩ ⟨hk, ho2⟩
  dsimp only at hk ho2 ⊢
  refine go ?_
  refine fork (fun hlt => go ?_) (fun hlt => ?_)
  · obtain ⟨f1, f2, f3⟩ := hF
    have hlen : (pushN k t).stk.length = k + t.stk.length := by simp [pushN]
    have hnx : pushN (k + 1) t = { pushN k t with stk := none :: (pushN k t).stk } := by simp [pushN, List.replicate_succ]
    cases o2 with
    | none =>
      have h0 := ho2 rfl
      have hk0 : k = 0 ∧ t.stk = [] := by
        rw [h0] at hlen
        exact ⟨by simp at hlen; omega, List.length_eq_zero_iff.1 (by simp at hlen; omega)⟩
      refine go ?_
      refine VAll.mk (fun b2 => go ?_)
      refine ⟨(k + 1, some (b2, [])), ⟨by dsimp only; omega, fun h => by cases h⟩, by dsimp only; omega, rfl, ?_⟩
      unfold FS fbox
      rw [hnx, h0]
      exact .cons 1 rfl (.cons 1 rfl (.cons 0 rfl .nil))
    | some x =>
      obtain ⟨bl, junk⟩ := x
      refine go ?_
      refine VGd.mk ⟨rfl, Nat.zero_le _, app_len _ _, by dsimp only; omega⟩ (go ?_)
      refine VAll.mk (fun b2 => go ?_)
      refine ⟨(k + 1, some (b2, [])), ⟨by dsimp only; omega, fun h => by cases h⟩, by dsimp only; omega, rfl, ?_⟩
      unfold FS fbox
      rw [hnx]
      exact .cons 1 rfl (.cons 1 rfl (.cons 0 (by dsimp only; rw [← app_cells]; rfl) .nil))
  · have hk : k = u.toNat := by omega
    rw [hA k hk] at ho2 ⊢
    refine go ?_
    exact VRet.mk (FS bf bm bw o2 (applyS i.toNat u.toNat s)) (VSel.skip (VSel.refl _) _) ⟨rfl, o2, ho2, rfl⟩
end Go.Proofs.YtliabblchkgclaaDoor

namespace Go.Proofs.YtliabblchkgclaaDoor
open Go Go.Av
mutual
/-- Items of which inference may go through all. -/
def goodI : Tree → Bool
  | .quot l => decide (l.length ≤ 2513169434916) && goodIs l
  | .call s => !s.isEmpty
  | .none => false
  | .odd _ _ => false
  | _ => true
def goodIs : List Tree → Bool
  | [] => true
  | t :: r => goodI t && goodIs r
end
def GoodX (x : Slot) : Prop := ∀ l, x = some l → l.length ≤ 2513169434916 ∧ goodIs l = true
def GoodS (s : EfS) : Prop := ∀ x ∈ s.stk, GoodX x
def Bud (s : EfS) : Prop := 0 ≤ s.inn ∧ s.inn + 16 * s.left ≤ 100000 ∧ s.stk.length + 16 * s.left ≤ 100000 ∧ s.left ≤ 4096
theorem Bud.fine {s : EfS} (h : Bud s) : Fine s := ⟨h.1, by have := h.2.1; omega, by have := h.2.2.1; omega⟩
theorem GoodS.pop {s : EfS} (h : GoodS s) : GoodX (popS s).1 ∧ GoodS (popS s).2 := by
  unfold popS
  split
  · rename_i e
    exact ⟨(fun l e => by cases e), fun x hx => h x (by exact hx)⟩
  · rename_i x r e
    exact ⟨h x (by rw [e]; exact List.mem_cons_self ..), fun y hy => h y (by rw [e]; exact List.mem_cons_of_mem _ hy)⟩
theorem GoodS.push {s : EfS} {x : Slot} (h : GoodS s) (hx : GoodX x) : GoodS (pushS s x) := by
  intro y hy
  rcases List.mem_cons.1 hy with rfl | hy
  · exact hx
  · exact h y hy
theorem GoodS.pops {s : EfS} (h : GoodS s) : ∀ n, GoodS (popsS n s).2 ∧ ∀ x ∈ (popsS n s).1, GoodX x
  | 0 => ⟨h, fun x hx => by cases hx⟩
  | n + 1 => by
    obtain ⟨h1, h2⟩ := GoodS.pops h n
    obtain ⟨e1, e2⟩ := popsS_next n s
    obtain ⟨h3, h4⟩ := h1.pop
    rw [e1, e2]
    refine ⟨h4, fun x hx => ?_⟩
    rcases List.mem_cons.1 hx with rfl | hx
    · exact h3
    · exact h2 x hx
theorem GoodS.apply {s : EfS} (h : GoodS s) (i u : Nat) : GoodS (applyS i u s) := by
  intro x hx
  rcases List.mem_append.1 hx with hx | hx
  · obtain rfl := (List.mem_replicate.1 hx).2
    intro l e; cases e
  · exact (h.pops i).1 x hx
/-- What is shared: the work done, and the effects of known words. -/
def WM (bw bm : Nat) (ents : List (AV × AV)) (left : Nat) : St := [(bw, .box [.int .i64 ((4096 - left : Nat) : Int)]), (bm, .map ents)]
def RunP (bf bw bm : Nat) (ents : List (AV × AV)) (v : AV) (r : Except Int EfS) (out : AOut) (st : St) : Prop := match r with
  | .ok t => out = .ret v ∧ GoodS t ∧ ∃ o', okL o' t ∧ st = WM bw bm ents t.left ++ FS bf bm bw o' t
  | .error e => out = .panic (stopV e) ∧ st = []
/-- The contract of run, for so much work. -/
def RunC (known : List UInt8 → Option (Int × Int)) (bw bm : Nat) (ents : List (AV × AV)) (n : Nat) : Prop :=
  ∀ (bf : Nat) (o : LR) (s : EfS) (q : List Tree), s.left ≤ n → okL o s → Bud s → GoodS s → q.length ≤ 2513169434916 → goodIs q = true →
    ACalls Tryd.prog 21 [.ptr bf 0, .fz (itemAVs q) q.length false] (WM bw bm ents s.left ++ FS bf bm bw o s) (RunP bf bw bm ents (.tup []) (runL known q s))
def OwnP (bf bw bm : Nat) (ents : List (AV × AV)) (o : LR) (r : Except Int (Int × Int × EfS)) (out : AOut) (st : St) : Prop := match r with
  | .ok (i, u, t) => out = .ret (.agg [.int .i64 i, .int .i64 u]) ∧ st = WM bw bm ents t.left ++ FS bf bm bw o t
  | .error e => out = .panic (stopV e) ∧ st = []
/-- A contract over some objects, where there are more: these stand last afterwards. -/
theorem ACalls.usel {P : Program} {f : FuncId} {args : List AV} {s R st : St} {Q Post : AOut → St → Prop} (h : ACalls P f args s Q) (hp : (s ++ R).Perm st) (k : ∀ out s', Q out s' → Post out (s' ++ R)) : ACalls P f args st Post :=
  ⟨h.ent, fun W F g w us hl hr inv => ((ACalls.perm (ACalls.frame (R := R) h) hp).run W F g w us hl hr inv).mono fun _ _ ⟨g', out, st', a, b, c, s', e, hq⟩ => ⟨g', out, st', a, b, c, e ▸ k out s' hq⟩⟩
theorem f_own {known : List UInt8 → Option (Int × Int)} {bw bm : Nat} {ents : List (AV × AV)} {n : Nat} (hR : RunC known bw bm ents n) (bf : Nat) (o : LR) (s : EfS) (q : List Tree) (hn : s.left ≤ n) (hl : s.left ≤ 4096)
    (hq : q.length ≤ 2513169434916) (hg : goodIs q = true) :
    ACalls Tryd.prog 47 [.ptr bf 0, .fz (itemAVs q) q.length false] (WM bw bm ents s.left ++ FS bf bm bw o s) (OwnP bf bw bm ents o (ownS (runL known) q s)) := by
  refine ACalls.of_W tb_ok (fn := Tryd.f47) (n := 29) (by kernel_rfl) rfl (by kernel_rfl) rfl rfl (by simp) (go ?_)
  refine VAll.mk (fun b1 => go ?_)
  refine VDraw.chain [9, 10] (go ?_)
  refine VAll.mk (fun bg => go ?_)
  have h := hR bg none ⟨s.left, 0, []⟩ q hn (fun _ => rfl) ⟨Int.le_refl _, by simp; omega, by simp; omega, hl⟩ (fun x hx => by cases hx) hq hg
  refine ACalls.usel h (R := (b1, .box [.int .i64 0, .int .i64 0]) :: FS bf bm bw o s) (List.Perm.append_right (FS bf bm bw o s) (List.perm_append_comm (l₁ := WM bw bm ents s.left) (l₂ := [(bg, .box [.mapr bm, .ptr bw 0, .int .i64 0, .nils]), (b1, .box [.int .i64 0, .int .i64 0])]))) ?_
  intro out s' hp
  unfold ownS
  cases hr : runL known q ⟨s.left, 0, []⟩ with
  | error e =>
    rw [hr] at hp
    obtain ⟨rfl, rfl⟩ := hp
    refine go ?_
    exact VRet.mk [] .nil ⟨rfl, rfl⟩
  | ok t =>
    rw [hr] at hp
    obtain ⟨rfl, _, o', ho', rfl⟩ := hp
    obtain ⟨tl, ti, tk⟩ := t
    cases o with
    | none =>
      cases o' with
      | none =>
        obtain rfl : tk = [] := ho' rfl
        refine go ?_
        refine VDraw.chain [10] (go ?_)
        exact VRet.mk _ (.cons 0 rfl (.cons 0 rfl (.cons 2 rfl .nil))) ⟨rfl, rfl⟩
      | some x =>
        refine go ?_
        refine VDraw.chain [10] (go ?_)
        exact VRet.mk _ (.cons 0 rfl (.cons 0 rfl (.cons 3 rfl .nil))) ⟨rfl, rfl⟩
    | some y =>
      cases o' with
      | none =>
        obtain rfl : tk = [] := ho' rfl
        refine go ?_
        refine VDraw.chain [10] (go ?_)
        exact VRet.mk _ (.cons 0 rfl (.cons 0 rfl (.cons 2 rfl (.cons 2 rfl .nil)))) ⟨rfl, rfl⟩
      | some x =>
        refine go ?_
        refine VDraw.chain [10] (go ?_)
        exact VRet.mk _ (.cons 0 rfl (.cons 0 rfl (.cons 3 rfl (.cons 3 rfl .nil)))) ⟨rfl, rfl⟩
end Go.Proofs.YtliabblchkgclaaDoor
