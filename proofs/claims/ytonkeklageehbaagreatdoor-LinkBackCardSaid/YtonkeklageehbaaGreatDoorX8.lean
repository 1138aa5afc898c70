/- Are two trees of the reference the same? Conditions: as each says. Trees that are clean have small trees of the reference. Conditions: as each says. Texts that stand one behind the other, and bytes that belong to no character. Conditions: as each says. unicode/utf8.ValidString. Conditions: as each says. Texts without a fault, a character at a time. Conditions: as each says. unicode/utf8.ValidString: the walk. strings.IndexFunc and strings.TrimLeftFunc, at a function with a contract. Lex: fault. The tokens of a text, as plain Lean tells them. Conditions: none. What parse reads, as plain Lean tells it. Conditions: none. Lex: Tokens. The reader of parse: its small steps. Conditions: as each says. The trees of values and items: the walks. Conditions: as each says. What parse reads is taken away: plain Lean. Conditions: none. parse: literal, item, items. Conditions: as each says. Tokens of texts that stand one behind the other: plain Lean. Conditions: as each says. parse: define, read, Items, Parse. Conditions: as each says. Forms as the reference's: DefTree, FormTrees, SameDef, SameForms. Conditions: as each says. The reference's Chars and Bad. The reference's Blank. The reference's numbers. The reference's names. The reference's Measure, Sound, Bare, Name. Conditions: as each says. term.Name, term.measure, term.item, term.Check: the walks. Conditions: as each says. measure and the reference's Measure: plain Lean. Conditions: as each says. term.Same, term.SameItems: the walks. Conditions: as each says. Effects: what effect.Of computes, in plain Lean. Conditions: none. Effects: the names of the primitives, and their effects: strings.Fields, strings.Cut, effect.Names, effect.Prim. Conditions: as each says. -/
import Derived.Test.YtonkeklageehbaaGreatDoorX7
import Derived.Test.YtonkeklageehbaaGreatDoorX4
import Derived.Lib.Fields
import Derived.Test.YtonkeklageehbaaGreatDoorX6
set_option linter.all false
set_option maxRecDepth 20000
namespace Go.Proofs.YtonkeklageehbaaGreatDoor
open Go Go.Av
def leafSame (k n : Int) (s : List UInt8) (n' : Int) (s' : List UInt8) : Bool :=
  if k = 1 ∨ k = 6 then decide (n = n') else if k = 3 then decide (n = 0) == decide (n' = 0) else if k = 2 ∨ k = 7 then decide (s = s') else true
mutual
def sameV : RV → RV → Bool
  | .mk k n s l, .mk k' n' s' l' => decide (k = k') && decide (l.length = l'.length) && leafSame k n s n' s' && sameVs l l'
def sameVs : List RV → List RV → Bool
  | [], [] => true
  | a :: r, b :: r' => sameV a b && sameVs r r'
  | _, _ => false
end
theorem sameVs_length : ∀ {a b : List RV}, sameVs a b = true → a.length = b.length
  | [], [], _ => rfl
  | a :: r, b :: r', h => by simp [sameVs] at h; simp [sameVs_length h.2]
  | [], _ :: _, h => by simp [sameVs] at h
  | _ :: _, [], h => by simp [sameVs] at h
mutual
/-- No list of more than 2^40. -/
def RV.small : RV → Bool
  | .mk _ _ _ l => decide (l.length ≤ 2513169434916) && smallAll l
def smallAll : List RV → Bool
  | [] => true
  | v :: r => v.small && smallAll r
end
mutual
def RV.deep : RV → Nat
  | .mk _ _ _ l => deepAll l + 1
def deepAll : List RV → Nat
  | [] => 0
  | v :: r => max v.deep (deepAll r)
end
theorem smallAll_at : ∀ {l : List RV} {i : Nat} {t : RV}, smallAll l = true → l[i]? = some t → t.small = true
  | [], _, _, _, h => by simp at h
  | x :: l, 0, t, hc, h => by simp at h; subst h; simp [smallAll] at hc; exact hc.1
  | x :: l, i + 1, t, hc, h => by simp [smallAll] at hc; exact smallAll_at hc.2 (by simpa using h)
theorem deepAll_at : ∀ {l : List RV} {i : Nat} {t : RV}, l[i]? = some t → t.deep ≤ deepAll l
  | [], _, _, h => by simp at h
  | x :: l, 0, t, h => by simp at h; subst h; rw [deepAll]; omega
  | x :: l, i + 1, t, h => by
    have := deepAll_at (l := l) (i := i) (t := t) (by simpa using h)
    rw [deepAll]; omega
theorem f_SameAll' (a b : List RV) (ra rb : List AV) (fa fb : Bool) (h : ∀ (i : Nat) v w, a[i]? = some v → b[i]? = some w → Av.Fn Tryz.prog 37 [.agg (rvAV v), .agg (rvAV w)] (.bool (sameV v w)))
    (ha : a.length ≤ 2513169434916) (hb : b.length ≤ 2513169434916) :
    Av.Fn Tryz.prog 18 [.fz (rvsC a ++ ra) a.length fa, .fz (rvsC b ++ rb) b.length fb] (.bool (sameVs a b)) := by
  refine ACalls.of_W tb_ok (fn := Tryz.f18) (n := 27) (by kernel_rfl) rfl (by kernel_rfl) rfl rfl (by simp) (go ?_)
  refine fork (fun hl => go ?_) (fun hl => go ?_)
  · refine VRet.mk [] .nil ?_
    refine ⟨?_, rfl⟩
    cases e : sameVs a b with
    | true => exact absurd (by rw [sameVs_length e]) hl
    | false => rfl
  · have hl : a.length = b.length := by omega
    refine VLoop.mk [5] Nat (fun i => [.int .i64 i]) (fun _ => []) (fun i => i ≤ a.length ∧ sameVs a b = sameVs (a.drop i) (b.drop i)) (fun i => a.length - i) 0 ?_ ?_
    · exact ⟨⟨by omega, by simp⟩, rfl, .nil⟩
    intro i ⟨hi, hI⟩
    refine go ?_
    refine fork (fun hlt => go ?_) (fun hlt => go ?_)
    · have hlt : i < a.length := by omega
      obtain ⟨x, hx⟩ : ∃ x, a[i]? = some x := ⟨a[i], by simp [hlt]⟩
      obtain ⟨y, hy⟩ : ∃ y, b[i]? = some y := ⟨b[i]'(by omega), by simp⟩
      have hda : a.drop i = x :: a.drop (i + 1) := by rw [List.drop_eq_getElem_cons hlt]; congr 1; rw [List.getElem?_eq_getElem hlt] at hx; exact Option.some.inj hx
      have hdb : b.drop i = y :: b.drop (i + 1) := by rw [List.drop_eq_getElem_cons (by omega)]; congr 1; rw [List.getElem?_eq_getElem (by omega)] at hy; exact Option.some.inj hy
      rw [hda, hdb, sameVs] at hI
      have hs := h i x y hx hy
      refine VQ.mk (.agg (rvAV x)) (by refine go ?_; exact VTake.mk (rvAV x) (by simpa using rvsC_at (r := ra) hx) (by simp) ⟨rfl, rfl⟩) (go ?_)
      refine VQ.mk (.agg (rvAV y)) (by refine go ?_; exact VTake.mk (rvAV y) (by simpa using rvsC_at (r := rb) hy) (by simp) ⟨rfl, rfl⟩) (go ?_)
      refine VQ.mk (.bool (sameV x y)) (by refine go ?_; refine Fn.use (hs) (go ?_); exact ⟨congrArg _ (rfl), rfl⟩) (go ?_)
      refine fork (fun hne => go ?_) (fun hne => go ?_)
      · refine VRet.mk [] .nil ?_
        rw [hI]; simp at hne; simp [hne]
      · refine ⟨i + 1, ⟨by omega, ?_⟩, by omega, rfl, .nil⟩
        rw [hI]; simp at hne; simp [hne]
    · refine VRet.mk [] .nil ?_
      rw [List.drop_eq_nil_of_le (by omega), List.drop_eq_nil_of_le (by omega)] at hI
      simp [hI, sameVs]

set_option maxHeartbeats 400000 in
theorem f_Same' (k n k' n' : Int) (s s' : List UInt8) (l l' : List RV)
    (h : Av.Fn Tryz.prog 18 [.fz (rvsC l) l.length false, .fz (rvsC l') l'.length false] (.bool (sameVs l l'))) (hl : l.length ≤ 2513169434916) (hl' : l'.length ≤ 2513169434916) :
    Av.Fn Tryz.prog 37 [.agg [.int .i64 k, .int .i64 n, .str s, .fz (rvsC l) l.length false], .agg [.int .i64 k', .int .i64 n', .str s', .fz (rvsC l') l'.length false]] (.bool (sameV (.mk k n s l) (.mk k' n' s' l'))) := by
  rw [sameV]
  refine ACalls.of_W tb_ok (fn := Tryz.f37) (n := 51) (by kernel_rfl) rfl (by kernel_rfl) rfl rfl (by simp) (go ?_)
  refine VAll.mk (fun b1 => go ?_)
  refine VAll.mk (fun b2 => go ?_)
  repeat' (refine fork (fun _ => go ?_) (fun _ => go ?_))
  all_goals first | refine VRet.mk [] .nil ⟨?_, rfl⟩ | (refine Fn.use h (go ?_); refine VRet.mk [] .nil ⟨?_, rfl⟩)
  all_goals clear h
  all_goals refine congrArg (fun b => AOut.ret (.bool b)) ?_
  all_goals (simp_all [leafSame] <;> (intro _; omega))
theorem f_sames (n : Nat) :
    (∀ v w : RV, v.small = true → w.small = true → v.deep ≤ n → Av.Fn Tryz.prog 37 [.agg (rvAV v), .agg (rvAV w)] (.bool (sameV v w))) ∧
    (∀ a b : List RV, smallAll a = true → smallAll b = true → a.length ≤ 2513169434916 → b.length ≤ 2513169434916 → deepAll a ≤ n → ∀ ra rb fa fb,
      Av.Fn Tryz.prog 18 [.fz (rvsC a ++ ra) a.length fa, .fz (rvsC b ++ rb) b.length fb] (.bool (sameVs a b))) := by
  suffices H : ∀ v w : RV, v.small = true → w.small = true → v.deep ≤ n → Av.Fn Tryz.prog 37 [.agg (rvAV v), .agg (rvAV w)] (.bool (sameV v w)) from
    ⟨H, fun a b ha hb hla hlb hd ra rb fa fb => f_SameAll' a b ra rb fa fb (fun i v w hv hw => H v w (smallAll_at ha hv) (smallAll_at hb hw) (Nat.le_trans (deepAll_at hv) hd)) hla hlb⟩
  induction n with
  | zero =>
    intro v w _ _ hd
    obtain ⟨k, n, s, l⟩ := v
    rw [RV.deep] at hd; omega
  | succ n ih =>
    intro v w hv hw hd
    obtain ⟨k, n, s, l⟩ := v
    obtain ⟨k', n', s', l'⟩ := w
    rw [RV.deep] at hd
    simp only [RV.small, Bool.and_eq_true, decide_eq_true_eq] at hv hw
    rw [rvAV, rvAV]
    refine f_Same' k n k' n' s s' l l' ?_ hv.1 hw.1
    have := f_SameAll' l l' [] [] false false (fun i v w hx hy => ih v w (smallAll_at hv.2 hx) (smallAll_at hw.2 hy) (by have := deepAll_at hx; omega)) hv.1 hw.1
    rwa [List.append_nil, List.append_nil] at this
theorem f_SameAll {a b : List RV} (ha : smallAll a = true) (hb : smallAll b = true) (hla : a.length ≤ 2513169434916) (hlb : b.length ≤ 2513169434916) (ra rb : List AV) (fa fb : Bool) :
    Av.Fn Tryz.prog 18 [.fz (rvsC a ++ ra) a.length fa, .fz (rvsC b ++ rb) b.length fb] (.bool (sameVs a b)) := (f_sames (deepAll a)).2 a b ha hb hla hlb (Nat.le_refl _) ra rb fa fb
theorem leafSame_refl (k n : Int) (s : List UInt8) : leafSame k n s n s = true := by
  unfold leafSame; simp
mutual
theorem sameV_refl : ∀ v : RV, sameV v v = true
  | .mk k n s l => by rw [sameV, leafSame_refl, sameVs_refl l]; simp
theorem sameVs_refl : ∀ l : List RV, sameVs l l = true
  | [] => by simp [sameVs]
  | v :: r => by rw [sameVs, sameV_refl v, sameVs_refl r]; rfl
end
end Go.Proofs.YtonkeklageehbaaGreatDoor

namespace Go.Proofs.YtonkeklageehbaaGreatDoor
open Go Go.Av
def Tree.isCall : Tree → Bool
  | .call _ => true
  | _ => false
theorem item_val {t : Tree} (h : t.isCall = false) : itemRV t = valRV t := by
  cases t <;> first | rfl | (simp [Tree.isCall] at h)
mutual
theorem clean_small : ∀ (t : Tree), t.clean = true → (valRV t).small = true
  | .int _, _ => by simp [valRV, RV.small, smallAll]
  | .str _, _ => by simp [valRV, RV.small, smallAll]
  | .bool _, _ => by simp [valRV, RV.small, smallAll]
  | .call _, _ => by simp [valRV, RV.small, smallAll]
  | .none, _ => by simp [valRV, RV.small, smallAll]
  | .box _, _ => by simp [valRV, RV.small, smallAll]
  | .odd _ _, h => by simp [Tree.clean] at h
  | .list l, h => by
    simp only [Tree.clean, Bool.and_eq_true, decide_eq_true_eq] at h
    simp only [valRV, RV.small, Bool.and_eq_true, decide_eq_true_eq, valRVs_length]
    exact ⟨h.1, clean_smallV l h.2⟩
  | .quot l, h => by
    simp only [Tree.clean, Bool.and_eq_true, decide_eq_true_eq] at h
    simp only [valRV, RV.small, Bool.and_eq_true, decide_eq_true_eq, itemRVs_length]
    exact ⟨h.1, clean_smallI l h.2⟩
theorem clean_smallV : ∀ (l : List Tree), cleanAll l = true → smallAll (valRVs l) = true
  | [], _ => by simp [valRVs, smallAll]
  | t :: r, h => by
    simp only [cleanAll, Bool.and_eq_true] at h
    simp only [valRVs, smallAll, Bool.and_eq_true]
    exact ⟨clean_small t h.1, clean_smallV r h.2⟩
theorem clean_smallI : ∀ (l : List Tree), cleanAll l = true → smallAll (itemRVs l) = true
  | [], _ => by simp [itemRVs, smallAll]
  | t :: r, h => by
    simp only [cleanAll, Bool.and_eq_true] at h
    rw [itemRVs_cons]
    simp only [smallAll, Bool.and_eq_true]
    refine ⟨?_, clean_smallI r h.2⟩
    cases hc : t.isCall with
    | false => rw [item_val hc]; exact clean_small t h.1
    | true => cases t <;> first | (simp [itemRV, RV.small, smallAll]; done) | (simp [Tree.isCall] at hc)
end
end Go.Proofs.YtonkeklageehbaaGreatDoor

namespace Go.Av
open Go
theorem dec_ascii (c : UInt8) (t : List UInt8) (hc : c.toNat < 128) : dec (c :: t) = (c.toNat, 1) := by
  rw [dec_N]; simp [Lib.decodeN, hc]
/-- A byte of ASCII ends what stands ahead. -/
theorem dec_app {x : List UInt8} (hx : x ≠ []) (c : UInt8) (t : List UInt8) (hc : c.toNat < 128) : dec (x ++ c :: t) = dec x := by
  rw [dec_N, dec_N]
  match x, hx with
  | [a], _ => simp [Lib.decodeN]; repeat' split
              all_goals first | rfl | (exfalso; omega)
  | [a, b], _ => simp [Lib.decodeN]; repeat' split
                 all_goals first | rfl | (exfalso; omega)
  | [a, b, d], _ => simp [Lib.decodeN]; repeat' split
                    all_goals first | rfl | (exfalso; omega)
  | a :: b :: d :: e :: r, _ => simp [Lib.decodeN]
theorem runes_app (x : List UInt8) (c : UInt8) (t : List UInt8) (hc : c.toNat < 128) : runes (x ++ c :: t) = runes x ++ runes (c :: t) := by
  induction x using runes_ind with
  | h0 => rfl
  | h1 x hx ih =>
    obtain ⟨h1, h2, _⟩ := dec_pos x hx
    rw [runes_cons (l := x ++ c :: t) (by simp), dec_app hx c t hc, runes_cons hx, List.cons_append]
    congr 1
    rw [List.drop_append_of_le_length h2]
    exact ih
theorem runes_ascii (c : UInt8) (t : List UInt8) (hc : c.toNat < 128) : runes (c :: t) = (c.toNat, 1) :: runes t := by
  rw [runes_cons (by simp), dec_ascii c t hc]; rfl
def badB (c : Nat × Nat) : Bool := decide (c = (65533, 1))
def faultL : List (Nat × Nat) → Option Nat
  | [] => none
  | c :: rs => if badB c then some 0 else (faultL rs).map (c.2 + ·)
def faultR (l : List UInt8) : Option Nat := faultL (runes l)
theorem faultL_app : ∀ (a b : List (Nat × Nat)), faultL (a ++ b) = none ↔ faultL a = none ∧ faultL b = none
  | [], b => by simp [faultL]
  | c :: a, b => by
    rw [List.cons_append, faultL, faultL]
    cases badB c with
    | true => simp
    | false => simp [faultL_app a b]
theorem faultR_app (x : List UInt8) (c : UInt8) (t : List UInt8) (hc : c.toNat < 128) : faultR (x ++ c :: t) = none ↔ faultR x = none ∧ faultR t = none := by
  unfold faultR
  rw [runes_app x c t hc, faultL_app, runes_ascii c t hc, faultL]
  have : badB (c.toNat, 1) = false := by simp [badB]; omega
  rw [this]; simp
end Go.Av

namespace Go.Proofs.YtonkeklageehbaaGreatDoor
open Go Go.Av
def orI (a b : Int) : Int := IntKind.u64.wrap ((BitVec.ofInt 64 a ||| BitVec.ofInt 64 b).toNat)
def andI (a b : Int) : Int := IntKind.u64.wrap ((BitVec.ofInt 64 a &&& BitVec.ofInt 64 b).toNat)
def byteN (l : List UInt8) (i : Nat) : Nat := (l.getD i 0).toNat
theorem byteN_lt (l : List UInt8) (i : Nat) : byteN l i < 256 := (l.getD i 0).toNat_lt
def wordN (l : List UInt8) : Nat := byteN l 0 ||| byteN l 1 * 2 ^ 8 ||| byteN l 2 * 2 ^ 16 ||| byteN l 3 * 2 ^ 24 ||| byteN l 4 * 2 ^ 32 ||| byteN l 5 * 2 ^ 40 ||| byteN l 6 * 2 ^ 48 ||| byteN l 7 * 2 ^ 56
theorem wrap_nat {n : Nat} (h : n < 18446744073709551616) : IntKind.u64.wrap (n : Int) = n := by
  simp [IntKind.wrap, IntKind.signed, IntKind.bits]; omega
theorem ofInt_nat {n : Nat} (h : n < 18446744073709551616) : (BitVec.ofInt 64 (n : Int)).toNat = n := by
  simp [BitVec.toNat_ofInt]; omega
theorem orI_nat {a b : Nat} (ha : a < 18446744073709551616) (hb : b < 18446744073709551616) : orI a b = ((a ||| b : Nat) : Int) := by
  unfold orI
  rw [BitVec.toNat_or, ofInt_nat ha, ofInt_nat hb]
  exact wrap_nat (Nat.or_lt_two_pow (n := 64) ha hb)
theorem andI_nat {a b : Nat} (ha : a < 18446744073709551616) (hb : b < 18446744073709551616) : andI a b = ((a &&& b : Nat) : Int) := by
  unfold andI
  rw [BitVec.toNat_and, ofInt_nat ha, ofInt_nat hb]
  exact wrap_nat (Nat.and_lt_two_pow (n := 64) a hb)
theorem or_lt {a b : Nat} (ha : a < 18446744073709551616) (hb : b < 18446744073709551616) : (a ||| b) < 18446744073709551616 := Nat.or_lt_two_pow (n := 64) ha hb
theorem wordN_lt (l : List UInt8) : wordN l < 18446744073709551616 := by
  have h := byteN_lt l
  unfold wordN
  refine or_lt (or_lt (or_lt (or_lt (or_lt (or_lt (or_lt ?_ ?_) ?_) ?_) ?_) ?_) ?_) ?_
  · have := h 0; omega
  · have := h 1; omega
  · have := h 2; omega
  · have := h 3; omega
  · have := h 4; omega
  · have := h 5; omega
  · have := h 6; omega
  · have := h 7; omega
theorem testBit_zero_of_and {x m i : Nat} (h : x &&& m = 0) (hm : m.testBit i = true) : x.testBit i = false := by
  have := congrArg (·.testBit i) h
  simpa [hm] using this
theorem top_bit {b : Nat} (hb : b < 256) (h : b.testBit 7 = false) : b < 128 := by
  rcases Nat.lt_or_ge b 128 with h1 | h1
  · exact h1
  · rw [Nat.testBit_eq_decide_div_mod_eq] at h
    simp at h; omega
/-- Eight bytes of ASCII. -/
theorem word_ascii {l : List UInt8} (h : wordN l &&& 9259542123273814144 = 0) : ∀ i, i < 8 → byteN l i < 128 := by
  have sh : ∀ (b k : Nat), (b * 2 ^ k).testBit (k + 7) = b.testBit 7 := fun b k => by
    rw [Nat.mul_comm, Nat.testBit_two_pow_mul]; simp
  have key : ∀ k, (9259542123273814144 : Nat).testBit (k + 7) = true → (wordN l).testBit (k + 7) = false := fun k hk => testBit_zero_of_and h hk
  unfold wordN at key
  simp only [Nat.testBit_or, Bool.or_eq_false_iff] at key
  intro i hi
  refine top_bit (byteN_lt l i) ?_
  have k0 := key 0 (by decide); have k1 := key 8 (by decide); have k2 := key 16 (by decide); have k3 := key 24 (by decide)
  have k4 := key 32 (by decide); have k5 := key 40 (by decide); have k6 := key 48 (by decide); have k7 := key 56 (by decide)
  rw [sh] at k1 k2 k3 k4 k5 k6 k7
  obtain rfl | rfl | rfl | rfl | rfl | rfl | rfl | rfl : i = 0 ∨ i = 1 ∨ i = 2 ∨ i = 3 ∨ i = 4 ∨ i = 5 ∨ i = 6 ∨ i = 7 := by omega
  · exact k0.1.1.1.1.1.1.1
  · exact k1.1.1.1.1.1.1.2
  · exact k2.1.1.1.1.1.2
  · exact k3.1.1.1.1.2
  · exact k4.1.1.1.2
  · exact k5.1.1.2
  · exact k6.1.2
  · exact k7.2
theorem fault_cons {c : UInt8} (r : List UInt8) (hc : c.toNat < 128) : faultR (c :: r) = none ↔ faultR r = none := by
  have := faultR_app [] c r hc
  rw [List.nil_append] at this
  rw [this]
  exact ⟨fun h => h.2, fun h => ⟨rfl, h⟩⟩
theorem fault_ascii : ∀ (n : Nat) (l : List UInt8), (∀ i, i < n → byteN l i < 128) → n ≤ l.length → (faultR l = none ↔ faultR (l.drop n) = none)
  | 0, l, _, _ => by simp
  | n + 1, [], _, h => by simp at h
  | n + 1, c :: r, h, hl => by
    have h0 : c.toNat < 128 := h 0 (by omega)
    rw [fault_cons r h0, List.drop_succ_cons]
    exact fault_ascii n r (fun i hi => h (i + 1) (by omega)) (by simpa using hl)
theorem sh_lt (l : List UInt8) (i : Nat) {k : Nat} (hk : k ≤ 56) : byteN l i * 2 ^ k < 18446744073709551616 := by
  refine Nat.lt_of_lt_of_le (Nat.mul_lt_mul_of_pos_right (byteN_lt l i) (Nat.two_pow_pos k)) ?_
  have : (256 : Nat) * 2 ^ k ≤ 256 * 2 ^ 56 := Nat.mul_le_mul_left _ (Nat.pow_le_pow_right (by decide) hk)
  exact Nat.le_trans this (by decide)
theorem u64_le {n : Nat} (h : n < 18446744073709551616) : (n : Int) ≤ 18446744073709551615 := by omega

theorem f_u8word (l : List UInt8) (hl : 8 ≤ l.length) : Av.Fn Tryz.prog 136 [.str l] (.int .u64 (wordN l : Nat)) := by
  have h := byteN_lt l
  have h0 : (l.getD 0 0).toNat < 256 := h 0
  have h1 : (l.getD 1 0).toNat < 256 := h 1
  have h2 : (l.getD 2 0).toNat < 256 := h 2
  have h3 : (l.getD 3 0).toNat < 256 := h 3
  have h4 : (l.getD 4 0).toNat < 256 := h 4
  have h5 : (l.getD 5 0).toNat < 256 := h 5
  have h6 : (l.getD 6 0).toNat < 256 := h 6
  have h7 : (l.getD 7 0).toNat < 256 := h 7
  refine ACalls.of_W tb_ok (fn := Tryz.f136) (n := 59) (by kernel_rfl) rfl (by kernel_rfl) rfl rfl (by simp) (go ?_)
  have b0 : byteN l 0 < 18446744073709551616 := by show (l.getD 0 0).toNat < _; omega
  refine VQ.mk (.int .u64 ((byteN l 0 : Nat) : Int)) (by refine go ?_; exact VInt.fit (Int.natCast_nonneg _) (Int.le_trans (Int.ofNat_le.2 (Nat.le_of_lt (UInt8.toNat_lt _))) (by decide)) ⟨rfl, rfl⟩) (go ?_)
  refine VQ.mk (.int .u64 ((byteN l 1 : Nat) : Int)) (by refine go ?_; exact VInt.fit (Int.natCast_nonneg _) (Int.le_trans (Int.ofNat_le.2 (Nat.le_of_lt (UInt8.toNat_lt _))) (by decide)) ⟨rfl, rfl⟩) (go ?_)
  have c1 := sh_lt l 1 (k := 8) (by decide)
  refine VQ.mk (.int .u64 ((byteN l 1 * 2 ^ 8 : Nat) : Int)) (by refine go ?_; exact VInt.to ((byteN l 1 * 2 ^ 8 : Nat) : Int) (by simp [IntKind.bits]) (Int.natCast_nonneg _) (u64_le c1) ⟨rfl, rfl⟩) (go ?_)
  have b1 := or_lt b0 c1
  refine VQ.mk (.int .u64 ((byteN l 2 : Nat) : Int)) (by refine go ?_; exact VInt.fit (Int.natCast_nonneg _) (Int.le_trans (Int.ofNat_le.2 (Nat.le_of_lt (UInt8.toNat_lt _))) (by decide)) ⟨rfl, rfl⟩) (go ?_)
  have c2 := sh_lt l 2 (k := 16) (by decide)
  refine VQ.mk (.int .u64 ((byteN l 2 * 2 ^ 16 : Nat) : Int)) (by refine go ?_; exact VInt.to ((byteN l 2 * 2 ^ 16 : Nat) : Int) (by simp [IntKind.bits]) (Int.natCast_nonneg _) (u64_le c2) ⟨rfl, rfl⟩) (go ?_)
  have b2 := or_lt b1 c2
  refine VQ.mk (.int .u64 ((byteN l 3 : Nat) : Int)) (by refine go ?_; exact VInt.fit (Int.natCast_nonneg _) (Int.le_trans (Int.ofNat_le.2 (Nat.le_of_lt (UInt8.toNat_lt _))) (by decide)) ⟨rfl, rfl⟩) (go ?_)
  have c3 := sh_lt l 3 (k := 24) (by decide)
  refine VQ.mk (.int .u64 ((byteN l 3 * 2 ^ 24 : Nat) : Int)) (by refine go ?_; exact VInt.to ((byteN l 3 * 2 ^ 24 : Nat) : Int) (by simp [IntKind.bits]) (Int.natCast_nonneg _) (u64_le c3) ⟨rfl, rfl⟩) (go ?_)
  have b3 := or_lt b2 c3
  refine VQ.mk (.int .u64 ((byteN l 4 : Nat) : Int)) (by refine go ?_; exact VInt.fit (Int.natCast_nonneg _) (Int.le_trans (Int.ofNat_le.2 (Nat.le_of_lt (UInt8.toNat_lt _))) (by decide)) ⟨rfl, rfl⟩) (go ?_)
  have c4 := sh_lt l 4 (k := 32) (by decide)
  refine VQ.mk (.int .u64 ((byteN l 4 * 2 ^ 32 : Nat) : Int)) (by refine go ?_; exact VInt.to ((byteN l 4 * 2 ^ 32 : Nat) : Int) (by simp [IntKind.bits]) (Int.natCast_nonneg _) (u64_le c4) ⟨rfl, rfl⟩) (go ?_)
  have b4 := or_lt b3 c4
  refine VQ.mk (.int .u64 ((byteN l 5 : Nat) : Int)) (by refine go ?_; exact VInt.fit (Int.natCast_nonneg _) (Int.le_trans (Int.ofNat_le.2 (Nat.le_of_lt (UInt8.toNat_lt _))) (by decide)) ⟨rfl, rfl⟩) (go ?_)
  have c5 := sh_lt l 5 (k := 40) (by decide)
  refine VQ.mk (.int .u64 ((byteN l 5 * 2 ^ 40 : Nat) : Int)) (by refine go ?_; exact VInt.to ((byteN l 5 * 2 ^ 40 : Nat) : Int) (by simp [IntKind.bits]) (Int.natCast_nonneg _) (u64_le c5) ⟨rfl, rfl⟩) (go ?_)
  have b5 := or_lt b4 c5
  refine VQ.mk (.int .u64 ((byteN l 6 : Nat) : Int)) (by refine go ?_; exact VInt.fit (Int.natCast_nonneg _) (Int.le_trans (Int.ofNat_le.2 (Nat.le_of_lt (UInt8.toNat_lt _))) (by decide)) ⟨rfl, rfl⟩) (go ?_)
  have c6 := sh_lt l 6 (k := 48) (by decide)
  refine VQ.mk (.int .u64 ((byteN l 6 * 2 ^ 48 : Nat) : Int)) (by refine go ?_; exact VInt.to ((byteN l 6 * 2 ^ 48 : Nat) : Int) (by simp [IntKind.bits]) (Int.natCast_nonneg _) (u64_le c6) ⟨rfl, rfl⟩) (go ?_)
  have b6 := or_lt b5 c6
  refine VQ.mk (.int .u64 ((byteN l 7 : Nat) : Int)) (by refine go ?_; exact VInt.fit (Int.natCast_nonneg _) (Int.le_trans (Int.ofNat_le.2 (Nat.le_of_lt (UInt8.toNat_lt _))) (by decide)) ⟨rfl, rfl⟩) (go ?_)
  have c7 := sh_lt l 7 (k := 56) (by decide)
  refine VQ.mk (.int .u64 ((byteN l 7 * 2 ^ 56 : Nat) : Int)) (by refine go ?_; exact VInt.to ((byteN l 7 * 2 ^ 56 : Nat) : Int) (by simp [IntKind.bits]) (Int.natCast_nonneg _) (u64_le c7) ⟨rfl, rfl⟩) (go ?_)
  have b7 := or_lt b6 c7
  refine VRet.mk [] .nil ?_
  refine ⟨congrArg (fun x => AOut.ret (.int .u64 x)) ?_, rfl⟩
  show orI (orI (orI (orI (orI (orI (orI ((byteN l 0 : Nat)) (byteN l 1 * 2 ^ 8 : Nat)) (byteN l 2 * 2 ^ 16 : Nat)) (byteN l 3 * 2 ^ 24 : Nat)) (byteN l 4 * 2 ^ 32 : Nat)) (byteN l 5 * 2 ^ 40 : Nat)) (byteN l 6 * 2 ^ 48 : Nat)) (byteN l 7 * 2 ^ 56 : Nat) = ((wordN l : Nat) : Int)
  rw [orI_nat b0 c1, orI_nat b1 c2, orI_nat b2 c3, orI_nat b3 c4, orI_nat b4 c5, orI_nat b5 c6, orI_nat b6 c7]; rfl
end Go.Proofs.YtonkeklageehbaaGreatDoor

namespace Go.Proofs.YtonkeklageehbaaGreatDoor
open Go Go.Av
theorem fault_dec {l : List UInt8} (h : l ≠ []) : faultR l = none ↔ badB (dec l) = false ∧ faultR (l.drop (dec l).2) = none := by
  unfold faultR
  rw [runes_cons h, faultL]
  cases badB (dec l) <;> simp
/-- The bytes behind the first. -/
def okN (n b1 b2 b3 sz lo hi : Nat) : Prop :=
  sz ≤ n ∧ (lo ≤ b1 ∧ b1 ≤ hi) ∧ (sz ≤ 2 ∨ (128 ≤ b2 ∧ b2 ≤ 191) ∧ (sz ≤ 3 ∨ 128 ≤ b3 ∧ b3 ≤ 191))
theorem fault_slow {l : List UInt8} (h : l ≠ []) (hx : Lib.firstT (byteN l 0) < 240) {sz lo hi : Nat} (es : Lib.firstT (byteN l 0) % 8 = sz) (el : Lib.accLo (Lib.firstT (byteN l 0) / 16) = lo) (eh : Lib.accHi (Lib.firstT (byteN l 0) / 16) = hi) (hs : 2 ≤ sz ∧ sz ≤ 4) :
    faultR l = none ↔ okN l.length (byteN l 1) (byteN l 2) (byteN l 3) sz lo hi ∧ faultR (l.drop sz) = none := by
  rw [fault_dec h]
  have hl : 1 ≤ l.length := by cases l with | nil => exact absurd rfl h | cons => simp
  have e := Lib.slow_eq l.length (byteN l 0) (byteN l 1) (byteN l 2) (byteN l 3) hl (byteN_lt _ _) (byteN_lt _ _) (byteN_lt _ _) hx
  rw [es, el, eh] at e
  have ed : dec l = Lib.slowN l.length (byteN l 0) (byteN l 1) (byteN l 2) (byteN l 3) sz lo hi := by rw [e, dec_N]; rfl
  rw [ed]
  unfold Lib.slowN okN badB
  generalize byteN l 0 = b0
  generalize byteN l 1 = b1
  generalize byteN l 2 = b2
  generalize byteN l 3 = b3
  obtain rfl | rfl | rfl : sz = 2 ∨ sz = 3 ∨ sz = 4 := by omega
  all_goals repeat' split
  all_goals simp
  all_goals omega
theorem fault_bad {l : List UInt8} (h : l ≠ []) (hx : Lib.firstT (byteN l 0) = 241) : ¬ faultR l = none := by
  rw [fault_dec h]
  have e := Lib.bad_eq l.length (byteN l 0) (byteN l 1) (byteN l 2) (byteN l 3) (byteN_lt _ _) hx
  have ed : dec l = (65533, 1) := by rw [← e, dec_N]; rfl
  rw [ed]; simp [badB]
/-- The classes of first bytes. -/
theorem firstT_cases {b : Nat} (h : 128 ≤ b) (h2 : b < 256) : Lib.firstT b = 2 ∨ (Lib.firstT b = 19 ∨ Lib.firstT b = 3 ∨ Lib.firstT b = 35) ∨ (Lib.firstT b = 52 ∨ Lib.firstT b = 4 ∨ Lib.firstT b = 68) ∨ Lib.firstT b = 241 := by
  unfold Lib.firstT
  repeat' split
  all_goals simp
  all_goals omega
theorem or_and_zero {a b m : Nat} (h : (a ||| b) &&& m = 0) : a &&& m = 0 ∧ b &&& m = 0 := by
  rw [Nat.and_or_distrib_right] at h
  exact ⟨Nat.eq_zero_of_le_zero (h ▸ Nat.left_le_or), Nat.eq_zero_of_le_zero (h ▸ Nat.right_le_or)⟩
theorem andI_zero {a : Nat} (ha : a < 18446744073709551616) (h : andI a 9259542123273814144 = 0) : a &&& 9259542123273814144 = 0 := by
  have e := andI_nat (b := 9259542123273814144) ha (by decide)
  have : andI (a : Int) ((9259542123273814144 : Nat) : Int) = 0 := h
  rw [this] at e; exact (Int.ofNat_eq_zero.1 e.symm)
theorem skipW {l : List UInt8} (h : wordN l &&& 9259542123273814144 = 0) (hl : 8 ≤ l.length) : faultR l = none ↔ faultR (l.drop 8) = none := fault_ascii 8 l (word_ascii h) hl
theorem skip8 {l : List UInt8} (h : andI (wordN l : Nat) 9259542123273814144 = 0) (hl : 8 ≤ l.length) : faultR l = none ↔ faultR (l.drop 8) = none := skipW (andI_zero (wordN_lt l) h) hl
theorem skip16 {l : List UInt8} (h : andI (orI (wordN l : Nat) (wordN (l.drop 8) : Nat)) 9259542123273814144 = 0) (hl : 16 ≤ l.length) : faultR l = none ↔ faultR (l.drop 16) = none := by
  rw [orI_nat (wordN_lt _) (wordN_lt _)] at h
  obtain ⟨h1, h2⟩ := or_and_zero (andI_zero (or_lt (wordN_lt _) (wordN_lt _)) h)
  rw [skipW h1 (by omega), skipW h2 (by rw [List.length_drop]; omega), List.drop_drop]
theorem skip32 {l : List UInt8} (h : andI (orI (orI (wordN l : Nat) (wordN (l.drop 8) : Nat)) (orI (wordN (l.drop 16) : Nat) (wordN (l.drop 24) : Nat))) 9259542123273814144 = 0) (hl : 32 ≤ l.length) : faultR l = none ↔ faultR (l.drop 32) = none := by
  rw [orI_nat (wordN_lt _) (wordN_lt _), orI_nat (wordN_lt _) (wordN_lt _), orI_nat (or_lt (wordN_lt _) (wordN_lt _)) (or_lt (wordN_lt _) (wordN_lt _))] at h
  obtain ⟨h1, h2⟩ := or_and_zero (andI_zero (or_lt (or_lt (wordN_lt _) (wordN_lt _)) (or_lt (wordN_lt _) (wordN_lt _))) h)
  obtain ⟨h3, h4⟩ := or_and_zero h1
  obtain ⟨h5, h6⟩ := or_and_zero h2
  rw [skipW h3 (by omega), skipW h4 (by rw [List.length_drop]; omega), List.drop_drop, skipW h5 (by rw [List.length_drop]; omega), List.drop_drop, skipW h6 (by rw [List.length_drop]; omega), List.drop_drop]
theorem one_cell {P : Program} {b o : Nat} {k : IntKind} {z : Int} (h : ∀ W, Lay P W → W.cell? ⟨b, o, none⟩ = some (.int k z)) :
    ∀ W, Lay P W → ∀ (i : Nat) c, [AV.int k z][i]? = some c → ∃ u, W.cell? ⟨b, o + i, none⟩ = some u ∧ (∀ g, Rel g c u) ∧ u.oneCell' = true := by
  intro W hL i c hc
  match i, hc with
  | 0, hc => simp at hc; subst hc; exact ⟨_, h W hL, fun g => rfl, rfl⟩
theorem lay_ra : Tryz.prog.globalNamed ("unicode" ++ slash ++ "utf8.first") = some 1 := by kernel_rfl
theorem lay_rb : Tryz.prog.globalNamed ("unicode" ++ slash ++ "utf8.acceptRanges") = some 2 := by kernel_rfl
theorem lay_first {c : Nat} (hc : c < 256) : ∀ W, Lay Tryz.prog W → W.cell? ⟨1, c, none⟩ = some (.int .u8 (Lib.firstT c : Nat)) := fun W hL => (hL.1 _ _ lay_ra lay_rb).1 c hc
theorem lay_acc {i : Nat} (hi : i < 16) : ∀ W, Lay Tryz.prog W → ∀ (j : Nat) c, [AV.int .u8 (Lib.accLo i : Nat), AV.int .u8 (Lib.accHi i : Nat)][j]? = some c → ∃ u, W.cell? ⟨2, 2 * i + j, none⟩ = some u ∧ (∀ g, Rel g c u) ∧ u.oneCell' = true := by
  intro W hL j c hc
  have h := (hL.1 _ _ lay_ra lay_rb).2 i hi
  match j, hc with
  | 0, hc => simp at hc; subst hc; exact ⟨_, h.1, fun g => rfl, rfl⟩
  | 1, hc => simp at hc; subst hc; exact ⟨_, h.2, fun g => rfl, rfl⟩
theorem lay_acc' {i lo hi o : Nat} (h : i < 16) (el : Lib.accLo i = lo) (eh : Lib.accHi i = hi) (eo : o = 2 * i) : ∀ W, Lay Tryz.prog W → ∀ (j : Nat) c, [AV.int .u8 (lo : Nat), AV.int .u8 (hi : Nat)][j]? = some c → ∃ u, W.cell? ⟨2, o + j, none⟩ = some u ∧ (∀ g, Rel g c u) ∧ u.oneCell' = true := by
  subst el eh eo; exact lay_acc h
theorem lay_first' {c o : Nat} (hc : c < 256) (eo : o = c) : ∀ W, Lay Tryz.prog W → ∀ (j : Nat) d, [AV.int .u8 (Lib.firstT c : Nat)][j]? = some d → ∃ u, W.cell? ⟨1, o + j, none⟩ = some u ∧ (∀ g, Rel g d u) ∧ u.oneCell' = true := by
  subst eo; exact one_cell (lay_first hc)
end Go.Proofs.YtonkeklageehbaaGreatDoor

namespace Go.Proofs.YtonkeklageehbaaGreatDoor
open Go Go.Av
theorem bad_ret {p : Prop} [Decidable p] (h : ¬ p) : AOut.ret (.bool false) = AOut.ret (.bool (decide p)) := by rw [decide_eq_false h]
set_option maxHeartbeats 4000000 in
theorem f_Valid (s : List UInt8) : Av.Fn Tryz.prog 116 [.str s] (.bool (decide (faultR s = none))) := by
  refine ACalls.of_W tb_ok (fn := Tryz.f116) (n := 169) (by kernel_rfl) rfl (by kernel_rfl) rfl rfl (by simp) (go ?_)
  refine VLoop.mk [0] (List UInt8) (fun l => [.str l]) (fun l => [])
    (fun l => l.length ≤ s.length ∧ (faultR s = none ↔ faultR l = none)) (fun l => l.length) s ?_ ?_
  · exact ⟨⟨Nat.le_refl _, Iff.rfl⟩, rfl, .nil⟩
  rintro l ⟨hl, hI⟩
  refine go ?_
  refine fork (fun h0 => go ?_) (fun h0 => go ?_)
  · have hne : l ≠ [] := by intro e; subst e; simp at h0
    refine go ?_
    have hB : (l.getD 0 0).toNat < 256 := byteN_lt l 0
    refine fork (fun hc => go ?_) (fun hc => go ?_)
    · have hc' : byteN l 0 < 128 := Int.ofNat_lt.1 hc
      have h1 : 1 ≤ l.length := Int.ofNat_lt.1 h0
      have e1 := fault_ascii 1 l (fun i hi => by obtain rfl : i = 0 := by omega
                                                 exact hc') h1
      have s1 := e1
      replace hI := hI.trans e1
      have hlt : (l.drop 1).length < l.length := by rw [List.length_drop]; omega
      generalize l.drop 1 = m at *
      refine fork (fun h8 => go ?_) (fun h8 => go ?_)
      · have h8 : 8 < m.length := Int.ofNat_lt.1 h8
        refine Fn.use (f_u8word m (by omega)) (go ?_)
        refine fork (fun hw => go ?_) (fun hw => go ?_)
        · replace hI := hI.trans (skip8 hw (by omega))
          have hlt2 : (m.drop 8).length < l.length := by rw [List.length_drop]; omega
          generalize m.drop 8 = k at *
          refine go ?_
          refine fork (fun h16 => go ?_) (fun h16 => go ?_)
          · have h16 : 16 < k.length := Int.ofNat_lt.1 h16
            refine VQ.mk (.int .u64 (wordN k : Nat)) (by refine go ?_; refine Fn.use (f_u8word k (by omega)) (go ?_); exact ⟨congrArg _ (rfl), rfl⟩) (go ?_)
            refine VQ.mk (.int .u64 (wordN (k.drop 8) : Nat)) (by refine go ?_; refine Fn.use (f_u8word (k.drop 8) (by rw [List.length_drop]; omega)) (go ?_); exact ⟨congrArg _ (rfl), rfl⟩) (go ?_)
            refine fork (fun hw16 => go ?_) (fun hw16 => go ?_)
            · replace hI := hI.trans (skip16 hw16 (by omega))
              have hlt3 : (k.drop 16).length < l.length := by rw [List.length_drop]; omega
              generalize k.drop 16 = q at *
              refine VLoop.mk [0] (List UInt8) (fun x => [.str x]) (fun x => [])
                (fun x => x.length < l.length ∧ x.length ≤ s.length ∧ (faultR s = none ↔ faultR x = none)) (fun x => x.length) q ?_ ?_
              · exact ⟨⟨hlt3, by omega, hI⟩, rfl, .nil⟩
              rintro x ⟨hx1, hx2, hx3⟩
              refine go ?_
              refine fork (fun h32 => go ?_) (fun h32 => go ?_)
              · have h32 : 32 < x.length := Int.ofNat_lt.1 h32
                refine VQ.mk (.int .u64 (wordN x : Nat)) (by refine go ?_; refine Fn.use (f_u8word x (by omega)) (go ?_); exact ⟨congrArg _ (rfl), rfl⟩) (go ?_)
                refine VQ.mk (.int .u64 (wordN (x.drop 8) : Nat)) (by refine go ?_; refine Fn.use (f_u8word (x.drop 8) (by rw [List.length_drop]; omega)) (go ?_); exact ⟨congrArg _ (rfl), rfl⟩) (go ?_)
                refine VQ.mk (.int .u64 (wordN (x.drop 16) : Nat)) (by refine go ?_; refine Fn.use (f_u8word (x.drop 16) (by rw [List.length_drop]; omega)) (go ?_); exact ⟨congrArg _ (rfl), rfl⟩) (go ?_)
                refine VQ.mk (.int .u64 (wordN (x.drop 24) : Nat)) (by refine go ?_; refine Fn.use (f_u8word (x.drop 24) (by rw [List.length_drop]; omega)) (go ?_); exact ⟨congrArg _ (rfl), rfl⟩) (go ?_)
                refine fork (fun hw32 => go ?_) (fun hw32 => go ?_)
                · have e32 := skip32 hw32 (by omega)
                  exact ⟨x.drop 32, ⟨by rw [List.length_drop]; omega, by rw [List.length_drop]; omega, hx3.trans e32⟩, by rw [List.length_drop]; omega, rfl, .nil⟩
                · exact ⟨x, ⟨by omega, hx3⟩, hx1, rfl, .nil⟩
              · exact ⟨x, ⟨by omega, hx3⟩, hx1, rfl, .nil⟩
            · exact ⟨k, ⟨by omega, hI⟩, hlt2, rfl, .nil⟩
          · exact ⟨k, ⟨by omega, hI⟩, hlt2, rfl, .nil⟩
        · exact ⟨m, ⟨by omega, hI⟩, hlt, rfl, .nil⟩
      · exact ⟨m, ⟨by omega, hI⟩, hlt, rfl, .nil⟩
    · have hc' : 128 ≤ byteN l 0 := by have := mt (Int.ofNat_lt (n := byteN l 0) (m := 128)).2 hc; omega
      have hcs := firstT_cases hc' hB
      refine VLay.mk [.int .u8 (Lib.firstT (byteN l 0) : Nat)] rfl (lay_first' hB (Nat.zero_add _)) (go ?_)
      generalize hxe : Lib.firstT (byteN l 0) = x at *
      rcases hcs with rfl | (rfl | rfl | rfl) | (rfl | rfl | rfl) | rfl
      · refine VInt.to 2 (by decide) (by decide) (by decide) (go ?_)
        refine VLay.mk [.int .u8 (128 : Nat), .int .u8 (191 : Nat)] rfl (lay_acc' (i := 0) (by decide) rfl rfl rfl) (go ?_)
        have es := fault_slow hne (sz := 2) (lo := 128) (hi := 191) (by omega) (by rw [hxe]) (by rw [hxe]; rfl) (by rw [hxe]; rfl) (by decide)
        unfold okN at es
        refine VAll.mk (fun b => go ?_)
        refine fork (fun h => go ?_) (fun h => go ?_)
        · replace h : l.length < 2 := Int.ofNat_lt.1 h
          refine VRet.mk [] .nil ⟨bad_ret fun hs => ?_, rfl⟩
          have ee := (es.1 (hI.1 hs)).1
          omega
        have h0 : ¬ l.length < 2 := fun q => h (Int.ofNat_lt.2 q)
        clear h
        refine fork (fun h => go ?_) (fun h => go ?_)
        · replace h : byteN l 1 < 128 := Int.ofNat_lt.1 h
          refine VRet.mk [] .nil ⟨bad_ret fun hs => ?_, rfl⟩
          have ee := (es.1 (hI.1 hs)).1
          omega
        have h1 : ¬ byteN l 1 < 128 := fun q => h (Int.ofNat_lt.2 q)
        clear h
        refine fork (fun h => go ?_) (fun h => go ?_)
        · replace h : 191 < byteN l 1 := Int.ofNat_lt.1 h
          refine VRet.mk [] .nil ⟨bad_ret fun hs => ?_, rfl⟩
          have ee := (es.1 (hI.1 hs)).1
          omega
        have h2 : ¬ 191 < byteN l 1 := fun q => h (Int.ofNat_lt.2 q)
        clear h
        refine ⟨l.drop 2, ⟨by rw [List.length_drop]; omega, hI.trans (es.trans ⟨fun h => h.2, fun h => ⟨?_, h⟩⟩)⟩, by rw [List.length_drop]; omega, rfl, .nil⟩
        omega
      · refine VInt.to 3 (by decide) (by decide) (by decide) (go ?_)
        refine VLay.mk [.int .u8 (160 : Nat), .int .u8 (191 : Nat)] rfl (lay_acc' (i := 1) (by decide) rfl rfl rfl) (go ?_)
        have es := fault_slow hne (sz := 3) (lo := 160) (hi := 191) (by omega) (by rw [hxe]) (by rw [hxe]; rfl) (by rw [hxe]; rfl) (by decide)
        unfold okN at es
        refine VAll.mk (fun b => go ?_)
        refine fork (fun h => go ?_) (fun h => go ?_)
        · replace h : l.length < 3 := Int.ofNat_lt.1 h
          refine VRet.mk [] .nil ⟨bad_ret fun hs => ?_, rfl⟩
          have ee := (es.1 (hI.1 hs)).1
          omega
        have h0 : ¬ l.length < 3 := fun q => h (Int.ofNat_lt.2 q)
        clear h
        refine fork (fun h => go ?_) (fun h => go ?_)
        · replace h : byteN l 1 < 160 := Int.ofNat_lt.1 h
          refine VRet.mk [] .nil ⟨bad_ret fun hs => ?_, rfl⟩
          have ee := (es.1 (hI.1 hs)).1
          omega
        have h1 : ¬ byteN l 1 < 160 := fun q => h (Int.ofNat_lt.2 q)
        clear h
        refine fork (fun h => go ?_) (fun h => go ?_)
        · replace h : 191 < byteN l 1 := Int.ofNat_lt.1 h
          refine VRet.mk [] .nil ⟨bad_ret fun hs => ?_, rfl⟩
          have ee := (es.1 (hI.1 hs)).1
          omega
        have h2 : ¬ 191 < byteN l 1 := fun q => h (Int.ofNat_lt.2 q)
        clear h
        refine fork (fun h => go ?_) (fun h => go ?_)
        · replace h : byteN l 2 < 128 := Int.ofNat_lt.1 h
          refine VRet.mk [] .nil ⟨bad_ret fun hs => ?_, rfl⟩
          have ee := (es.1 (hI.1 hs)).1
          omega
        have h3 : ¬ byteN l 2 < 128 := fun q => h (Int.ofNat_lt.2 q)
        clear h
        refine fork (fun h => go ?_) (fun h => go ?_)
        · replace h : 191 < byteN l 2 := Int.ofNat_lt.1 h
          refine VRet.mk [] .nil ⟨bad_ret fun hs => ?_, rfl⟩
          have ee := (es.1 (hI.1 hs)).1
          omega
        have h4 : ¬ 191 < byteN l 2 := fun q => h (Int.ofNat_lt.2 q)
        clear h
        refine ⟨l.drop 3, ⟨by rw [List.length_drop]; omega, hI.trans (es.trans ⟨fun h => h.2, fun h => ⟨?_, h⟩⟩)⟩, by rw [List.length_drop]; omega, rfl, .nil⟩
        omega
      · refine VInt.to 3 (by decide) (by decide) (by decide) (go ?_)
        refine VLay.mk [.int .u8 (128 : Nat), .int .u8 (191 : Nat)] rfl (lay_acc' (i := 0) (by decide) rfl rfl rfl) (go ?_)
        have es := fault_slow hne (sz := 3) (lo := 128) (hi := 191) (by omega) (by rw [hxe]) (by rw [hxe]; rfl) (by rw [hxe]; rfl) (by decide)
        unfold okN at es
        refine VAll.mk (fun b => go ?_)
        refine fork (fun h => go ?_) (fun h => go ?_)
        · replace h : l.length < 3 := Int.ofNat_lt.1 h
          refine VRet.mk [] .nil ⟨bad_ret fun hs => ?_, rfl⟩
          have ee := (es.1 (hI.1 hs)).1
          omega
        have h0 : ¬ l.length < 3 := fun q => h (Int.ofNat_lt.2 q)
        clear h
        refine fork (fun h => go ?_) (fun h => go ?_)
        · replace h : byteN l 1 < 128 := Int.ofNat_lt.1 h
          refine VRet.mk [] .nil ⟨bad_ret fun hs => ?_, rfl⟩
          have ee := (es.1 (hI.1 hs)).1
          omega
        have h1 : ¬ byteN l 1 < 128 := fun q => h (Int.ofNat_lt.2 q)
        clear h
        refine fork (fun h => go ?_) (fun h => go ?_)
        · replace h : 191 < byteN l 1 := Int.ofNat_lt.1 h
          refine VRet.mk [] .nil ⟨bad_ret fun hs => ?_, rfl⟩
          have ee := (es.1 (hI.1 hs)).1
          omega
        have h2 : ¬ 191 < byteN l 1 := fun q => h (Int.ofNat_lt.2 q)
        clear h
        refine fork (fun h => go ?_) (fun h => go ?_)
        · replace h : byteN l 2 < 128 := Int.ofNat_lt.1 h
          refine VRet.mk [] .nil ⟨bad_ret fun hs => ?_, rfl⟩
          have ee := (es.1 (hI.1 hs)).1
          omega
        have h3 : ¬ byteN l 2 < 128 := fun q => h (Int.ofNat_lt.2 q)
        clear h
        refine fork (fun h => go ?_) (fun h => go ?_)
        · replace h : 191 < byteN l 2 := Int.ofNat_lt.1 h
          refine VRet.mk [] .nil ⟨bad_ret fun hs => ?_, rfl⟩
          have ee := (es.1 (hI.1 hs)).1
          omega
        have h4 : ¬ 191 < byteN l 2 := fun q => h (Int.ofNat_lt.2 q)
        clear h
        refine ⟨l.drop 3, ⟨by rw [List.length_drop]; omega, hI.trans (es.trans ⟨fun h => h.2, fun h => ⟨?_, h⟩⟩)⟩, by rw [List.length_drop]; omega, rfl, .nil⟩
        omega
      · refine VInt.to 3 (by decide) (by decide) (by decide) (go ?_)
        refine VLay.mk [.int .u8 (128 : Nat), .int .u8 (159 : Nat)] rfl (lay_acc' (i := 2) (by decide) rfl rfl rfl) (go ?_)
        have es := fault_slow hne (sz := 3) (lo := 128) (hi := 159) (by omega) (by rw [hxe]) (by rw [hxe]; rfl) (by rw [hxe]; rfl) (by decide)
        unfold okN at es
        refine VAll.mk (fun b => go ?_)
        refine fork (fun h => go ?_) (fun h => go ?_)
        · replace h : l.length < 3 := Int.ofNat_lt.1 h
          refine VRet.mk [] .nil ⟨bad_ret fun hs => ?_, rfl⟩
          have ee := (es.1 (hI.1 hs)).1
          omega
        have h0 : ¬ l.length < 3 := fun q => h (Int.ofNat_lt.2 q)
        clear h
        refine fork (fun h => go ?_) (fun h => go ?_)
        · replace h : byteN l 1 < 128 := Int.ofNat_lt.1 h
          refine VRet.mk [] .nil ⟨bad_ret fun hs => ?_, rfl⟩
          have ee := (es.1 (hI.1 hs)).1
          omega
        have h1 : ¬ byteN l 1 < 128 := fun q => h (Int.ofNat_lt.2 q)
        clear h
        refine fork (fun h => go ?_) (fun h => go ?_)
        · replace h : 159 < byteN l 1 := Int.ofNat_lt.1 h
          refine VRet.mk [] .nil ⟨bad_ret fun hs => ?_, rfl⟩
          have ee := (es.1 (hI.1 hs)).1
          omega
        have h2 : ¬ 159 < byteN l 1 := fun q => h (Int.ofNat_lt.2 q)
        clear h
        refine fork (fun h => go ?_) (fun h => go ?_)
        · replace h : byteN l 2 < 128 := Int.ofNat_lt.1 h
          refine VRet.mk [] .nil ⟨bad_ret fun hs => ?_, rfl⟩
          have ee := (es.1 (hI.1 hs)).1
          omega
        have h3 : ¬ byteN l 2 < 128 := fun q => h (Int.ofNat_lt.2 q)
        clear h
        refine fork (fun h => go ?_) (fun h => go ?_)
        · replace h : 191 < byteN l 2 := Int.ofNat_lt.1 h
          refine VRet.mk [] .nil ⟨bad_ret fun hs => ?_, rfl⟩
          have ee := (es.1 (hI.1 hs)).1
          omega
        have h4 : ¬ 191 < byteN l 2 := fun q => h (Int.ofNat_lt.2 q)
        clear h
        refine ⟨l.drop 3, ⟨by rw [List.length_drop]; omega, hI.trans (es.trans ⟨fun h => h.2, fun h => ⟨?_, h⟩⟩)⟩, by rw [List.length_drop]; omega, rfl, .nil⟩
        omega
      · refine VInt.to 4 (by decide) (by decide) (by decide) (go ?_)
        refine VLay.mk [.int .u8 (144 : Nat), .int .u8 (191 : Nat)] rfl (lay_acc' (i := 3) (by decide) rfl rfl rfl) (go ?_)
        have es := fault_slow hne (sz := 4) (lo := 144) (hi := 191) (by omega) (by rw [hxe]) (by rw [hxe]; rfl) (by rw [hxe]; rfl) (by decide)
        unfold okN at es
        refine VAll.mk (fun b => go ?_)
        refine fork (fun h => go ?_) (fun h => go ?_)
        · replace h : l.length < 4 := Int.ofNat_lt.1 h
          refine VRet.mk [] .nil ⟨bad_ret fun hs => ?_, rfl⟩
          have ee := (es.1 (hI.1 hs)).1
          omega
        have h0 : ¬ l.length < 4 := fun q => h (Int.ofNat_lt.2 q)
        clear h
        refine fork (fun h => go ?_) (fun h => go ?_)
        · replace h : byteN l 1 < 144 := Int.ofNat_lt.1 h
          refine VRet.mk [] .nil ⟨bad_ret fun hs => ?_, rfl⟩
          have ee := (es.1 (hI.1 hs)).1
          omega
        have h1 : ¬ byteN l 1 < 144 := fun q => h (Int.ofNat_lt.2 q)
        clear h
        refine fork (fun h => go ?_) (fun h => go ?_)
        · replace h : 191 < byteN l 1 := Int.ofNat_lt.1 h
          refine VRet.mk [] .nil ⟨bad_ret fun hs => ?_, rfl⟩
          have ee := (es.1 (hI.1 hs)).1
          omega
        have h2 : ¬ 191 < byteN l 1 := fun q => h (Int.ofNat_lt.2 q)
        clear h
        refine fork (fun h => go ?_) (fun h => go ?_)
        · replace h : byteN l 2 < 128 := Int.ofNat_lt.1 h
          refine VRet.mk [] .nil ⟨bad_ret fun hs => ?_, rfl⟩
          have ee := (es.1 (hI.1 hs)).1
          omega
        have h3 : ¬ byteN l 2 < 128 := fun q => h (Int.ofNat_lt.2 q)
        clear h
        refine fork (fun h => go ?_) (fun h => go ?_)
        · replace h : 191 < byteN l 2 := Int.ofNat_lt.1 h
          refine VRet.mk [] .nil ⟨bad_ret fun hs => ?_, rfl⟩
          have ee := (es.1 (hI.1 hs)).1
          omega
        have h4 : ¬ 191 < byteN l 2 := fun q => h (Int.ofNat_lt.2 q)
        clear h
        refine fork (fun h => go ?_) (fun h => go ?_)
        · replace h : byteN l 3 < 128 := Int.ofNat_lt.1 h
          refine VRet.mk [] .nil ⟨bad_ret fun hs => ?_, rfl⟩
          have ee := (es.1 (hI.1 hs)).1
          omega
        have h5 : ¬ byteN l 3 < 128 := fun q => h (Int.ofNat_lt.2 q)
        clear h
        refine fork (fun h => go ?_) (fun h => go ?_)
        · replace h : 191 < byteN l 3 := Int.ofNat_lt.1 h
          refine VRet.mk [] .nil ⟨bad_ret fun hs => ?_, rfl⟩
          have ee := (es.1 (hI.1 hs)).1
          omega
        have h6 : ¬ 191 < byteN l 3 := fun q => h (Int.ofNat_lt.2 q)
        clear h
        refine ⟨l.drop 4, ⟨by rw [List.length_drop]; omega, hI.trans (es.trans ⟨fun h => h.2, fun h => ⟨?_, h⟩⟩)⟩, by rw [List.length_drop]; omega, rfl, .nil⟩
        omega
      · refine VInt.to 4 (by decide) (by decide) (by decide) (go ?_)
        refine VLay.mk [.int .u8 (128 : Nat), .int .u8 (191 : Nat)] rfl (lay_acc' (i := 0) (by decide) rfl rfl rfl) (go ?_)
        have es := fault_slow hne (sz := 4) (lo := 128) (hi := 191) (by omega) (by rw [hxe]) (by rw [hxe]; rfl) (by rw [hxe]; rfl) (by decide)
        unfold okN at es
        refine VAll.mk (fun b => go ?_)
        refine fork (fun h => go ?_) (fun h => go ?_)
        · replace h : l.length < 4 := Int.ofNat_lt.1 h
          refine VRet.mk [] .nil ⟨bad_ret fun hs => ?_, rfl⟩
          have ee := (es.1 (hI.1 hs)).1
          omega
        have h0 : ¬ l.length < 4 := fun q => h (Int.ofNat_lt.2 q)
        clear h
        refine fork (fun h => go ?_) (fun h => go ?_)
        · replace h : byteN l 1 < 128 := Int.ofNat_lt.1 h
          refine VRet.mk [] .nil ⟨bad_ret fun hs => ?_, rfl⟩
          have ee := (es.1 (hI.1 hs)).1
          omega
        have h1 : ¬ byteN l 1 < 128 := fun q => h (Int.ofNat_lt.2 q)
        clear h
        refine fork (fun h => go ?_) (fun h => go ?_)
        · replace h : 191 < byteN l 1 := Int.ofNat_lt.1 h
          refine VRet.mk [] .nil ⟨bad_ret fun hs => ?_, rfl⟩
          have ee := (es.1 (hI.1 hs)).1
          omega
        have h2 : ¬ 191 < byteN l 1 := fun q => h (Int.ofNat_lt.2 q)
        clear h
        refine fork (fun h => go ?_) (fun h => go ?_)
        · replace h : byteN l 2 < 128 := Int.ofNat_lt.1 h
          refine VRet.mk [] .nil ⟨bad_ret fun hs => ?_, rfl⟩
          have ee := (es.1 (hI.1 hs)).1
          omega
        have h3 : ¬ byteN l 2 < 128 := fun q => h (Int.ofNat_lt.2 q)
        clear h
        refine fork (fun h => go ?_) (fun h => go ?_)
        · replace h : 191 < byteN l 2 := Int.ofNat_lt.1 h
          refine VRet.mk [] .nil ⟨bad_ret fun hs => ?_, rfl⟩
          have ee := (es.1 (hI.1 hs)).1
          omega
        have h4 : ¬ 191 < byteN l 2 := fun q => h (Int.ofNat_lt.2 q)
        clear h
        refine fork (fun h => go ?_) (fun h => go ?_)
        · replace h : byteN l 3 < 128 := Int.ofNat_lt.1 h
          refine VRet.mk [] .nil ⟨bad_ret fun hs => ?_, rfl⟩
          have ee := (es.1 (hI.1 hs)).1
          omega
        have h5 : ¬ byteN l 3 < 128 := fun q => h (Int.ofNat_lt.2 q)
        clear h
        refine fork (fun h => go ?_) (fun h => go ?_)
        · replace h : 191 < byteN l 3 := Int.ofNat_lt.1 h
          refine VRet.mk [] .nil ⟨bad_ret fun hs => ?_, rfl⟩
          have ee := (es.1 (hI.1 hs)).1
          omega
        have h6 : ¬ 191 < byteN l 3 := fun q => h (Int.ofNat_lt.2 q)
        clear h
        refine ⟨l.drop 4, ⟨by rw [List.length_drop]; omega, hI.trans (es.trans ⟨fun h => h.2, fun h => ⟨?_, h⟩⟩)⟩, by rw [List.length_drop]; omega, rfl, .nil⟩
        omega
      · refine VInt.to 4 (by decide) (by decide) (by decide) (go ?_)
        refine VLay.mk [.int .u8 (128 : Nat), .int .u8 (143 : Nat)] rfl (lay_acc' (i := 4) (by decide) rfl rfl rfl) (go ?_)
        have es := fault_slow hne (sz := 4) (lo := 128) (hi := 143) (by omega) (by rw [hxe]) (by rw [hxe]; rfl) (by rw [hxe]; rfl) (by decide)
        unfold okN at es
        refine VAll.mk (fun b => go ?_)
        refine fork (fun h => go ?_) (fun h => go ?_)
        · replace h : l.length < 4 := Int.ofNat_lt.1 h
          refine VRet.mk [] .nil ⟨bad_ret fun hs => ?_, rfl⟩
          have ee := (es.1 (hI.1 hs)).1
          omega
        have h0 : ¬ l.length < 4 := fun q => h (Int.ofNat_lt.2 q)
        clear h
        refine fork (fun h => go ?_) (fun h => go ?_)
        · replace h : byteN l 1 < 128 := Int.ofNat_lt.1 h
          refine VRet.mk [] .nil ⟨bad_ret fun hs => ?_, rfl⟩
          have ee := (es.1 (hI.1 hs)).1
          omega
        have h1 : ¬ byteN l 1 < 128 := fun q => h (Int.ofNat_lt.2 q)
        clear h
        refine fork (fun h => go ?_) (fun h => go ?_)
        · replace h : 143 < byteN l 1 := Int.ofNat_lt.1 h
          refine VRet.mk [] .nil ⟨bad_ret fun hs => ?_, rfl⟩
          have ee := (es.1 (hI.1 hs)).1
          omega
        have h2 : ¬ 143 < byteN l 1 := fun q => h (Int.ofNat_lt.2 q)
        clear h
        refine fork (fun h => go ?_) (fun h => go ?_)
        · replace h : byteN l 2 < 128 := Int.ofNat_lt.1 h
          refine VRet.mk [] .nil ⟨bad_ret fun hs => ?_, rfl⟩
          have ee := (es.1 (hI.1 hs)).1
          omega
        have h3 : ¬ byteN l 2 < 128 := fun q => h (Int.ofNat_lt.2 q)
        clear h
        refine fork (fun h => go ?_) (fun h => go ?_)
        · replace h : 191 < byteN l 2 := Int.ofNat_lt.1 h
          refine VRet.mk [] .nil ⟨bad_ret fun hs => ?_, rfl⟩
          have ee := (es.1 (hI.1 hs)).1
          omega
        have h4 : ¬ 191 < byteN l 2 := fun q => h (Int.ofNat_lt.2 q)
        clear h
        refine fork (fun h => go ?_) (fun h => go ?_)
        · replace h : byteN l 3 < 128 := Int.ofNat_lt.1 h
          refine VRet.mk [] .nil ⟨bad_ret fun hs => ?_, rfl⟩
          have ee := (es.1 (hI.1 hs)).1
          omega
        have h5 : ¬ byteN l 3 < 128 := fun q => h (Int.ofNat_lt.2 q)
        clear h
        refine fork (fun h => go ?_) (fun h => go ?_)
        · replace h : 191 < byteN l 3 := Int.ofNat_lt.1 h
          refine VRet.mk [] .nil ⟨bad_ret fun hs => ?_, rfl⟩
          have ee := (es.1 (hI.1 hs)).1
          omega
        have h6 : ¬ 191 < byteN l 3 := fun q => h (Int.ofNat_lt.2 q)
        clear h
        refine ⟨l.drop 4, ⟨by rw [List.length_drop]; omega, hI.trans (es.trans ⟨fun h => h.2, fun h => ⟨?_, h⟩⟩)⟩, by rw [List.length_drop]; omega, rfl, .nil⟩
        omega
      · refine VInt.to 1 (by decide) (by decide) (by decide) (go ?_)
        refine VLay.mk [.int .u8 (0 : Nat), .int .u8 (0 : Nat)] rfl (lay_acc' (i := 15) (by decide) rfl rfl rfl) (go ?_)
        refine VAll.mk (fun b => go ?_)
        refine VRet.mk [] .nil ⟨congrArg (fun b => AOut.ret (.bool b)) (Eq.symm (decide_eq_false fun hs => ?_)), rfl⟩
        exact fault_bad hne hxe (hI.1 hs)
  · have e : l = [] := List.length_eq_zero_iff.1 (by omega)
    subst e
    refine VRet.mk [] .nil ?_
    have : faultR s = none := by rw [hI]; rfl
    simp [this]
end Go.Proofs.YtonkeklageehbaaGreatDoor

namespace Go.Proofs.YtonkeklageehbaaGreatDoor
open Go Go.Av
end Go.Proofs.YtonkeklageehbaaGreatDoor

namespace Go.Proofs.YtonkeklageehbaaGreatDoor
open Go Go.Av
end Go.Proofs.YtonkeklageehbaaGreatDoor

namespace Go.Proofs.YtonkeklageehbaaGreatDoor
open Go Go.Av
structure Tok where
  kind : Int
  text : List UInt8
  n : Int
  pos : Int
  deriving DecidableEq
def Tok.cells (t : Tok) : List AV := [.int .i64 t.kind, .str t.text, .int .i64 t.n, .int .i64 t.pos]
def toksC (l : List Tok) : List AV := (l.map Tok.cells).flatten
@[simp] theorem toksC_length (l : List Tok) : (toksC l).length = l.length * 4 := by
  induction l with
  | nil => rfl
  | cons t l ih => show (t.cells ++ toksC l).length = _; rw [List.length_append, ih]; simp [Tok.cells]; omega
theorem indexByte_lt : ∀ (l : List UInt8) (c : UInt8), Lib.indexByte l c < l.length ∧ -1 ≤ Lib.indexByte l c
  | [], c => by simp [Lib.indexByte]
  | b :: l, c => by
    have := indexByte_lt l c
    unfold Lib.indexByte
    simp only [beq_iff_eq, List.length_cons]
    repeat' split
    all_goals omega
end Go.Proofs.YtonkeklageehbaaGreatDoor

namespace Go.Proofs.YtonkeklageehbaaGreatDoor
open Go Go.Av
structure RS where
  l : List Tok
  opn : Nat
  sz : Nat
def reservedL : List (List UInt8) := [[58], [59], [40], [41], [45, 45], [91], [93], [123], [125], [116], [102]]
def reservedR (s : List UInt8) : Bool := reservedL.contains s
structure DefT where
  name : List UInt8
  inn : Nat
  out : Nat
  body : List Tree
/-- As many steps as suffice. -/
def fuel (s : RS) : Nat := 3 * s.l.length + 3
inductive FormT where
  | define (d : DefT)
  | item (t : Tree)
end Go.Proofs.YtonkeklageehbaaGreatDoor

namespace Go.Proofs.YtonkeklageehbaaGreatDoor
open Go Go.Av
end Go.Proofs.YtonkeklageehbaaGreatDoor

namespace Go.Proofs.YtonkeklageehbaaGreatDoor
open Go Go.Av
def idxL (s : List UInt8) : List (List UInt8) → Int
  | [] => -1
  | x :: r => if s = x then 0 else if idxL s r < 0 then -1 else idxL s r + 1
theorem idxL_has (s : List UInt8) : ∀ l : List (List UInt8), decide (0 ≤ idxL s l) = l.contains s
  | [] => by simp [idxL]
  | x :: r => by
    have ih := idxL_has s r
    rw [List.contains_cons, ← ih, idxL]
    by_cases h : s = x
    · simp [h]
    · have : (s == x) = false := by simpa using h
      rw [if_neg h, this, Bool.false_or, decide_eq_decide]
      split <;> omega
theorem fn_Index (l : List (List UInt8)) (s : List UInt8) (hl : l.length ≤ 1000000) : Av.Fn Tryz.prog 94 [.fz (l.map .str) l.length false, .str s] (.int .i64 (idxL s l)) := by
  refine ACalls.of_W tb_ok (fn := Tryz.f94) (n := 19) (by kernel_rfl) rfl (by kernel_rfl) rfl rfl (by simp) (go ?_)
  refine VLoop.mk [8] Nat (fun i => [.int .i64 i]) (fun _ => []) (fun i => i ≤ l.length ∧ idxL s l = if idxL s (l.drop i) < 0 then -1 else idxL s (l.drop i) + i) (fun i => l.length - i) 0 ?_ ?_
  · refine ⟨⟨by omega, ?_⟩, rfl, .nil⟩
    have : -1 ≤ idxL s l := by
      cases l with
      | nil => simp [idxL]
      | cons x r => unfold idxL; repeat' split
                    all_goals omega
    simp; intro _; omega
  intro i ⟨hi, hI⟩
  refine go ?_
  refine fork (fun hlt => go ?_) (fun hlt => go ?_)
  · have hlt : i < l.length := by omega
    have hx : l[i]? = some l[i] := by simp [hlt]
    rw [List.drop_eq_getElem_cons hlt, idxL] at hI
    refine VNth.mk (.str l[i]) (by simp [hx]) (go ?_)
    refine fork (fun he => go ?_) (fun he => go ?_)
    · rw [if_pos he] at hI
      refine VRet.mk [] .nil ?_
      rw [hI]; simp
    · rw [if_neg he] at hI
      refine ⟨i + 1, ⟨by omega, ?_⟩, by omega, rfl, .nil⟩
      rw [hI]
      repeat' split
      all_goals omega
  · rw [List.drop_eq_nil_of_le (by omega), idxL] at hI
    refine VRet.mk [] .nil ?_
    rw [hI]; simp
theorem fn_Contains (l : List (List UInt8)) (s : List UInt8) (hl : l.length ≤ 1000000) : Av.Fn Tryz.prog 69 [.fz (l.map .str) l.length false, .str s] (.bool (l.contains s)) := by
  have h1 := fn_Index l s hl
  refine ACalls.of_W tb_ok (fn := Tryz.f69) (n := 9) (by kernel_rfl) rfl (by kernel_rfl) rfl rfl (by simp) (go ?_)
  refine Fn.use (h1) (go ?_)
  refine VRet.mk [] .nil ?_
  rw [idxL_has]; exact ⟨rfl, rfl⟩
theorem f_Reserved (s : List UInt8) : Av.Fn Tryz.prog 68 [.str s] (.bool (reservedR s)) := by
  have h := fn_Contains reservedL s (by decide)
  refine ACalls.of_W tb_ok (fn := Tryz.f68) (n := 6) (by kernel_rfl) rfl (by kernel_rfl) rfl rfl (by simp) (go ?_)
  refine Fn.use (h) (go ?_)
  refine VRet.mk [] .nil ?_
  exact ⟨rfl, rfl⟩
end Go.Proofs.YtonkeklageehbaaGreatDoor

namespace Go.Proofs.YtonkeklageehbaaGreatDoor
open Go Go.Av
structure AccI where
  k : Nat
  o : Option Nat

theorem f_ItemTrees' (l : List Tree) (h : ∀ (i : Nat) t, l[i]? = some t → Av.Fn Tryz.prog 31 [itemAV t] (.agg (rvAV (itemRV t)))) (hl : l.length ≤ 2513169434916) :
    Av.Fn Tryz.prog 14 [.fz (itemAVs l) l.length false] (.fz (rvsC (itemRVs l)) l.length false) := by
  refine ACalls.of_W tb_ok (fn := Tryz.f14) (n := 20) (by kernel_rfl) rfl (by kernel_rfl) rfl rfl (by simp) (go ?_)
  refine VLoop.mk [3, 4] AccI (fun i => [accV i.o i.k, .int .i64 i.k]) (fun i => accS i.o 4 (rvsC (itemRVs (l.take i.k)))) (fun i => i.k ≤ l.length ∧ (i.o = none → i.k = 0)) (fun i => l.length - i.k) ⟨0, none⟩ ?_ ?_
  · exact ⟨⟨by simp, by simp⟩, rfl, .nil⟩
  rintro ⟨k, o⟩ ⟨hk, ho⟩
  dsimp only at hk ho ⊢
  refine go ?_
  refine fork (fun hlt => go ?_) (fun hlt => ?_)
  · have hlt : k < l.length := by omega
    obtain ⟨t, ht⟩ : ∃ t, l[k]? = some t := ⟨l[k], by simp [hlt]⟩
    have hv := h k t ht
    have hacc : rvsC (itemRVs (l.take (k + 1))) = rvsC (itemRVs (l.take k)) ++ rvAV (itemRV t) := by
      rw [take_succ_at ht, itemRVs_map, itemRVs_map, List.map_append, rvsC_app]; simp [rvsC]
    obtain ⟨v, e⟩ : ∃ v, v = itemRV t := ⟨_, rfl⟩
    rw [← e] at hv hacc
    obtain ⟨v1, v2, v3, v4⟩ := v
    rw [rvAV] at hv hacc
    have hlen : (rvsC (itemRVs (l.take k))).length = k * 4 := by rw [rvsC_length, itemRVs_length, List.length_take, Nat.min_eq_left hk]
    refine VNth.mk (itemAV t) (by simp [mulN_eq, itemAVs_map, ht]) (go ?_)
    refine Fn.use (hv) (go ?_)
    cases o with
    | none =>
      obtain rfl : k = 0 := ho rfl
      refine go ?_
      refine VAll.mk (fun b2 => go ?_)
      refine ⟨⟨1, some b2⟩, ⟨by dsimp only; omega, by simp⟩, by dsimp only; omega, rfl, .cons 0 ?_ .nil⟩
      dsimp only
      rw [hacc]; simp [itemRVs, rvsC]
    | some bo =>
      refine go ?_
      refine VGd.mk ⟨rfl, by omega, by rw [mulN_eq, hlen]; exact Nat.le_refl _, by dsimp only; omega⟩ (go ?_)
      refine VAll.mk (fun b2 => go ?_)
      refine ⟨⟨k + 1, some b2⟩, ⟨by dsimp only; omega, by simp⟩, by dsimp only; omega, rfl, .cons 0 ?_ .nil⟩
      dsimp only
      rw [hacc, mulN_eq, List.take_of_length_le (by rw [hlen]; exact Nat.le_refl _)]; rfl
  · obtain rfl : k = l.length := by omega
    rw [List.take_length]
    cases o with
    | none =>
      have := ho rfl
      obtain rfl : l = [] := List.length_eq_zero_iff.1 this
      refine go ?_
      refine VRet.mk [] .nil ?_
      exact ⟨by simp [itemRVs, rvsC], rfl⟩
    | some bo =>
      refine go ?_
      refine VRet.mk [] .nil ?_
      exact ⟨by simp [mulN_eq, List.take_of_length_le], rfl⟩
theorem f_Trees' (l : List Tree) (h : ∀ (i : Nat) t, l[i]? = some t → Av.Fn Tryz.prog 34 [valAV t] (.agg (rvAV (valRV t)))) (hl : l.length ≤ 2513169434916) :
    Av.Fn Tryz.prog 66 [.fz (valAVs l) l.length false] (.fz (rvsC (valRVs l)) l.length false) := by
  refine ACalls.of_W tb_ok (fn := Tryz.f66) (n := 20) (by kernel_rfl) rfl (by kernel_rfl) rfl rfl (by simp) (go ?_)
  refine VLoop.mk [3, 4] AccI (fun i => [accV i.o i.k, .int .i64 i.k]) (fun i => accS i.o 4 (rvsC (valRVs (l.take i.k)))) (fun i => i.k ≤ l.length ∧ (i.o = none → i.k = 0)) (fun i => l.length - i.k) ⟨0, none⟩ ?_ ?_
  · exact ⟨⟨by simp, by simp⟩, rfl, .nil⟩
  rintro ⟨k, o⟩ ⟨hk, ho⟩
  dsimp only at hk ho ⊢
  refine go ?_
  refine fork (fun hlt => go ?_) (fun hlt => ?_)
  · have hlt : k < l.length := by omega
    obtain ⟨t, ht⟩ : ∃ t, l[k]? = some t := ⟨l[k], by simp [hlt]⟩
    have hv := h k t ht
    have hacc : rvsC (valRVs (l.take (k + 1))) = rvsC (valRVs (l.take k)) ++ rvAV (valRV t) := by
      rw [take_succ_at ht, valRVs_map, valRVs_map, List.map_append, rvsC_app]; simp [rvsC]
    obtain ⟨v, e⟩ : ∃ v, v = valRV t := ⟨_, rfl⟩
    rw [← e] at hv hacc
    obtain ⟨v1, v2, v3, v4⟩ := v
    rw [rvAV] at hv hacc
    have hlen : (rvsC (valRVs (l.take k))).length = k * 4 := by rw [rvsC_length, valRVs_length, List.length_take, Nat.min_eq_left hk]
    refine VNth.mk (valAV t) (by simp [mulN_eq, valAVs_map, ht]) (go ?_)
    refine Fn.use (hv) (go ?_)
    cases o with
    | none =>
      obtain rfl : k = 0 := ho rfl
      refine go ?_
      refine VAll.mk (fun b2 => go ?_)
      refine ⟨⟨1, some b2⟩, ⟨by dsimp only; omega, by simp⟩, by dsimp only; omega, rfl, .cons 0 ?_ .nil⟩
      dsimp only
      rw [hacc]; simp [valRVs, rvsC]
    | some bo =>
      refine go ?_
      refine VGd.mk ⟨rfl, by omega, by rw [mulN_eq, hlen]; exact Nat.le_refl _, by dsimp only; omega⟩ (go ?_)
      refine VAll.mk (fun b2 => go ?_)
      refine ⟨⟨k + 1, some b2⟩, ⟨by dsimp only; omega, by simp⟩, by dsimp only; omega, rfl, .cons 0 ?_ .nil⟩
      dsimp only
      rw [hacc, mulN_eq, List.take_of_length_le (by rw [hlen]; exact Nat.le_refl _)]; rfl
  · obtain rfl : k = l.length := by omega
    rw [List.take_length]
    cases o with
    | none =>
      have := ho rfl
      obtain rfl : l = [] := List.length_eq_zero_iff.1 this
      refine go ?_
      refine VRet.mk [] .nil ?_
      exact ⟨by simp [valRVs, rvsC], rfl⟩
    | some bo =>
      refine go ?_
      refine VRet.mk [] .nil ?_
      exact ⟨by simp [mulN_eq, List.take_of_length_le], rfl⟩
theorem thawV (a b c : AV) : FzO (.ret (.agg [a, b, c, .nils])) (.ret (.agg [a, b, c, .fz [] 0 false])) [] [] :=
  .ret (.agg (.cons (.keep a []) (.cons (.keep b []) (.cons (.keep c []) (.cons (.nils []) (.nil [])))))) .nil


theorem f_Tree' (t : Tree) (hc : t.clean = true) (h4 : ∀ l, t = .list l → Av.Fn Tryz.prog 66 [.fz (valAVs l) l.length false] (.fz (rvsC (valRVs l)) l.length false))
    (h5 : ∀ l, t = .quot l → Av.Fn Tryz.prog 14 [.fz (itemAVs l) l.length false] (.fz (rvsC (itemRVs l)) l.length false)) :
    Av.Fn Tryz.prog 34 [valAV t] (.agg (rvAV (valRV t))) := by
  cases t with
  | odd t v => simp [Tree.clean] at hc
  | none =>
    simp only [valAV, valRV, rvAV, rvsC, List.length_nil]
    refine ACalls.thaw (ACalls.of_W tb_ok (fn := Tryz.f34) (n := 50) (by kernel_rfl) rfl (by kernel_rfl) rfl rfl (by simp) (go ?_))
    refine VAll.mk (fun b => go ?_)
    refine VRet.mk [] .nil ?_
    exact ⟨_, _, thawV _ _ _, rfl, rfl⟩
  | call s =>
    simp only [valAV, valRV, rvAV, rvsC, List.length_nil]
    refine ACalls.thaw (ACalls.of_W tb_ok (fn := Tryz.f34) (n := 50) (by kernel_rfl) rfl (by kernel_rfl) rfl rfl (by simp) (go ?_))
    refine VAll.mk (fun b => go ?_)
    refine VRet.mk [] .nil ?_
    exact ⟨_, _, thawV _ _ _, rfl, rfl⟩
  | int n =>
    simp only [valAV, valRV, rvAV, rvsC, List.length_nil]
    refine ACalls.thaw (ACalls.of_W tb_ok (fn := Tryz.f34) (n := 50) (by kernel_rfl) rfl (by kernel_rfl) rfl rfl (by simp) (go ?_))
    refine VAll.mk (fun b => go ?_)
    refine VAll.mk (fun b2 => go ?_)
    refine VRet.mk [] .nil ?_
    exact ⟨_, _, thawV _ _ _, rfl, rfl⟩
  | str s =>
    simp only [valAV, valRV, rvAV, rvsC, List.length_nil]
    refine ACalls.thaw (ACalls.of_W tb_ok (fn := Tryz.f34) (n := 50) (by kernel_rfl) rfl (by kernel_rfl) rfl rfl (by simp) (go ?_))
    refine VAll.mk (fun b => go ?_)
    refine VAll.mk (fun b2 => go ?_)
    refine VRet.mk [] .nil ?_
    exact ⟨_, _, thawV _ _ _, rfl, rfl⟩
  | bool b =>
    simp only [valAV, valRV, rvAV, rvsC, List.length_nil]
    refine ACalls.thaw (ACalls.of_W tb_ok (fn := Tryz.f34) (n := 50) (by kernel_rfl) rfl (by kernel_rfl) rfl rfl (by simp) (go ?_))
    refine VAll.mk (fun b => go ?_)
    refine VAll.mk (fun b2 => go ?_)
    refine fork (fun hb => go ?_) (fun hb => go ?_)
    · refine VRet.mk [] .nil ?_
      subst hb; exact ⟨_, _, thawV _ _ _, rfl, rfl⟩
    · refine VRet.mk [] .nil ?_
      subst hb; exact ⟨_, _, thawV _ _ _, rfl, rfl⟩
  | list l =>
    have h4 := h4 l rfl
    simp only [valAV, valRV, rvAV, rvsC, List.length_nil]
    refine ACalls.thaw (ACalls.of_W tb_ok (fn := Tryz.f34) (n := 50) (by kernel_rfl) rfl (by kernel_rfl) rfl rfl (by simp) (go ?_))
    refine VAll.mk (fun b => go ?_)
    refine VAll.mk (fun b2 => go ?_)
    refine Fn.use (h4) (go ?_)
    refine VRet.mk [] .nil ?_
    exact ⟨_, _, .same _ _, by simp, rfl⟩
  | quot l =>
    have h5 := h5 l rfl
    simp only [valAV, valRV, rvAV, rvsC, List.length_nil]
    refine ACalls.thaw (ACalls.of_W tb_ok (fn := Tryz.f34) (n := 50) (by kernel_rfl) rfl (by kernel_rfl) rfl rfl (by simp) (go ?_))
    refine VAll.mk (fun b => go ?_)
    refine VAll.mk (fun b2 => go ?_)
    refine Fn.use (h5) (go ?_)
    refine VRet.mk [] .nil ?_
    exact ⟨_, _, .same _ _, by simp, rfl⟩
  | box n =>
    simp only [valAV, valRV, rvAV, rvsC, List.length_nil]
    refine ACalls.thaw (ACalls.of_W tb_ok (fn := Tryz.f34) (n := 50) (by kernel_rfl) rfl (by kernel_rfl) rfl rfl (by simp) (go ?_))
    refine VAll.mk (fun b => go ?_)
    refine VAll.mk (fun b2 => go ?_)
    refine VRet.mk [] .nil ?_
    exact ⟨_, _, thawV _ _ _, rfl, rfl⟩
theorem f_ItemTree' (t : Tree) (hc : t.clean = true) (h : (∀ s, t ≠ .call s) → Av.Fn Tryz.prog 34 [valAV t] (.agg (rvAV (valRV t)))) :
    Av.Fn Tryz.prog 31 [itemAV t] (.agg (rvAV (itemRV t))) := by
  cases t with
  | odd t v => simp [Tree.clean] at hc
  | none =>
    simp only [itemAV, itemRV, valRV, rvAV, rvsC, List.length_nil]
    refine ACalls.thaw (ACalls.of_W tb_ok (fn := Tryz.f31) (n := 19) (by kernel_rfl) rfl (by kernel_rfl) rfl rfl (by simp) (go ?_))
    refine VAll.mk (fun b => go ?_)
    refine VRet.mk [] .nil ?_
    exact ⟨_, _, thawV _ _ _, rfl, rfl⟩
  | call s =>
    simp only [itemAV, itemRV, valRV, rvAV, rvsC, List.length_nil]
    refine ACalls.thaw (ACalls.of_W tb_ok (fn := Tryz.f31) (n := 19) (by kernel_rfl) rfl (by kernel_rfl) rfl rfl (by simp) (go ?_))
    refine VAll.mk (fun b => go ?_)
    refine VAll.mk (fun b2 => go ?_)
    refine VRet.mk [] .nil ?_
    exact ⟨_, _, thawV _ _ _, rfl, rfl⟩
  | int n =>
    have h := h (by intro s; exact Tree.noConfusion)
    simp only [itemAV, itemRV]
    obtain ⟨v, e⟩ : ∃ v, v = valRV (.int n) := ⟨_, rfl⟩
    rw [← e] at h ⊢
    obtain ⟨v1, v2, v3, v4⟩ := v
    rw [rvAV] at h ⊢
    refine ACalls.of_W tb_ok (fn := Tryz.f31) (n := 19) (by kernel_rfl) rfl (by kernel_rfl) rfl rfl (by simp) (go ?_)
    refine VAll.mk (fun b => go ?_)
    refine VAll.mk (fun b2 => go ?_)
    refine Fn.use (h) (go ?_)
    refine VRet.mk [] .nil ?_
    exact ⟨rfl, rfl⟩
  | str s =>
    have h := h (by intro s; exact Tree.noConfusion)
    simp only [itemAV, itemRV]
    obtain ⟨v, e⟩ : ∃ v, v = valRV (.str s) := ⟨_, rfl⟩
    rw [← e] at h ⊢
    obtain ⟨v1, v2, v3, v4⟩ := v
    rw [rvAV] at h ⊢
    refine ACalls.of_W tb_ok (fn := Tryz.f31) (n := 19) (by kernel_rfl) rfl (by kernel_rfl) rfl rfl (by simp) (go ?_)
    refine VAll.mk (fun b => go ?_)
    refine VAll.mk (fun b2 => go ?_)
    refine Fn.use (h) (go ?_)
    refine VRet.mk [] .nil ?_
    exact ⟨rfl, rfl⟩
  | bool b =>
    have h := h (by intro s; exact Tree.noConfusion)
    simp only [itemAV, itemRV]
    obtain ⟨v, e⟩ : ∃ v, v = valRV (.bool b) := ⟨_, rfl⟩
    rw [← e] at h ⊢
    obtain ⟨v1, v2, v3, v4⟩ := v
    rw [rvAV] at h ⊢
    refine ACalls.of_W tb_ok (fn := Tryz.f31) (n := 19) (by kernel_rfl) rfl (by kernel_rfl) rfl rfl (by simp) (go ?_)
    refine VAll.mk (fun b => go ?_)
    refine VAll.mk (fun b2 => go ?_)
    refine Fn.use (h) (go ?_)
    refine VRet.mk [] .nil ?_
    exact ⟨rfl, rfl⟩
  | list l =>
    have h := h (by intro s; exact Tree.noConfusion)
    simp only [itemAV, itemRV]
    obtain ⟨v, e⟩ : ∃ v, v = valRV (.list l) := ⟨_, rfl⟩
    rw [← e] at h ⊢
    obtain ⟨v1, v2, v3, v4⟩ := v
    rw [rvAV] at h ⊢
    refine ACalls.of_W tb_ok (fn := Tryz.f31) (n := 19) (by kernel_rfl) rfl (by kernel_rfl) rfl rfl (by simp) (go ?_)
    refine VAll.mk (fun b => go ?_)
    refine VAll.mk (fun b2 => go ?_)
    refine Fn.use (h) (go ?_)
    refine VRet.mk [] .nil ?_
    exact ⟨rfl, rfl⟩
  | quot l =>
    have h := h (by intro s; exact Tree.noConfusion)
    simp only [itemAV, itemRV]
    obtain ⟨v, e⟩ : ∃ v, v = valRV (.quot l) := ⟨_, rfl⟩
    rw [← e] at h ⊢
    obtain ⟨v1, v2, v3, v4⟩ := v
    rw [rvAV] at h ⊢
    refine ACalls.of_W tb_ok (fn := Tryz.f31) (n := 19) (by kernel_rfl) rfl (by kernel_rfl) rfl rfl (by simp) (go ?_)
    refine VAll.mk (fun b => go ?_)
    refine VAll.mk (fun b2 => go ?_)
    refine Fn.use (h) (go ?_)
    refine VRet.mk [] .nil ?_
    exact ⟨rfl, rfl⟩
  | box n =>
    have h := h (by intro s; exact Tree.noConfusion)
    simp only [itemAV, itemRV]
    obtain ⟨v, e⟩ : ∃ v, v = valRV (.box n) := ⟨_, rfl⟩
    rw [← e] at h ⊢
    obtain ⟨v1, v2, v3, v4⟩ := v
    rw [rvAV] at h ⊢
    refine ACalls.of_W tb_ok (fn := Tryz.f31) (n := 19) (by kernel_rfl) rfl (by kernel_rfl) rfl rfl (by simp) (go ?_)
    refine VAll.mk (fun b => go ?_)
    refine VAll.mk (fun b2 => go ?_)
    refine Fn.use (h) (go ?_)
    refine VRet.mk [] .nil ?_
    exact ⟨rfl, rfl⟩
theorem f_trees (n : Nat) :
    (∀ t : Tree, t.clean = true → t.depth ≤ n → Av.Fn Tryz.prog 34 [valAV t] (.agg (rvAV (valRV t))) ∧ Av.Fn Tryz.prog 31 [itemAV t] (.agg (rvAV (itemRV t)))) ∧
    (∀ l : List Tree, cleanAll l = true → l.length ≤ 2513169434916 → depthAll l ≤ n → Av.Fn Tryz.prog 66 [.fz (valAVs l) l.length false] (.fz (rvsC (valRVs l)) l.length false) ∧
      Av.Fn Tryz.prog 14 [.fz (itemAVs l) l.length false] (.fz (rvsC (itemRVs l)) l.length false)) := by
  have lists : ∀ n, (∀ t : Tree, t.clean = true → t.depth ≤ n → Av.Fn Tryz.prog 34 [valAV t] (.agg (rvAV (valRV t))) ∧ Av.Fn Tryz.prog 31 [itemAV t] (.agg (rvAV (itemRV t)))) →
      (∀ l : List Tree, cleanAll l = true → l.length ≤ 2513169434916 → depthAll l ≤ n → Av.Fn Tryz.prog 66 [.fz (valAVs l) l.length false] (.fz (rvsC (valRVs l)) l.length false) ∧
      Av.Fn Tryz.prog 14 [.fz (itemAVs l) l.length false] (.fz (rvsC (itemRVs l)) l.length false)) := fun n h l hc hl hd =>
    ⟨f_Trees' l (fun i t ht => (h t (cleanAll_at hc ht) (Nat.le_trans (depthAll_at ht) hd)).1) hl, f_ItemTrees' l (fun i t ht => (h t (cleanAll_at hc ht) (Nat.le_trans (depthAll_at ht) hd)).2) hl⟩
  have both : ∀ t : Tree, t.clean = true → Av.Fn Tryz.prog 34 [valAV t] (.agg (rvAV (valRV t))) → Av.Fn Tryz.prog 34 [valAV t] (.agg (rvAV (valRV t))) ∧ Av.Fn Tryz.prog 31 [itemAV t] (.agg (rvAV (itemRV t))) :=
    fun t hc h => ⟨h, f_ItemTree' t hc fun _ => h⟩
  suffices H : ∀ t : Tree, t.clean = true → t.depth ≤ n → Av.Fn Tryz.prog 34 [valAV t] (.agg (rvAV (valRV t))) from
    ⟨fun t hc hd => both t hc (H t hc hd), lists n fun t hc hd => both t hc (H t hc hd)⟩
  induction n with
  | zero =>
    intro t hc hd
    refine f_Tree' t hc ?_ ?_
    · rintro l rfl; simp [Tree.depth] at hd
    · rintro l rfl; simp [Tree.depth] at hd
  | succ n ih =>
    intro t hc hd
    have L := lists n fun t hc hd => both t hc (ih t hc hd)
    refine f_Tree' t hc ?_ ?_
    · rintro l rfl
      simp only [Tree.clean, Bool.and_eq_true, decide_eq_true_eq] at hc
      rw [Tree.depth] at hd
      exact (L l hc.2 hc.1 (by omega)).1
    · rintro l rfl
      simp only [Tree.clean, Bool.and_eq_true, decide_eq_true_eq] at hc
      rw [Tree.depth] at hd
      exact (L l hc.2 hc.1 (by omega)).2
theorem f_ItemTrees {l : List Tree} (h : cleanAll l = true) (hl : l.length ≤ 2513169434916) : Av.Fn Tryz.prog 14 [.fz (itemAVs l) l.length false] (.fz (rvsC (itemRVs l)) l.length false) := ((f_trees (depthAll l)).2 l h hl (Nat.le_refl _)).2
end Go.Proofs.YtonkeklageehbaaGreatDoor

namespace Go.Proofs.YtonkeklageehbaaGreatDoor
open Go Go.Av
end Go.Proofs.YtonkeklageehbaaGreatDoor

namespace Go.Proofs.YtonkeklageehbaaGreatDoor
open Go Go.Av
end Go.Proofs.YtonkeklageehbaaGreatDoor

namespace Go.Proofs.YtonkeklageehbaaGreatDoor
open Go Go.Av
def Tok.shift (d : Nat) (t : Tok) : Tok := { t with pos := d + t.pos }
end Go.Proofs.YtonkeklageehbaaGreatDoor

namespace Go.Proofs.YtonkeklageehbaaGreatDoor
open Go Go.Av
def FormT.cells : FormT → List AV
  | .define d => [.bool true, .str d.name, .int .i64 d.inn, .int .i64 d.out, .fz (itemAVs d.body) d.body.length false, .nili]
  | .item t => [.bool false, .str [], .int .i64 0, .int .i64 0, .fz [] 0 false, itemAV t]
def formsC (l : List FormT) : List AV := (l.map FormT.cells).flatten
@[simp] theorem formsC_length (l : List FormT) : (formsC l).length = l.length * 6 := by
  induction l with
  | nil => rfl
  | cons t l ih =>
    show (t.cells ++ formsC l).length = _
    rw [List.length_append, ih]
    cases t <;> simp [FormT.cells] <;> omega
end Go.Proofs.YtonkeklageehbaaGreatDoor

namespace Go.Proofs.YtonkeklageehbaaGreatDoor
open Go Go.Av
structure RDef where
  name : List UInt8
  inn : Int
  out : Int
  body : List RV
def RDef.cells (d : RDef) : List AV := [.str d.name, .int .i64 d.inn, .int .i64 d.out, .fz (rvsC d.body) d.body.length false]
inductive RForm where
  | define (d : RDef)
  | item (v : RV)
def RForm.cells : RForm → List AV
  | .define d => .bool true :: (d.cells ++ [.int .i64 0, .int .i64 0, .str [], .fz [] 0 false])
  | .item v => .bool false :: ([.str [], .int .i64 0, .int .i64 0, .fz [] 0 false] ++ rvAV v)
def rformsC (l : List RForm) : List AV := (l.map RForm.cells).flatten
@[simp] theorem RForm.cells_length (f : RForm) : f.cells.length = 9 := by cases f <;> simp [RForm.cells, RDef.cells]
@[simp] theorem rformsC_length (l : List RForm) : (rformsC l).length = l.length * 9 := by
  induction l with
  | nil => rfl
  | cons t l ih => show (t.cells ++ rformsC l).length = _; rw [List.length_append, ih, RForm.cells_length, List.length_cons]; omega
/-- Forms that the walks may read. -/
def FormT.clean : FormT → Bool
  | .define d => cleanAll d.body && decide (d.body.length ≤ 2513169434916)
  | .item t => t.clean && (match t with | .none => false | _ => true)
/-- No list of more than 2^40. -/
def RForm.small : RForm → Bool
  | .define d => smallAll d.body && decide (d.body.length ≤ 2513169434916)
  | .item v => v.small
end Go.Proofs.YtonkeklageehbaaGreatDoor

namespace Go.Proofs.YtonkeklageehbaaGreatDoor
open Go Go.Av
structure Ch where
  r : Nat
  a : Nat
  z : Nat
  bad : Bool
def Ch.cells (c : Ch) : List AV := [.int .i32 c.r, .int .i64 c.a, .int .i64 c.z, .bool c.bad]
def chC (l : List Ch) : List AV := (l.map Ch.cells).flatten
@[simp] theorem chC_length (l : List Ch) : (chC l).length = l.length * 4 := by
  induction l with
  | nil => rfl
  | cons t l ih => show (t.cells ++ chC l).length = _; rw [List.length_append, ih]; simp [Ch.cells]; omega
def fb : List Ch → Int
  | [] => -1
  | c :: r => if c.bad then (c.a : Int) else fb r
end Go.Proofs.YtonkeklageehbaaGreatDoor

namespace Go.Proofs.YtonkeklageehbaaGreatDoor
open Go Go.Av
end Go.Proofs.YtonkeklageehbaaGreatDoor

namespace Go.Proofs.YtonkeklageehbaaGreatDoor
open Go Go.Av
end Go.Proofs.YtonkeklageehbaaGreatDoor

namespace Go.Proofs.YtonkeklageehbaaGreatDoor
open Go Go.Av
/-! Numbers: as the program has them. -/
end Go.Proofs.YtonkeklageehbaaGreatDoor

namespace Go.Proofs.YtonkeklageehbaaGreatDoor
open Go Go.Av
def RV.kind : RV → Int
  | .mk k _ _ _ => k
def inR (n : Int) : Bool := decide (-1152921504606846976 ≤ n) && decide (n ≤ 1152921504606846975)
mutual
/-- No list of more than 2^40, no name of more than 10^9 bytes. -/
def RV.fit : RV → Bool
  | .mk k _ s l => decide (l.length ≤ 2513169434916) && decide (k = 7 → s.length ≤ 1000000000) && (if k = 4 ∨ k = 5 then fitAll l else true)
def fitAll : List RV → Bool
  | [] => true
  | v :: r => v.fit && fitAll r
end
end Go.Proofs.YtonkeklageehbaaGreatDoor

namespace Go.Proofs.YtonkeklageehbaaGreatDoor
open Go Go.Av
def nmR (s : List UInt8) : Bool := nameR s && !reservedR s
theorem f_tName (s : List UInt8) (hs : s.length ≤ 4611686018427387904) : Av.Fn Tryz.prog 38 [.str s] (.bool (nmR s)) := by
  have h1 := f11_of s hs
  have h2 := f_Reserved s
  unfold nmR
  refine ACalls.of_W tb_ok (fn := Tryz.f38) (n := 10) (by kernel_rfl) rfl (by kernel_rfl) rfl rfl (by simp) (go ?_)
  refine Fn.use (h1) (go ?_)
  cases nameR s with
  | true =>
    refine go ?_
    refine Fn.use (h2) (go ?_)
    refine VRet.mk [] .nil ?_
    exact ⟨rfl, rfl⟩
  | false =>
    refine go ?_
    refine VRet.mk [] .nil ?_
    exact ⟨rfl, rfl⟩
mutual
/-- What measure says of a value (or item says of an item): its depth, and how many may still come. -/
def measT (it : Bool) : Tree → Int → Int → Option (Int × Int)
  | .none, _, _ => none
  | .odd _ _, _, _ => none
  | .call s, left, _ => if it = true ∧ 1 ≤ left ∧ nmR s = true then some (0, left - 1) else none
  | .int n, left, nest => if left < 1 ∨ 32 < nest then none else if inR n = true then some (0, left - 1) else none
  | .str s, left, nest => if left < 1 ∨ 32 < nest then none else if s.length ≤ 4096 ∧ faultR s = none then some (0, left - 1) else none
  | .bool _, left, nest => if left < 1 ∨ 32 < nest then none else some (0, left - 1)
  | .box n, left, nest => if left < 1 ∨ 32 < nest then none else if 1 ≤ n ∧ n ≤ 1048576 then some (0, left - 1) else none
  | .list l, left, nest => if left < 1 ∨ 32 < nest then none else measTs false l (left - 1) nest 0
  | .quot l, left, nest => if left < 1 ∨ 32 < nest then none else measTs true l (left - 1) nest 0
def measTs (it : Bool) : List Tree → Int → Int → Int → Option (Int × Int)
  | [], left, _, depth => if depth < 32 then some (depth + 1, left) else none
  | t :: r, left, nest, depth => match measT it t left (nest + 1) with
    | some (d, left) => measTs it r left nest (max depth d)
    | none => none
end
mutual
theorem measT_le : ∀ (it : Bool) (t : Tree) (left nest d l' : Int), measT it t left nest = some (d, l') → (0 ≤ d ∧ d ≤ 32) ∧ 0 ≤ l' ∧ l' < left := by
  intro it t left nest d l' h
  cases t with
  | none => rw [measT] at h; cases h
  | odd t v => rw [measT] at h; cases h
  | list l =>
    rw [measT] at h
    split at h
    · cases h
    · have := measTs_le _ l (left - 1) nest 0 d l' (by omega) (by omega) h; omega
  | quot l =>
    rw [measT] at h
    split at h
    · cases h
    · have := measTs_le _ l (left - 1) nest 0 d l' (by omega) (by omega) h; omega
  | _ =>
    rw [measT] at h
    repeat' split at h
    all_goals first
    | (cases h; done)
    | (simp only [Option.some.injEq, Prod.mk.injEq] at h; omega)
theorem measTs_le : ∀ (it : Bool) (l : List Tree) (left nest depth d l' : Int), 0 ≤ left → 0 ≤ depth → measTs it l left nest depth = some (d, l') → (0 ≤ d ∧ d ≤ 32) ∧ 0 ≤ l' ∧ l' ≤ left
  | it, [], left, nest, depth, d, l', hl, hd, h => by
    rw [measTs] at h
    split at h
    · simp only [Option.some.injEq, Prod.mk.injEq] at h; omega
    · cases h
  | it, t :: r, left, nest, depth, d, l', hl, hd, h => by
    rw [measTs] at h
    split at h
    · rename_i d1 l1 e
      have h1 := measT_le it t left (nest + 1) d1 l1 e
      have h2 := measTs_le it r l1 nest _ d l' (by omega) (by omega) h
      omega
    · cases h
end
/-- What measure does: the answer, and how many may still come. -/
def MeasC (x : AV) (m : Option (Int × Int)) (left nest : Int) : Prop := ∀ b, ACalls Tryz.prog 91 [x, .ptr b 0, .int .i64 nest] [(b, .box [.int .i64 left])] (fun out st => ∃ d l', out = .ret (.tup [.int .i64 d, .bool m.isSome]) ∧ st = [(b, .box [.int .i64 l'])] ∧ (m = none ∨ m = some (d, l')))
def ItemC (x : AV) (m : Option (Int × Int)) (left nest : Int) : Prop := ∀ b, ACalls Tryz.prog 117 [x, .ptr b 0, .int .i64 nest] [(b, .box [.int .i64 left])] (fun out st => ∃ d l', out = .ret (.tup [.int .i64 d, .bool m.isSome]) ∧ st = [(b, .box [.int .i64 l'])] ∧ (m = none ∨ m = some (d, l')))
structure MeT where
  i : Nat
  depth : Int
  left : Int

theorem m_list (l : List Tree) (hl : l.length ≤ 2513169434916) (left nest : Int) (hb : 1 ≤ left ∧ left ≤ 1000000) (hn : 0 ≤ nest ∧ nest ≤ 32)
    (ih : ∀ (i : Nat) t, l[i]? = some t → ∀ left nest, 0 ≤ left ∧ left ≤ 1000000 → 0 ≤ nest ∧ nest ≤ 33 → MeasC (valAV t) (measT false t left nest) left nest) :
    MeasC (valAV (.list l)) (measTs false l (left - 1) nest 0) left nest := by
  intro b
  rw [valAV]
  refine ACalls.of_W tb_ok (fn := Tryz.f91) (n := 129) (by kernel_rfl) rfl (by kernel_rfl) rfl rfl (by simp) (go ?_)
  refine VIf.no (by simp; omega) (go ?_)
  refine VIf.no (by simp; omega) (go ?_)
  refine VAll.mk (fun b2 => go ?_)
  refine VLoop.mk [79, 6] MeT (fun i => [.int .i64 i.i, .int .i64 i.depth]) (fun i => [(b, .box [.int .i64 i.left]), (b2, .box [.fz (valAVs l) l.length false])])
    (fun i => i.i ≤ l.length ∧ (0 ≤ i.left ∧ i.left ≤ 1000000) ∧ (0 ≤ i.depth ∧ i.depth ≤ 32) ∧ measTs false (l.drop i.i) i.left nest i.depth = measTs false l (left - 1) nest 0) (fun i => l.length - i.i) ⟨0, 0, left - 1⟩ ?_ ?_
  · exact ⟨⟨by simp, by dsimp only; omega, by simp, by simp⟩, rfl, .cons 1 rfl (.cons 0 rfl .nil)⟩
  rintro ⟨i, depth, lf⟩ ⟨hi, hlf, hdp, hI⟩
  dsimp only at hi hlf hdp hI ⊢
  refine go ?_
  refine fork (fun hlt => go ?_) (fun hlt => go ?_)
  · have hlt : i < l.length := by omega
    obtain ⟨x, hx⟩ : ∃ x, l[i]? = some x := ⟨l[i], by simp [hlt]⟩
    have hda : l.drop i = x :: l.drop (i + 1) := by rw [List.drop_eq_getElem_cons hlt]; congr 1; rw [List.getElem?_eq_getElem hlt] at hx; exact Option.some.inj hx
    rw [hda, measTs] at hI
    have hfx := ih i x hx lf (nest + 1) (by omega) (by omega) b
    have hle := measT_le false x lf (nest + 1)
    refine VNth.mk (valAV x) (by simp [mulN_eq, valAVs_map, hx]) (go ?_)
    generalize measT false x lf (nest + 1) = m at hI hfx hle
    refine ACalls.use (R := [(b2, .box [.fz (valAVs l) l.length false])]) hfx (.refl _) ?_
    rintro _ _ ⟨d, l', rfl, rfl, hm⟩
    cases m with
    | none =>
      rw [← hI]
      refine go ?_
      exact VRet.mk [(b, .box [.int .i64 l'])] (.cons 0 rfl .nil) ⟨0, l', rfl, rfl, .inl rfl⟩
    | some p =>
      obtain rfl : p = (d, l') := by simpa using hm
      have hle := hle d l' rfl
      dsimp only at hI
      refine go ?_
      refine ⟨⟨i + 1, max depth d, l'⟩, ⟨?_, ?_, ?_, hI⟩, ?_, rfl, .cons 0 rfl (.cons 0 rfl .nil)⟩
      · dsimp only; omega
      · dsimp only; omega
      · dsimp only; omega
      · dsimp only; omega
  · rw [List.drop_eq_nil_of_le (by omega), measTs] at hI
    rw [← hI]
    refine VRet.mk [(b, .box [.int .i64 lf])] (.cons 0 rfl .nil) ⟨depth + 1, lf, ?_, rfl, ?_⟩
    · by_cases h : depth < 32 <;> simp [h]
    · by_cases h : depth < 32 <;> simp [h]
theorem m_quot (l : List Tree) (hl : l.length ≤ 2513169434916) (left nest : Int) (hb : 1 ≤ left ∧ left ≤ 1000000) (hn : 0 ≤ nest ∧ nest ≤ 32)
    (ih : ∀ (i : Nat) t, l[i]? = some t → ∀ left nest, 0 ≤ left ∧ left ≤ 1000000 → 0 ≤ nest ∧ nest ≤ 33 → ItemC (itemAV t) (measT true t left nest) left nest) :
    MeasC (valAV (.quot l)) (measTs true l (left - 1) nest 0) left nest := by
  intro b
  rw [valAV]
  refine ACalls.of_W tb_ok (fn := Tryz.f91) (n := 129) (by kernel_rfl) rfl (by kernel_rfl) rfl rfl (by simp) (go ?_)
  refine VIf.no (by simp; omega) (go ?_)
  refine VIf.no (by simp; omega) (go ?_)
  refine VAll.mk (fun b2 => go ?_)
  refine VLoop.mk [107, 6] MeT (fun i => [.int .i64 i.i, .int .i64 i.depth]) (fun i => [(b, .box [.int .i64 i.left]), (b2, .box [.fz (itemAVs l) l.length false])])
    (fun i => i.i ≤ l.length ∧ (0 ≤ i.left ∧ i.left ≤ 1000000) ∧ (0 ≤ i.depth ∧ i.depth ≤ 32) ∧ measTs true (l.drop i.i) i.left nest i.depth = measTs true l (left - 1) nest 0) (fun i => l.length - i.i) ⟨0, 0, left - 1⟩ ?_ ?_
  · exact ⟨⟨by simp, by dsimp only; omega, by simp, by simp⟩, rfl, .cons 1 rfl (.cons 0 rfl .nil)⟩
  rintro ⟨i, depth, lf⟩ ⟨hi, hlf, hdp, hI⟩
  dsimp only at hi hlf hdp hI ⊢
  refine go ?_
  refine fork (fun hlt => go ?_) (fun hlt => go ?_)
  · have hlt : i < l.length := by omega
    obtain ⟨x, hx⟩ : ∃ x, l[i]? = some x := ⟨l[i], by simp [hlt]⟩
    have hda : l.drop i = x :: l.drop (i + 1) := by rw [List.drop_eq_getElem_cons hlt]; congr 1; rw [List.getElem?_eq_getElem hlt] at hx; exact Option.some.inj hx
    rw [hda, measTs] at hI
    have hfx := ih i x hx lf (nest + 1) (by omega) (by omega) b
    have hle := measT_le true x lf (nest + 1)
    refine VNth.mk (itemAV x) (by simp [mulN_eq, itemAVs_map, hx]) (go ?_)
    generalize measT true x lf (nest + 1) = m at hI hfx hle
    refine ACalls.use (R := [(b2, .box [.fz (itemAVs l) l.length false])]) hfx (.refl _) ?_
    rintro _ _ ⟨d, l', rfl, rfl, hm⟩
    cases m with
    | none =>
      rw [← hI]
      refine go ?_
      exact VRet.mk [(b, .box [.int .i64 l'])] (.cons 0 rfl .nil) ⟨0, l', rfl, rfl, .inl rfl⟩
    | some p =>
      obtain rfl : p = (d, l') := by simpa using hm
      have hle := hle d l' rfl
      dsimp only at hI
      refine go ?_
      refine ⟨⟨i + 1, max depth d, l'⟩, ⟨?_, ?_, ?_, hI⟩, ?_, rfl, .cons 0 rfl (.cons 0 rfl .nil)⟩
      · dsimp only; omega
      · dsimp only; omega
      · dsimp only; omega
      · dsimp only; omega
  · rw [List.drop_eq_nil_of_le (by omega), measTs] at hI
    rw [← hI]
    refine VRet.mk [(b, .box [.int .i64 lf])] (.cons 0 rfl .nil) ⟨depth + 1, lf, ?_, rfl, ?_⟩
    · by_cases h : depth < 32 <;> simp [h]
    · by_cases h : depth < 32 <;> simp [h]
theorem m_less {x : AV} {left nest : Int} (hl : left < 1 ∨ 32 < nest) (hb : 0 ≤ left ∧ left ≤ 1000000) (hn : 0 ≤ nest ∧ nest ≤ 33) : MeasC x none left nest := by
  intro b
  refine ACalls.of_W tb_ok (fn := Tryz.f91) (n := 129) (by kernel_rfl) rfl (by kernel_rfl) rfl rfl (by simp) (go ?_)
  refine fork (fun h1 => go ?_) (fun h1 => go ?_)
  · exact VRet.mk [(b, .box [.int .i64 (left - 1)])] (.cons 0 rfl .nil) ⟨0, _, rfl, rfl, .inl rfl⟩
  · refine VIf.yes (by simp; omega) (go ?_)
    exact VRet.mk [(b, .box [.int .i64 (left - 1)])] (.cons 0 rfl .nil) ⟨0, _, rfl, rfl, .inl rfl⟩

theorem m_int' (n left nest : Int) (hb : 1 ≤ left ∧ left ≤ 1000000) (hn : 0 ≤ nest ∧ nest ≤ 32) : MeasC (valAV (.int n)) (if inR n = true then some (0, left - 1) else none) left nest := by
  intro b
  rw [valAV]
  refine ACalls.of_W tb_ok (fn := Tryz.f91) (n := 129) (by kernel_rfl) rfl (by kernel_rfl) rfl rfl (by simp) (go ?_)
  refine VIf.no (by simp; omega) (go ?_)
  refine VIf.no (by simp; omega) (go ?_)
  refine VAll.mk (fun b2 => go ?_)
  refine fork (fun h1 => go ?_) (fun h1 => go ?_)
  · by_cases h2 : n ≤ 1152921504606846975
    · rw [if_pos (by simp [inR, h1, h2]), decide_eq_true h2]
      exact VRet.mk [(b, .box [.int .i64 (left - 1)])] (.cons 1 rfl .nil) ⟨0, _, rfl, rfl, .inr rfl⟩
    · rw [if_neg (by simp [inR, h2]), decide_eq_false h2]
      exact VRet.mk [(b, .box [.int .i64 (left - 1)])] (.cons 1 rfl .nil) ⟨0, _, rfl, rfl, .inl rfl⟩
  · rw [if_neg (by simp [inR, h1])]
    exact VRet.mk [(b, .box [.int .i64 (left - 1)])] (.cons 1 rfl .nil) ⟨0, _, rfl, rfl, .inl rfl⟩
theorem m_box' (n left nest : Int) (hb : 1 ≤ left ∧ left ≤ 1000000) (hn : 0 ≤ nest ∧ nest ≤ 32) : MeasC (valAV (.box n)) (if 1 ≤ n ∧ n ≤ 1048576 then some (0, left - 1) else none) left nest := by
  intro b
  rw [valAV]
  refine ACalls.of_W tb_ok (fn := Tryz.f91) (n := 129) (by kernel_rfl) rfl (by kernel_rfl) rfl rfl (by simp) (go ?_)
  refine VIf.no (by simp; omega) (go ?_)
  refine VIf.no (by simp; omega) (go ?_)
  refine VAll.mk (fun b2 => go ?_)
  refine fork (fun h1 => go ?_) (fun h1 => go ?_)
  · by_cases h2 : n ≤ 1048576
    · rw [if_pos (by omega), decide_eq_true h2]
      exact VRet.mk [(b, .box [.int .i64 (left - 1)])] (.cons 1 rfl .nil) ⟨0, _, rfl, rfl, .inr rfl⟩
    · rw [if_neg (by omega), decide_eq_false h2]
      exact VRet.mk [(b, .box [.int .i64 (left - 1)])] (.cons 1 rfl .nil) ⟨0, _, rfl, rfl, .inl rfl⟩
  · rw [if_neg (by omega)]
    exact VRet.mk [(b, .box [.int .i64 (left - 1)])] (.cons 1 rfl .nil) ⟨0, _, rfl, rfl, .inl rfl⟩
theorem m_bool' (n : Bool) (left nest : Int) (hb : 1 ≤ left ∧ left ≤ 1000000) (hn : 0 ≤ nest ∧ nest ≤ 32) : MeasC (valAV (.bool n)) (some (0, left - 1)) left nest := by
  intro b
  rw [valAV]
  refine ACalls.of_W tb_ok (fn := Tryz.f91) (n := 129) (by kernel_rfl) rfl (by kernel_rfl) rfl rfl (by simp) (go ?_)
  refine VIf.no (by simp; omega) (go ?_)
  refine VIf.no (by simp; omega) (go ?_)
  refine VAll.mk (fun b2 => go ?_)
  exact VRet.mk [(b, .box [.int .i64 (left - 1)])] (.cons 1 rfl .nil) ⟨0, _, rfl, rfl, .inr rfl⟩
theorem m_none' (left nest : Int) (hb : 1 ≤ left ∧ left ≤ 1000000) (hn : 0 ≤ nest ∧ nest ≤ 32) : MeasC .nili none left nest := by
  intro b
  refine ACalls.of_W tb_ok (fn := Tryz.f91) (n := 129) (by kernel_rfl) rfl (by kernel_rfl) rfl rfl (by simp) (go ?_)
  refine VIf.no (by simp; omega) (go ?_)
  refine VIf.no (by simp; omega) (go ?_)
  exact VRet.mk [(b, .box [.int .i64 (left - 1)])] (.cons 0 rfl .nil) ⟨0, _, rfl, rfl, .inl rfl⟩
theorem m_str' (s : List UInt8) (left nest : Int) (hb : 1 ≤ left ∧ left ≤ 1000000) (hn : 0 ≤ nest ∧ nest ≤ 32) : MeasC (valAV (.str s)) (if s.length ≤ 4096 ∧ faultR s = none then some (0, left - 1) else none) left nest := by
  have hv := f_Valid s
  intro b
  rw [valAV]
  refine ACalls.of_W tb_ok (fn := Tryz.f91) (n := 129) (by kernel_rfl) rfl (by kernel_rfl) rfl rfl (by simp) (go ?_)
  refine VIf.no (by simp; omega) (go ?_)
  refine VIf.no (by simp; omega) (go ?_)
  refine VAll.mk (fun b2 => go ?_)
  refine fork (fun h1 => go ?_) (fun h1 => go ?_)
  · refine Fn.use (hv) (go ?_)
    by_cases h2 : faultR s = none
    · rw [if_pos ⟨by omega, h2⟩, decide_eq_true h2]
      exact VRet.mk [(b, .box [.int .i64 (left - 1)])] (.cons 1 rfl .nil) ⟨0, _, rfl, rfl, .inr rfl⟩
    · rw [if_neg (fun h => h2 h.2), decide_eq_false h2]
      exact VRet.mk [(b, .box [.int .i64 (left - 1)])] (.cons 1 rfl .nil) ⟨0, _, rfl, rfl, .inl rfl⟩
  · rw [if_neg (by omega)]
    exact VRet.mk [(b, .box [.int .i64 (left - 1)])] (.cons 1 rfl .nil) ⟨0, _, rfl, rfl, .inl rfl⟩
theorem i_call (s : List UInt8) (hs : s.length ≤ 4611686018427387904) (left nest : Int) (hb : 0 ≤ left ∧ left ≤ 1000000) : ItemC (itemAV (.call s)) (if 1 ≤ left ∧ nmR s = true then some (0, left - 1) else none) left nest := by
  have h := f_tName s hs
  intro b
  rw [itemAV]
  refine ACalls.of_W tb_ok (fn := Tryz.f117) (n := 47) (by kernel_rfl) rfl (by kernel_rfl) rfl rfl (by simp) (go ?_)
  refine VAll.mk (fun b2 => go ?_)
  refine VAll.mk (fun b3 => go ?_)
  refine fork (fun h1 => go ?_) (fun h1 => go ?_)
  · refine Fn.use (h) (go ?_)
    cases hn : nmR s with
    | true =>
      rw [if_pos ⟨by omega, rfl⟩]
      refine go ?_
      exact VRet.mk [(b, .box [.int .i64 (left - 1)])] (.cons 2 rfl .nil) ⟨0, _, rfl, rfl, .inr rfl⟩
    | false =>
      rw [if_neg (by simp)]
      refine go ?_
      exact VRet.mk [(b, .box [.int .i64 (left - 1)])] (.cons 2 rfl .nil) ⟨0, _, rfl, rfl, .inl rfl⟩
  · rw [if_neg (by omega)]
    exact VRet.mk [(b, .box [.int .i64 (left - 1)])] (.cons 2 rfl .nil) ⟨0, _, rfl, rfl, .inl rfl⟩
theorem i_none (left nest : Int) (hb : 0 ≤ left ∧ left ≤ 1000000) : ItemC .nili none left nest := by
  intro b
  refine ACalls.of_W tb_ok (fn := Tryz.f117) (n := 47) (by kernel_rfl) rfl (by kernel_rfl) rfl rfl (by simp) (go ?_)
  refine VAll.mk (fun b2 => go ?_)
  refine VAll.mk (fun b3 => go ?_)
  exact VRet.mk [(b, .box [.int .i64 (left - 1)])] (.cons 2 rfl .nil) ⟨0, _, rfl, rfl, .inl rfl⟩
theorem i_push' {x : AV} {m : Option (Int × Int)} {left nest : Int} (h : MeasC x m left nest) (ho : x.one = true) : ItemC (.iface 136 (.agg [x])) m left nest := by
  intro b
  refine ACalls.of_W tb_ok (fn := Tryz.f117) (n := 47) (by kernel_rfl) rfl (by kernel_rfl) rfl rfl (by simp) (go ?_)
  refine VAll.mk (fun b2 => go ?_)
  refine ACalls.use (R := [(b2, .box [x])]) (h b) (.swap _ _ _) ?_
  rintro _ _ ⟨d, l', rfl, rfl, hm⟩
  refine go ?_
  exact VRet.mk [(b, .box [.int .i64 l'])] (.cons 0 rfl .nil) ⟨d, l', rfl, rfl, hm⟩
mutual
/-- No name of more than 2^62 bytes. -/
def Tree.nmS : Tree → Bool
  | .call s => decide (s.length ≤ 4611686018427387904)
  | .list l => nmSAll l
  | .quot l => nmSAll l
  | _ => true
def nmSAll : List Tree → Bool
  | [] => true
  | t :: r => t.nmS && nmSAll r
end
theorem nmSAll_at : ∀ {l : List Tree} {i : Nat} {t : Tree}, nmSAll l = true → l[i]? = some t → t.nmS = true
  | [], _, _, _, h => by simp at h
  | x :: l, 0, t, hc, h => by simp at h; subst h; simp [nmSAll] at hc; exact hc.1
  | x :: l, i + 1, t, hc, h => by simp [nmSAll] at hc; exact nmSAll_at hc.2 (by simpa using h)
theorem measT_less (it : Bool) {t : Tree} (h : t.isCall = false) {left nest : Int} (hl : left < 1 ∨ 32 < nest) : measT it t left nest = none := by
  cases t <;> first | (simp [Tree.isCall] at h; done) | (rw [measT, if_pos hl]; done) | (rw [measT]; done)
theorem measT_flag (it it' : Bool) {t : Tree} (h : t.isCall = false) (left nest : Int) : measT it t left nest = measT it' t left nest := by
  cases t <;> first | (simp [Tree.isCall] at h; done) | rw [measT, measT]
theorem f_meas (n : Nat) : ∀ t : Tree, t.depth ≤ n → t.clean = true → t.nmS = true → ∀ left nest, 0 ≤ left ∧ left ≤ 1000000 → 0 ≤ nest ∧ nest ≤ 33 →
    MeasC (valAV t) (measT false t left nest) left nest ∧ ItemC (itemAV t) (measT true t left nest) left nest := by
  have H : ∀ t : Tree, t.clean = true → t.nmS = true → ∀ left nest, 0 ≤ left ∧ left ≤ 1000000 → 0 ≤ nest ∧ nest ≤ 33 → MeasC (valAV t) (measT false t left nest) left nest → ItemC (itemAV t) (measT true t left nest) left nest := by
    intro t hc hs left nest hl hn h
    cases t with
    | none => rw [measT]; exact i_none left nest hl
    | call s =>
      rw [measT]
      simp only [true_and]
      exact i_call s (by simpa [Tree.nmS] using hs) left nest hl
    | odd u v => simp [Tree.clean] at hc
    | int m => rw [measT_flag true false rfl]; exact i_push' h rfl
    | str m => rw [measT_flag true false rfl]; exact i_push' h rfl
    | bool m => rw [measT_flag true false rfl]; exact i_push' h rfl
    | box m => rw [measT_flag true false rfl]; exact i_push' h rfl
    | list m => rw [measT_flag true false rfl]; exact i_push' h rfl
    | quot m => rw [measT_flag true false rfl]; exact i_push' h rfl
  suffices M : ∀ t : Tree, t.depth ≤ n → t.clean = true → t.nmS = true → ∀ left nest, 0 ≤ left ∧ left ≤ 1000000 → 0 ≤ nest ∧ nest ≤ 33 → MeasC (valAV t) (measT false t left nest) left nest from
    fun t hd hc hs left nest hl hn => ⟨M t hd hc hs left nest hl hn, H t hc hs left nest hl hn (M t hd hc hs left nest hl hn)⟩
  have L : ∀ t : Tree, t.clean = true → (∀ l, t ≠ .list l) → (∀ l, t ≠ .quot l) → ∀ left nest, 0 ≤ left ∧ left ≤ 1000000 → 0 ≤ nest ∧ nest ≤ 33 → ¬ (left < 1 ∨ 32 < nest) → MeasC (valAV t) (measT false t left nest) left nest := by
    intro t hc h4 h5 left nest hl hn h0
    cases t with
    | none => rw [measT]; exact m_none' left nest (by omega) (by omega)
    | call s => rw [measT, if_neg (by simp)]; exact m_none' left nest (by omega) (by omega)
    | odd u v => simp [Tree.clean] at hc
    | int m => rw [measT, if_neg h0]; exact m_int' m left nest (by omega) (by omega)
    | str m => rw [measT, if_neg h0]; exact m_str' m left nest (by omega) (by omega)
    | bool m => rw [measT, if_neg h0]; exact m_bool' m left nest (by omega) (by omega)
    | box m => rw [measT, if_neg h0]; exact m_box' m left nest (by omega) (by omega)
    | list l => exact absurd rfl (h4 l)
    | quot l => exact absurd rfl (h5 l)
  have B : ∀ t : Tree, ∀ left nest, 0 ≤ left ∧ left ≤ 1000000 → 0 ≤ nest ∧ nest ≤ 33 → (left < 1 ∨ 32 < nest) → MeasC (valAV t) (measT false t left nest) left nest := by
    intro t left nest hl hn h0
    have : measT false t left nest = none := by
      cases t with
      | call s => rw [measT, if_neg (by simp)]
      | _ => exact measT_less false rfl h0
    rw [this]; exact m_less h0 hl hn
  induction n with
  | zero =>
    intro t hd hc hs left nest hl hn
    by_cases h0 : left < 1 ∨ 32 < nest
    · exact B t left nest hl hn h0
    · refine L t hc ?_ ?_ left nest hl hn h0
      · rintro l rfl; rw [Tree.depth] at hd; omega
      · rintro l rfl; rw [Tree.depth] at hd; omega
  | succ n ih =>
    intro t hd hc hs left nest hl hn
    by_cases h0 : left < 1 ∨ 32 < nest
    · exact B t left nest hl hn h0
    cases t with
    | list l =>
      rw [Tree.depth] at hd
      simp only [Tree.clean, Bool.and_eq_true, decide_eq_true_eq] at hc
      rw [Tree.nmS] at hs
      rw [measT, if_neg h0]
      exact m_list l hc.1 left nest (by omega) (by omega) fun i t ht left nest hl hn => ih t (by have := depthAll_at ht; omega) (cleanAll_at hc.2 ht) (nmSAll_at hs ht) left nest hl hn
    | quot l =>
      rw [Tree.depth] at hd
      simp only [Tree.clean, Bool.and_eq_true, decide_eq_true_eq] at hc
      rw [Tree.nmS] at hs
      rw [measT, if_neg h0]
      exact m_quot l hc.1 left nest (by omega) (by omega) fun i t ht left nest hl hn => H t (cleanAll_at hc.2 ht) (nmSAll_at hs ht) left nest hl hn (ih t (by have := depthAll_at ht; omega) (cleanAll_at hc.2 ht) (nmSAll_at hs ht) left nest hl hn)
    | _ => exact L _ hc (by intro l e; cases e) (by intro l e; cases e) left nest hl hn h0
theorem f_tCheck {t : Tree} (hc : t.clean = true) (hs : t.nmS = true) : Av.Fn Tryz.prog 63 [valAV t] (.int .i64 (if (measT false t 1024 0).isSome = true then 0 else 1)) := by
  have h := (f_meas t.depth t (Nat.le_refl _) hc hs 1024 0 (by omega) (by omega)).1
  generalize measT false t 1024 0 = m at h
  refine ACalls.of_W tb_ok (fn := Tryz.f63) (n := 13) (by kernel_rfl) rfl (by kernel_rfl) rfl rfl (by simp) (go ?_)
  refine VAll.mk (fun b => go ?_)
  refine ACalls.use (R := []) (h b) (.refl _) ?_
  rintro _ _ ⟨d, l', rfl, rfl, hm⟩
  cases m with
  | some p =>
    refine go ?_
    refine VRet.mk [] .nil ?_
    exact ⟨rfl, rfl⟩
  | none =>
    refine go ?_
    refine VRet.mk [] .nil ?_
    exact ⟨rfl, rfl⟩
end Go.Proofs.YtonkeklageehbaaGreatDoor

namespace Go.Proofs.YtonkeklageehbaaGreatDoor
open Go Go.Av
theorem valRV_kind (t : Tree) : (valRV t).kind ≠ 7 := by cases t <;> simp [valRV, RV.kind]
end Go.Proofs.YtonkeklageehbaaGreatDoor

namespace Go.Proofs.YtonkeklageehbaaGreatDoor
open Go Go.Av
mutual
/-- Neither nil nor another dynamic type; calls among items alone. -/
def Tree.full (it : Bool) : Tree → Bool
  | .none => false
  | .odd _ _ => false
  | .call _ => it
  | .list l => fullAll false l
  | .quot l => fullAll true l
  | .int _ => true
  | .str _ => true
  | .bool _ => true
  | .box _ => true
def fullAll (it : Bool) : List Tree → Bool
  | [] => true
  | t :: r => t.full it && fullAll it r
end
theorem fullAll_at : ∀ {it : Bool} {l : List Tree} {i : Nat} {t : Tree}, fullAll it l = true → l[i]? = some t → t.full it = true
  | _, [], _, _, _, h => by simp at h
  | _, x :: l, 0, t, hc, h => by simp at h; subst h; simp [fullAll] at hc; exact hc.1
  | _, x :: l, i + 1, t, hc, h => by simp [fullAll] at hc; exact fullAll_at hc.2 (by simpa using h)
mutual
theorem meas_full : ∀ (it : Bool) (t : Tree) (left nest : Int), (measT it t left nest).isSome = true → t.full it = true := by
  intro it t left nest h
  cases t with
  | none => rw [measT] at h; cases h
  | odd u v => rw [measT] at h; cases h
  | call s =>
    rw [measT] at h
    split at h
    · rename_i h0; rw [Tree.full]; exact h0.1
    · cases h
  | list l =>
    rw [measT] at h
    split at h
    · cases h
    · rw [Tree.full]; exact meass_full false l _ _ _ h
  | quot l =>
    rw [measT] at h
    split at h
    · cases h
    · rw [Tree.full]; exact meass_full true l _ _ _ h
  | _ => rw [Tree.full]
theorem meass_full : ∀ (it : Bool) (l : List Tree) (left nest depth : Int), (measTs it l left nest depth).isSome = true → fullAll it l = true
  | it, [], _, _, _, _ => by rw [fullAll]
  | it, t :: r, left, nest, depth, h => by
    rw [measTs] at h
    split at h
    · rename_i d l' e
      rw [fullAll, meas_full it t left (nest + 1) (by rw [e]; rfl), meass_full it r _ _ _ h]; rfl
    · cases h
end

theorem f_EqFuncV (a b : List Tree) (h : ∀ (i : Nat) t u, a[i]? = some t → b[i]? = some u → Av.Fn Tryz.prog 45 [valAV t, valAV u] (.bool (sameV (valRV t) (valRV u)))) (ha : a.length ≤ 2513169434916) (hb : b.length ≤ 2513169434916) :
    Av.Fn Tryz.prog 70 [.fz (valAVs a) a.length false, .fz (valAVs b) b.length false, .fn (.func 45) [] []] (.bool (sameVs (valRVs a) (valRVs b))) := by
  refine ACalls.of_W tb_ok (fn := Tryz.f70) (n := 32) (by kernel_rfl) rfl (by kernel_rfl) rfl rfl (by simp) (go ?_)
  refine fork (fun hne => go ?_) (fun hne => go ?_)
  · refine VRet.mk [] .nil ?_
    refine ⟨?_, rfl⟩
    cases e : sameVs (valRVs a) (valRVs b) with
    | true => exact absurd (by have := sameVs_length e; simp at this; rw [this]) hne
    | false => rfl
  · have hne : a.length = b.length := by omega
    refine VLoop.mk [17] Nat (fun i => [.int .i64 i]) (fun _ => []) (fun i => i ≤ a.length ∧ sameVs (valRVs a) (valRVs b) = sameVs (valRVs (a.drop i)) (valRVs (b.drop i))) (fun i => a.length - i) 0 ?_ ?_
    · exact ⟨⟨by omega, by simp⟩, rfl, .nil⟩
    intro i ⟨hi, hI⟩
    refine go ?_
    refine fork (fun hlt => go ?_) (fun hlt => go ?_)
    · have hlt : i < a.length := by omega
      obtain ⟨x, hx⟩ : ∃ x, a[i]? = some x := ⟨a[i], by simp [hlt]⟩
      obtain ⟨y, hy⟩ : ∃ y, b[i]? = some y := ⟨b[i]'(by omega), by simp [hne ▸ hlt]⟩
      have hda : a.drop i = x :: a.drop (i + 1) := by rw [List.drop_eq_getElem_cons hlt]; congr 1; rw [List.getElem?_eq_getElem hlt] at hx; exact Option.some.inj hx
      have hdb : b.drop i = y :: b.drop (i + 1) := by rw [List.drop_eq_getElem_cons (hne ▸ hlt)]; congr 1; rw [List.getElem?_eq_getElem (hne ▸ hlt)] at hy; exact Option.some.inj hy
      rw [hda, hdb, valRVs, valRVs, sameVs] at hI
      have hxy := h i x y hx hy
      refine VNth.mk (valAV x) (by simp [mulN_eq, valAVs_map, hx]) (go ?_)
      refine VNth.mk (valAV y) (by simp [mulN_eq, valAVs_map, hy]) (go ?_)
      refine Fn.use (hxy) (go ?_)
      generalize sameV (valRV x) (valRV y) = q at hI
      cases q with
      | true =>
        refine go ?_
        exact ⟨i + 1, ⟨by omega, by rw [hI, Bool.true_and]⟩, by omega, rfl, .nil⟩
      | false =>
        refine go ?_
        refine VRet.mk [] .nil ?_
        rw [hI]; exact ⟨rfl, rfl⟩
    · rw [List.drop_eq_nil_of_le (by omega), List.drop_eq_nil_of_le (by omega)] at hI
      refine VRet.mk [] .nil ?_
      rw [hI]; exact ⟨by simp [valRVs, sameVs], rfl⟩
theorem f_EqFuncI (a b : List Tree) (h : ∀ (i : Nat) t u, a[i]? = some t → b[i]? = some u → Av.Fn Tryz.prog 96 [itemAV t, itemAV u] (.bool (sameV (itemRV t) (itemRV u)))) (ha : a.length ≤ 2513169434916) (hb : b.length ≤ 2513169434916) :
    Av.Fn Tryz.prog 95 [.fz (itemAVs a) a.length false, .fz (itemAVs b) b.length false, .fn (.func 96) [] []] (.bool (sameVs (itemRVs a) (itemRVs b))) := by
  refine ACalls.of_W tb_ok (fn := Tryz.f95) (n := 32) (by kernel_rfl) rfl (by kernel_rfl) rfl rfl (by simp) (go ?_)
  refine fork (fun hne => go ?_) (fun hne => go ?_)
  · refine VRet.mk [] .nil ?_
    refine ⟨?_, rfl⟩
    cases e : sameVs (itemRVs a) (itemRVs b) with
    | true => exact absurd (by have := sameVs_length e; simp at this; rw [this]) hne
    | false => rfl
  · have hne : a.length = b.length := by omega
    refine VLoop.mk [17] Nat (fun i => [.int .i64 i]) (fun _ => []) (fun i => i ≤ a.length ∧ sameVs (itemRVs a) (itemRVs b) = sameVs (itemRVs (a.drop i)) (itemRVs (b.drop i))) (fun i => a.length - i) 0 ?_ ?_
    · exact ⟨⟨by omega, by simp⟩, rfl, .nil⟩
    intro i ⟨hi, hI⟩
    refine go ?_
    refine fork (fun hlt => go ?_) (fun hlt => go ?_)
    · have hlt : i < a.length := by omega
      obtain ⟨x, hx⟩ : ∃ x, a[i]? = some x := ⟨a[i], by simp [hlt]⟩
      obtain ⟨y, hy⟩ : ∃ y, b[i]? = some y := ⟨b[i]'(by omega), by simp [hne ▸ hlt]⟩
      have hda : a.drop i = x :: a.drop (i + 1) := by rw [List.drop_eq_getElem_cons hlt]; congr 1; rw [List.getElem?_eq_getElem hlt] at hx; exact Option.some.inj hx
      have hdb : b.drop i = y :: b.drop (i + 1) := by rw [List.drop_eq_getElem_cons (hne ▸ hlt)]; congr 1; rw [List.getElem?_eq_getElem (hne ▸ hlt)] at hy; exact Option.some.inj hy
      rw [hda, hdb, itemRVs_cons, itemRVs_cons, sameVs] at hI
      have hxy := h i x y hx hy
      refine VNth.mk (itemAV x) (by simp [mulN_eq, itemAVs_map, hx]) (go ?_)
      refine VNth.mk (itemAV y) (by simp [mulN_eq, itemAVs_map, hy]) (go ?_)
      refine Fn.use (hxy) (go ?_)
      generalize sameV (itemRV x) (itemRV y) = q at hI
      cases q with
      | true =>
        refine go ?_
        exact ⟨i + 1, ⟨by omega, by rw [hI, Bool.true_and]⟩, by omega, rfl, .nil⟩
      | false =>
        refine go ?_
        refine VRet.mk [] .nil ?_
        rw [hI]; exact ⟨rfl, rfl⟩
    · rw [List.drop_eq_nil_of_le (by omega), List.drop_eq_nil_of_le (by omega)] at hI
      refine VRet.mk [] .nil ?_
      rw [hI]; exact ⟨by simp [itemRVs, sameVs], rfl⟩
theorem sameV_leaf (k n : Int) (s : List UInt8) (k' n' : Int) (s' : List UInt8) (l' : List RV) (h : k ≠ k') : sameV (.mk k n s []) (.mk k' n' s' l') = false := by
  rw [sameV, decide_eq_false h]; rfl
/-- A leaf and what it is compared with. -/
def Tree.leaf : Tree → Bool
  | .int _ => true
  | .str _ => true
  | .bool _ => true
  | .box _ => true
  | _ => false
set_option maxHeartbeats 2000000 in
theorem f_SameLeaf (t u : Tree) (ht : t.leaf = true) (hu : u.full false = true) : Av.Fn Tryz.prog 45 [valAV t, valAV u] (.bool (sameV (valRV t) (valRV u))) := by
  cases t <;> first | (simp [Tree.leaf] at ht; done) | skip
  all_goals cases u <;> first | (simp [Tree.full] at hu; done) | skip
  all_goals
    rw [valAV, valAV]
    refine ACalls.of_W tb_ok (fn := Tryz.f45) (n := 55) (by kernel_rfl) rfl (by kernel_rfl) rfl rfl (by simp) (go ?_)
    refine VRet.mk [] .nil ⟨congrArg (fun b => AOut.ret (.bool b)) ?_, rfl⟩
    first
    | (simp [valRV, sameV, leafSame, sameVs]; done)
    | (rename_i b1 b2; cases b1 <;> cases b2 <;> rfl)
theorem f_SameList (a b : List Tree) (h : Av.Fn Tryz.prog 70 [.fz (valAVs a) a.length false, .fz (valAVs b) b.length false, .fn (.func 45) [] []] (.bool (sameVs (valRVs a) (valRVs b)))) :
    Av.Fn Tryz.prog 45 [valAV (.list a), valAV (.list b)] (.bool (sameV (valRV (.list a)) (valRV (.list b)))) := by
  rw [valAV, valAV]
  refine ACalls.of_W tb_ok (fn := Tryz.f45) (n := 55) (by kernel_rfl) rfl (by kernel_rfl) rfl rfl (by simp) (go ?_)
  refine VAll.mk (fun b1 => go ?_)
  refine VAll.mk (fun b2 => go ?_)
  refine Fn.use (h) (go ?_)
  refine VRet.mk [] .nil ⟨congrArg (fun b => AOut.ret (.bool b)) ?_, rfl⟩
  simp only [valRV, sameV, leafSame, decide_true, Bool.true_and]
  cases e : sameVs (valRVs a) (valRVs b) with
  | true => have := sameVs_length e; simp at this; simp [this]
  | false => simp
theorem f_SameQuot (a b : List Tree) (h : Av.Fn Tryz.prog 71 [.fz (itemAVs a) a.length false, .fz (itemAVs b) b.length false] (.bool (sameVs (itemRVs a) (itemRVs b)))) :
    Av.Fn Tryz.prog 45 [valAV (.quot a), valAV (.quot b)] (.bool (sameV (valRV (.quot a)) (valRV (.quot b)))) := by
  rw [valAV, valAV]
  refine ACalls.of_W tb_ok (fn := Tryz.f45) (n := 55) (by kernel_rfl) rfl (by kernel_rfl) rfl rfl (by simp) (go ?_)
  refine VAll.mk (fun b1 => go ?_)
  refine VAll.mk (fun b2 => go ?_)
  refine Fn.use (h) (go ?_)
  refine VRet.mk [] .nil ⟨congrArg (fun b => AOut.ret (.bool b)) ?_, rfl⟩
  simp only [valRV, sameV, leafSame, decide_true, Bool.true_and]
  cases e : sameVs (itemRVs a) (itemRVs b) with
  | true => have := sameVs_length e; simp at this; simp [this]
  | false => simp
theorem f_SameOdd (t u : Tree) (ht : t.leaf = false) (hft : t.full false = true) (hu : u.full false = true) (h4 : ∀ a b, t = .list a → u = .list b → False) (h5 : ∀ a b, t = .quot a → u = .quot b → False) : Av.Fn Tryz.prog 45 [valAV t, valAV u] (.bool (sameV (valRV t) (valRV u))) := by
  cases t <;> first | (simp [Tree.leaf] at ht; done) | (simp [Tree.full] at hft; done) | skip
  all_goals cases u <;> first | (simp [Tree.full] at hu; done) | exact (h4 _ _ rfl rfl).elim | exact (h5 _ _ rfl rfl).elim | skip
  all_goals
    rw [valAV, valAV]
    refine ACalls.of_W tb_ok (fn := Tryz.f45) (n := 55) (by kernel_rfl) rfl (by kernel_rfl) rfl rfl (by simp) (go ?_)
    refine VAll.mk (fun b1 => go ?_)
    refine VAll.mk (fun b2 => go ?_)
    refine VRet.mk [] .nil ⟨congrArg (fun b => AOut.ret (.bool b)) ?_, rfl⟩
    simp [valRV, sameV]
theorem f_SameItems (a b : List Tree) (h : Av.Fn Tryz.prog 95 [.fz (itemAVs a) a.length false, .fz (itemAVs b) b.length false, .fn (.func 96) [] []] (.bool (sameVs (itemRVs a) (itemRVs b)))) :
    Av.Fn Tryz.prog 71 [.fz (itemAVs a) a.length false, .fz (itemAVs b) b.length false] (.bool (sameVs (itemRVs a) (itemRVs b))) := by
  refine ACalls.of_W tb_ok (fn := Tryz.f71) (n := 8) (by kernel_rfl) rfl (by kernel_rfl) rfl rfl (by simp) (go ?_)
  refine Fn.use (h) (go ?_)
  refine VRet.mk [] .nil ?_
  exact ⟨rfl, rfl⟩
theorem item_push {t : Tree} (hc : t.isCall = false) (hf : t.full true = true) : itemAV t = .iface 136 (.agg [valAV t]) := by
  cases t <;> first | rfl | (simp [Tree.isCall] at hc; done) | (simp [Tree.full] at hf; done)
theorem full_val {t : Tree} (hc : t.isCall = false) (hf : t.full true = true) : t.full false = true := by
  cases t <;> first | exact hf | (simp [Tree.isCall] at hc; done) | (simp [Tree.full] at hf; done)
theorem f_SameItem (t u : Tree) (ht : t.full true = true) (hu : u.full true = true) (h : t.isCall = false → u.isCall = false → Av.Fn Tryz.prog 45 [valAV t, valAV u] (.bool (sameV (valRV t) (valRV u)))) :
    Av.Fn Tryz.prog 96 [itemAV t, itemAV u] (.bool (sameV (itemRV t) (itemRV u))) := by
  cases hct : t.isCall with
  | true =>
    obtain ⟨s, rfl⟩ : ∃ s, t = .call s := by cases t <;> first | exact ⟨_, rfl⟩ | (simp [Tree.isCall] at hct; done)
    cases hcu : u.isCall with
    | true =>
      obtain ⟨s', rfl⟩ : ∃ s, u = .call s := by cases u <;> first | exact ⟨_, rfl⟩ | (simp [Tree.isCall] at hcu; done)
      rw [itemAV, itemAV]
      refine ACalls.of_W tb_ok (fn := Tryz.f96) (n := 31) (by kernel_rfl) rfl (by kernel_rfl) rfl rfl (by simp) (go ?_)
      refine VAll.mk (fun b1 => go ?_)
      refine VAll.mk (fun b2 => go ?_)
      refine VRet.mk [] .nil ⟨congrArg (fun b => AOut.ret (.bool b)) ?_, rfl⟩
      simp [itemRV, sameV, leafSame, sameVs]
    | false =>
      rw [item_push hcu hu, itemAV]
      have ho := valAV_one' u
      have hk := valRV_kind u
      rw [item_val hcu]
      generalize valAV u = y at ho ⊢
      refine ACalls.of_W tb_ok (fn := Tryz.f96) (n := 31) (by kernel_rfl) rfl (by kernel_rfl) rfl rfl (by simp) (go ?_)
      refine VAll.mk (fun b1 => go ?_)
      refine VAll.mk (fun b2 => go ?_)
      refine VRet.mk [] .nil ⟨congrArg (fun b => AOut.ret (.bool b)) ?_, rfl⟩
      generalize valRV u = z at hk ⊢
      obtain ⟨k, n, s', l⟩ := z
      exact (sameV_leaf _ _ _ _ _ _ _ (fun e => hk e.symm)).symm
  | false =>
    rw [item_push hct ht]
    have ho := valAV_one' t
    cases hcu : u.isCall with
    | true =>
      obtain ⟨s', rfl⟩ : ∃ s, u = .call s := by cases u <;> first | exact ⟨_, rfl⟩ | (simp [Tree.isCall] at hcu; done)
      rw [itemAV]
      have hk := valRV_kind t
      rw [item_val hct]
      generalize valAV t = y at ho ⊢
      refine ACalls.of_W tb_ok (fn := Tryz.f96) (n := 31) (by kernel_rfl) rfl (by kernel_rfl) rfl rfl (by simp) (go ?_)
      refine VAll.mk (fun b1 => go ?_)
      refine VAll.mk (fun b2 => go ?_)
      refine VRet.mk [] .nil ⟨congrArg (fun b => AOut.ret (.bool b)) ?_, rfl⟩
      generalize valRV t = z at hk ⊢
      obtain ⟨k, n, s, l⟩ := z
      show false = sameV (.mk k n s l) (.mk 7 0 s' [])
      have hk : k ≠ 7 := hk
      rw [sameV, decide_eq_false hk]; rfl
    | false =>
      rw [item_push hcu hu, item_val hct, item_val hcu]
      have hh := h hct hcu
      have ho' := valAV_one' u
      generalize valAV t = x at ho hh ⊢
      generalize valAV u = y at ho' hh ⊢
      refine ACalls.of_W tb_ok (fn := Tryz.f96) (n := 31) (by kernel_rfl) rfl (by kernel_rfl) rfl rfl (by simp) (go ?_)
      refine VAll.mk (fun b1 => go ?_)
      refine VAll.mk (fun b2 => go ?_)
      refine Fn.use (hh) (go ?_)
      refine VRet.mk [] .nil ?_
      exact ⟨rfl, rfl⟩
theorem f_tSame' (n : Nat) : ∀ t u : Tree, t.depth ≤ n → t.clean = true → u.clean = true → t.full false = true → u.full false = true → Av.Fn Tryz.prog 45 [valAV t, valAV u] (.bool (sameV (valRV t) (valRV u))) := by
  induction n with
  | zero =>
    intro t u hd hct hcu ht hu
    cases hl : t.leaf with
    | true => exact f_SameLeaf t u hl hu
    | false => refine f_SameOdd t u hl ht hu ?_ ?_ <;> (rintro a b rfl _; rw [Tree.depth] at hd; omega)
  | succ n ih =>
    intro t u hd hct hcu ht hu
    cases hl : t.leaf with
    | true => exact f_SameLeaf t u hl hu
    | false =>
      by_cases h4 : ∃ a b, t = .list a ∧ u = .list b
      · obtain ⟨a, b, rfl, rfl⟩ := h4
        rw [Tree.depth] at hd
        simp only [Tree.clean, Bool.and_eq_true, decide_eq_true_eq] at hct hcu
        rw [Tree.full] at ht hu
        exact f_SameList a b (f_EqFuncV a b (fun i x y hx hy => ih x y (by have := depthAll_at hx; omega) (cleanAll_at hct.2 hx) (cleanAll_at hcu.2 hy) (fullAll_at ht hx) (fullAll_at hu hy)) hct.1 hcu.1)
      by_cases h5 : ∃ a b, t = .quot a ∧ u = .quot b
      · obtain ⟨a, b, rfl, rfl⟩ := h5
        rw [Tree.depth] at hd
        simp only [Tree.clean, Bool.and_eq_true, decide_eq_true_eq] at hct hcu
        rw [Tree.full] at ht hu
        exact f_SameQuot a b (f_SameItems a b (f_EqFuncI a b (fun i x y hx hy => f_SameItem x y (fullAll_at ht hx) (fullAll_at hu hy) fun c1 c2 =>
          ih x y (by have := depthAll_at hx; omega) (cleanAll_at hct.2 hx) (cleanAll_at hcu.2 hy) (full_val c1 (fullAll_at ht hx)) (full_val c2 (fullAll_at hu hy))) hct.1 hcu.1))
      exact f_SameOdd t u hl ht hu (fun a b e1 e2 => h4 ⟨a, b, e1, e2⟩) (fun a b e1 e2 => h5 ⟨a, b, e1, e2⟩)
theorem f_tSame {t u : Tree} (hct : t.clean = true) (hcu : u.clean = true) (ht : t.full false = true) (hu : u.full false = true) : Av.Fn Tryz.prog 45 [valAV t, valAV u] (.bool (sameV (valRV t) (valRV u))) := f_tSame' t.depth t u (Nat.le_refl _) hct hcu ht hu
end Go.Proofs.YtonkeklageehbaaGreatDoor

namespace Go.Proofs.YtonkeklageehbaaGreatDoor
open Go Go.Av
/-- The table of the primitives: its text. -/
def tableT : List UInt8 := [49, 50, 58, 100, 117, 112, 32, 49, 48, 58, 100, 114, 111, 112, 32, 50, 50, 58, 115, 119, 97, 112, 32, 50, 51, 58, 111, 118, 101, 114, 32, 51, 51, 58, 114, 111, 116, 32, 50, 49, 58, 110, 105, 112, 32, 50, 51, 58, 116, 117, 99, 107, 32, 50, 49, 58, 43, 32, 50, 49, 58, 45, 32, 50, 49, 58, 42, 32, 50, 49, 58, 47, 32, 50, 49, 58, 109, 111, 100, 32, 49, 49, 58, 110, 101, 103, 32, 49, 49, 58, 97, 98, 115, 32, 50, 49, 58, 109, 105, 110, 32, 50, 49, 58, 109, 97, 120, 32, 50, 49, 58, 60, 32, 50, 49, 58, 62, 32, 50, 49, 58, 61, 32, 50, 49, 58, 97, 110, 100, 32, 50, 49, 58, 111, 114, 32, 49, 49, 58, 110, 111, 116, 32, 49, 49, 58, 105, 110, 116, 63, 32, 49, 49, 58, 115, 116, 114, 63, 32, 49, 49, 58, 98, 111, 111, 108, 63, 32, 49, 49, 58, 108, 105, 115, 116, 63, 32, 49, 49, 58, 113, 117, 111, 116, 63, 32, 49, 49, 58, 98, 111, 120, 63, 32, 49, 49, 58, 108, 101, 110, 103, 116, 104, 32, 50, 49, 58, 97, 112, 112, 101, 110, 100, 32, 50, 49, 58, 110, 116, 104, 32, 51, 49, 58, 115, 108, 105, 99, 101, 32, 49, 49, 58, 119, 114, 97, 112, 32, 50, 49, 58, 112, 97, 105, 114, 32, 49, 50, 58, 117, 110, 112, 97, 105, 114, 32, 49, 49, 58, 114, 101, 118, 101, 114, 115, 101, 32, 50, 49, 58, 99, 117, 114, 114, 121, 32, 50, 49, 58, 99, 111, 109, 112, 111, 115, 101, 32, 49, 49, 58, 62, 115, 116, 114, 32, 49, 49, 58, 62, 105, 110, 116, 32, 99, 97, 108, 108, 32, 100, 105, 112, 32, 107, 101, 101, 112, 32, 105, 102, 32, 119, 104, 101, 110, 32, 116, 105, 109, 101, 115, 32, 101, 97, 99, 104, 32, 108, 111, 111, 112, 32, 49, 49, 58, 98, 111, 120, 32, 49, 49, 58, 103, 101, 116, 32, 50, 48, 58, 112, 117, 116, 32, 49, 48, 58, 46]
/-- A name with its effect, if it has one of its own. -/
structure PrimE where
  name : List UInt8
  eff : Option (Nat × Nat)
/-- The primitives in order. -/
def primsL : List PrimE := [⟨[100, 117, 112], some (1, 2)⟩,
  ⟨[100, 114, 111, 112], some (1, 0)⟩,
  ⟨[115, 119, 97, 112], some (2, 2)⟩,
  ⟨[111, 118, 101, 114], some (2, 3)⟩,
  ⟨[114, 111, 116], some (3, 3)⟩,
  ⟨[110, 105, 112], some (2, 1)⟩,
  ⟨[116, 117, 99, 107], some (2, 3)⟩,
  ⟨[43], some (2, 1)⟩,
  ⟨[45], some (2, 1)⟩,
  ⟨[42], some (2, 1)⟩,
  ⟨[47], some (2, 1)⟩,
  ⟨[109, 111, 100], some (2, 1)⟩,
  ⟨[110, 101, 103], some (1, 1)⟩,
  ⟨[97, 98, 115], some (1, 1)⟩,
  ⟨[109, 105, 110], some (2, 1)⟩,
  ⟨[109, 97, 120], some (2, 1)⟩,
  ⟨[60], some (2, 1)⟩,
  ⟨[62], some (2, 1)⟩,
  ⟨[61], some (2, 1)⟩,
  ⟨[97, 110, 100], some (2, 1)⟩,
  ⟨[111, 114], some (2, 1)⟩,
  ⟨[110, 111, 116], some (1, 1)⟩,
  ⟨[105, 110, 116, 63], some (1, 1)⟩,
  ⟨[115, 116, 114, 63], some (1, 1)⟩,
  ⟨[98, 111, 111, 108, 63], some (1, 1)⟩,
  ⟨[108, 105, 115, 116, 63], some (1, 1)⟩,
  ⟨[113, 117, 111, 116, 63], some (1, 1)⟩,
  ⟨[98, 111, 120, 63], some (1, 1)⟩,
  ⟨[108, 101, 110, 103, 116, 104], some (1, 1)⟩,
  ⟨[97, 112, 112, 101, 110, 100], some (2, 1)⟩,
  ⟨[110, 116, 104], some (2, 1)⟩,
  ⟨[115, 108, 105, 99, 101], some (3, 1)⟩,
  ⟨[119, 114, 97, 112], some (1, 1)⟩,
  ⟨[112, 97, 105, 114], some (2, 1)⟩,
  ⟨[117, 110, 112, 97, 105, 114], some (1, 2)⟩,
  ⟨[114, 101, 118, 101, 114, 115, 101], some (1, 1)⟩,
  ⟨[99, 117, 114, 114, 121], some (2, 1)⟩,
  ⟨[99, 111, 109, 112, 111, 115, 101], some (2, 1)⟩,
  ⟨[62, 115, 116, 114], some (1, 1)⟩,
  ⟨[62, 105, 110, 116], some (1, 1)⟩,
  ⟨[99, 97, 108, 108], none⟩,
  ⟨[100, 105, 112], none⟩,
  ⟨[107, 101, 101, 112], none⟩,
  ⟨[105, 102], none⟩,
  ⟨[119, 104, 101, 110], none⟩,
  ⟨[116, 105, 109, 101, 115], none⟩,
  ⟨[101, 97, 99, 104], none⟩,
  ⟨[108, 111, 111, 112], none⟩,
  ⟨[98, 111, 120], some (1, 1)⟩,
  ⟨[103, 101, 116], some (1, 1)⟩,
  ⟨[112, 117, 116], some (2, 0)⟩,
  ⟨[46], some (1, 0)⟩]
def namesL : List (List UInt8) := primsL.map (·.name)
def primR (s : List UInt8) : Option (Nat × Nat) := (primsL.find? fun p => p.eff.isSome && decide (p.name = s)).bind (·.eff)
/-- The primitives that move values: which they put back, from the bottom up. -/
def moveR (s : List UInt8) : Option (Nat × List Nat) :=
  if s = [100, 117, 112] then some (1, [0, 0]) else if s = [100, 114, 111, 112] then some (1, []) else if s = [115, 119, 97, 112] then some (2, [1, 0])
  else if s = [111, 118, 101, 114] then some (2, [0, 1, 0]) else if s = [114, 111, 116] then some (3, [1, 2, 0]) else if s = [110, 105, 112] then some (2, [1])
  else if s = [116, 117, 99, 107] then some (2, [1, 0, 1]) else none
/-- What stands on the list: a quotation that is known, or none. -/
abbrev Slot := Option (List Tree)
/-- An inference: how many items may still come; how many were taken from below; the list, its top first. -/
structure EfS where
  left : Nat
  inn : Int
  stk : List Slot
def popS (s : EfS) : Slot × EfS := match s.stk with
  | [] => (none, { s with inn := s.inn + 1 })
  | x :: r => (x, { s with stk := r })
/-- So many are taken: the last taken first. -/
def popsS : Nat → EfS → List Slot × EfS
  | 0, s => ([], s)
  | n + 1, s => ((popsS n (popS s).2).1 ++ [(popS s).1], (popsS n (popS s).2).2)
def pushS (s : EfS) (x : Slot) : EfS := { s with stk := x :: s.stk }
def applyS (i o : Nat) (s : EfS) : EfS := let t := (popsS i s).2; { t with stk := List.replicate o none ++ t.stk }
def quotS (s : EfS) : Except Int (List Tree × EfS) := match popS s with
  | (some l, t) => .ok (l, t)
  | (none, _) => .error 12
def slotOf : Tree → Slot
  | .quot l => some l
  | _ => none
def movesS (n : Nat) (ks : List Nat) (s : EfS) : EfS := ks.foldl (fun t k => pushS t ((popsS n s).1.getD k none)) (popsS n s).2
/-- A quotation by itself: what it takes and leaves. -/
def ownS (run : List Tree → EfS → Except Int EfS) (q : List Tree) (s : EfS) : Except Int (Int × Int × EfS) := match run q ⟨s.left, 0, []⟩ with
  | .ok t => .ok (t.inn, (t.stk.length : Int), { s with left := t.left })
  | .error e => .error e
/-- The primitives that call quotations; none: it is none of them. -/
def controlS (run : List Tree → EfS → Except Int EfS) (name : List UInt8) (s : EfS) : Option (Except Int EfS) :=
  if name = [99, 97, 108, 108] then some (match quotS s with
    | .error e => .error e
    | .ok (q, s) => run q s)
  else if name = [100, 105, 112] then some (match quotS s with
    | .error e => .error e
    | .ok (q, s) => match run q (popS s).2 with
      | .error e => .error e
      | .ok t => .ok (pushS t (popS s).1))
  else if name = [107, 101, 101, 112] then some (match quotS s with
    | .error e => .error e
    | .ok (q, s) => match run q (pushS (popS s).2 (popS s).1) with
      | .error e => .error e
      | .ok t => .ok (pushS t (popS s).1))
  else if name = [105, 102] then some (match quotS s with
    | .error e => .error e
    | .ok (b, s) => match quotS s with
      | .error e => .error e
      | .ok (a, s) => match ownS run a (popS s).2 with
        | .error e => .error e
        | .ok (ai, ao, s) => match ownS run b s with
          | .error e => .error e
          | .ok (bi, bo, s) => if ao - ai = bo - bi then .ok (applyS (max ai bi).toNat (max ai bi + ao - ai).toNat s) else .error 12)
  else if name = [119, 104, 101, 110] ∨ name = [116, 105, 109, 101, 115] then some (match quotS s with
    | .error e => .error e
    | .ok (q, s) => match ownS run q (popS s).2 with
      | .error e => .error e
      | .ok (ai, ao, s) => if ai = ao then .ok (applyS ai.toNat ao.toNat s) else .error 12)
  else if name = [108, 111, 111, 112] then some (match quotS s with
    | .error e => .error e
    | .ok (q, s) => match ownS run q s with
      | .error e => .error e
      | .ok (ai, ao, s) => if ao = ai + 1 then .ok (applyS ai.toNat ai.toNat s) else .error 12)
  else if name = [101, 97, 99, 104] then some (match quotS s with
    | .error e => .error e
    | .ok (q, s) => match ownS run q (popS s).2 with
      | .error e => .error e
      | .ok (ai, ao, s) => if 1 ≤ ai ∧ ao = ai - 1 then .ok (applyS ao.toNat ao.toNat s) else .error 12)
  else none
/-- One item. -/
def stepS (run : List Tree → EfS → Except Int EfS) (known : List UInt8 → Option (Int × Int)) (y : Tree) (s : EfS) : Except Int EfS :=
  match y with
  | .call name => match moveR name with
    | some (k, ks) => .ok (movesS k ks s)
    | none => match controlS run name s with
      | some r => r
      | none => match primR name with
        | some (i, o) => .ok (applyS i o s)
        | none => match known name with
          | some (i, o) => .ok (applyS i.toNat o.toNat s)
          | none => .error 10
  | t => .ok (pushS s (slotOf t))
/-- Items, one after the other. -/
def runS (known : List UInt8 → Option (Int × Int)) : Nat → List Tree → EfS → Except Int EfS
  | _, [], s => .ok s
  | 0, _ :: _, _ => .error 11
  | n + 1, y :: r, s => if s.left = 0 then .error 11 else
    match stepS (fun q s => runS known n q s) known y { s with left := s.left - 1 } with
    | .error e => .error e
    | .ok t => runS known n r t
end Go.Proofs.YtonkeklageehbaaGreatDoor

namespace Go.Proofs.YtonkeklageehbaaGreatDoor
open Go Go.Av
theorem fn_IndexByteL (l : List UInt8) (c : Int) : Av.Fn Tryz.prog 158 [.str l, .int .u8 c] (.int .i64 (Lib.indexByte l c.toNat.toUInt8)) := by
  refine Fn.of_calls (fn := Tryz.f158) (by kernel_rfl) rfl (by kernel_rfl) ?_
  intro W w g us hl hr hb
  obtain ⟨u1, _, rfl, ⟨h1, _⟩, u2, _, rfl, ⟨h2, _⟩, h3⟩ := hr
  have h1 : u1 = _ := h1; have h2 : u2 = _ := h2; have h3 : _ = [] := h3
  subst h1; subst h2; subst h3
  refine (Tryz.stringslite_IndexByte ⟨⟨l⟩⟩ c w).mono fun e w' ⟨h1, h2⟩ => ?_
  subst h2
  exact ⟨_, h1, rfl, RowKit.Below.refl _ _⟩
/-- The table's words. -/
def wordsL : List (List UInt8) := Lib.fields tableT
theorem f_Fields : Av.Fn Tryz.prog 104 [.str tableT] (.fz (wordsL.map .str) wordsL.length true) := by
  refine Fn.of_texts (fn := Tryz.f104) (by kernel_rfl) rfl (by kernel_rfl) ?_
  intro W w g us hl hr hb
  obtain ⟨u1, _, rfl, ⟨h1, _⟩, h3⟩ := hr
  have h1 : u1 = _ := h1; have h3 : _ = [] := h3
  subst h1; subst h3
  have hsz : tableT.length < 4294967281 := by decide
  have hasc : tableT.all (fun b => decide (b.toNat < 128)) = true := by decide +kernel
  refine (Tryz.strings_Fields ⟨⟨tableT⟩⟩ w hsz (fun j b h => ?_) (hl.space (a := 0) hb (by kernel_rfl))).mono fun e w' ⟨h1, h2⟩ => ⟨_, h1, h2⟩
  exact of_decide_eq_true (List.all_eq_true.1 hasc b (List.mem_of_getElem? h))
theorem f_Index (w : List UInt8) : Av.Fn Tryz.prog 145 [.str w, .str [58]] (.int .i64 (Lib.indexByte w 58)) := by
  have h : Av.Fn Tryz.prog 158 [.str w, .int .u8 58] (.int .i64 (Lib.indexByte w 58)) := fn_IndexByteL w 58
  refine ACalls.of_W tb_ok (fn := Tryz.f145) (n := 143) (by kernel_rfl) rfl (by kernel_rfl) rfl rfl (by simp) (go ?_)
  refine fork (fun h0 => go ?_) (fun h0 => go ?_)
  · refine VRet.mk [] .nil ?_
    have : w = [58] := (of_decide_eq_true (by simpa using h0)) |> Eq.symm
    subst this
    rw [show Lib.indexByte [58] 58 = 0 by decide]
    exact ⟨rfl, rfl⟩
  · refine Fn.use (h) (go ?_)
    refine VRet.mk [] .nil ?_
    exact ⟨rfl, rfl⟩
/-- A text, cut at its first colon. -/
def cutR (w : List UInt8) : List UInt8 × List UInt8 × Bool := if 0 ≤ Lib.indexByte w 58 then (w.take (Lib.indexByte w 58).toNat, w.drop ((Lib.indexByte w 58).toNat + 1), true) else (w, [], false)
theorem f_sCut (w : List UInt8) (hw : w.length ≤ 140737488351232) : Av.Fn Tryz.prog 130 [.str w, .str [58]] (.tup [.str (cutR w).1, .str (cutR w).2.1, .bool (cutR w).2.2]) := by
  have hb := indexByte_lt w 58
  have hi := f_Index w
  unfold cutR
  generalize Lib.indexByte w 58 = i at hb hi ⊢
  refine ACalls.of_W tb_ok (fn := Tryz.f130) (n := 23) (by kernel_rfl) rfl (by kernel_rfl) rfl rfl (by simp) (go ?_)
  refine Fn.use (hi) (go ?_)
  refine fork (fun h => go ?_) (fun h => go ?_)
  · rw [if_pos h]
    obtain ⟨k, rfl⟩ := Int.eq_ofNat_of_zero_le h
    have hk : k < w.length := by omega
    refine VQ.mk (.str (w.take k)) (go ?_) (go ?_)
    · exact ⟨rfl, rfl⟩
    refine VQ.mk (.int .i64 ((k : Int) + (([58] : List UInt8).length : Nat))) (by refine go ?_; refine VInt.fit (by show _ ≤ (k : Int) + 1; omega) (by show (k : Int) + 1 ≤ _; omega) (go ?_); exact ⟨rfl, rfl⟩) (go ?_)
    refine VRet.mk [] .nil ?_
    exact ⟨rfl, rfl⟩
  · rw [if_neg h]
    refine VRet.mk [] .nil ?_
    exact ⟨rfl, rfl⟩
theorem f_Cut (w : List UInt8) (hw : w.length ≤ 140737488351232) : Av.Fn Tryz.prog 105 [.str w, .str [58]] (.tup [.str (cutR w).1, .str (cutR w).2.1, .bool (cutR w).2.2]) := by
  refine ACalls.of_W tb_ok (fn := Tryz.f105) (n := 13) (by kernel_rfl) rfl (by kernel_rfl) rfl rfl (by simp) (go ?_)
  refine Fn.use (f_sCut w hw) (go ?_)
  refine VRet.mk [] .nil ?_
  exact ⟨rfl, rfl⟩
def entryR (w : List UInt8) : PrimE := match (cutR w).2.2 with
  | true => ⟨(cutR w).2.1, some (((cutR w).1.getD 0 0).toNat - 48, ((cutR w).1.getD 1 0).toNat - 48)⟩
  | false => ⟨w, none⟩
theorem entries : wordsL.map entryR = primsL := by kernel_rfl
theorem words_length : wordsL.length = 52 := by kernel_rfl
theorem words_ok : (wordsL.all fun w => decide (w.length ≤ 100) && (!(cutR w).2.2 || (decide ((cutR w).1.length = 2) && decide (48 ≤ ((cutR w).1.getD 0 0).toNat) && decide (((cutR w).1.getD 0 0).toNat ≤ 51) && decide (48 ≤ ((cutR w).1.getD 1 0).toNat) && decide (((cutR w).1.getD 1 0).toNat ≤ 51)))) = true := by decide +kernel
theorem word_ok {w : List UInt8} (h : w ∈ wordsL) : w.length ≤ 100 ∧ ((cutR w).2.2 = true → (cutR w).1.length = 2 ∧ 48 ≤ ((cutR w).1.getD 0 0).toNat ∧ ((cutR w).1.getD 0 0).toNat ≤ 51 ∧ 48 ≤ ((cutR w).1.getD 1 0).toNat ∧ ((cutR w).1.getD 1 0).toNat ≤ 51) := by
  have := List.all_eq_true.1 words_ok w h
  simp only [Bool.and_eq_true, Bool.or_eq_true, Bool.not_eq_true', decide_eq_true_eq] at this
  refine ⟨this.1, fun hc => ?_⟩
  rcases this.2 with h | h
  · rw [hc] at h; cases h
  · exact ⟨h.1.1.1.1, h.1.1.1.2, h.1.1.2, h.1.2, h.2⟩
def namesW (l : List (List UInt8)) : List AV := l.map fun w => .str (entryR w).name
@[simp] theorem namesW_length (l : List (List UInt8)) : (namesW l).length = l.length := by simp [namesW]

theorem f_Names : Av.Fn Tryz.prog 76 [] (.fz (namesL.map .str) 52 false) := by
  have hN : namesL.map AV.str = namesW wordsL := by
    rw [namesL, ← entries, namesW, List.map_map, List.map_map]; rfl
  rw [hN]
  have hF := f_Fields
  have hlen := words_length
  have hok : ∀ w ∈ wordsL, _ := fun w h => word_ok h
  generalize wordsL = l at hF hlen hok ⊢
  refine ACalls.of_W tb_ok (fn := Tryz.f76) (n := 27) (by kernel_rfl) rfl (by kernel_rfl) rfl rfl (by simp) (go ?_)
  refine Fn.use (hF) (go ?_)
  refine VLoop.mk [1, 9] AccI (fun i => [accV i.o i.k, .int .i64 i.k]) (fun i => accS i.o 1 (namesW (l.take i.k))) (fun i => i.k ≤ l.length ∧ (i.o = none → i.k = 0)) (fun i => l.length - i.k) ⟨0, none⟩ ?_ ?_
  · exact ⟨⟨by simp, by simp⟩, rfl, .nil⟩
  rintro ⟨k, o⟩ ⟨hk, ho⟩
  dsimp only at hk ho ⊢
  refine go ?_
  refine fork (fun hlt => go ?_) (fun hlt => ?_)
  · have hlt : k < l.length := by omega
    obtain ⟨t, ht⟩ : ∃ t, l[k]? = some t := ⟨l[k], by simp [hlt]⟩
    have hacc : namesW (l.take (k + 1)) = namesW (l.take k) ++ [.str (entryR t).name] := by
      rw [take_succ_at ht]; simp [namesW]
    have hl2 : (namesW (l.take k)).length = k := by simp [namesW]; omega
    have hw := (hok t (List.mem_of_getElem? ht)).1
    have hC := f_Cut t (by omega)
    have he : ∀ c, (cutR t).2.2 = c → (entryR t).name = if c = true then (cutR t).2.1 else t := fun c hc => by
      unfold entryR; rw [hc]; cases c <;> rfl
    generalize hc : (cutR t).2.2 = c at hC he
    have he := he c rfl
    refine VNth.mk (.str t) (by rw [mulN_eq]; simp [ht]) (go ?_)
    refine Fn.use (hC) (go ?_)
    cases c with
    | true =>
      rw [if_pos rfl] at he
      refine go ?_
      cases o with
      | none =>
        obtain rfl : k = 0 := ho rfl
        refine go ?_
        refine VAll.mk (fun b2 => go ?_)
        refine ⟨⟨1, some b2⟩, ⟨by dsimp only; omega, by simp⟩, by dsimp only; omega, rfl, .cons 0 ?_ .nil⟩
        dsimp only
        rw [hacc, he]; simp [namesW]
      | some bo =>
        refine go ?_
        refine VGd.mk ⟨rfl, by omega, by rw [mulN_eq, hl2]; simp, by simp; omega⟩ (go ?_)
        refine VAll.mk (fun b2 => go ?_)
        refine ⟨⟨k + 1, some b2⟩, ⟨by dsimp only; omega, by simp⟩, by dsimp only; omega, rfl, .cons 0 ?_ .nil⟩
        dsimp only
        rw [hacc, he, mulN_eq, List.take_of_length_le (by rw [hl2]; simp)]; rfl
    | false =>
      rw [if_neg (by simp)] at he
      refine go ?_
      cases o with
      | none =>
        obtain rfl : k = 0 := ho rfl
        refine go ?_
        refine VAll.mk (fun b2 => go ?_)
        refine ⟨⟨1, some b2⟩, ⟨by dsimp only; omega, by simp⟩, by dsimp only; omega, rfl, .cons 0 ?_ .nil⟩
        dsimp only
        rw [hacc, he]; simp [namesW]
      | some bo =>
        refine go ?_
        refine VGd.mk ⟨rfl, by omega, by rw [mulN_eq, hl2]; simp, by simp; omega⟩ (go ?_)
        refine VAll.mk (fun b2 => go ?_)
        refine ⟨⟨k + 1, some b2⟩, ⟨by dsimp only; omega, by simp⟩, by dsimp only; omega, rfl, .cons 0 ?_ .nil⟩
        dsimp only
        rw [hacc, he, mulN_eq, List.take_of_length_le (by rw [hl2]; simp)]; rfl
  · obtain rfl : k = l.length := by omega
    rw [List.take_length]
    cases o with
    | none =>
      have := ho rfl
      omega
    | some bo =>
      refine go ?_
      refine VRet.mk [] .nil ?_
      have hnl : (namesW l).length = l.length := by simp [namesW]
      have htk : (namesW l).take l.length = namesW l := List.take_of_length_le (by omega)
      refine ⟨?_, rfl⟩
      simp only [mulN_eq, Nat.mul_one, htk]
      rw [hlen]
/-- The first that has an effect of its own and this name. -/
def primE (l : List PrimE) (s : List UInt8) : Option (Nat × Nat) := (l.find? fun p => p.eff.isSome && decide (p.name = s)).bind (·.eff)
theorem primE_hit {n s : List UInt8} {x : Nat × Nat} {r : List PrimE} (h : n = s) : primE (⟨n, some x⟩ :: r) s = some x := by
  subst h; simp [primE]
theorem primE_miss {p : PrimE} {s : List UInt8} {r : List PrimE} (h : (p.eff.isSome && decide (p.name = s)) = false) : primE (p :: r) s = primE r s := by
  unfold primE
  rw [List.find?_cons_of_neg (by rw [h]; simp)]
def primV (x : Option (Nat × Nat)) : AV := .tup [.agg [.int .i64 ((x.map (·.1)).getD 0 : Nat), .int .i64 ((x.map (·.2)).getD 0 : Nat)], .bool x.isSome]
theorem f_Prim (s : List UInt8) : Av.Fn Tryz.prog 124 [.str s] (primV (primR s)) := by
  have hN : primR s = primE (wordsL.map entryR) s := by rw [entries]; rfl
  rw [hN]
  have hF := f_Fields
  have hlen := words_length
  have hok : ∀ w ∈ wordsL, _ := fun w h => word_ok h
  generalize wordsL = l at hF hlen hok ⊢
  refine ACalls.of_W tb_ok (fn := Tryz.f124) (n := 38) (by kernel_rfl) rfl (by kernel_rfl) rfl rfl (by simp) (go ?_)
  refine VAll.mk (fun b => go ?_)
  refine Fn.use (hF) (go ?_)
  refine VLoop.mk [11] Nat (fun k => [.int .i64 k]) (fun _ => [(b, .box [.int .i64 0, .int .i64 0])]) (fun k => k ≤ l.length ∧ primE ((l.drop k).map entryR) s = primE (l.map entryR) s) (fun k => l.length - k) 0 ?_ ?_
  · exact ⟨⟨by simp, by simp⟩, rfl, .cons 0 rfl .nil⟩
  rintro k ⟨hk, hI⟩
  dsimp only at hk hI ⊢
  refine go ?_
  refine fork (fun hlt => go ?_) (fun hlt => ?_)
  · have hlt : k < l.length := by omega
    obtain ⟨t, ht⟩ : ∃ t, l[k]? = some t := ⟨l[k], by simp [hlt]⟩
    obtain ⟨hw, hw2⟩ := hok t (List.mem_of_getElem? ht)
    have hC := f_Cut t (by omega)
    have hd : l.drop k = t :: l.drop (k + 1) := by
      rw [List.drop_eq_getElem_cons hlt]
      congr 1
      rw [List.getElem?_eq_getElem hlt] at ht
      exact Option.some.inj ht
    rw [hd, List.map_cons] at hI
    have he : ∀ c, (cutR t).2.2 = c → entryR t = match c with
        | true => ⟨(cutR t).2.1, some (((cutR t).1.getD 0 0).toNat - 48, ((cutR t).1.getD 1 0).toNat - 48)⟩
        | false => ⟨t, none⟩ := fun c hc => by
      unfold entryR; rw [hc]
    generalize hc : (cutR t).2.2 = c at hC he hw2
    have he := he c rfl
    rw [he] at hI
    refine VNth.mk (.str t) (by rw [mulN_eq]; simp [ht]) (go ?_)
    refine Fn.use (hC) (go ?_)
    cases c with
    | true =>
      refine go ?_
      obtain ⟨h1, h2, h3, h4, h5⟩ := hw2 rfl
      refine fork (fun hs => go ?_) (fun hs => go ?_)
      · have hs : (cutR t).2.1 = s := of_decide_eq_true (by simpa using hs)
        refine VDraw.chain [9] (go ?_)
        have d0 : (0 : Int) ≤ (((cutR t).1.getD 0 0).toNat : Int) - 48 ∧ (((cutR t).1.getD 0 0).toNat : Int) - 48 ≤ 3 := by omega
        have d1 : (0 : Int) ≤ (((cutR t).1.getD 1 0).toNat : Int) - 48 ∧ (((cutR t).1.getD 1 0).toNat : Int) - 48 ≤ 3 := by omega
        refine VQ.mk (.int .u8 ((((cutR t).1.getD 0 0).toNat : Int) - 48)) (by refine go ?_; refine VInt.fit d0.1 (Int.le_trans d0.2 (by decide)) (go ?_); exact ⟨rfl, rfl⟩) (go ?_)
        refine VQ.mk (.int .u8 ((((cutR t).1.getD 1 0).toNat : Int) - 48)) (by refine go ?_; refine VInt.fit d1.1 (Int.le_trans d1.2 (by decide)) (go ?_); exact ⟨rfl, rfl⟩) (go ?_)
        refine VRet.mk [] .nil ?_
        rw [← hI, primE_hit hs]
        refine ⟨?_, rfl⟩
        have e0 : ((((cutR t).1.getD 0 0).toNat - 48 : Nat) : Int) = (((cutR t).1.getD 0 0).toNat : Int) - 48 := by omega
        have e1 : ((((cutR t).1.getD 1 0).toNat - 48 : Nat) : Int) = (((cutR t).1.getD 1 0).toNat : Int) - 48 := by omega
        unfold primV
        simp only [Option.map_some, Option.getD_some, Option.isSome_some, e0, e1]
        rfl
      · have hs : ¬ (cutR t).2.1 = s := by simpa using hs
        rw [primE_miss (by simp [hs])] at hI
        exact ⟨k + 1, ⟨by omega, hI⟩, by omega, rfl, .cons 0 rfl .nil⟩
    | false =>
      refine go ?_
      rw [primE_miss (by simp)] at hI
      exact ⟨k + 1, ⟨by omega, hI⟩, by omega, rfl, .cons 0 rfl .nil⟩
  · obtain rfl : k = l.length := by omega
    rw [List.drop_length] at hI
    rw [← hI]
    refine go ?_
    refine VRet.mk [] .nil ?_
    exact ⟨rfl, rfl⟩
end Go.Proofs.YtonkeklageehbaaGreatDoor
