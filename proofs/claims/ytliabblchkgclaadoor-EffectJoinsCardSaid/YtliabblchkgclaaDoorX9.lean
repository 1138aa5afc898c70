/- unicode/utf8.ValidString. Conditions: as each says. Texts without a fault, a character at a time. Conditions: as each says. unicode/utf8.ValidString: the walk. What parse reads, as plain Lean tells it. Conditions: none. Lex: Tokens. The reader of parse: its small steps. Conditions: as each says. What parse reads is taken away: plain Lean. Conditions: none. parse: literal, item, items. Conditions: as each says. Tokens of texts that stand one behind the other: plain Lean. Conditions: as each says. parse: define, read, Items, Parse. Conditions: as each says. Forms as the reference's: DefTree, FormTrees, SameDef, SameForms. Conditions: as each says. The reference's Chars and Bad. The reference's Blank. The reference's numbers. The reference's names. -/
import Derived.Test.YtliabblchkgclaaDoorX7
import Derived.Test.YtliabblchkgclaaDoorX3
import Derived.Test.YtliabblchkgclaaDoorX4
import Derived.Test.YtliabblchkgclaaDoorX8
set_option linter.all false
set_option maxRecDepth 20000
namespace Go.Proofs.YtliabblchkgclaaDoor
open Go Go.Av
def orI (a b : Int) : Int := IntKind.u64.wrap ((BitVec.ofInt 64 a ||| BitVec.ofInt 64 b).toNat)
def andI (a b : Int) : Int := IntKind.u64.wrap ((BitVec.ofInt 64 a &&& BitVec.ofInt 64 b).toNat)
def byteN (l : List UInt8) (i : Nat) : Nat := (l.getD i 0).toNat
theorem byteN_lt (l : List UInt8) (i : Nat) : byteN l i < 256 := (l.getD i 0).toNat_lt
def wordN (l : List UInt8) : Nat := byteN l 0 ||| byteN l 1 * 2 ^ 8 ||| byteN l 2 * 2 ^ 16 ||| byteN l 3 * 2 ^ 24 ||| byteN l 4 * 2 ^ 32 ||| byteN l 5 * 2 ^ 40 ||| byteN l 6 * 2 ^ 48 ||| byteN l 7 * 2 ^ 56
theorem wrap_nat {n : Nat} (h : n < 18446744073709551616) : IntKind.u64.wrap (n : Int) = n := by
  simp [IntKind.wrap, IntKind.signed, IntKind.bits]; omega
theorem ofInt_nat {n : Nat} (h : n < 18446744073709551616) : (BitVec.ofInt 64 (n : Int)).toNat = n := by
  simp [BitVec.toNat_ofInt]; omega
theorem orI_nat {a b : Nat} (ha : a < 18446744073709551616) (hb : b < 18446744073709551616) : orI a b = ((a ||| b : Nat) : Int) := by
  unfold orI
  rw [BitVec.toNat_or, ofInt_nat ha, ofInt_nat hb]
  exact wrap_nat (Nat.or_lt_two_pow (n := 64) ha hb)
theorem andI_nat {a b : Nat} (ha : a < 18446744073709551616) (hb : b < 18446744073709551616) : andI a b = ((a &&& b : Nat) : Int) := by
  unfold andI
  rw [BitVec.toNat_and, ofInt_nat ha, ofInt_nat hb]
  exact wrap_nat (Nat.and_lt_two_pow (n := 64) a hb)
theorem or_lt {a b : Nat} (ha : a < 18446744073709551616) (hb : b < 18446744073709551616) : (a ||| b) < 18446744073709551616 := Nat.or_lt_two_pow (n := 64) ha hb
theorem wordN_lt (l : List UInt8) : wordN l < 18446744073709551616 := by
  have h := byteN_lt l
  unfold wordN
  refine or_lt (or_lt (or_lt (or_lt (or_lt (or_lt (or_lt ?_ ?_) ?_) ?_) ?_) ?_) ?_) ?_
  · have := h 0; omega
  · have := h 1; omega
  · have := h 2; omega
  · have := h 3; omega
  · have := h 4; omega
  · have := h 5; omega
  · have := h 6; omega
  · have := h 7; omega
theorem testBit_zero_of_and {x m i : Nat} (h : x &&& m = 0) (hm : m.testBit i = true) : x.testBit i = false := by
  have := congrArg (·.testBit i) h
  simpa [hm] using this
theorem top_bit {b : Nat} (hb : b < 256) (h : b.testBit 7 = false) : b < 128 := by
  rcases Nat.lt_or_ge b 128 with h1 | h1
  · exact h1
  · rw [Nat.testBit_eq_decide_div_mod_eq] at h
    simp at h; omega
/-- Eight bytes of ASCII. -/
theorem word_ascii {l : List UInt8} (h : wordN l &&& 9259542123273814144 = 0) : ∀ i, i < 8 → byteN l i < 128 := by
  have sh : ∀ (b k : Nat), (b * 2 ^ k).testBit (k + 7) = b.testBit 7 := fun b k => by
    rw [Nat.mul_comm, Nat.testBit_two_pow_mul]; simp
  have key : ∀ k, (9259542123273814144 : Nat).testBit (k + 7) = true → (wordN l).testBit (k + 7) = false := fun k hk => testBit_zero_of_and h hk
  unfold wordN at key
  simp only [Nat.testBit_or, Bool.or_eq_false_iff] at key
  intro i hi
  refine top_bit (byteN_lt l i) ?_
  have k0 := key 0 (by decide); have k1 := key 8 (by decide); have k2 := key 16 (by decide); have k3 := key 24 (by decide)
  have k4 := key 32 (by decide); have k5 := key 40 (by decide); have k6 := key 48 (by decide); have k7 := key 56 (by decide)
  rw [sh] at k1 k2 k3 k4 k5 k6 k7
  obtain rfl | rfl | rfl | rfl | rfl | rfl | rfl | rfl : i = 0 ∨ i = 1 ∨ i = 2 ∨ i = 3 ∨ i = 4 ∨ i = 5 ∨ i = 6 ∨ i = 7 := by omega
  · exact k0.1.1.1.1.1.1.1
  · exact k1.1.1.1.1.1.1.2
  · exact k2.1.1.1.1.1.2
  · exact k3.1.1.1.1.2
  · exact k4.1.1.1.2
  · exact k5.1.1.2
  · exact k6.1.2
  · exact k7.2
theorem fault_cons {c : UInt8} (r : List UInt8) (hc : c.toNat < 128) : faultR (c :: r) = none ↔ faultR r = none := by
  have := faultR_app [] c r hc
  rw [List.nil_append] at this
  rw [this]
  exact ⟨fun h => h.2, fun h => ⟨rfl, h⟩⟩
theorem fault_ascii : ∀ (n : Nat) (l : List UInt8), (∀ i, i < n → byteN l i < 128) → n ≤ l.length → (faultR l = none ↔ faultR (l.drop n) = none)
  | 0, l, _, _ => by simp
  | n + 1, [], _, h => by simp at h
  | n + 1, c :: r, h, hl => by
    have h0 : c.toNat < 128 := h 0 (by omega)
    rw [fault_cons r h0, List.drop_succ_cons]
    exact fault_ascii n r (fun i hi => h (i + 1) (by omega)) (by simpa using hl)
theorem sh_lt (l : List UInt8) (i : Nat) {k : Nat} (hk : k ≤ 56) : byteN l i * 2 ^ k < 18446744073709551616 := by
  refine Nat.lt_of_lt_of_le (Nat.mul_lt_mul_of_pos_right (byteN_lt l i) (Nat.two_pow_pos k)) ?_
  have : (256 : Nat) * 2 ^ k ≤ 256 * 2 ^ 56 := Nat.mul_le_mul_left _ (Nat.pow_le_pow_right (by decide) hk)
  exact Nat.le_trans this (by decide)
theorem u64_le {n : Nat} (h : n < 18446744073709551616) : (n : Int) ≤ 18446744073709551615 := by omega

theorem f_u8word (l : List UInt8) (hl : 8 ≤ l.length) : Av.Fn Tryd.prog 63 [.str l] (.int .u64 (wordN l : Nat)) := by
  have h := byteN_lt l
  have h0 : (l.getD 0 0).toNat < 256 := h 0
  have h1 : (l.getD 1 0).toNat < 256 := h 1
  have h2 : (l.getD 2 0).toNat < 256 := h 2
  have h3 : (l.getD 3 0).toNat < 256 := h 3
  have h4 : (l.getD 4 0).toNat < 256 := h 4
  have h5 : (l.getD 5 0).toNat < 256 := h 5
  have h6 : (l.getD 6 0).toNat < 256 := h 6
  have h7 : (l.getD 7 0).toNat < 256 := h 7
  refine ACalls.of_W tb_ok (fn := Tryd.f63) (n := 59) (by kernel_rfl) rfl (by kernel_rfl) rfl rfl (by simp) (go ?_)
  have b0 : byteN l 0 < 18446744073709551616 := by show (l.getD 0 0).toNat < _; omega
  refine VQ.mk (.int .u64 ((byteN l 0 : Nat) : Int)) (by refine go ?_; exact VInt.fit (Int.natCast_nonneg _) (Int.le_trans (Int.ofNat_le.2 (Nat.le_of_lt (UInt8.toNat_lt _))) (by decide)) ⟨rfl, rfl⟩) (go ?_)
  refine VQ.mk (.int .u64 ((byteN l 1 : Nat) : Int)) (by refine go ?_; exact VInt.fit (Int.natCast_nonneg _) (Int.le_trans (Int.ofNat_le.2 (Nat.le_of_lt (UInt8.toNat_lt _))) (by decide)) ⟨rfl, rfl⟩) (go ?_)
  have c1 := sh_lt l 1 (k := 8) (by decide)
  refine VQ.mk (.int .u64 ((byteN l 1 * 2 ^ 8 : Nat) : Int)) (by refine go ?_; exact VInt.to ((byteN l 1 * 2 ^ 8 : Nat) : Int) (by simp [IntKind.bits]) (Int.natCast_nonneg _) (u64_le c1) ⟨rfl, rfl⟩) (go ?_)
  have b1 := or_lt b0 c1
  refine VQ.mk (.int .u64 ((byteN l 2 : Nat) : Int)) (by refine go ?_; exact VInt.fit (Int.natCast_nonneg _) (Int.le_trans (Int.ofNat_le.2 (Nat.le_of_lt (UInt8.toNat_lt _))) (by decide)) ⟨rfl, rfl⟩) (go ?_)
  have c2 := sh_lt l 2 (k := 16) (by decide)
  refine VQ.mk (.int .u64 ((byteN l 2 * 2 ^ 16 : Nat) : Int)) (by refine go ?_; exact VInt.to ((byteN l 2 * 2 ^ 16 : Nat) : Int) (by simp [IntKind.bits]) (Int.natCast_nonneg _) (u64_le c2) ⟨rfl, rfl⟩) (go ?_)
  have b2 := or_lt b1 c2
  refine VQ.mk (.int .u64 ((byteN l 3 : Nat) : Int)) (by refine go ?_; exact VInt.fit (Int.natCast_nonneg _) (Int.le_trans (Int.ofNat_le.2 (Nat.le_of_lt (UInt8.toNat_lt _))) (by decide)) ⟨rfl, rfl⟩) (go ?_)
  have c3 := sh_lt l 3 (k := 24) (by decide)
  refine VQ.mk (.int .u64 ((byteN l 3 * 2 ^ 24 : Nat) : Int)) (by refine go ?_; exact VInt.to ((byteN l 3 * 2 ^ 24 : Nat) : Int) (by simp [IntKind.bits]) (Int.natCast_nonneg _) (u64_le c3) ⟨rfl, rfl⟩) (go ?_)
  have b3 := or_lt b2 c3
  refine VQ.mk (.int .u64 ((byteN l 4 : Nat) : Int)) (by refine go ?_; exact VInt.fit (Int.natCast_nonneg _) (Int.le_trans (Int.ofNat_le.2 (Nat.le_of_lt (UInt8.toNat_lt _))) (by decide)) ⟨rfl, rfl⟩) (go ?_)
  have c4 := sh_lt l 4 (k := 32) (by decide)
  refine VQ.mk (.int .u64 ((byteN l 4 * 2 ^ 32 : Nat) : Int)) (by refine go ?_; exact VInt.to ((byteN l 4 * 2 ^ 32 : Nat) : Int) (by simp [IntKind.bits]) (Int.natCast_nonneg _) (u64_le c4) ⟨rfl, rfl⟩) (go ?_)
  have b4 := or_lt b3 c4
  refine VQ.mk (.int .u64 ((byteN l 5 : Nat) : Int)) (by refine go ?_; exact VInt.fit (Int.natCast_nonneg _) (Int.le_trans (Int.ofNat_le.2 (Nat.le_of_lt (UInt8.toNat_lt _))) (by decide)) ⟨rfl, rfl⟩) (go ?_)
  have c5 := sh_lt l 5 (k := 40) (by decide)
  refine VQ.mk (.int .u64 ((byteN l 5 * 2 ^ 40 : Nat) : Int)) (by refine go ?_; exact VInt.to ((byteN l 5 * 2 ^ 40 : Nat) : Int) (by simp [IntKind.bits]) (Int.natCast_nonneg _) (u64_le c5) ⟨rfl, rfl⟩) (go ?_)
  have b5 := or_lt b4 c5
  refine VQ.mk (.int .u64 ((byteN l 6 : Nat) : Int)) (by refine go ?_; exact VInt.fit (Int.natCast_nonneg _) (Int.le_trans (Int.ofNat_le.2 (Nat.le_of_lt (UInt8.toNat_lt _))) (by decide)) ⟨rfl, rfl⟩) (go ?_)
  have c6 := sh_lt l 6 (k := 48) (by decide)
  refine VQ.mk (.int .u64 ((byteN l 6 * 2 ^ 48 : Nat) : Int)) (by refine go ?_; exact VInt.to ((byteN l 6 * 2 ^ 48 : Nat) : Int) (by simp [IntKind.bits]) (Int.natCast_nonneg _) (u64_le c6) ⟨rfl, rfl⟩) (go ?_)
  have b6 := or_lt b5 c6
  refine VQ.mk (.int .u64 ((byteN l 7 : Nat) : Int)) (by refine go ?_; exact VInt.fit (Int.natCast_nonneg _) (Int.le_trans (Int.ofNat_le.2 (Nat.le_of_lt (UInt8.toNat_lt _))) (by decide)) ⟨rfl, rfl⟩) (go ?_)
  have c7 := sh_lt l 7 (k := 56) (by decide)
  refine VQ.mk (.int .u64 ((byteN l 7 * 2 ^ 56 : Nat) : Int)) (by refine go ?_; exact VInt.to ((byteN l 7 * 2 ^ 56 : Nat) : Int) (by simp [IntKind.bits]) (Int.natCast_nonneg _) (u64_le c7) ⟨rfl, rfl⟩) (go ?_)
  have b7 := or_lt b6 c7
  refine VRet.mk [] .nil ?_
  refine ⟨congrArg (fun x => AOut.ret (.int .u64 x)) ?_, rfl⟩
  show orI (orI (orI (orI (orI (orI (orI ((byteN l 0 : Nat)) (byteN l 1 * 2 ^ 8 : Nat)) (byteN l 2 * 2 ^ 16 : Nat)) (byteN l 3 * 2 ^ 24 : Nat)) (byteN l 4 * 2 ^ 32 : Nat)) (byteN l 5 * 2 ^ 40 : Nat)) (byteN l 6 * 2 ^ 48 : Nat)) (byteN l 7 * 2 ^ 56 : Nat) = ((wordN l : Nat) : Int)
  rw [orI_nat b0 c1, orI_nat b1 c2, orI_nat b2 c3, orI_nat b3 c4, orI_nat b4 c5, orI_nat b5 c6, orI_nat b6 c7]; rfl
end Go.Proofs.YtliabblchkgclaaDoor

namespace Go.Proofs.YtliabblchkgclaaDoor
open Go Go.Av
theorem fault_dec {l : List UInt8} (h : l ≠ []) : faultR l = none ↔ badB (dec l) = false ∧ faultR (l.drop (dec l).2) = none := by
  unfold faultR
  rw [runes_cons h, faultL]
  cases badB (dec l) <;> simp
theorem getD_len {l : List UInt8} (i : Nat) (h : ¬ i < l.length) : l.getD i 0 = 0 := by
  rw [List.getD_eq_getElem?_getD, List.getElem?_eq_none (by omega)]; rfl
/-- The bytes behind the first. -/
def okN (n b1 b2 b3 sz lo hi : Nat) : Prop :=
  sz ≤ n ∧ (lo ≤ b1 ∧ b1 ≤ hi) ∧ (sz ≤ 2 ∨ (128 ≤ b2 ∧ b2 ≤ 191) ∧ (sz ≤ 3 ∨ 128 ≤ b3 ∧ b3 ≤ 191))
theorem fault_slow {l : List UInt8} (h : l ≠ []) (hx : Lib.firstT (byteN l 0) < 240) {sz lo hi : Nat} (es : Lib.firstT (byteN l 0) % 8 = sz) (el : Lib.accLo (Lib.firstT (byteN l 0) / 16) = lo) (eh : Lib.accHi (Lib.firstT (byteN l 0) / 16) = hi) (hs : 2 ≤ sz ∧ sz ≤ 4) :
    faultR l = none ↔ okN l.length (byteN l 1) (byteN l 2) (byteN l 3) sz lo hi ∧ faultR (l.drop sz) = none := by
  rw [fault_dec h]
  have hl : 1 ≤ l.length := by cases l with | nil => exact absurd rfl h | cons => simp
  have e := Lib.slow_eq l.length (byteN l 0) (byteN l 1) (byteN l 2) (byteN l 3) hl (byteN_lt _ _) (byteN_lt _ _) (byteN_lt _ _) hx
  rw [es, el, eh] at e
  have ed : dec l = Lib.slowN l.length (byteN l 0) (byteN l 1) (byteN l 2) (byteN l 3) sz lo hi := by rw [e, dec_N]; rfl
  rw [ed]
  unfold Lib.slowN okN badB
  generalize byteN l 0 = b0
  generalize byteN l 1 = b1
  generalize byteN l 2 = b2
  generalize byteN l 3 = b3
  obtain rfl | rfl | rfl : sz = 2 ∨ sz = 3 ∨ sz = 4 := by omega
  all_goals repeat' split
  all_goals simp
  all_goals omega
theorem fault_bad {l : List UInt8} (h : l ≠ []) (hx : Lib.firstT (byteN l 0) = 241) : ¬ faultR l = none := by
  rw [fault_dec h]
  have e := Lib.bad_eq l.length (byteN l 0) (byteN l 1) (byteN l 2) (byteN l 3) (byteN_lt _ _) hx
  have ed : dec l = (65533, 1) := by rw [← e, dec_N]; rfl
  rw [ed]; simp [badB]
/-- The classes of first bytes. -/
theorem firstT_cases {b : Nat} (h : 128 ≤ b) (h2 : b < 256) : Lib.firstT b = 2 ∨ (Lib.firstT b = 19 ∨ Lib.firstT b = 3 ∨ Lib.firstT b = 35) ∨ (Lib.firstT b = 52 ∨ Lib.firstT b = 4 ∨ Lib.firstT b = 68) ∨ Lib.firstT b = 241 := by
  unfold Lib.firstT
  repeat' split
  all_goals simp
  all_goals omega
theorem or_and_zero {a b m : Nat} (h : (a ||| b) &&& m = 0) : a &&& m = 0 ∧ b &&& m = 0 := by
  rw [Nat.and_or_distrib_right] at h
  exact ⟨Nat.eq_zero_of_le_zero (h ▸ Nat.left_le_or), Nat.eq_zero_of_le_zero (h ▸ Nat.right_le_or)⟩
theorem andI_zero {a : Nat} (ha : a < 18446744073709551616) (h : andI a 9259542123273814144 = 0) : a &&& 9259542123273814144 = 0 := by
  have e := andI_nat (b := 9259542123273814144) ha (by decide)
  have : andI (a : Int) ((9259542123273814144 : Nat) : Int) = 0 := h
  rw [this] at e; exact (Int.ofNat_eq_zero.1 e.symm)
theorem skipW {l : List UInt8} (h : wordN l &&& 9259542123273814144 = 0) (hl : 8 ≤ l.length) : faultR l = none ↔ faultR (l.drop 8) = none := fault_ascii 8 l (word_ascii h) hl
theorem skip8 {l : List UInt8} (h : andI (wordN l : Nat) 9259542123273814144 = 0) (hl : 8 ≤ l.length) : faultR l = none ↔ faultR (l.drop 8) = none := skipW (andI_zero (wordN_lt l) h) hl
theorem skip16 {l : List UInt8} (h : andI (orI (wordN l : Nat) (wordN (l.drop 8) : Nat)) 9259542123273814144 = 0) (hl : 16 ≤ l.length) : faultR l = none ↔ faultR (l.drop 16) = none := by
  rw [orI_nat (wordN_lt _) (wordN_lt _)] at h
  obtain ⟨h1, h2⟩ := or_and_zero (andI_zero (or_lt (wordN_lt _) (wordN_lt _)) h)
  rw [skipW h1 (by omega), skipW h2 (by rw [List.length_drop]; omega), List.drop_drop]
theorem skip32 {l : List UInt8} (h : andI (orI (orI (wordN l : Nat) (wordN (l.drop 8) : Nat)) (orI (wordN (l.drop 16) : Nat) (wordN (l.drop 24) : Nat))) 9259542123273814144 = 0) (hl : 32 ≤ l.length) : faultR l = none ↔ faultR (l.drop 32) = none := by
  rw [orI_nat (wordN_lt _) (wordN_lt _), orI_nat (wordN_lt _) (wordN_lt _), orI_nat (or_lt (wordN_lt _) (wordN_lt _)) (or_lt (wordN_lt _) (wordN_lt _))] at h
  obtain ⟨h1, h2⟩ := or_and_zero (andI_zero (or_lt (or_lt (wordN_lt _) (wordN_lt _)) (or_lt (wordN_lt _) (wordN_lt _))) h)
  obtain ⟨h3, h4⟩ := or_and_zero h1
  obtain ⟨h5, h6⟩ := or_and_zero h2
  rw [skipW h3 (by omega), skipW h4 (by rw [List.length_drop]; omega), List.drop_drop, skipW h5 (by rw [List.length_drop]; omega), List.drop_drop, skipW h6 (by rw [List.length_drop]; omega), List.drop_drop]
theorem one_cell {P : Program} {b o : Nat} {k : IntKind} {z : Int} (h : ∀ W, Lay P W → W.cell? ⟨b, o, none⟩ = some (.int k z)) :
    ∀ W, Lay P W → ∀ (i : Nat) c, [AV.int k z][i]? = some c → ∃ u, W.cell? ⟨b, o + i, none⟩ = some u ∧ (∀ g, Rel g c u) ∧ u.oneCell' = true := by
  intro W hL i c hc
  match i, hc with
  | 0, hc => simp at hc; subst hc; exact ⟨_, h W hL, fun g => rfl, rfl⟩
theorem lay_ra : Tryd.prog.globalNamed ("unicode" ++ slash ++ "utf8.first") = some 3 := by kernel_rfl
theorem lay_rb : Tryd.prog.globalNamed ("unicode" ++ slash ++ "utf8.acceptRanges") = some 4 := by kernel_rfl
theorem lay_first {c : Nat} (hc : c < 256) : ∀ W, Lay Tryd.prog W → W.cell? ⟨3, c, none⟩ = some (.int .u8 (Lib.firstT c : Nat)) := fun W hL => (hL.1 _ _ lay_ra lay_rb).1 c hc
theorem lay_acc {i : Nat} (hi : i < 16) : ∀ W, Lay Tryd.prog W → ∀ (j : Nat) c, [AV.int .u8 (Lib.accLo i : Nat), AV.int .u8 (Lib.accHi i : Nat)][j]? = some c → ∃ u, W.cell? ⟨4, 2 * i + j, none⟩ = some u ∧ (∀ g, Rel g c u) ∧ u.oneCell' = true := by
  intro W hL j c hc
  have h := (hL.1 _ _ lay_ra lay_rb).2 i hi
  match j, hc with
  | 0, hc => simp at hc; subst hc; exact ⟨_, h.1, fun g => rfl, rfl⟩
  | 1, hc => simp at hc; subst hc; exact ⟨_, h.2, fun g => rfl, rfl⟩
theorem lay_acc' {i lo hi o : Nat} (h : i < 16) (el : Lib.accLo i = lo) (eh : Lib.accHi i = hi) (eo : o = 2 * i) : ∀ W, Lay Tryd.prog W → ∀ (j : Nat) c, [AV.int .u8 (lo : Nat), AV.int .u8 (hi : Nat)][j]? = some c → ∃ u, W.cell? ⟨4, o + j, none⟩ = some u ∧ (∀ g, Rel g c u) ∧ u.oneCell' = true := by
  subst el eh eo; exact lay_acc h
theorem lay_first' {c o : Nat} (hc : c < 256) (eo : o = c) : ∀ W, Lay Tryd.prog W → ∀ (j : Nat) d, [AV.int .u8 (Lib.firstT c : Nat)][j]? = some d → ∃ u, W.cell? ⟨3, o + j, none⟩ = some u ∧ (∀ g, Rel g d u) ∧ u.oneCell' = true := by
  subst eo; exact one_cell (lay_first hc)
end Go.Proofs.YtliabblchkgclaaDoor

namespace Go.Proofs.YtliabblchkgclaaDoor
open Go Go.Av
theorem bad_ret {p : Prop} [Decidable p] (h : ¬ p) : AOut.ret (.bool false) = AOut.ret (.bool (decide p)) := by rw [decide_eq_false h]
set_option maxHeartbeats 4000000 in
theorem f_Valid (s : List UInt8) : Av.Fn Tryd.prog 54 [.str s] (.bool (decide (faultR s = none))) := by
  refine ACalls.of_W tb_ok (fn := Tryd.f54) (n := 169) (by kernel_rfl) rfl (by kernel_rfl) rfl rfl (by simp) (go ?_)
  refine VLoop.mk [0] (List UInt8) (fun l => [.str l]) (fun l => [])
    (fun l => l.length ≤ s.length ∧ (faultR s = none ↔ faultR l = none)) (fun l => l.length) s ?_ ?_
  · exact ⟨⟨Nat.le_refl _, Iff.rfl⟩, rfl, .nil⟩
  rintro l ⟨hl, hI⟩
  refine go ?_
  refine fork (fun h0 => go ?_) (fun h0 => go ?_)
  · have hne : l ≠ [] := by intro e; subst e; simp at h0
    refine go ?_
    have hB : (l.getD 0 0).toNat < 256 := byteN_lt l 0
    refine fork (fun hc => go ?_) (fun hc => go ?_)
    · have hc' : byteN l 0 < 128 := Int.ofNat_lt.1 hc
      have h1 : 1 ≤ l.length := Int.ofNat_lt.1 h0
      have e1 := fault_ascii 1 l (fun i hi => by obtain rfl : i = 0 := by omega
                                                 exact hc') h1
      have s1 := e1
      replace hI := hI.trans e1
      have hlt : (l.drop 1).length < l.length := by rw [List.length_drop]; omega
      generalize l.drop 1 = m at *
      refine fork (fun h8 => go ?_) (fun h8 => go ?_)
      · have h8 : 8 < m.length := Int.ofNat_lt.1 h8
        refine Fn.use (f_u8word m (by omega)) (go ?_)
        refine fork (fun hw => go ?_) (fun hw => go ?_)
        · replace hI := hI.trans (skip8 hw (by omega))
          have hlt2 : (m.drop 8).length < l.length := by rw [List.length_drop]; omega
          generalize m.drop 8 = k at *
          refine go ?_
          refine fork (fun h16 => go ?_) (fun h16 => go ?_)
          · have h16 : 16 < k.length := Int.ofNat_lt.1 h16
            refine VQ.mk (.int .u64 (wordN k : Nat)) (by refine go ?_; refine Fn.use (f_u8word k (by omega)) (go ?_); exact ⟨congrArg _ (rfl), rfl⟩) (go ?_)
            refine VQ.mk (.int .u64 (wordN (k.drop 8) : Nat)) (by refine go ?_; refine Fn.use (f_u8word (k.drop 8) (by rw [List.length_drop]; omega)) (go ?_); exact ⟨congrArg _ (rfl), rfl⟩) (go ?_)
            refine fork (fun hw16 => go ?_) (fun hw16 => go ?_)
            · replace hI := hI.trans (skip16 hw16 (by omega))
              have hlt3 : (k.drop 16).length < l.length := by rw [List.length_drop]; omega
              generalize k.drop 16 = q at *
              refine VLoop.mk [0] (List UInt8) (fun x => [.str x]) (fun x => [])
                (fun x => x.length < l.length ∧ x.length ≤ s.length ∧ (faultR s = none ↔ faultR x = none)) (fun x => x.length) q ?_ ?_
              · exact ⟨⟨hlt3, by omega, hI⟩, rfl, .nil⟩
              rintro x ⟨hx1, hx2, hx3⟩
              refine go ?_
              refine fork (fun h32 => go ?_) (fun h32 => go ?_)
              · have h32 : 32 < x.length := Int.ofNat_lt.1 h32
                refine VQ.mk (.int .u64 (wordN x : Nat)) (by refine go ?_; refine Fn.use (f_u8word x (by omega)) (go ?_); exact ⟨congrArg _ (rfl), rfl⟩) (go ?_)
                refine VQ.mk (.int .u64 (wordN (x.drop 8) : Nat)) (by refine go ?_; refine Fn.use (f_u8word (x.drop 8) (by rw [List.length_drop]; omega)) (go ?_); exact ⟨congrArg _ (rfl), rfl⟩) (go ?_)
                refine VQ.mk (.int .u64 (wordN (x.drop 16) : Nat)) (by refine go ?_; refine Fn.use (f_u8word (x.drop 16) (by rw [List.length_drop]; omega)) (go ?_); exact ⟨congrArg _ (rfl), rfl⟩) (go ?_)
                refine VQ.mk (.int .u64 (wordN (x.drop 24) : Nat)) (by refine go ?_; refine Fn.use (f_u8word (x.drop 24) (by rw [List.length_drop]; omega)) (go ?_); exact ⟨congrArg _ (rfl), rfl⟩) (go ?_)
                refine fork (fun hw32 => go ?_) (fun hw32 => go ?_)
                · have e32 := skip32 hw32 (by omega)
                  exact ⟨x.drop 32, ⟨by rw [List.length_drop]; omega, by rw [List.length_drop]; omega, hx3.trans e32⟩, by rw [List.length_drop]; omega, rfl, .nil⟩
                · exact ⟨x, ⟨by omega, hx3⟩, hx1, rfl, .nil⟩
              · exact ⟨x, ⟨by omega, hx3⟩, hx1, rfl, .nil⟩
            · exact ⟨k, ⟨by omega, hI⟩, hlt2, rfl, .nil⟩
          · exact ⟨k, ⟨by omega, hI⟩, hlt2, rfl, .nil⟩
        · exact ⟨m, ⟨by omega, hI⟩, hlt, rfl, .nil⟩
      · exact ⟨m, ⟨by omega, hI⟩, hlt, rfl, .nil⟩
    · have hc' : 128 ≤ byteN l 0 := by have := mt (Int.ofNat_lt (n := byteN l 0) (m := 128)).2 hc; omega
      have hcs := firstT_cases hc' hB
      refine VLay.mk [.int .u8 (Lib.firstT (byteN l 0) : Nat)] rfl (lay_first' hB (Nat.zero_add _)) (go ?_)
      generalize hxe : Lib.firstT (byteN l 0) = x at *
      rcases hcs with rfl | (rfl | rfl | rfl) | (rfl | rfl | rfl) | rfl
      · refine VInt.to 2 (by decide) (by decide) (by decide) (go ?_)
        refine VLay.mk [.int .u8 (128 : Nat), .int .u8 (191 : Nat)] rfl (lay_acc' (i := 0) (by decide) rfl rfl rfl) (go ?_)
        have es := fault_slow hne (sz := 2) (lo := 128) (hi := 191) (by omega) (by rw [hxe]) (by rw [hxe]; rfl) (by rw [hxe]; rfl) (by decide)
        unfold okN at es
        refine VAll.mk (fun b => go ?_)
        refine fork (fun h => go ?_) (fun h => go ?_)
        · replace h : l.length < 2 := Int.ofNat_lt.1 h
          refine VRet.mk [] .nil ⟨bad_ret fun hs => ?_, rfl⟩
          have ee := (es.1 (hI.1 hs)).1
          omega
        have h0 : ¬ l.length < 2 := fun q => h (Int.ofNat_lt.2 q)
        clear h
        refine fork (fun h => go ?_) (fun h => go ?_)
        · replace h : byteN l 1 < 128 := Int.ofNat_lt.1 h
          refine VRet.mk [] .nil ⟨bad_ret fun hs => ?_, rfl⟩
          have ee := (es.1 (hI.1 hs)).1
          omega
        have h1 : ¬ byteN l 1 < 128 := fun q => h (Int.ofNat_lt.2 q)
        clear h
        refine fork (fun h => go ?_) (fun h => go ?_)
        · replace h : 191 < byteN l 1 := Int.ofNat_lt.1 h
          refine VRet.mk [] .nil ⟨bad_ret fun hs => ?_, rfl⟩
          have ee := (es.1 (hI.1 hs)).1
          omega
        have h2 : ¬ 191 < byteN l 1 := fun q => h (Int.ofNat_lt.2 q)
        clear h
        refine ⟨l.drop 2, ⟨by rw [List.length_drop]; omega, hI.trans (es.trans ⟨fun h => h.2, fun h => ⟨?_, h⟩⟩)⟩, by rw [List.length_drop]; omega, rfl, .nil⟩
        omega
      · refine VInt.to 3 (by decide) (by decide) (by decide) (go ?_)
        refine VLay.mk [.int .u8 (160 : Nat), .int .u8 (191 : Nat)] rfl (lay_acc' (i := 1) (by decide) rfl rfl rfl) (go ?_)
        have es := fault_slow hne (sz := 3) (lo := 160) (hi := 191) (by omega) (by rw [hxe]) (by rw [hxe]; rfl) (by rw [hxe]; rfl) (by decide)
        unfold okN at es
        refine VAll.mk (fun b => go ?_)
        refine fork (fun h => go ?_) (fun h => go ?_)
        · replace h : l.length < 3 := Int.ofNat_lt.1 h
          refine VRet.mk [] .nil ⟨bad_ret fun hs => ?_, rfl⟩
          have ee := (es.1 (hI.1 hs)).1
          omega
        have h0 : ¬ l.length < 3 := fun q => h (Int.ofNat_lt.2 q)
        clear h
        refine fork (fun h => go ?_) (fun h => go ?_)
        · replace h : byteN l 1 < 160 := Int.ofNat_lt.1 h
          refine VRet.mk [] .nil ⟨bad_ret fun hs => ?_, rfl⟩
          have ee := (es.1 (hI.1 hs)).1
          omega
        have h1 : ¬ byteN l 1 < 160 := fun q => h (Int.ofNat_lt.2 q)
        clear h
        refine fork (fun h => go ?_) (fun h => go ?_)
        · replace h : 191 < byteN l 1 := Int.ofNat_lt.1 h
          refine VRet.mk [] .nil ⟨bad_ret fun hs => ?_, rfl⟩
          have ee := (es.1 (hI.1 hs)).1
          omega
        have h2 : ¬ 191 < byteN l 1 := fun q => h (Int.ofNat_lt.2 q)
        clear h
        refine fork (fun h => go ?_) (fun h => go ?_)
        · replace h : byteN l 2 < 128 := Int.ofNat_lt.1 h
          refine VRet.mk [] .nil ⟨bad_ret fun hs => ?_, rfl⟩
          have ee := (es.1 (hI.1 hs)).1
          omega
        have h3 : ¬ byteN l 2 < 128 := fun q => h (Int.ofNat_lt.2 q)
        clear h
        refine fork (fun h => go ?_) (fun h => go ?_)
        · replace h : 191 < byteN l 2 := Int.ofNat_lt.1 h
          refine VRet.mk [] .nil ⟨bad_ret fun hs => ?_, rfl⟩
          have ee := (es.1 (hI.1 hs)).1
          omega
        have h4 : ¬ 191 < byteN l 2 := fun q => h (Int.ofNat_lt.2 q)
        clear h
        refine ⟨l.drop 3, ⟨by rw [List.length_drop]; omega, hI.trans (es.trans ⟨fun h => h.2, fun h => ⟨?_, h⟩⟩)⟩, by rw [List.length_drop]; omega, rfl, .nil⟩
        omega
      · refine VInt.to 3 (by decide) (by decide) (by decide) (go ?_)
        refine VLay.mk [.int .u8 (128 : Nat), .int .u8 (191 : Nat)] rfl (lay_acc' (i := 0) (by decide) rfl rfl rfl) (go ?_)
        have es := fault_slow hne (sz := 3) (lo := 128) (hi := 191) (by omega) (by rw [hxe]) (by rw [hxe]; rfl) (by rw [hxe]; rfl) (by decide)
        unfold okN at es
        refine VAll.mk (fun b => go ?_)
        refine fork (fun h => go ?_) (fun h => go ?_)
        · replace h : l.length < 3 := Int.ofNat_lt.1 h
          refine VRet.mk [] .nil ⟨bad_ret fun hs => ?_, rfl⟩
          have ee := (es.1 (hI.1 hs)).1
          omega
        have h0 : ¬ l.length < 3 := fun q => h (Int.ofNat_lt.2 q)
        clear h
        refine fork (fun h => go ?_) (fun h => go ?_)
        · replace h : byteN l 1 < 128 := Int.ofNat_lt.1 h
          refine VRet.mk [] .nil ⟨bad_ret fun hs => ?_, rfl⟩
          have ee := (es.1 (hI.1 hs)).1
          omega
        have h1 : ¬ byteN l 1 < 128 := fun q => h (Int.ofNat_lt.2 q)
        clear h
        refine fork (fun h => go ?_) (fun h => go ?_)
        · replace h : 191 < byteN l 1 := Int.ofNat_lt.1 h
          refine VRet.mk [] .nil ⟨bad_ret fun hs => ?_, rfl⟩
          have ee := (es.1 (hI.1 hs)).1
          omega
        have h2 : ¬ 191 < byteN l 1 := fun q => h (Int.ofNat_lt.2 q)
        clear h
        refine fork (fun h => go ?_) (fun h => go ?_)
        · replace h : byteN l 2 < 128 := Int.ofNat_lt.1 h
          refine VRet.mk [] .nil ⟨bad_ret fun hs => ?_, rfl⟩
          have ee := (es.1 (hI.1 hs)).1
          omega
        have h3 : ¬ byteN l 2 < 128 := fun q => h (Int.ofNat_lt.2 q)
        clear h
        refine fork (fun h => go ?_) (fun h => go ?_)
        · replace h : 191 < byteN l 2 := Int.ofNat_lt.1 h
          refine VRet.mk [] .nil ⟨bad_ret fun hs => ?_, rfl⟩
          have ee := (es.1 (hI.1 hs)).1
          omega
        have h4 : ¬ 191 < byteN l 2 := fun q => h (Int.ofNat_lt.2 q)
        clear h
        refine ⟨l.drop 3, ⟨by rw [List.length_drop]; omega, hI.trans (es.trans ⟨fun h => h.2, fun h => ⟨?_, h⟩⟩)⟩, by rw [List.length_drop]; omega, rfl, .nil⟩
        omega
      · refine VInt.to 3 (by decide) (by decide) (by decide) (go ?_)
        refine VLay.mk [.int .u8 (128 : Nat), .int .u8 (159 : Nat)] rfl (lay_acc' (i := 2) (by decide) rfl rfl rfl) (go ?_)
        have es := fault_slow hne (sz := 3) (lo := 128) (hi := 159) (by omega) (by rw [hxe]) (by rw [hxe]; rfl) (by rw [hxe]; rfl) (by decide)
        unfold okN at es
        refine VAll.mk (fun b => go ?_)
        refine fork (fun h => go ?_) (fun h => go ?_)
        · replace h : l.length < 3 := Int.ofNat_lt.1 h
          refine VRet.mk [] .nil ⟨bad_ret fun hs => ?_, rfl⟩
          have ee := (es.1 (hI.1 hs)).1
          omega
        have h0 : ¬ l.length < 3 := fun q => h (Int.ofNat_lt.2 q)
        clear h
        refine fork (fun h => go ?_) (fun h => go ?_)
        · replace h : byteN l 1 < 128 := Int.ofNat_lt.1 h
          refine VRet.mk [] .nil ⟨bad_ret fun hs => ?_, rfl⟩
          have ee := (es.1 (hI.1 hs)).1
          omega
        have h1 : ¬ byteN l 1 < 128 := fun q => h (Int.ofNat_lt.2 q)
        clear h
        refine fork (fun h => go ?_) (fun h => go ?_)
        · replace h : 159 < byteN l 1 := Int.ofNat_lt.1 h
          refine VRet.mk [] .nil ⟨bad_ret fun hs => ?_, rfl⟩
          have ee := (es.1 (hI.1 hs)).1
          omega
        have h2 : ¬ 159 < byteN l 1 := fun q => h (Int.ofNat_lt.2 q)
        clear h
        refine fork (fun h => go ?_) (fun h => go ?_)
        · replace h : byteN l 2 < 128 := Int.ofNat_lt.1 h
          refine VRet.mk [] .nil ⟨bad_ret fun hs => ?_, rfl⟩
          have ee := (es.1 (hI.1 hs)).1
          omega
        have h3 : ¬ byteN l 2 < 128 := fun q => h (Int.ofNat_lt.2 q)
        clear h
        refine fork (fun h => go ?_) (fun h => go ?_)
        · replace h : 191 < byteN l 2 := Int.ofNat_lt.1 h
          refine VRet.mk [] .nil ⟨bad_ret fun hs => ?_, rfl⟩
          have ee := (es.1 (hI.1 hs)).1
          omega
        have h4 : ¬ 191 < byteN l 2 := fun q => h (Int.ofNat_lt.2 q)
        clear h
        refine ⟨l.drop 3, ⟨by rw [List.length_drop]; omega, hI.trans (es.trans ⟨fun h => h.2, fun h => ⟨?_, h⟩⟩)⟩, by rw [List.length_drop]; omega, rfl, .nil⟩
        omega
      · refine VInt.to 4 (by decide) (by decide) (by decide) (go ?_)
        refine VLay.mk [.int .u8 (144 : Nat), .int .u8 (191 : Nat)] rfl (lay_acc' (i := 3) (by decide) rfl rfl rfl) (go ?_)
        have es := fault_slow hne (sz := 4) (lo := 144) (hi := 191) (by omega) (by rw [hxe]) (by rw [hxe]; rfl) (by rw [hxe]; rfl) (by decide)
        unfold okN at es
        refine VAll.mk (fun b => go ?_)
        refine fork (fun h => go ?_) (fun h => go ?_)
        · replace h : l.length < 4 := Int.ofNat_lt.1 h
          refine VRet.mk [] .nil ⟨bad_ret fun hs => ?_, rfl⟩
          have ee := (es.1 (hI.1 hs)).1
          omega
        have h0 : ¬ l.length < 4 := fun q => h (Int.ofNat_lt.2 q)
        clear h
        refine fork (fun h => go ?_) (fun h => go ?_)
        · replace h : byteN l 1 < 144 := Int.ofNat_lt.1 h
          refine VRet.mk [] .nil ⟨bad_ret fun hs => ?_, rfl⟩
          have ee := (es.1 (hI.1 hs)).1
          omega
        have h1 : ¬ byteN l 1 < 144 := fun q => h (Int.ofNat_lt.2 q)
        clear h
        refine fork (fun h => go ?_) (fun h => go ?_)
        · replace h : 191 < byteN l 1 := Int.ofNat_lt.1 h
          refine VRet.mk [] .nil ⟨bad_ret fun hs => ?_, rfl⟩
          have ee := (es.1 (hI.1 hs)).1
          omega
        have h2 : ¬ 191 < byteN l 1 := fun q => h (Int.ofNat_lt.2 q)
        clear h
        refine fork (fun h => go ?_) (fun h => go ?_)
        · replace h : byteN l 2 < 128 := Int.ofNat_lt.1 h
          refine VRet.mk [] .nil ⟨bad_ret fun hs => ?_, rfl⟩
          have ee := (es.1 (hI.1 hs)).1
          omega
        have h3 : ¬ byteN l 2 < 128 := fun q => h (Int.ofNat_lt.2 q)
        clear h
        refine fork (fun h => go ?_) (fun h => go ?_)
        · replace h : 191 < byteN l 2 := Int.ofNat_lt.1 h
          refine VRet.mk [] .nil ⟨bad_ret fun hs => ?_, rfl⟩
          have ee := (es.1 (hI.1 hs)).1
          omega
        have h4 : ¬ 191 < byteN l 2 := fun q => h (Int.ofNat_lt.2 q)
        clear h
        refine fork (fun h => go ?_) (fun h => go ?_)
        · replace h : byteN l 3 < 128 := Int.ofNat_lt.1 h
          refine VRet.mk [] .nil ⟨bad_ret fun hs => ?_, rfl⟩
          have ee := (es.1 (hI.1 hs)).1
          omega
        have h5 : ¬ byteN l 3 < 128 := fun q => h (Int.ofNat_lt.2 q)
        clear h
        refine fork (fun h => go ?_) (fun h => go ?_)
        · replace h : 191 < byteN l 3 := Int.ofNat_lt.1 h
          refine VRet.mk [] .nil ⟨bad_ret fun hs => ?_, rfl⟩
          have ee := (es.1 (hI.1 hs)).1
          omega
        have h6 : ¬ 191 < byteN l 3 := fun q => h (Int.ofNat_lt.2 q)
        clear h
        refine ⟨l.drop 4, ⟨by rw [List.length_drop]; omega, hI.trans (es.trans ⟨fun h => h.2, fun h => ⟨?_, h⟩⟩)⟩, by rw [List.length_drop]; omega, rfl, .nil⟩
        omega
      · refine VInt.to 4 (by decide) (by decide) (by decide) (go ?_)
        refine VLay.mk [.int .u8 (128 : Nat), .int .u8 (191 : Nat)] rfl (lay_acc' (i := 0) (by decide) rfl rfl rfl) (go ?_)
        have es := fault_slow hne (sz := 4) (lo := 128) (hi := 191) (by omega) (by rw [hxe]) (by rw [hxe]; rfl) (by rw [hxe]; rfl) (by decide)
        unfold okN at es
        refine VAll.mk (fun b => go ?_)
        refine fork (fun h => go ?_) (fun h => go ?_)
        · replace h : l.length < 4 := Int.ofNat_lt.1 h
          refine VRet.mk [] .nil ⟨bad_ret fun hs => ?_, rfl⟩
          have ee := (es.1 (hI.1 hs)).1
          omega
        have h0 : ¬ l.length < 4 := fun q => h (Int.ofNat_lt.2 q)
        clear h
        refine fork (fun h => go ?_) (fun h => go ?_)
        · replace h : byteN l 1 < 128 := Int.ofNat_lt.1 h
          refine VRet.mk [] .nil ⟨bad_ret fun hs => ?_, rfl⟩
          have ee := (es.1 (hI.1 hs)).1
          omega
        have h1 : ¬ byteN l 1 < 128 := fun q => h (Int.ofNat_lt.2 q)
        clear h
        refine fork (fun h => go ?_) (fun h => go ?_)
        · replace h : 191 < byteN l 1 := Int.ofNat_lt.1 h
          refine VRet.mk [] .nil ⟨bad_ret fun hs => ?_, rfl⟩
          have ee := (es.1 (hI.1 hs)).1
          omega
        have h2 : ¬ 191 < byteN l 1 := fun q => h (Int.ofNat_lt.2 q)
        clear h
        refine fork (fun h => go ?_) (fun h => go ?_)
        · replace h : byteN l 2 < 128 := Int.ofNat_lt.1 h
          refine VRet.mk [] .nil ⟨bad_ret fun hs => ?_, rfl⟩
          have ee := (es.1 (hI.1 hs)).1
          omega
        have h3 : ¬ byteN l 2 < 128 := fun q => h (Int.ofNat_lt.2 q)
        clear h
        refine fork (fun h => go ?_) (fun h => go ?_)
        · replace h : 191 < byteN l 2 := Int.ofNat_lt.1 h
          refine VRet.mk [] .nil ⟨bad_ret fun hs => ?_, rfl⟩
          have ee := (es.1 (hI.1 hs)).1
          omega
        have h4 : ¬ 191 < byteN l 2 := fun q => h (Int.ofNat_lt.2 q)
        clear h
        refine fork (fun h => go ?_) (fun h => go ?_)
        · replace h : byteN l 3 < 128 := Int.ofNat_lt.1 h
          refine VRet.mk [] .nil ⟨bad_ret fun hs => ?_, rfl⟩
          have ee := (es.1 (hI.1 hs)).1
          omega
        have h5 : ¬ byteN l 3 < 128 := fun q => h (Int.ofNat_lt.2 q)
        clear h
        refine fork (fun h => go ?_) (fun h => go ?_)
        · replace h : 191 < byteN l 3 := Int.ofNat_lt.1 h
          refine VRet.mk [] .nil ⟨bad_ret fun hs => ?_, rfl⟩
          have ee := (es.1 (hI.1 hs)).1
          omega
        have h6 : ¬ 191 < byteN l 3 := fun q => h (Int.ofNat_lt.2 q)
        clear h
        refine ⟨l.drop 4, ⟨by rw [List.length_drop]; omega, hI.trans (es.trans ⟨fun h => h.2, fun h => ⟨?_, h⟩⟩)⟩, by rw [List.length_drop]; omega, rfl, .nil⟩
        omega
      · refine VInt.to 4 (by decide) (by decide) (by decide) (go ?_)
        refine VLay.mk [.int .u8 (128 : Nat), .int .u8 (143 : Nat)] rfl (lay_acc' (i := 4) (by decide) rfl rfl rfl) (go ?_)
        have es := fault_slow hne (sz := 4) (lo := 128) (hi := 143) (by omega) (by rw [hxe]) (by rw [hxe]; rfl) (by rw [hxe]; rfl) (by decide)
        unfold okN at es
        refine VAll.mk (fun b => go ?_)
        refine fork (fun h => go ?_) (fun h => go ?_)
        · replace h : l.length < 4 := Int.ofNat_lt.1 h
          refine VRet.mk [] .nil ⟨bad_ret fun hs => ?_, rfl⟩
          have ee := (es.1 (hI.1 hs)).1
          omega
        have h0 : ¬ l.length < 4 := fun q => h (Int.ofNat_lt.2 q)
        clear h
        refine fork (fun h => go ?_) (fun h => go ?_)
        · replace h : byteN l 1 < 128 := Int.ofNat_lt.1 h
          refine VRet.mk [] .nil ⟨bad_ret fun hs => ?_, rfl⟩
          have ee := (es.1 (hI.1 hs)).1
          omega
        have h1 : ¬ byteN l 1 < 128 := fun q => h (Int.ofNat_lt.2 q)
        clear h
        refine fork (fun h => go ?_) (fun h => go ?_)
        · replace h : 143 < byteN l 1 := Int.ofNat_lt.1 h
          refine VRet.mk [] .nil ⟨bad_ret fun hs => ?_, rfl⟩
          have ee := (es.1 (hI.1 hs)).1
          omega
        have h2 : ¬ 143 < byteN l 1 := fun q => h (Int.ofNat_lt.2 q)
        clear h
        refine fork (fun h => go ?_) (fun h => go ?_)
        · replace h : byteN l 2 < 128 := Int.ofNat_lt.1 h
          refine VRet.mk [] .nil ⟨bad_ret fun hs => ?_, rfl⟩
          have ee := (es.1 (hI.1 hs)).1
          omega
        have h3 : ¬ byteN l 2 < 128 := fun q => h (Int.ofNat_lt.2 q)
        clear h
        refine fork (fun h => go ?_) (fun h => go ?_)
        · replace h : 191 < byteN l 2 := Int.ofNat_lt.1 h
          refine VRet.mk [] .nil ⟨bad_ret fun hs => ?_, rfl⟩
          have ee := (es.1 (hI.1 hs)).1
          omega
        have h4 : ¬ 191 < byteN l 2 := fun q => h (Int.ofNat_lt.2 q)
        clear h
        refine fork (fun h => go ?_) (fun h => go ?_)
        · replace h : byteN l 3 < 128 := Int.ofNat_lt.1 h
          refine VRet.mk [] .nil ⟨bad_ret fun hs => ?_, rfl⟩
          have ee := (es.1 (hI.1 hs)).1
          omega
        have h5 : ¬ byteN l 3 < 128 := fun q => h (Int.ofNat_lt.2 q)
        clear h
        refine fork (fun h => go ?_) (fun h => go ?_)
        · replace h : 191 < byteN l 3 := Int.ofNat_lt.1 h
          refine VRet.mk [] .nil ⟨bad_ret fun hs => ?_, rfl⟩
          have ee := (es.1 (hI.1 hs)).1
          omega
        have h6 : ¬ 191 < byteN l 3 := fun q => h (Int.ofNat_lt.2 q)
        clear h
        refine ⟨l.drop 4, ⟨by rw [List.length_drop]; omega, hI.trans (es.trans ⟨fun h => h.2, fun h => ⟨?_, h⟩⟩)⟩, by rw [List.length_drop]; omega, rfl, .nil⟩
        omega
      · refine VInt.to 1 (by decide) (by decide) (by decide) (go ?_)
        refine VLay.mk [.int .u8 (0 : Nat), .int .u8 (0 : Nat)] rfl (lay_acc' (i := 15) (by decide) rfl rfl rfl) (go ?_)
        refine VAll.mk (fun b => go ?_)
        refine VRet.mk [] .nil ⟨congrArg (fun b => AOut.ret (.bool b)) (Eq.symm (decide_eq_false fun hs => ?_)), rfl⟩
        exact fault_bad hne hxe (hI.1 hs)
  · have e : l = [] := List.length_eq_zero_iff.1 (by omega)
    subst e
    refine VRet.mk [] .nil ?_
    have : faultR s = none := by rw [hI]; rfl
    simp [this]
end Go.Proofs.YtliabblchkgclaaDoor

namespace Go.Proofs.YtliabblchkgclaaDoor
open Go Go.Av
abbrev PE := Int × Int
structure RS where
  l : List Tok
  opn : Nat
  sz : Nat
abbrev PR (α : Type) := Except PE (α × RS)
def reservedL : List (List UInt8) := [[58], [59], [40], [41], [45, 45], [91], [93], [123], [125], [116], [102]]
def reservedR (s : List UInt8) : Bool := reservedL.contains s
def countR (p : Int) (s : RS) : Except PE RS :=
  if 0 < s.opn then (if 1024 < s.sz + 1 then .error (p, 11) else .ok { s with sz := s.sz + 1 }) else .ok s
def enterR (p : Int) (s : RS) : Except PE RS :=
  if 32 < s.opn + 1 then .error (p, 11) else countR p { s with opn := s.opn + 1, sz := if s.opn + 1 = 1 then 0 else s.sz }
def atR (fin : Int) (l : List Tok) : Int := match l with
  | [] => fin
  | t :: _ => t.pos
def peekR (l : List Tok) : Option (List UInt8) := match l with
  | [] => none
  | t :: _ => if t.kind = 1 then some t.text else none
def takeR (fin : Int) (s : RS) : PR Tok := match s.l with
  | [] => .error (fin, 9)
  | t :: r => .ok (t, { s with l := r })
mutual
def litR (fin : Int) : Nat → RS → PR (Option Tree)
  | 0, _ => .error (0, -1)
  | k + 1, s => match s.l with
    | [] => .ok (none, s)
    | t :: r =>
      if t.kind = 2 then (match countR t.pos { s with l := r } with
        | .error e => .error e
        | .ok s' => .ok (some (.int t.n), s'))
      else if t.kind = 3 then (match countR t.pos { s with l := r } with
        | .error e => .error e
        | .ok s' => .ok (some (.str t.text), s'))
      else if t.text = [116] ∨ t.text = [102] then (match countR t.pos { s with l := r } with
        | .error e => .error e
        | .ok s' => .ok (some (.bool (decide (t.text = [116]))), s'))
      else if t.text = [91] then (match enterR t.pos { s with l := r } with
        | .error e => .error e
        | .ok s1 => match itemsR fin k [93] s1 [] with
          | .error e => .error e
          | .ok (ys, s2) => .ok (some (.quot ys), { s2 with opn := s2.opn - 1 }))
      else if t.text = [123] then (match enterR t.pos { s with l := r } with
        | .error e => .error e
        | .ok s1 => match valsR fin k s1 [] with
          | .error e => .error e
          | .ok (ys, s2) => .ok (some (.list ys), { s2 with opn := s2.opn - 1 }))
      else .ok (none, s)
def itemR (fin : Int) : Nat → RS → PR (Option Tree)
  | 0, _ => .error (0, -1)
  | k + 1, s => match litR fin k s with
    | .error e => .error e
    | .ok (some v, s') => .ok (some v, s')
    | .ok (none, s') => match peekR s'.l with
      | none => .ok (none, s')
      | some w => if reservedR w then .ok (none, s') else match takeR fin s' with
        | .error e => .error e
        | .ok (t, s1) => match countR t.pos s1 with
          | .error e => .error e
          | .ok s2 => .ok (some (.call w), s2)
def itemsR (fin : Int) : Nat → List UInt8 → RS → List Tree → PR (List Tree)
  | 0, _, _, _ => .error (0, -1)
  | k + 1, shut, s, acc => if peekR s.l = some shut then (match takeR fin s with
      | .error e => .error e
      | .ok (_, s') => .ok (acc, s'))
    else match itemR fin k s with
      | .error e => .error e
      | .ok (none, s') => .error (atR fin s'.l, 9)
      | .ok (some y, s') => itemsR fin k shut s' (acc ++ [y])
def valsR (fin : Int) : Nat → RS → List Tree → PR (List Tree)
  | 0, _, _ => .error (0, -1)
  | k + 1, s, acc => if peekR s.l = some [125] then (match takeR fin s with
      | .error e => .error e
      | .ok (_, s') => .ok (acc, s'))
    else match litR fin k s with
      | .error e => .error e
      | .ok (none, s') => .error (atR fin s'.l, 9)
      | .ok (some y, s') => valsR fin k s' (acc ++ [y])
end
def wordR (fin : Int) (want : List UInt8) (s : RS) : PR (List UInt8) := match peekR s.l with
  | none => .error (atR fin s.l, 9)
  | some w => if (want ≠ [] ∧ w ≠ want) ∨ (want = [] ∧ reservedR w = true) then .error (atR fin s.l, 9) else match takeR fin s with
    | .error e => .error e
    | .ok (_, s') => .ok (w, s')
def namesR (fin : Int) (shut : List UInt8) : Nat → RS → Nat → PR Nat
  | 0, _, _ => .error (0, -1)
  | k + 1, s, n => if peekR s.l = some shut then (match takeR fin s with
      | .error e => .error e
      | .ok (_, s') => .ok (n, s'))
    else match wordR fin [] s with
      | .error e => .error e
      | .ok (_, s') => if 16 < n + 1 then .error (atR fin s.l, 11) else namesR fin shut k s' (n + 1)
structure DefT where
  name : List UInt8
  inn : Nat
  out : Nat
  body : List Tree
/-- As many steps as suffice. -/
def fuel (s : RS) : Nat := 3 * s.l.length + 3
def defineR (fin : Int) (p : Int) (s : RS) : PR DefT := match enterR p s with
  | .error e => .error e
  | .ok s1 => match wordR fin [] s1 with
    | .error e => .error e
    | .ok (nm, s2) => match wordR fin [40] s2 with
      | .error e => .error e
      | .ok (_, s3) => match namesR fin [45, 45] (fuel s3) s3 0 with
        | .error e => .error e
        | .ok (i, s4) => match namesR fin [41] (fuel s4) s4 0 with
          | .error e => .error e
          | .ok (o, s5) => match itemsR fin (fuel s5) [59] s5 [] with
            | .error e => .error e
            | .ok (b, s6) => .ok (⟨nm, i, o, b⟩, { s6 with opn := s6.opn - 1 })
inductive FormT where
  | define (d : DefT)
  | item (t : Tree)
def formsR (fin : Int) : Nat → RS → List FormT → PR (List FormT)
  | 0, _, _ => .error (0, -1)
  | k + 1, s, acc => if peekR s.l = some [58] then (match takeR fin s with
      | .error e => .error e
      | .ok (t, s1) => match defineR fin t.pos s1 with
        | .error e => .error e
        | .ok (d, s2) => formsR fin k s2 (acc ++ [.define d]))
    else match itemR fin (fuel s) s with
      | .error e => .error e
      | .ok (none, s') => .ok (acc, s')
      | .ok (some y, s') => formsR fin k s' (acc ++ [.item y])
def onlyR (fin : Int) : Nat → RS → List Tree → PR (List Tree)
  | 0, _, _ => .error (0, -1)
  | k + 1, s, acc => match itemR fin (fuel s) s with
      | .error e => .error e
      | .ok (none, s') => .ok (acc, s')
      | .ok (some y, s') => onlyR fin k s' (acc ++ [y])
def finR {α : Type} (fin : Int) (x : PR (List α)) : List α × Int × Int := match x with
  | .error e => ([], e.1, e.2)
  | .ok x => if x.2.l ≠ [] then ([], atR fin x.2.l, 9) else (x.1, 0, 0)
def readR {α : Type} (s : List UInt8) (what : RS → PR (List α)) : List α × Int × Int :=
  if (tokensR s).2.2 ≠ 0 then ([], (tokensR s).2.1, (tokensR s).2.2) else finR s.length (what ⟨(tokensR s).1, 0, 0⟩)
def parseR (s : List UInt8) : List FormT × Int × Int := readR s fun r => formsR s.length (r.l.length + 1) r []
def itemsOnlyR (s : List UInt8) : List Tree × Int × Int := readR s fun r => onlyR s.length (r.l.length + 1) r []
end Go.Proofs.YtliabblchkgclaaDoor

namespace Go.Proofs.YtliabblchkgclaaDoor
open Go Go.Av
structure TokI where
  o : Option Nat
  p : Nat
  out : List Tok
theorem f18_nat (r : Nat) (hr : r ≤ 1114111) : Av.Fn Tryd.prog 69 [.int .i32 r] (.bool (blankB r)) := f18_of r (by omega)
theorem take_toksC (l : List Tok) : (toksC l).take (l.length * 4) = toksC l := List.take_of_length_le (by simp)






end Go.Proofs.YtliabblchkgclaaDoor

namespace Go.Proofs.YtliabblchkgclaaDoor
open Go Go.Av
def rbox (fin b : Nat) (s : RS) : Nat × AObj := (b, .box [.fz (toksC s.l) s.l.length false, .int .i64 fin, .int .i64 s.opn, .int .i64 s.sz])
def peekV (x : Option (List UInt8)) : AV := match x with
  | none => .tup [.str [], .bool false]
  | some w => .tup [.str w, .bool true]


theorem drop_toksC (t : Tok) (r : List Tok) : List.drop 4 (List.take ((r.length + 1) * 4) (toksC (t :: r))) = toksC r := by
  rw [show (r.length + 1) * 4 = (t :: r).length * 4 from rfl, take_toksC]; rfl
def idxL (s : List UInt8) : List (List UInt8) → Int
  | [] => -1
  | x :: r => if s = x then 0 else if idxL s r < 0 then -1 else idxL s r + 1
theorem idxL_has (s : List UInt8) : ∀ l : List (List UInt8), decide (0 ≤ idxL s l) = l.contains s
  | [] => by simp [idxL]
  | x :: r => by
    have ih := idxL_has s r
    rw [List.contains_cons, ← ih, idxL]
    by_cases h : s = x
    · simp [h]
    · have : (s == x) = false := by simpa using h
      rw [if_neg h, this, Bool.false_or, decide_eq_decide]
      split <;> omega
theorem fn_Index (l : List (List UInt8)) (s : List UInt8) (hl : l.length ≤ 1000000) : Av.Fn Tryd.prog 76 [.fz (l.map .str) l.length false, .str s] (.int .i64 (idxL s l)) := by
  refine ACalls.of_W tb_ok (fn := Tryd.f76) (n := 19) (by kernel_rfl) rfl (by kernel_rfl) rfl rfl (by simp) (go ?_)
  refine VLoop.mk [8] Nat (fun i => [.int .i64 i]) (fun _ => []) (fun i => i ≤ l.length ∧ idxL s l = if idxL s (l.drop i) < 0 then -1 else idxL s (l.drop i) + i) (fun i => l.length - i) 0 ?_ ?_
  · refine ⟨⟨by omega, ?_⟩, rfl, .nil⟩
    have : -1 ≤ idxL s l := by
      cases l with
      | nil => simp [idxL]
      | cons x r => unfold idxL; repeat' split
                    all_goals omega
    simp; intro _; omega
  intro i ⟨hi, hI⟩
  refine go ?_
  refine fork (fun hlt => go ?_) (fun hlt => go ?_)
  · have hlt : i < l.length := by omega
    have hx : l[i]? = some l[i] := by simp [hlt]
    rw [List.drop_eq_getElem_cons hlt, idxL] at hI
    refine VNth.mk (.str l[i]) (by simp [hx]) (go ?_)
    refine fork (fun he => go ?_) (fun he => go ?_)
    · rw [if_pos he] at hI
      refine VRet.mk [] .nil ?_
      rw [hI]; simp
    · rw [if_neg he] at hI
      refine ⟨i + 1, ⟨by omega, ?_⟩, by omega, rfl, .nil⟩
      rw [hI]
      repeat' split
      all_goals omega
  · rw [List.drop_eq_nil_of_le (by omega), idxL] at hI
    refine VRet.mk [] .nil ?_
    rw [hI]; simp
theorem fn_Contains (l : List (List UInt8)) (s : List UInt8) (hl : l.length ≤ 1000000) : Av.Fn Tryd.prog 71 [.fz (l.map .str) l.length false, .str s] (.bool (l.contains s)) := by
  have h1 := fn_Index l s hl
  refine ACalls.of_W tb_ok (fn := Tryd.f71) (n := 9) (by kernel_rfl) rfl (by kernel_rfl) rfl rfl (by simp) (go ?_)
  refine Fn.use (h1) (go ?_)
  refine VRet.mk [] .nil ?_
  rw [idxL_has]; exact ⟨rfl, rfl⟩
theorem f_Reserved (s : List UInt8) : Av.Fn Tryd.prog 68 [.str s] (.bool (reservedR s)) := by
  have h := fn_Contains reservedL s (by decide)
  refine ACalls.of_W tb_ok (fn := Tryd.f68) (n := 6) (by kernel_rfl) rfl (by kernel_rfl) rfl rfl (by simp) (go ?_)
  refine Fn.use (h) (go ?_)
  refine VRet.mk [] .nil ?_
  exact ⟨rfl, rfl⟩
theorem takeR_less {fin : Int} {s : RS} {x : Tok × RS} (h : takeR fin s = .ok x) : x.2.l.length < s.l.length ∧ x.2.opn = s.opn ∧ x.2.sz = s.sz := by
  unfold takeR at h
  split at h
  · cases h
  · rename_i t r hl
    cases h
    rw [hl]
    exact ⟨by simp, rfl, rfl⟩
theorem wordR_less {fin : Int} {want : List UInt8} {s : RS} {x : List UInt8 × RS} (h : wordR fin want s = .ok x) : x.2.l.length < s.l.length ∧ x.2.opn = s.opn ∧ x.2.sz = s.sz := by
  unfold wordR at h
  split at h
  · cases h
  · split at h
    · cases h
    · split at h
      · cases h
      · rename_i t s' ht
        cases h
        exact takeR_less ht
structure NmI where
  k : Nat
  s : RS
  n : Nat

end Go.Proofs.YtliabblchkgclaaDoor

namespace Go.Proofs.YtliabblchkgclaaDoor
open Go Go.Av
theorem countR_ok {p : Int} {s s' : RS} (h : countR p s = .ok s') : s'.l = s.l ∧ s'.opn = s.opn ∧ (s.sz ≤ 1024 → s'.sz ≤ 1024) := by
  unfold countR at h
  split at h
  · split at h
    · cases h
    · cases h; exact ⟨rfl, rfl, fun _ => by dsimp only; omega⟩
  · cases h; exact ⟨rfl, rfl, id⟩
theorem enterR_ok {p : Int} {s s' : RS} (h : enterR p s = .ok s') : s'.l = s.l ∧ s'.opn = s.opn + 1 ∧ s.opn + 1 ≤ 32 ∧ (s.sz ≤ 1024 → s'.sz ≤ 1024) := by
  unfold enterR at h
  split at h
  · cases h
  · obtain ⟨h1, h2, h3⟩ := countR_ok h
    exact ⟨h1, h2, by omega, fun hs => h3 (by dsimp only; split <;> omega)⟩
structure Less (s s' : RS) (p : Prop) : Prop where
  opn : s'.opn = s.opn
  le : s'.l.length ≤ s.l.length
  sz : s.sz ≤ 1024 → s'.sz ≤ 1024
  lt : p → s'.l.length < s.l.length
theorem takeR_ok {fin : Int} {s : RS} {x : Tok × RS} (h : takeR fin s = .ok x) : Less s x.2 True ∧ x.2.sz = s.sz := by
  unfold takeR at h
  split at h
  · cases h
  · rename_i t r hl
    cases h
    exact ⟨⟨rfl, by rw [hl]; simp, id, fun _ => by rw [hl]; simp⟩, rfl⟩
theorem parse_less (fin : Int) : ∀ k, (∀ s x, litR fin k s = .ok x → Less s x.2 (x.1 ≠ none) ∧ (x.1 = none → x.2 = s)) ∧ (∀ s x, itemR fin k s = .ok x → Less s x.2 (x.1 ≠ none) ∧ (x.1 = none → x.2 = s)) ∧
    (∀ shut s acc x, itemsR fin k shut s acc = .ok x → Less s x.2 True) ∧ (∀ s acc x, valsR fin k s acc = .ok x → Less s x.2 True) := by
  intro k
  induction k with
  | zero =>
    refine ⟨?_, ?_, ?_, ?_⟩
    · intro s x h; simp [litR] at h
    · intro s x h; simp [itemR] at h
    · intro shut s acc x h; simp [itemsR] at h
    · intro s acc x h; simp [valsR] at h
  | succ k ih =>
    obtain ⟨ih1, ih2, ih3, ih4⟩ := ih
    refine ⟨?_, ?_, ?_, ?_⟩
    · intro s x h
      rw [litR] at h
      split at h
      · cases h; exact ⟨⟨rfl, Nat.le_refl _, id, fun h => absurd rfl h⟩, fun _ => rfl⟩
      · rename_i t r hl
        have cnt : ∀ {v : Tree} {x : Option Tree × RS}, (match countR t.pos { s with l := r } with
            | .error e => (.error e : PR (Option Tree))
            | .ok s' => .ok (some v, s')) = .ok x → Less s x.2 (x.1 ≠ none) ∧ (x.1 = none → x.2 = s) := by
          intro v x h
          split at h
          · cases h
          · rename_i s' hc
            cases h
            obtain ⟨h1, h2, h3⟩ := countR_ok hc
            exact ⟨⟨h2, by rw [h1, hl]; simp, h3, fun _ => by rw [h1, hl]; simp⟩, fun h => by cases h⟩
        split at h
        · exact cnt h
        · split at h
          · exact cnt h
          · split at h
            · exact cnt h
            · split at h
              · split at h
                · cases h
                · rename_i s1 he
                  obtain ⟨h1, h2, _, h3⟩ := enterR_ok he
                  split at h
                  · cases h
                  · rename_i ys s2 hi
                    cases h
                    have hl2 := ih3 _ _ _ _ hi
                    have hlt := hl2.lt trivial
                    have ho := hl2.opn
                    dsimp only at hlt ho h1 h2
                    rw [h1] at hlt
                    exact ⟨⟨by dsimp only; omega, by dsimp only; rw [hl]; simp; omega, fun hs => hl2.sz (h3 hs), fun _ => by dsimp only; rw [hl]; simp; omega⟩, fun h => by cases h⟩
              · split at h
                · split at h
                  · cases h
                  · rename_i s1 he
                    obtain ⟨h1, h2, _, h3⟩ := enterR_ok he
                    split at h
                    · cases h
                    · rename_i ys s2 hi
                      cases h
                      have hl2 := ih4 _ _ _ hi
                      have hlt := hl2.lt trivial
                      have ho := hl2.opn
                      dsimp only at hlt ho h1 h2
                      rw [h1] at hlt
                      exact ⟨⟨by dsimp only; omega, by dsimp only; rw [hl]; simp; omega, fun hs => hl2.sz (h3 hs), fun _ => by dsimp only; rw [hl]; simp; omega⟩, fun h => by cases h⟩
                · cases h; exact ⟨⟨rfl, Nat.le_refl _, id, fun h => absurd rfl h⟩, fun _ => rfl⟩
    · intro s x h
      rw [itemR] at h
      split at h
      · cases h
      · rename_i v s' hv
        cases h
        obtain ⟨h1, h2⟩ := ih1 _ _ hv
        exact ⟨⟨h1.opn, h1.le, h1.sz, fun _ => h1.lt (by simp)⟩, fun h => by cases h⟩
      · rename_i s' hv
        obtain ⟨h1, h2⟩ := ih1 _ _ hv
        have h2 := h2 rfl
        dsimp only at h2
        subst h2
        split at h
        · cases h; exact ⟨⟨rfl, Nat.le_refl _, id, fun h => absurd rfl h⟩, fun _ => rfl⟩
        · split at h
          · cases h; exact ⟨⟨rfl, Nat.le_refl _, id, fun h => absurd rfl h⟩, fun _ => rfl⟩
          · split at h
            · cases h
            · rename_i t s1 ht
              obtain ⟨t1, t2⟩ := takeR_ok ht
              have t3 := t1.lt trivial
              split at h
              · cases h
              · rename_i s2 hc
                cases h
                obtain ⟨c1, c2, c3⟩ := countR_ok hc
                have t4 := t1.opn
                dsimp only at t2 t3 t4
                exact ⟨⟨by dsimp only; omega, by dsimp only; rw [c1]; omega, fun hs => c3 (by omega), fun _ => by dsimp only; rw [c1]; omega⟩, fun h => by cases h⟩
    · intro shut s acc x h
      rw [itemsR] at h
      split at h
      · split at h
        · cases h
        · rename_i s' ht
          cases h
          exact (takeR_ok ht).1
      · split at h
        · cases h
        · cases h
        · rename_i y s' hi
          obtain ⟨h1, _⟩ := ih2 _ _ hi
          have h2 := ih3 _ _ _ _ h
          have h3 := h1.lt (by simp)
          have h4 := h2.lt trivial
          have h5 := h1.opn
          have h6 := h2.opn
          dsimp only at h3 h5
          exact ⟨by omega, by omega, fun hs => h2.sz (h1.sz hs), fun _ => by omega⟩
    · intro s acc x h
      rw [valsR] at h
      split at h
      · split at h
        · cases h
        · rename_i s' ht
          cases h
          exact (takeR_ok ht).1
      · split at h
        · cases h
        · cases h
        · rename_i y s' hi
          obtain ⟨h1, _⟩ := ih1 _ _ hi
          have h2 := ih4 _ _ _ h
          have h3 := h1.lt (by simp)
          have h4 := h2.lt trivial
          have h5 := h1.opn
          have h6 := h2.opn
          dsimp only at h3 h5
          exact ⟨by omega, by omega, fun hs => h2.sz (h1.sz hs), fun _ => by omega⟩
/-- A fault has a number. -/
def Faulty {α : Type} (x : PR α) : Prop := ∀ e, x = .error e → e.2 ≠ 0
theorem countR_err {p : Int} {s : RS} {e : PE} (h : countR p s = .error e) : e.2 ≠ 0 := by
  unfold countR at h
  split at h
  · split at h
    · cases h; show (11 : Int) ≠ 0; decide
    · cases h
  · cases h
theorem enterR_err {p : Int} {s : RS} {e : PE} (h : enterR p s = .error e) : e.2 ≠ 0 := by
  unfold enterR at h
  split at h
  · cases h; show (11 : Int) ≠ 0; decide
  · exact countR_err h
theorem takeR_err {fin : Int} {s : RS} {e : PE} (h : takeR fin s = .error e) : e.2 ≠ 0 := by
  unfold takeR at h
  split at h
  · cases h; show (9 : Int) ≠ 0; decide
  · cases h
theorem parse_err (fin : Int) : ∀ k, (∀ s e, litR fin k s = .error e → e.2 ≠ 0) ∧ (∀ s e, itemR fin k s = .error e → e.2 ≠ 0) ∧
    (∀ shut s acc e, itemsR fin k shut s acc = .error e → e.2 ≠ 0) ∧ (∀ s acc e, valsR fin k s acc = .error e → e.2 ≠ 0) := by
  intro k
  induction k with
  | zero =>
    refine ⟨?_, ?_, ?_, ?_⟩
    · intro s e h; rw [litR] at h; cases h; decide
    · intro s e h; rw [itemR] at h; cases h; decide
    · intro shut s acc e h; rw [itemsR] at h; cases h; decide
    · intro s acc e h; rw [valsR] at h; cases h; decide
  | succ k ih =>
    obtain ⟨ih1, ih2, ih3, ih4⟩ := ih
    refine ⟨?_, ?_, ?_, ?_⟩
    · intro s e h
      rw [litR] at h
      split at h
      · cases h
      · have cnt : ∀ {t : Tok} {r : List Tok} {v : Tree}, (match countR t.pos { s with l := r } with
            | .error e => (.error e : PR (Option Tree))
            | .ok s' => .ok (some v, s')) = .error e → e.2 ≠ 0 := by
          intro t r v h
          split at h
          · rename_i hc; cases h; exact countR_err hc
          · cases h
        split at h
        · exact cnt h
        · split at h
          · exact cnt h
          · split at h
            · exact cnt h
            · split at h
              · split at h
                · rename_i he; cases h; exact enterR_err he
                · split at h
                  · rename_i hi; cases h; exact ih3 _ _ _ _ hi
                  · cases h
              · split at h
                · split at h
                  · rename_i he; cases h; exact enterR_err he
                  · split at h
                    · rename_i hi; cases h; exact ih4 _ _ _ hi
                    · cases h
                · cases h
    · intro s e h
      rw [itemR] at h
      split at h
      · rename_i hv; cases h; exact ih1 _ _ hv
      · cases h
      · split at h
        · cases h
        · split at h
          · cases h
          · split at h
            · rename_i ht; cases h; exact takeR_err ht
            · split at h
              · rename_i hc; cases h; exact countR_err hc
              · cases h
    · intro shut s acc e h
      rw [itemsR] at h
      split at h
      · split at h
        · rename_i ht; cases h; exact takeR_err ht
        · cases h
      · split at h
        · rename_i hi; cases h; exact ih2 _ _ hi
        · cases h; show (9 : Int) ≠ 0; decide
        · exact ih3 _ _ _ _ h
    · intro s acc e h
      rw [valsR] at h
      split at h
      · split at h
        · rename_i ht; cases h; exact takeR_err ht
        · cases h
      · split at h
        · rename_i hi; cases h; exact ih1 _ _ hi
        · cases h; show (9 : Int) ≠ 0; decide
        · exact ih4 _ _ _ h
theorem onlyR_err {fin : Int} : ∀ {k : Nat} {s : RS} {acc : List Tree} {e : PE}, onlyR fin k s acc = .error e → e.2 ≠ 0
  | 0, s, acc, e, h => by rw [onlyR] at h; cases h; decide
  | k + 1, s, acc, e, h => by
    rw [onlyR] at h
    split at h
    · rename_i hi; cases h; exact (parse_err fin _).2.1 _ _ hi
    · cases h
    · exact onlyR_err h
theorem wordR_err {fin : Int} {want : List UInt8} {s : RS} {e : PE} (h : wordR fin want s = .error e) : e.2 ≠ 0 := by
  unfold wordR at h
  split at h
  · cases h; show (9 : Int) ≠ 0; decide
  · split at h
    · cases h; show (9 : Int) ≠ 0; decide
    · split at h
      · rename_i ht; cases h; exact takeR_err ht
      · cases h
theorem namesR_err {fin : Int} {shut : List UInt8} : ∀ {k : Nat} {s : RS} {n : Nat} {e : PE}, namesR fin shut k s n = .error e → e.2 ≠ 0
  | 0, s, n, e, h => by rw [namesR] at h; cases h; decide
  | k + 1, s, n, e, h => by
    rw [namesR] at h
    split at h
    · split at h
      · rename_i ht; cases h; exact takeR_err ht
      · cases h
    · split at h
      · rename_i hw; cases h; exact wordR_err hw
      · split at h
        · cases h; show (11 : Int) ≠ 0; decide
        · exact namesR_err h
theorem defineR_err {fin p : Int} {s : RS} {e : PE} (h : defineR fin p s = .error e) : e.2 ≠ 0 := by
  unfold defineR at h
  split at h
  · rename_i h1; cases h; exact enterR_err h1
  · split at h
    · rename_i h1; cases h; exact wordR_err h1
    · split at h
      · rename_i h1; cases h; exact wordR_err h1
      · split at h
        · rename_i h1; cases h; exact namesR_err h1
        · split at h
          · rename_i h1; cases h; exact namesR_err h1
          · split at h
            · rename_i h1; cases h; exact (parse_err fin _).2.2.1 _ _ _ _ h1
            · cases h
theorem formsR_err {fin : Int} : ∀ {k : Nat} {s : RS} {acc : List FormT} {e : PE}, formsR fin k s acc = .error e → e.2 ≠ 0
  | 0, s, acc, e, h => by rw [formsR] at h; cases h; decide
  | k + 1, s, acc, e, h => by
    rw [formsR] at h
    split at h
    · split at h
      · rename_i ht; cases h; exact takeR_err ht
      · split at h
        · rename_i hd; cases h; exact defineR_err hd
        · exact formsR_err h
    · split at h
      · rename_i hi; cases h; exact (parse_err fin _).2.1 _ _ hi
      · cases h
      · exact formsR_err h
end Go.Proofs.YtliabblchkgclaaDoor

namespace Go.Proofs.YtliabblchkgclaaDoor
open Go Go.Av
def litV (x : Option Tree) : AV := match x with
  | none => .tup [.nili, .bool false]
  | some t => .tup [valAV t, .bool true]
def itemV (x : Option Tree) : AV := match x with
  | none => .tup [.nili, .bool false]
  | some t => .tup [itemAV t, .bool true]
structure RsOk (s : RS) : Prop where
  opn : s.opn ≤ 32
  sz : s.sz ≤ 1024
  cnt : s.l.length ≤ 4096
/-- Something that is handed back as it is. -/
theorem ret_same {Post : AOut → St → Prop} {out : AOut} {st st' : St} (h : VSel st' st) (k : Post out st') : VRet (fun out st' => ∃ out' st'', FzO out out' st' st'' ∧ Post out' st'') out st :=
  VRet.mk st' h ⟨out, st', .same _ _, k⟩



structure VlI where
  k : Nat
  s : RS
  acc : List Tree
  o : Option Nat
structure ItI where
  k : Nat
  s : RS
  acc : List Tree
  o : Option Nat

theorem litR_plain (fin : Int) : ∀ (k : Nat) (s s' : RS) (v : Tree), litR fin k s = .ok (some v, s') → itemAV v = .iface 59 (.agg [valAV v]) := by
  intro k s s' v h
  cases k with
  | zero => simp [litR] at h
  | succ k =>
    rw [litR] at h
    split at h
    · cases h
    · split at h
      · split at h
        · cases h
        · cases h; rfl
      · split at h
        · split at h
          · cases h
          · cases h; rfl
        · split at h
          · split at h
            · cases h
            · cases h; rfl
          · split at h
            · split at h
              · cases h
              · split at h
                · cases h
                · cases h; rfl
            · split at h
              · split at h
                · cases h
                · split at h
                  · cases h
                  · cases h; rfl
              · cases h
end Go.Proofs.YtliabblchkgclaaDoor

namespace Go.Proofs.YtliabblchkgclaaDoor
open Go Go.Av
theorem spanR_append (p : Nat → Bool) : ∀ (a b : List (Nat × Nat)), spanR p (a ++ b) = if a.any (fun x => p x.1) then spanR p a else (a.map (·.2)).sum + spanR p b
  | [], b => by simp
  | (r, k) :: a, b => by
    rw [List.cons_append, spanR, spanR_append p a b]
    cases h : p r with
    | true => simp [h, spanR]
    | false =>
      simp only [h, List.any_cons, Bool.false_or, Bool.false_eq_true, if_false, spanR, List.map_cons, List.sum_cons]
      split <;> omega
theorem blank_nl : blankB ((10 : UInt8).toNat : Nat) = true := by decide
theorem wlen_nl (r t : List UInt8) : wlen (r ++ 10 :: t) = wlen r := by
  unfold wlen
  rw [runes_app r 10 t (by decide), spanR_append]
  split
  · rfl
  · rename_i h
    rw [runes_ascii 10 t (by decide), spanR, if_pos blank_nl, spanR_none (by simpa using h)]; rfl
theorem trimL_nl (l t : List UInt8) : trimL (l ++ 10 :: t) = if trimL l = [] then trimL t else trimL l ++ 10 :: t := by
  unfold trimL
  rw [runes_app l 10 t (by decide), spanR_append]
  by_cases h : (runes l).any (fun x => !blankB x.1) = true
  · rw [if_pos h]
    have hlt : spanR (fun r => !blankB r) (runes l) < l.length := by
      rw [← sum_runes l]
      clear t
      have hp : ∀ x ∈ runes l, 1 ≤ x.2 := by
        clear h
        induction l using runes_ind with
        | h0 => simp
        | h1 l hl ih =>
          rw [runes_cons hl]
          intro x hx
          rcases List.mem_cons.1 hx with rfl | hx
          · exact (dec_pos l hl).1
          · exact ih x hx
      revert h hp
      generalize runes l = rs
      intro h hp
      induction rs with
      | nil => simp at h
      | cons c rs ih =>
        obtain ⟨r, k⟩ := c
        have hk : 1 ≤ k := hp (r, k) (List.mem_cons_self ..)
        rw [spanR, List.map_cons, List.sum_cons]
        cases hr : blankB r with
        | false => simp; omega
        | true =>
          simp [hr] at h
          have := ih (by simpa using h) (fun x hx => hp x (List.mem_cons_of_mem _ hx))
          simp; omega
    rw [if_neg (by simp; omega), List.drop_append_of_le_length (by omega)]
  · rw [if_neg h]
    rw [Bool.not_eq_true] at h
    rw [spanR_none (rs := runes l) h, sum_runes, if_pos (by simp), runes_ascii 10 t (by decide), spanR]
    rw [if_neg (by rw [blank_nl]; simp)]
    rw [show l.length + (1 + spanR (fun r => !blankB r) (runes t)) = l.length + (spanR (fun r => !blankB r) (runes t) + 1) by omega, ← List.drop_drop, List.drop_left]
    rfl
theorem trimL_nl0 (t : List UInt8) : trimL (10 :: t) = trimL t := by
  have := trimL_nl [] t
  rw [if_pos (show trimL [] = [] from rfl)] at this; exact this
theorem indexByte_nl : ∀ (r t : List UInt8), Lib.indexByte (r ++ 10 :: t) 10 = if Lib.indexByte r 10 < 0 then (r.length : Int) else Lib.indexByte r 10
  | [], t => by simp [Lib.indexByte]
  | c :: r, t => by
    have ih := indexByte_nl r t
    have hb := indexByte_lt r 10
    have hb2 := indexByte_lt (r ++ 10 :: t) 10
    rw [List.cons_append]
    unfold Lib.indexByte
    rw [ih] at hb2 ⊢
    simp only [beq_iff_eq, List.length_cons]
    repeat' split
    all_goals omega
theorem textL_app (a : Nat) (y : List UInt8) : ∀ (r acc : List UInt8) (i : Nat), (textL a r acc i).2.2 = 0 → textL a (r ++ y) acc i = textL a r acc i
  | [], acc, i, h => by simp [textL] at h
  | c :: r, acc, i, h => by
    rw [List.cons_append, textL_cons, textL_cons]
    rw [textL_cons] at h
    by_cases h1 : c = 34
    · rw [if_pos h1, if_pos h1]
    · rw [if_neg h1] at h ⊢
      rw [if_neg h1]
      by_cases h2 : c = 92
      · rw [if_pos h2] at h ⊢
        rw [if_pos h2]
        match r with
        | [] => simp at h
        | d :: r' =>
          rw [List.cons_append]
          dsimp only at h ⊢
          cases he : esc d with
          | none => rfl
          | some e =>
            rw [he] at h
            dsimp only at h ⊢
            exact textL_app a y r' _ _ h
      · rw [if_neg h2] at h ⊢
        rw [if_neg h2]
        exact textL_app a y r _ _ h
theorem textL_shift (a d : Nat) : ∀ (r acc : List UInt8) (i : Nat), textL (d + a) r acc (d + i) = ((textL a r acc i).1, (d : Int) + (textL a r acc i).2.1, (textL a r acc i).2.2)
  | [], acc, i => by simp [textL]
  | c :: r, acc, i => by
    rw [textL_cons, textL_cons]
    by_cases h1 : c = 34
    · rw [if_pos h1, if_pos h1]
      by_cases h2 : acc.length > 4096
      · rw [if_pos h2, if_pos h2]; simp
      · rw [if_neg h2, if_neg h2]; simp; try omega
    · rw [if_neg h1, if_neg h1]
      by_cases h2 : c = 92
      · rw [if_pos h2, if_pos h2]
        match r with
        | [] => simp
        | d' :: r' =>
          dsimp only
          cases he : esc d' with
          | none => simp
          | some e =>
            dsimp only
            rw [show d + i + 2 = d + (i + 2) by omega]
            exact textL_shift a d r' _ _
      · rw [if_neg h2, if_neg h2, show d + i + 1 = d + (i + 1) by omega]
        exact textL_shift a d r _ _
/-- What a step is where a line's end and more stand behind. -/
def stepApp (y : List UInt8) : TStep → TStep
  | .skip l => .skip (l ++ y)
  | .tok t l => .tok t (l ++ y)
  | .bad p e => .bad p e
  | .stop => .skip y
theorem tokAt_nl (n : Nat) (r t : List UInt8) (hr : r.length ≤ n) (hne : r.take (wlen r) ≠ []) (hbad : ∀ p e, tokAt n r ≠ .bad p e) :
    tokAt (n + 1 + t.length) (r ++ 10 :: t) = stepApp (10 :: t) (tokAt n r) := by
  have hw := wlen_le r
  have htk : (r ++ 10 :: t).take (wlen r) = r.take (wlen r) := List.take_append_of_le_length hw
  have hN : n + 1 + t.length - (r ++ 10 :: t).length = n - r.length := by simp; omega
  unfold tokAt at hbad ⊢
  rw [wlen_nl, htk, hN]
  by_cases h1 : r.take (wlen r) = [33]
  · rw [if_pos h1, if_pos h1, indexByte_nl]
    have hb := indexByte_lt r 10
    by_cases h2 : Lib.indexByte r 10 < 0
    · rw [if_pos h2, if_pos h2, if_neg (by omega), stepApp, show ((r.length : Int)).toNat = r.length by omega, List.drop_left]
    · rw [if_neg h2, if_neg h2, if_neg h2, stepApp, List.drop_append_of_le_length (by omega)]
  · rw [if_neg h1] at hbad ⊢
    rw [if_neg h1]
    cases hx : r.take (wlen r) with
    | nil => exact absurd hx hne
    | cons c q =>
      rw [hx] at hbad
      dsimp only at hbad ⊢
      have hdrop : (r ++ 10 :: t).drop (wlen r) = r.drop (wlen r) ++ 10 :: t := List.drop_append_of_le_length hw
      have hr0 : 1 ≤ r.length := by
        cases r with
        | nil => simp at hx
        | cons => simp
      by_cases h3 : c = 34
      · rw [if_pos h3] at hbad ⊢
        rw [if_pos h3]
        rw [List.drop_append_of_le_length (l₁ := r) hr0]
        by_cases he : (textL (n - r.length) (r.drop 1) [] (n - r.length + 1)).2.2 = 0
        · rw [textL_app _ _ _ _ _ he]
          have hnx := textL_next _ _ _ _ he
          rw [if_pos he, if_pos he, stepApp, List.drop_append_of_le_length]
          rw [List.length_drop] at hnx; omega
        · rw [if_neg he] at hbad; exact absurd rfl (hbad _ _)
      · rw [if_neg h3] at hbad ⊢
        rw [if_neg h3]
        rw [hdrop]
        cases hd : (digitsR (c :: q)).2.1 with
        | true =>
          rw [hd] at hbad
          rw [if_pos rfl] at hbad ⊢
          cases ho : (digitsR (c :: q)).2.2 with
          | true => rw [ho] at *; simp [stepApp]
          | false => rw [ho] at hbad; simp at hbad
        | false =>
          rw [hd] at hbad
          rw [if_neg (by simp)] at hbad ⊢
          cases ho : nameR (c :: q) with
          | true => rw [ho] at *; simp [stepApp]
          | false => rw [ho] at hbad; simp at hbad
theorem textL_bad (a : Nat) : ∀ (r acc : List UInt8) (i : Nat), (textL a r acc i).2.2 = 0 ∨ (textL a r acc i).2.2 = 9 ∨ (textL a r acc i).2.2 = 11
  | [], acc, i => by simp [textL]
  | c :: r, acc, i => by
    rw [textL_cons]
    by_cases h1 : c = 34
    · rw [if_pos h1]
      by_cases h2 : acc.length > 4096
      · rw [if_pos h2]; simp
      · rw [if_neg h2]; simp
    · rw [if_neg h1]
      by_cases h2 : c = 92
      · rw [if_pos h2]
        match r with
        | [] => simp
        | d' :: r' =>
          dsimp only
          cases he : esc d' with
          | none => simp
          | some e => exact textL_bad a r' _ _
      · rw [if_neg h2]; exact textL_bad a r _ _
theorem tokAt_bad (n : Nat) (r : List UInt8) (p : Int) : tokAt n r ≠ .bad p 0 := by
  intro h
  unfold tokAt at h
  split at h
  · split at h <;> cases h
  · split at h
    · cases h
    · split at h
      · split at h
        · cases h
        · rename_i hne
          injection h with _ h
          exact hne h
      · split at h
        · split at h
          · cases h
          · injection h with _ h; exact absurd h (by decide)
        · split at h
          · cases h
          · injection h with _ h; exact absurd h (by decide)
theorem tokAt_pos {n : Nat} {r l' : List UInt8} {t : Tok} (h : tokAt n r = .tok t l') : 0 ≤ t.pos ∧ t.pos ≤ n := by
  unfold tokAt at h
  split at h
  · split at h <;> cases h
  · split at h
    · cases h
    · split at h
      · split at h
        · injection h with h _; subst h; dsimp only; omega
        · cases h
      · split at h
        · split at h
          · injection h with h _; subst h; dsimp only; omega
          · cases h
        · split at h
          · injection h with h _; subst h; dsimp only; omega
          · cases h
/-- Tokens are only added. -/
theorem toks_len (n : Nat) : ∀ (l : List UInt8) (out : List Tok), (toks n l out).2.2 = 0 → out.length ≤ (toks n l out).1.length := by
  intro l
  induction hm : l.length using Nat.strongRecOn generalizing l with
  | _ m ih =>
    intro out h
    rw [toks_step] at h ⊢
    by_cases e : l = []
    · rw [if_pos e]; exact Nat.le_refl _
    · rw [if_neg e] at h ⊢
      have hl := trimL_le l
      cases hs : tokAt n (trimL l) with
      | stop => exact Nat.le_refl _
      | bad p e' => rw [hs] at h; dsimp only at h; subst h; exact absurd hs (tokAt_bad _ _ _)
      | skip l' =>
        rw [hs] at h
        have := (tokAt_less (.inl hs)).1
        exact ih _ (by omega) l' rfl out h
      | tok t l' =>
        rw [hs] at h
        have := (tokAt_less (.inr ⟨t, hs⟩)).1
        dsimp only at h ⊢
        by_cases hb : out.length ≥ 4096
        · rw [if_pos hb] at h; simp at h
        · rw [if_neg hb] at h ⊢
          have := ih _ (by omega) l' rfl (out ++ [t]) h
          simp at this; omega
def Tok.shift (d : Nat) (t : Tok) : Tok := { t with pos := d + t.pos }
def stepShift (d : Nat) : TStep → TStep
  | .skip l => .skip l
  | .tok t l => .tok (t.shift d) l
  | .bad p e => .bad (d + p) e
  | .stop => .stop
theorem tokAt_shift (n d : Nat) (r : List UInt8) (hr : r.length ≤ n) : tokAt (d + n) r = stepShift d (tokAt n r) := by
  have hN : d + n - r.length = d + (n - r.length) := by omega
  unfold tokAt
  rw [hN]
  by_cases h1 : r.take (wlen r) = [33]
  · rw [if_pos h1, if_pos h1]
    by_cases h2 : Lib.indexByte r 10 < 0
    · rw [if_pos h2, stepShift]
    · rw [if_neg h2, stepShift]
  · rw [if_neg h1, if_neg h1]
    cases hx : r.take (wlen r) with
    | nil => rfl
    | cons c q =>
      dsimp only
      by_cases h3 : c = 34
      · rw [if_pos h3, if_pos h3]
        have hs := textL_shift (n - r.length) d (r.drop 1) [] (n - r.length + 1)
        rw [show d + (n - r.length + 1) = d + (n - r.length) + 1 by omega] at hs
        rw [hs]
        dsimp only
        by_cases he : (textL (n - r.length) (r.drop 1) [] (n - r.length + 1)).2.2 = 0
        · rw [if_pos he, if_pos he, stepShift]
          simp only [Tok.shift]
          congr 2
          omega
        · rw [if_neg he, if_neg he, stepShift]
      · rw [if_neg h3, if_neg h3]
        cases hd : (digitsR (c :: q)).2.1 with
        | true =>
          cases ho : (digitsR (c :: q)).2.2 with
          | true => simp [stepShift, Tok.shift]
          | false => simp [stepShift]
        | false =>
          cases ho : nameR (c :: q) with
          | true => simp [stepShift, Tok.shift]
          | false => simp [stepShift]
/-- The rest of a text, where it stands further behind, and behind other tokens. -/
theorem toks_shift (n d : Nat) : ∀ (m : Nat) (l : List UInt8) (out pre : List Tok), l.length ≤ m → l.length ≤ n → (toks n l out).2.2 = 0 → pre.length + (toks n l out).1.length ≤ 4096 →
    toks (d + n) l (pre ++ out.map (Tok.shift d)) = (pre ++ (toks n l out).1.map (Tok.shift d), 0, 0) := by
  intro m
  induction m with
  | zero =>
    intro l out pre hm hn h hc
    obtain rfl : l = [] := List.length_eq_zero_iff.1 (by omega)
    rfl
  | succ m ih =>
    intro l out pre hm hn h hc
    rw [toks_step] at h hc ⊢
    rw [toks_step n]
    by_cases e : l = []
    · rw [if_pos e, if_pos e]
    · rw [if_neg e] at h hc ⊢
      rw [if_neg e]
      have hl := trimL_le l
      rw [tokAt_shift n d (trimL l) (by omega)]
      cases hs : tokAt n (trimL l) with
      | stop => rfl
      | bad p e' =>
        rw [hs] at h
        dsimp only at h
        subst h
        exact absurd hs (tokAt_bad _ _ _)
      | skip l' =>
        rw [hs] at h hc
        have := (tokAt_less (.inl hs)).1
        exact ih l' out pre (by omega) (by omega) h hc
      | tok t l' =>
        rw [hs] at h hc
        have := (tokAt_less (.inr ⟨t, hs⟩)).1
        dsimp only [stepShift] at h hc ⊢
        by_cases hb : out.length ≥ 4096
        · rw [if_pos hb] at h; simp at h
        · rw [if_neg hb] at h hc ⊢
          have hlen := toks_len n l' (out ++ [t])
          have := ih l' (out ++ [t]) pre (by omega) (by omega) h hc
          rw [if_neg, ← this]
          · simp
          · have h3 := hlen h
            simp at h3 ⊢; omega
theorem toks_run (N : Nat) (l : List UInt8) (out : List Tok) : toks N l out = match tokAt N (trimL l) with
    | .stop => (out, 0, 0)
    | .skip l' => toks N l' out
    | .bad p e => ([], p, e)
    | .tok t l' => if out.length ≥ 4096 then ([], t.pos, 11) else toks N l' (out ++ [t]) := by
  rw [toks_step]
  by_cases e : l = []
  · subst e; rfl
  · rw [if_neg e]
    cases tokAt N (trimL l) <;> rfl
theorem runes_drop_span (p : Nat → Bool) (l : List UInt8) : l.drop (spanR p (runes l)) = [] ∨ p (dec (l.drop (spanR p (runes l)))).1 = true := by
  induction l using runes_ind with
  | h0 => left; rfl
  | h1 l hl ih =>
    rw [runes_cons hl]
    unfold spanR
    cases h : p (dec l).1 with
    | true => right; simpa using h
    | false =>
      simp only [Bool.false_eq_true, if_false]
      rw [← List.drop_drop]
      exact ih
theorem trimL_first {l : List UInt8} (h : trimL l ≠ []) : blankB (dec (trimL l)).1 = false := by
  rcases runes_drop_span (fun r => !blankB r) l with h1 | h1
  · exact absurd h1 h
  · unfold trimL; simpa using h1
theorem word_ne {l : List UInt8} (h : trimL l ≠ []) : (trimL l).take (wlen (trimL l)) ≠ [] := by
  have h1 := trimL_first h
  obtain ⟨h2, h3, _⟩ := dec_pos _ h
  unfold wlen
  rw [runes_cons h, spanR, if_neg (by simp [h1])]
  intro h4
  have := congrArg List.length h4
  simp at this
  rcases this with h5 | h5
  · omega
  · exact h h5
theorem toks_join (n : Nat) (t : List UInt8) : ∀ (m : Nat) (l : List UInt8) (out : List Tok), l.length ≤ m → l.length ≤ n → (toks n l out).2.2 = 0 →
    toks (n + 1 + t.length) (l ++ 10 :: t) out = toks (n + 1 + t.length) t (toks n l out).1 := by
  intro m
  induction m with
  | zero =>
    intro l out hm hn h
    obtain rfl : l = [] := List.length_eq_zero_iff.1 (by omega)
    rw [List.nil_append, toks_run, trimL_nl0, toks_run _ t]
    rfl
  | succ m ih =>
    intro l out hm hn h
    have hl := trimL_le l
    by_cases ht : trimL l = []
    · rw [toks_run n l, ht]
      rw [toks_run, trimL_nl, if_pos ht, toks_run _ t]
      rfl
    · rw [toks_run, trimL_nl, if_neg ht]
      rw [toks_run n l] at h ⊢
      have hb : ∀ p e, tokAt n (trimL l) ≠ .bad p e := by
        intro p e hs
        rw [hs] at h
        dsimp only at h
        subst h
        exact absurd hs (tokAt_bad _ _ _)
      rw [tokAt_nl n (trimL l) t (by omega) (word_ne ht) hb]
      cases hs : tokAt n (trimL l) with
      | stop =>
        dsimp only [stepApp]
        rw [toks_run, trimL_nl0, ← toks_run]
      | bad p e => exact absurd hs (hb p e)
      | skip l' =>
        rw [hs] at h
        have := (tokAt_less (.inl hs)).1
        exact ih l' out (by omega) (by omega) h
      | tok x l' =>
        rw [hs] at h
        have := (tokAt_less (.inr ⟨x, hs⟩)).1
        dsimp only [stepApp] at h ⊢
        by_cases hb : out.length ≥ 4096
        · rw [if_pos hb] at h; simp at h
        · rw [if_neg hb] at h ⊢
          rw [if_neg hb]
          exact ih l' _ (by omega) (by omega) h
theorem toks_ok (n : Nat) : ∀ (l : List UInt8) (out : List Tok), (toks n l out).2.2 = 0 → (toks n l out).2.1 = 0 ∧ (out.length ≤ 4096 → (toks n l out).1.length ≤ 4096) ∧ ((∀ t ∈ out, 0 ≤ t.pos ∧ t.pos ≤ n) → ∀ t ∈ (toks n l out).1, 0 ≤ t.pos ∧ t.pos ≤ n) := by
  intro l
  induction hm : l.length using Nat.strongRecOn generalizing l with
  | _ m ih =>
    intro out h
    rw [toks_step] at h ⊢
    by_cases e : l = []
    · rw [if_pos e]; exact ⟨rfl, id, id⟩
    · rw [if_neg e] at h ⊢
      have hl := trimL_le l
      cases hs : tokAt n (trimL l) with
      | stop => exact ⟨rfl, id, id⟩
      | bad p e' => rw [hs] at h; dsimp only at h; subst h; exact absurd hs (tokAt_bad _ _ _)
      | skip l' =>
        rw [hs] at h
        have := (tokAt_less (.inl hs)).1
        exact ih _ (by omega) l' rfl out h
      | tok t l' =>
        rw [hs] at h
        have := (tokAt_less (.inr ⟨t, hs⟩)).1
        dsimp only at h ⊢
        by_cases hb : out.length ≥ 4096
        · rw [if_pos hb] at h; simp at h
        · rw [if_neg hb] at h ⊢
          obtain ⟨h1, h2, h3⟩ := ih _ (by omega) l' rfl (out ++ [t]) h
          refine ⟨h1, fun _ => h2 (by simp; omega), fun ho => h3 ?_⟩
          intro x hx
          rcases List.mem_append.1 hx with hx | hx
          · exact ho x hx
          · rw [List.mem_singleton.1 hx]
            exact tokAt_pos hs
theorem tokens_ok (s : List UInt8) (h : (tokensR s).2.2 = 0) : s.length ≤ 65536 ∧ (tokensR s).2.1 = 0 ∧ (tokensR s).1.length ≤ 4096 ∧ ∀ t ∈ (tokensR s).1, 0 ≤ t.pos ∧ t.pos ≤ s.length := by
  unfold tokensR at h ⊢
  by_cases hs : s.length > 65536
  · rw [if_pos hs] at h; simp at h
  · rw [if_neg hs] at h ⊢
    cases f1 : faultR s with
    | some i => rw [f1] at h; simp at h
    | none =>
      rw [f1] at h
      obtain ⟨h1, h2, h3⟩ := toks_ok s.length s [] h
      exact ⟨by omega, h1, h2 (by simp), h3 (by simp)⟩
/-- Two texts, a line's end between. -/
theorem tokens_join {s t : List UInt8} (hs : (tokensR s).2.2 = 0) (ht : (tokensR t).2.2 = 0) (hlen : s.length + t.length < 65536) (hcnt : (tokensR s).1.length + (tokensR t).1.length ≤ 4096) :
    tokensR (s ++ 10 :: t) = ((tokensR s).1 ++ (tokensR t).1.map (Tok.shift (s.length + 1)), 0, 0) := by
  unfold tokensR at hs ht hcnt ⊢
  rw [if_neg (by omega)] at hs ht
  rw [if_neg (show ¬ s.length > 65536 by omega), if_neg (show ¬ t.length > 65536 by omega)] at hcnt ⊢
  rw [if_neg (by simp; omega)]
  cases f1 : faultR s with
  | some i => rw [f1] at hs; simp at hs
  | none =>
    cases f2 : faultR t with
    | some i => rw [f2] at ht; simp at ht
    | none =>
      rw [f1] at hs hcnt
      rw [f2] at ht hcnt
      rw [(faultR_app s 10 t (by decide)).2 ⟨f1, f2⟩]
      dsimp only at hs ht hcnt ⊢
      have h1 := toks_join s.length t s.length s [] (Nat.le_refl _) (Nat.le_refl _) hs
      rw [show (s ++ 10 :: t).length = s.length + 1 + t.length by simp; omega, h1]
      have h2 := toks_shift t.length (s.length + 1) t.length t [] (toks s.length s []).1 (Nat.le_refl _) (Nat.le_refl _) ht hcnt
      simpa using h2
end Go.Proofs.YtliabblchkgclaaDoor

namespace Go.Proofs.YtliabblchkgclaaDoor
open Go Go.Av
def defV (d : DefT) : AV := .agg [.str d.name, .int .i64 d.inn, .int .i64 d.out, .fz (itemAVs d.body) d.body.length false]

theorem namesR_less {fin : Int} {shut : List UInt8} : ∀ {k : Nat} {s : RS} {n : Nat} {x : Nat × RS}, namesR fin shut k s n = .ok x → x.2.l.length < s.l.length ∧ x.2.opn = s.opn ∧ x.2.sz = s.sz
  | 0, s, n, x, h => by simp [namesR] at h
  | k + 1, s, n, x, h => by
    rw [namesR] at h
    split at h
    · split at h
      · cases h
      · rename_i t s' ht
        cases h
        exact takeR_less ht
    · split at h
      · cases h
      · rename_i w s' hw
        have h1 := wordR_less hw
        dsimp only at h1
        split at h
        · cases h
        · have h2 := namesR_less h
          omega
theorem defineR_less {fin p : Int} {s : RS} {x : DefT × RS} (h : defineR fin p s = .ok x) : Less s x.2 True := by
  unfold defineR at h
  split at h
  · cases h
  · rename_i s1 h1
    have l1 := enterR_ok h1
    split at h
    · cases h
    · rename_i nm s2 h2
      have l2 := wordR_less h2
      split at h
      · cases h
      · rename_i _ s3 h3
        have l3 := wordR_less h3
        split at h
        · cases h
        · rename_i i s4 h4
          have l4 := namesR_less h4
          split at h
          · cases h
          · rename_i o s5 h5
            have l5 := namesR_less h5
            split at h
            · cases h
            · rename_i bd s6 h6
              have l6 := (parse_less fin _).2.2.1 _ _ _ _ h6
              have l7 := l6.opn
              have l8 := l6.lt trivial
              cases h
              dsimp only at l2 l3 l4 l5 l7 l8
              have l9 : s1.l.length = s.l.length := by rw [l1.1]
              exact ⟨by dsimp only; omega, by dsimp only; omega, fun hs => l6.sz (by have := l1.2.2.2 hs; omega), fun _ => by dsimp only; omega⟩
def ReadR {α : Type} (s : List UInt8) (stc : St) (what : RS → PR α) (stx : α → St → Prop) (out : AOut) (st : St) : Prop :=
  if (tokensR s).2.2 ≠ 0 then out = .ret (.tup [.int .i64 (tokensR s).2.1, .int .i64 (tokensR s).2.2]) ∧ st = stc else match what ⟨(tokensR s).1, 0, 0⟩ with
    | .error e => out = .ret (.tup [.int .i64 e.1, .int .i64 e.2]) ∧ st = []
    | .ok x => if x.2.l ≠ [] then out = .ret (.tup [.int .i64 (atR s.length x.2.l), .int .i64 9]) ∧ st = [] else out = .ret (.tup [.int .i64 0, .int .i64 0]) ∧ stx x.1 st
structure OnI where
  k : Nat
  s : RS
  acc : List Tree
  o : Option Nat
/-- The list of items that is made. -/
def ItemsSt (bl : Nat) (acc : List Tree) (st : St) : Prop := ∃ o : Option Nat, st = (bl, .box [accV o acc.length]) :: accS o 1 (itemAVs acc) ∧ (o = none → acc = [])
theorem start_ok (s : List UInt8) (h : (tokensR s).2.2 = 0) (hcnt : (tokensR s).1.length ≤ 4096) : RsOk ⟨(tokensR s).1, 0, 0⟩ := ⟨by simp, by simp, hcnt⟩
/-- What Items and Parse make of a reading. -/
theorem readR_err {α : Type} {s : List UInt8} {what : RS → PR (List α)} (h : (tokensR s).2.2 ≠ 0) : readR s what = ([], (tokensR s).2.1, (tokensR s).2.2) := by rw [readR, if_pos h]
def FormT.cells : FormT → List AV
  | .define d => [.bool true, .str d.name, .int .i64 d.inn, .int .i64 d.out, .fz (itemAVs d.body) d.body.length false, .nili]
  | .item t => [.bool false, .str [], .int .i64 0, .int .i64 0, .fz [] 0 false, itemAV t]
def formsC (l : List FormT) : List AV := (l.map FormT.cells).flatten
@[simp] theorem formsC_length (l : List FormT) : (formsC l).length = l.length * 6 := by
  induction l with
  | nil => rfl
  | cons t l ih =>
    show (t.cells ++ formsC l).length = _
    rw [List.length_append, ih]
    cases t <;> simp [FormT.cells] <;> omega
theorem formsC_snoc (l : List FormT) (t : FormT) : formsC (l ++ [t]) = formsC l ++ t.cells := by simp [formsC]
theorem take_formsC (l : List FormT) : (formsC l).take (l.length * 6) = formsC l := List.take_of_length_le (by simp)
structure FoI where
  k : Nat
  s : RS
  acc : List FormT
  o : Option Nat
def FormsSt (bl : Nat) (acc : List FormT) (st : St) : Prop := ∃ o : Option Nat, st = (bl, .box [accV o acc.length]) :: accS o 6 (formsC acc) ∧ (o = none → acc = [])
end Go.Proofs.YtliabblchkgclaaDoor

namespace Go.Proofs.YtliabblchkgclaaDoor
open Go Go.Av
structure RDef where
  name : List UInt8
  inn : Int
  out : Int
  body : List RV
def RDef.cells (d : RDef) : List AV := [.str d.name, .int .i64 d.inn, .int .i64 d.out, .fz (rvsC d.body) d.body.length false]
inductive RForm where
  | define (d : RDef)
  | item (v : RV)
def RForm.cells : RForm → List AV
  | .define d => .bool true :: (d.cells ++ [.int .i64 0, .int .i64 0, .str [], .fz [] 0 false])
  | .item v => .bool false :: ([.str [], .int .i64 0, .int .i64 0, .fz [] 0 false] ++ rvAV v)
def rformsC (l : List RForm) : List AV := (l.map RForm.cells).flatten
@[simp] theorem RForm.cells_length (f : RForm) : f.cells.length = 9 := by cases f <;> simp [RForm.cells, RDef.cells]
@[simp] theorem rformsC_length (l : List RForm) : (rformsC l).length = l.length * 9 := by
  induction l with
  | nil => rfl
  | cons t l ih => show (t.cells ++ rformsC l).length = _; rw [List.length_append, ih, RForm.cells_length, List.length_cons]; omega
theorem rformsC_snoc (l : List RForm) (t : RForm) : rformsC (l ++ [t]) = rformsC l ++ t.cells := by simp [rformsC]
theorem rformsC_app (a b : List RForm) : rformsC (a ++ b) = rformsC a ++ rformsC b := by simp [rformsC]
theorem rformsC_at : ∀ {l : List RForm} {r : List AV} {i : Nat} {v : RForm}, l[i]? = some v → ∃ q, (rformsC l ++ r).drop (i * 9) = v.cells ++ q
  | [], _, _, _, h => by simp at h
  | x :: l, r, 0, v, h => by simp at h; subst h; exact ⟨rformsC l ++ r, by simp [rformsC]⟩
  | x :: l, r, i + 1, v, h => by
    obtain ⟨q, hq⟩ := rformsC_at (l := l) (r := r) (i := i) (v := v) (by simpa using h)
    refine ⟨q, ?_⟩
    rw [← hq, show (i + 1) * 9 = 9 + i * 9 by omega, ← List.drop_drop]
    show List.drop (i * 9) (List.drop 9 ((x.cells ++ rformsC l) ++ r)) = _
    rw [List.append_assoc, List.drop_left' (RForm.cells_length x)]
def defRV (d : DefT) : RDef := ⟨d.name, d.inn, d.out, itemRVs d.body⟩
def formRV : FormT → RForm
  | .define d => .define (defRV d)
  | .item t => .item (itemRV t)
theorem formsC_at : ∀ {l : List FormT} {i : Nat} {v : FormT}, l[i]? = some v → ∃ q, (formsC l).drop (i * 6) = v.cells ++ q
  | [], _, _, h => by simp at h
  | x :: l, 0, v, h => by simp at h; subst h; exact ⟨formsC l, by simp [formsC]⟩
  | x :: l, i + 1, v, h => by
    obtain ⟨q, hq⟩ := formsC_at (l := l) (i := i) (v := v) (by simpa using h)
    refine ⟨q, ?_⟩
    rw [← hq, show (i + 1) * 6 = 6 + i * 6 by omega, ← List.drop_drop]
    show List.drop (i * 6) (List.drop 6 (x.cells ++ formsC l)) = _
    rw [List.drop_left' (by cases x <;> rfl)]
/-- Forms that the walks may read. -/
def FormT.clean : FormT → Bool
  | .define d => cleanAll d.body && decide (d.body.length ≤ 2513169434916)
  | .item t => t.clean && (match t with | .none => false | _ => true)
def FormsOut (l : List FormT) (out : AOut) (st : St) : Prop := ∃ o, out = .ret (accV o l.length) ∧ st = accS o 9 (rformsC (l.map formRV)) ∧ (o = none → l = [])
/-- No list of more than 2^40. -/
def RForm.small : RForm → Bool
  | .define d => smallAll d.body && decide (d.body.length ≤ 2513169434916)
  | .item v => v.small
def RForm.dPart : RForm → RDef
  | .define d => d
  | .item _ => ⟨[], 0, 0, []⟩
def RForm.vPart : RForm → RV
  | .define _ => .mk 0 0 [] []
  | .item v => v
def RForm.isDef : RForm → Bool
  | .define _ => true
  | .item _ => false
theorem RForm.cells_eq (f : RForm) : f.cells = .bool f.isDef :: (f.dPart.cells ++ rvAV f.vPart) := by
  cases f <;> simp [RForm.cells, RForm.isDef, RForm.dPart, RForm.vPart, RDef.cells, rvAV, rvsC]
end Go.Proofs.YtliabblchkgclaaDoor

namespace Go.Proofs.YtliabblchkgclaaDoor
open Go Go.Av
structure Ch where
  r : Nat
  a : Nat
  z : Nat
  bad : Bool
def chL (i : Nat) : List (Nat × Nat) → List Ch
  | [] => []
  | (r, k) :: rs => ⟨r, i, i + k, badB (r, k)⟩ :: chL (i + k) rs
def Ch.cells (c : Ch) : List AV := [.int .i32 c.r, .int .i64 c.a, .int .i64 c.z, .bool c.bad]
def chC (l : List Ch) : List AV := (l.map Ch.cells).flatten
@[simp] theorem chC_length (l : List Ch) : (chC l).length = l.length * 4 := by
  induction l with
  | nil => rfl
  | cons t l ih => show (t.cells ++ chC l).length = _; rw [List.length_append, ih]; simp [Ch.cells]; omega
theorem chC_snoc (l : List Ch) (t : Ch) : chC (l ++ [t]) = chC l ++ t.cells := by simp [chC]
theorem take_chC (l : List Ch) : (chC l).take (l.length * 4) = chC l := List.take_of_length_le (by simp)
theorem chC_at : ∀ {l : List Ch} {r : List AV} {i : Nat} {t : Ch}, l[i]? = some t → ((chC l ++ r).drop (i * 4)).take 4 = t.cells
  | [], _, _, _, h => by simp at h
  | x :: l, r, 0, t, h => by simp at h; subst h; rfl
  | x :: l, r, i + 1, t, h => by
    have := chC_at (l := l) (r := r) (i := i) (t := t) (by simpa using h)
    rw [← this, show (i + 1) * 4 = 4 + i * 4 by omega, ← List.drop_drop]; rfl
theorem chL_length : ∀ (i : Nat) (rs : List (Nat × Nat)), (chL i rs).length = rs.length
  | _, [] => rfl
  | i, (r, k) :: rs => by simp [chL, chL_length]
theorem chL_append : ∀ (i : Nat) (a b : List (Nat × Nat)), chL i (a ++ b) = chL i a ++ chL (i + (a.map (·.2)).sum) b
  | i, [], b => by simp [chL]
  | i, (r, k) :: a, b => by simp [chL, chL_append (i + k) a b, Nat.add_assoc]
theorem runes_len (l : List UInt8) : (runes l).length ≤ l.length := by
  induction l using runes_ind with
  | h0 => simp
  | h1 l hl ih =>
    obtain ⟨h1, h2, _⟩ := dec_pos l hl
    rw [runes_cons hl, List.length_cons]
    rw [List.length_drop] at ih; omega
/-- How long a character's own bytes are. -/
def encN (r : Nat) : Nat := (Utf8.encode (r : Int)).data.toList.length
theorem enc_len (r : Nat) : encN r = if r ≤ 1114111 ∧ ¬ (55296 ≤ r ∧ r ≤ 57343) then (if r < 128 then 1 else if r < 2048 then 2 else if r < 65536 then 3 else 4) else 3 := by
  unfold encN
  have hv : Utf8.valid (r : Int) = decide (r ≤ 1114111 ∧ ¬ (55296 ≤ r ∧ r ≤ 57343)) := by
    simp only [Utf8.valid]
    rw [Bool.eq_iff_iff]; simp; omega
  by_cases h : r ≤ 1114111 ∧ ¬ (55296 ≤ r ∧ r ≤ 57343)
  · rw [if_pos h]
    rw [decide_eq_true h] at hv
    simp only [Utf8.encode, hv, if_true, Int.toNat_natCast]
    by_cases h1 : r < 128
    · rw [if_pos h1, if_pos h1]; rfl
    rw [if_neg h1, if_neg h1]
    by_cases h2 : r < 2048
    · rw [if_pos h2, if_pos h2]; rfl
    rw [if_neg h2, if_neg h2]
    by_cases h3 : r < 65536
    · rw [if_pos h3, if_pos h3]; rfl
    rw [if_neg h3, if_neg h3]; rfl
  · rw [if_neg h]
    rw [decide_eq_false h] at hv
    simp only [Utf8.encode, hv, Bool.false_eq_true, if_false]
    rw [if_neg (by decide), if_neg (by decide), if_pos (by decide)]; rfl
theorem dec_enc {l : List UInt8} (h : l ≠ []) : badB (dec l) = false → encN (dec l).1 = (dec l).2 := by
  have hl : 1 ≤ l.length := by cases l with | nil => exact absurd rfl h | cons => simp
  rw [enc_len, dec_N]
  generalize (l.getD 0 0).toNat = a
  generalize (l.getD 1 0).toNat = b
  generalize (l.getD 2 0).toNat = c
  generalize (l.getD 3 0).toNat = d
  intro hb
  unfold Lib.decodeN at hb ⊢
  repeat' split
  all_goals first | (simp [badB] at hb; done) | (dsimp only at *; omega) | skip
  all_goals simp_all [badB]
  all_goals omega
def charsR (l : List UInt8) : List Ch := chL 0 (runes l)
structure ChI where
  o : Option Nat
  i : Nat
  out : List Ch



set_option maxHeartbeats 800000 in
theorem f_Chars (l : List UInt8) (hl : l.length ≤ 1000000000) : Av.Fn Tryd.prog 36 [.str l] (.fz (chC (charsR l)) (charsR l).length false) := by
  refine ACalls.of_W tb_ok (fn := Tryd.f36) (n := 45) (by kernel_rfl) rfl (by kernel_rfl) rfl rfl (by simp) (go ?_)
  refine VAll.mk (fun b => go ?_)
  refine VLoop.mk [3] ChI (fun i => [accV i.o i.out.length]) (fun i => (b, .siter l i.i) :: accS i.o 4 (chC i.out))
    (fun i => i.i ≤ l.length ∧ i.out.length ≤ i.i ∧ (i.o = none → i.out = []) ∧ i.out ++ chL i.i (runes (l.drop i.i)) = charsR l) (fun i => l.length - i.i) ⟨none, 0, []⟩ ?_ ?_
  · exact ⟨⟨by simp, by simp, by simp, by simp [charsR]⟩, rfl, .cons 0 rfl .nil⟩
  rintro ⟨o, i, out⟩ ⟨hi, hol, ho, hI⟩
  dsimp only at hi hol ho hI ⊢
  cases o with
  | none =>
    have hacc := ho rfl
    subst hacc
    refine go ?_
    refine fork (fun hlt => go ?_) (fun hlt => go ?_)
    · have hlt : i < l.length := by omega
      have hne' : l.drop i ≠ [] := by simp; omega
      have hc := dec_pos _ hne'
      have hbad := dec_bad hne'
      have henc := dec_enc hne'
      have hru := runes_cons hne'
      rw [← dec_at] at hc hbad henc hru
      generalize hdc : Utf8.decode ⟨⟨l⟩⟩ i = c at hc hbad henc hru
      rw [List.drop_drop] at hru
      obtain ⟨r, k⟩ := c
      dsimp only at hc hbad henc hru ⊢
      rw [List.length_drop] at hc hbad
      rw [show (Utf8.encode (r : Int)).data.toList.length = encN r from rfl]
      cases hbb : badB (r, k) with
      | true =>
        have hrk : r = 65533 ∧ k = 1 := by simpa [badB] using hbb
        obtain ⟨rfl, rfl⟩ := hrk
        have he3 : encN 65533 = 3 := by rw [enc_len]; rfl
        rw [he3]
        rw [hbb, decide_eq_true rfl, Bool.true_and, Bool.not_eq_true', Bool.and_eq_false_iff] at hbad
        refine VInt.to ((i + 3 : Nat) : Int) (by omega) (by omega) (by omega) (go ?_)
        by_cases h3 : i + 3 ≤ l.length
        · have h4 : ¬ (l.drop i).take 3 = [239, 191, 189] := by
            rcases hbad with h | h
            · simp at h; omega
            · simpa using h
          refine VIf.no (decide_eq_false (by omega)) (go ?_)
          refine VIf.yes (by rw [List.drop_take, Nat.add_sub_cancel_left]; simp [h4]) (go ?_)
          refine VAll.mk (fun b2 => go ?_)
          refine ⟨⟨some b2, i + 1, [⟨65533, i, i + 1, true⟩]⟩, ⟨?_, ?_, ?_, ?_⟩, ?_, ?_, ?_⟩
          · dsimp only; omega
          · simp; try omega
          · intro h; cases h
          · dsimp only; rw [← hI, hru, chL, hbb]; rfl
          · dsimp only; omega
          · simp [accV]
          · exact .cons 1 rfl (.cons 0 rfl .nil)
        · refine VIf.yes (decide_eq_true (by omega)) (go ?_)
          refine VAll.mk (fun b2 => go ?_)
          refine ⟨⟨some b2, i + 1, [⟨65533, i, i + 1, true⟩]⟩, ⟨?_, ?_, ?_, ?_⟩, ?_, ?_, ?_⟩
          · dsimp only; omega
          · simp; try omega
          · intro h; cases h
          · dsimp only; rw [← hI, hru, chL, hbb]; rfl
          · dsimp only; omega
          · simp [accV]
          · exact .cons 1 rfl (.cons 0 rfl .nil)
      | false =>
        rw [henc hbb]
        refine VInt.to ((i + k : Nat) : Int) (by omega) (by omega) (by omega) (go ?_)
        by_cases hr : r = 65533
        · subst hr
          have hk3 : k = 3 := by rw [← henc hbb, enc_len]; rfl
          subst hk3
          rw [hbb, decide_eq_true rfl, Bool.true_and, Bool.not_eq_false', Bool.and_eq_true, decide_eq_true_eq, decide_eq_true_eq] at hbad
          refine go ?_
          refine VIf.no (decide_eq_false (by omega)) (go ?_)
          refine VIf.no (by rw [List.drop_take, Nat.add_sub_cancel_left, hbad.2]; rfl) (go ?_)
          refine VAll.mk (fun b2 => go ?_)
          refine ⟨⟨some b2, i + 3, [⟨65533, i, i + 3, false⟩]⟩, ⟨?_, ?_, ?_, ?_⟩, ?_, ?_, ?_⟩
          · dsimp only; omega
          · simp; try omega
          · intro h; cases h
          · dsimp only; rw [← hI, hru, chL, hbb]; rfl
          · dsimp only; omega
          · simp [accV]
          · exact .cons 1 rfl (.cons 0 rfl .nil)
        · refine VIf.no (decide_eq_false (by omega)) (go ?_)
          refine VAll.mk (fun b2 => go ?_)
          refine ⟨⟨some b2, i + k, [⟨r, i, i + k, false⟩]⟩, ⟨?_, ?_, ?_, ?_⟩, ?_, ?_, ?_⟩
          · dsimp only; omega
          · simp; try omega
          · intro h; cases h
          · dsimp only; rw [← hI, hru, chL, hbb]; rfl
          · dsimp only; omega
          · simp [accV]
          · exact .cons 1 rfl (.cons 0 rfl .nil)
    · rw [List.drop_eq_nil_of_le (by omega)] at hI
      refine VRet.mk [] .nil ?_
      rw [← hI]; simp [chL, chC]; try rfl
  | some bo =>
    refine go ?_
    refine fork (fun hlt => go ?_) (fun hlt => go ?_)
    · have hlt : i < l.length := by omega
      have hne' : l.drop i ≠ [] := by simp; omega
      have hc := dec_pos _ hne'
      have hbad := dec_bad hne'
      have henc := dec_enc hne'
      have hru := runes_cons hne'
      rw [← dec_at] at hc hbad henc hru
      generalize hdc : Utf8.decode ⟨⟨l⟩⟩ i = c at hc hbad henc hru
      rw [List.drop_drop] at hru
      obtain ⟨r, k⟩ := c
      dsimp only at hc hbad henc hru ⊢
      rw [List.length_drop] at hc hbad
      rw [show (Utf8.encode (r : Int)).data.toList.length = encN r from rfl]
      cases hbb : badB (r, k) with
      | true =>
        have hrk : r = 65533 ∧ k = 1 := by simpa [badB] using hbb
        obtain ⟨rfl, rfl⟩ := hrk
        have he3 : encN 65533 = 3 := by rw [enc_len]; rfl
        rw [he3]
        rw [hbb, decide_eq_true rfl, Bool.true_and, Bool.not_eq_true', Bool.and_eq_false_iff] at hbad
        refine VInt.to ((i + 3 : Nat) : Int) (by omega) (by omega) (by omega) (go ?_)
        by_cases h3 : i + 3 ≤ l.length
        · have h4 : ¬ (l.drop i).take 3 = [239, 191, 189] := by
            rcases hbad with h | h
            · simp at h; omega
            · simpa using h
          refine VIf.no (decide_eq_false (by omega)) (go ?_)
          refine VIf.yes (by rw [List.drop_take, Nat.add_sub_cancel_left]; simp [h4]) (go ?_)
          refine VGd.mk (by simp; omega) (go ?_)
          refine VAll.mk (fun b2 => go ?_)
          refine ⟨⟨some b2, i + 1, out ++ [⟨65533, i, i + 1, true⟩]⟩, ⟨?_, ?_, ?_, ?_⟩, ?_, ?_, ?_⟩
          · dsimp only; omega
          · simp; try omega
          · intro h; cases h
          · dsimp only; rw [List.append_assoc, ← hI, hru, chL, hbb]; rfl
          · dsimp only; omega
          · simp [accV]
          · simp only [accS, chC_snoc]; rw [mulN_eq, take_chC]; exact .cons 1 rfl (.cons 0 rfl .nil)
        · refine VIf.yes (decide_eq_true (by omega)) (go ?_)
          refine VGd.mk (by simp; omega) (go ?_)
          refine VAll.mk (fun b2 => go ?_)
          refine ⟨⟨some b2, i + 1, out ++ [⟨65533, i, i + 1, true⟩]⟩, ⟨?_, ?_, ?_, ?_⟩, ?_, ?_, ?_⟩
          · dsimp only; omega
          · simp; try omega
          · intro h; cases h
          · dsimp only; rw [List.append_assoc, ← hI, hru, chL, hbb]; rfl
          · dsimp only; omega
          · simp [accV]
          · simp only [accS, chC_snoc]; rw [mulN_eq, take_chC]; exact .cons 1 rfl (.cons 0 rfl .nil)
      | false =>
        rw [henc hbb]
        refine VInt.to ((i + k : Nat) : Int) (by omega) (by omega) (by omega) (go ?_)
        by_cases hr : r = 65533
        · subst hr
          have hk3 : k = 3 := by rw [← henc hbb, enc_len]; rfl
          subst hk3
          rw [hbb, decide_eq_true rfl, Bool.true_and, Bool.not_eq_false', Bool.and_eq_true, decide_eq_true_eq, decide_eq_true_eq] at hbad
          refine go ?_
          refine VIf.no (decide_eq_false (by omega)) (go ?_)
          refine VIf.no (by rw [List.drop_take, Nat.add_sub_cancel_left, hbad.2]; rfl) (go ?_)
          refine VGd.mk (by simp; omega) (go ?_)
          refine VAll.mk (fun b2 => go ?_)
          refine ⟨⟨some b2, i + 3, out ++ [⟨65533, i, i + 3, false⟩]⟩, ⟨?_, ?_, ?_, ?_⟩, ?_, ?_, ?_⟩
          · dsimp only; omega
          · simp; try omega
          · intro h; cases h
          · dsimp only; rw [List.append_assoc, ← hI, hru, chL, hbb]; rfl
          · dsimp only; omega
          · simp [accV]
          · simp only [accS, chC_snoc]; rw [mulN_eq, take_chC]; exact .cons 1 rfl (.cons 0 rfl .nil)
        · refine VIf.no (decide_eq_false (by omega)) (go ?_)
          refine VGd.mk (by simp; omega) (go ?_)
          refine VAll.mk (fun b2 => go ?_)
          refine ⟨⟨some b2, i + k, out ++ [⟨r, i, i + k, false⟩]⟩, ⟨?_, ?_, ?_, ?_⟩, ?_, ?_, ?_⟩
          · dsimp only; omega
          · simp; try omega
          · intro h; cases h
          · dsimp only; rw [List.append_assoc, ← hI, hru, chL, hbb]; rfl
          · dsimp only; omega
          · simp [accV]
          · simp only [accS, chC_snoc]; rw [mulN_eq, take_chC]; exact .cons 1 rfl (.cons 0 rfl .nil)
    · rw [List.drop_eq_nil_of_le (by omega)] at hI
      refine VRet.mk [] .nil ?_
      rw [← hI]; simp [chL, take_chC]; try rfl
def fb : List Ch → Int
  | [] => -1
  | c :: r => if c.bad then (c.a : Int) else fb r
theorem fb_chL : ∀ (a : Nat) (rs : List (Nat × Nat)), fb (chL a rs) = match faultL rs with
    | none => -1
    | some j => ((a + j : Nat) : Int)
  | a, [] => rfl
  | a, (r, k) :: rs => by
    rw [chL, fb, faultL, fb_chL (a + k) rs]
    cases badB (r, k) with
    | true => simp
    | false =>
      cases faultL rs with
      | none => simp
      | some j => simp [Nat.add_assoc]
theorem f_Bad (l : List UInt8) (hl : l.length ≤ 1000000000) : Av.Fn Tryd.prog 23 [.str l] (.int .i64 (faultV l)) := by
  have hfb : fb (charsR l) = faultV l := by
    unfold charsR faultV faultR
    rw [fb_chL]
    cases faultL (runes l) <;> simp
  have hcl : (charsR l).length ≤ 1000000000 := by
    have := runes_len l
    unfold charsR; rw [chL_length]; omega
  have fc := f_Chars l hl
  generalize charsR l = cs at fc hfb hcl
  refine ACalls.of_W tb_ok (fn := Tryd.f23) (n := 23) (by kernel_rfl) rfl (by kernel_rfl) rfl rfl (by simp) (go ?_)
  refine Fn.use (fc) (go ?_)
  refine VLoop.mk [4] Nat (fun i => [.int .i64 i]) (fun _ => []) (fun i => i ≤ cs.length ∧ fb (cs.drop i) = faultV l) (fun i => cs.length - i) 0 ?_ ?_
  · exact ⟨⟨by omega, hfb⟩, rfl, .nil⟩
  intro i ⟨hi, hI⟩
  refine go ?_
  refine fork (fun hlt => go ?_) (fun hlt => go ?_)
  · have hlt : i < cs.length := by omega
    have hdl : cs.drop i = cs[i] :: cs.drop (i + 1) := List.drop_eq_getElem_cons hlt
    have hx : cs[i]? = some cs[i] := by simp [hlt]
    generalize cs[i] = x at hx hdl
    have e1 := chC_at (r := []) hx
    rw [List.append_nil] at e1
    obtain ⟨r, a, z, bad⟩ := x
    rw [hdl, fb] at hI
    have hcells : (cs.length * 4) = (chC cs).length := by simp
    have n3 : ((chC cs).drop (i * 4))[3]? = some (.bool bad) := by
      have := congrArg (·[3]?) e1
      simpa [List.getElem?_take, Ch.cells] using this
    have n1 : ((chC cs).drop (i * 4))[1]? = some (.int .i64 a) := by
      have := congrArg (·[1]?) e1
      simpa [List.getElem?_take, Ch.cells] using this
    refine VNth.mk (.bool bad) (by simpa using n3) (go ?_)
    dsimp only at hI
    cases bad with
    | true =>
      refine go ?_
      refine VNth.mk (.int .i64 a) (by simpa using n1) (go ?_)
      refine VRet.mk [] .nil ?_
      rw [← hI]; exact ⟨rfl, rfl⟩
    | false =>
      refine go ?_
      exact ⟨i + 1, ⟨by omega, by simpa using hI⟩, by omega, rfl, .nil⟩
  · rw [List.drop_eq_nil_of_le (by omega)] at hI
    refine VRet.mk [] .nil ?_
    rw [← hI]; exact ⟨rfl, rfl⟩
end Go.Proofs.YtliabblchkgclaaDoor

namespace Go.Proofs.YtliabblchkgclaaDoor
open Go Go.Av
theorem f_refBlank (r : Int) : Av.Fn Tryd.prog 49 [.int .i32 r] (.bool (blankB r)) := by
  refine ACalls.of_W tb_ok (fn := Tryd.f49) (n := 25) (by kernel_rfl) rfl (by kernel_rfl) rfl rfl (by simp) (go ?_)
  refine fork (fun h1 => go ?_) (fun h1 => go ?_)
  · refine VRet.mk [] .nil ?_
    simp [blankB, h1]
  refine fork (fun h2 => go ?_) (fun h2 => go ?_)
  · refine VRet.mk [] .nil ?_
    simp [blankB, h2]
  refine fork (fun h3 => go ?_) (fun h3 => go ?_)
  · refine VRet.mk [] .nil ?_
    simp [blankB, h3]
  refine fork (fun h4 => go ?_) (fun h4 => go ?_)
  · refine VRet.mk [] .nil ?_
    simp [blankB, h4]
  refine fork (fun h5 => go ?_) (fun h5 => go ?_)
  · refine VRet.mk [] .nil ?_
    simp [blankB, h5]
  refine VRet.mk [] .nil ?_
  simp [blankB, h1, h2, h3, h4, h5]
end Go.Proofs.YtliabblchkgclaaDoor

namespace Go.Proofs.YtliabblchkgclaaDoor
open Go Go.Av
def scrR (r : Nat) : Int := if 48 ≤ r ∧ r ≤ 57 then 48 else if 1632 ≤ r ∧ r ≤ 1641 then 1632 else if 65296 ≤ r ∧ r ≤ 65305 then 65296 else 0
theorem f_script (r : Nat) : Av.Fn Tryd.prog 56 [.int .i32 r] (.int .i32 (scrR r)) := by
  refine ACalls.of_W tb_ok (fn := Tryd.f56) (n := 21) (by kernel_rfl) rfl (by kernel_rfl) rfl rfl (by simp) (go ?_)
  repeat' (refine fork (fun _ => go ?_) (fun _ => go ?_))
  all_goals
    refine VRet.mk [] .nil ?_
    refine ⟨congrArg (fun x => AOut.ret (.int .i32 x)) ?_, rfl⟩
    unfold scrR
    repeat' split
    all_goals omega
def numLoop (z : Int) : List Nat → Nat → Option Nat
  | [], n => some n
  | r :: rs, n => if scrR r ≠ z then none else numLoop z rs (min (10 * n + (r - z.toNat)) 1152921504606846977)
def minusR : List Nat → Bool
  | [] => false
  | r :: _ => decide (r = 45 ∨ r = 8722)
def numR' (l : List Nat) : Option Nat := match l with
  | [] => none
  | r :: rs => if scrR r = 0 then none else numLoop (scrR r) (r :: rs) 0
def numR (l : List Nat) : Option Nat := numR' (if minusR l then l.drop 1 else l)
def numV (m : Bool) (o : Option Nat) : AV := match o with
  | none => .tup [.int .u64 0, .bool m, .bool false]
  | some n => .tup [.int .u64 n, .bool m, .bool true]
theorem numLoop_le {z : Int} : ∀ {l : List Nat} {n m : Nat}, n ≤ 1152921504606846977 → numLoop z l n = some m → m ≤ 1152921504606846977
  | [], n, m, h, e => by cases e; exact h
  | r :: rs, n, m, h, e => by
    rw [numLoop] at e
    split at e
    · cases e
    · exact numLoop_le (Nat.min_le_right _ _) e
theorem chC_r {l : List Ch} {ra : List AV} {i : Nat} {x : Ch} (h : l[i]? = some x) : ((chC l ++ ra).drop (i * 4))[0]? = some (.int .i32 x.r) := by
  have e1 := chC_at (r := ra) h
  have := congrArg (·[0]?) e1
  simpa [List.getElem?_take, Ch.cells] using this
theorem scrR_bound {r : Nat} (h : scrR r ≠ 0) : (scrR r).toNat ≤ r ∧ r ≤ (scrR r).toNat + 9 ∧ 48 ≤ scrR r ∧ scrR r ≤ 65296 := by
  unfold scrR at h ⊢
  repeat' split
  all_goals (first | (exfalso; simp_all; done) | omega)


set_option maxHeartbeats 1600000 in
theorem f_number (cs : List Ch) (ra : List AV) (fl : Bool) (hb : ∀ c ∈ cs, c.r ≤ 1114111) (hl : cs.length ≤ 1000000000) :
    Av.Fn Tryd.prog 50 [.fz (chC cs ++ ra) cs.length fl] (numV (minusR (cs.map (·.r))) (numR (cs.map (·.r)))) := by
  unfold numR
  refine ACalls.of_W tb_ok (fn := Tryd.f50) (n := 75) (by kernel_rfl) rfl (by kernel_rfl) rfl rfl (by simp) (go ?_)
  cases cs with
  | nil =>
    refine go ?_
    refine VRet.mk [] .nil ?_
    exact ⟨rfl, rfl⟩
  | cons c cs =>
    have hcell : List.drop (mulN 1 4) (List.take (mulN (c :: cs).length 4) (chC (c :: cs) ++ ra)) = chC cs := by
      rw [mulN_eq, mulN_eq, List.take_append_of_le_length (by simp), take_chC]; rfl
    have hmin : minusR ((c :: cs).map (·.r)) = decide (c.r = 45 ∨ c.r = 8722) := rfl
    rw [hmin]
    refine VIf.yes (by simp) (go ?_)
    refine fork (fun h45 => go ?_) (fun h45 => go ?_)
    · rw [hcell]
      have hmm : decide (c.r = 45 ∨ c.r = 8722) = true := decide_eq_true (by omega)
      rw [hmm]
      rw [show (c :: cs).length - 1 = cs.length from rfl]
      cases cs with
      | nil =>
        refine go ?_
        refine VRet.mk [] .nil ?_
        exact ⟨rfl, rfl⟩
      | cons c cs =>
        refine VIf.no (by simp; try omega) (go ?_)
        rw [show ∀ q : Ch, numR' (if true = true then List.drop 1 ((q :: c :: cs).map (·.r)) else (q :: c :: cs).map (·.r)) = numR' ((c :: cs).map (·.r)) from fun _ => rfl]
        have e1 : ∀ {i : Nat} {x : Ch}, (c :: cs)[i]? = some x → ((chC (c :: cs)).drop (i * 4))[0]? = some (.int .i32 x.r) := fun h => by simpa using chC_r (ra := []) h
        refine Fn.use (f_script c.r) (go ?_)
        refine fork (fun h0 => go ?_) (fun h0 => go ?_)
        · refine VRet.mk [] .nil ?_
          rw [List.map_cons, numR', if_pos (by omega)]; exact ⟨rfl, rfl⟩
        · rw [List.map_cons, numR', if_neg (by omega), ← List.map_cons]
          have h0 : scrR c.r ≠ 0 := by omega
          have hsb := scrR_bound h0
          have hll : (c :: cs).length ≤ 1000000000 := (by simp at hl ⊢; omega)
          have hbb : ∀ x ∈ c :: cs, x.r ≤ 1114111 := (fun x hx => hb x (List.mem_cons_of_mem _ hx))
          refine VLoop.mk [5, 2, 3] (Nat × Nat) (fun x => [.int .i64 x.1, .int .u64 x.2, .bool true]) (fun _ => []) (fun x => x.1 ≤ (c :: cs).length ∧ x.2 ≤ 1152921504606846977 ∧ numLoop (scrR c.r) (((c :: cs).map (·.r)).drop x.1) x.2 = numLoop (scrR c.r) ((c :: cs).map (·.r)) 0) (fun x => (c :: cs).length - x.1) (0, 0) ?_ ?_
          · exact ⟨⟨by simp, by simp, by simp⟩, rfl, .nil⟩
          rintro ⟨i, n⟩ ⟨hi, hn, hI⟩
          dsimp only at hi hn hI ⊢
          refine go ?_
          refine fork (fun hlt => go ?_) (fun hlt => go ?_)
          · have hlt : i < (c :: cs).length := by simp at hlt ⊢; omega
            obtain ⟨x, hx⟩ : ∃ x, (c :: cs)[i]? = some x := ⟨(c :: cs)[i], by simp [hlt]⟩
            have hxr := hbb x (List.mem_of_getElem? hx)
            have hd : ((c :: cs).map (·.r)).drop i = x.r :: ((c :: cs).map (·.r)).drop (i + 1) := by
              obtain ⟨h1, h2⟩ := List.getElem?_eq_some_iff.1 hx
              rw [List.drop_eq_getElem_cons (by simpa using hlt), List.getElem_map, h2]
            have e0 := e1 hx
            rw [hd, numLoop] at hI
            refine VQ.mk (.int .i32 x.r) (by refine go ?_; exact VNth.mk _ (by simpa using e0) ⟨rfl, rfl⟩) (go ?_)
            refine VQ.mk (.int .i32 (scrR x.r)) (by refine go ?_; refine Fn.use (f_script x.r) (go ?_); exact ⟨congrArg _ (rfl), rfl⟩) (go ?_)
            refine VQ.mk (.int .i32 (scrR c.r)) (by refine go ?_; refine Fn.use (f_script c.r) (go ?_); exact ⟨congrArg _ (rfl), rfl⟩) (go ?_)
            refine fork (fun hne => go ?_) (fun hne => go ?_)
            · refine VRet.mk [] .nil ?_
              rw [if_pos (by omega)] at hI
              rw [← hI]; exact ⟨rfl, rfl⟩
            · rw [if_neg (by omega)] at hI
              have hsx := scrR_bound (r := x.r) (by omega)
              refine VQ.mk (.int .i32 x.r) (by refine go ?_; exact VNth.mk _ (by simpa using e0) ⟨rfl, rfl⟩) (go ?_)
              refine VQ.mk (.int .i32 x.r) (by refine go ?_; exact VNth.mk _ (by simpa using e0) ⟨rfl, rfl⟩) (go ?_)
              refine VQ.mk (.int .i32 (scrR x.r)) (by refine go ?_; refine Fn.use (f_script x.r) (go ?_); exact ⟨congrArg _ (rfl), rfl⟩) (go ?_)
              refine ⟨(i + 1, min (10 * n + (x.r - (scrR c.r).toNat)) 1152921504606846977), ⟨?_, Nat.min_le_right _ _, hI⟩, ?_, ?_, .nil⟩
              · dsimp only; omega
              · dsimp only; omega
              · dsimp only
                rw [show ((i + 1 : Nat) : Int) = (i : Int) + 1 by omega, show min (10 * (n : Int) + ((x.r : Int) - scrR x.r)) 1152921504606846977 = ((min (10 * n + (x.r - (scrR c.r).toNat)) 1152921504606846977 : Nat) : Int) by omega]
          · refine VRet.mk [] .nil ?_
            rw [List.drop_eq_nil_of_le (by simp at hlt ⊢; omega), numLoop] at hI
            rw [← hI]; exact ⟨rfl, rfl⟩
    · refine fork (fun h87 => go ?_) (fun h87 => go ?_)
      · rw [hcell]
        have hmm : decide (c.r = 45 ∨ c.r = 8722) = true := decide_eq_true (by omega)
        rw [hmm]
        rw [show (c :: cs).length - 1 = cs.length from rfl]
        cases cs with
        | nil =>
          refine go ?_
          refine VRet.mk [] .nil ?_
          exact ⟨rfl, rfl⟩
        | cons c cs =>
          refine VIf.no (by simp; try omega) (go ?_)
          rw [show ∀ q : Ch, numR' (if true = true then List.drop 1 ((q :: c :: cs).map (·.r)) else (q :: c :: cs).map (·.r)) = numR' ((c :: cs).map (·.r)) from fun _ => rfl]
          have e1 : ∀ {i : Nat} {x : Ch}, (c :: cs)[i]? = some x → ((chC (c :: cs)).drop (i * 4))[0]? = some (.int .i32 x.r) := fun h => by simpa using chC_r (ra := []) h
          refine Fn.use (f_script c.r) (go ?_)
          refine fork (fun h0 => go ?_) (fun h0 => go ?_)
          · refine VRet.mk [] .nil ?_
            rw [List.map_cons, numR', if_pos (by omega)]; exact ⟨rfl, rfl⟩
          · rw [List.map_cons, numR', if_neg (by omega), ← List.map_cons]
            have h0 : scrR c.r ≠ 0 := by omega
            have hsb := scrR_bound h0
            have hll : (c :: cs).length ≤ 1000000000 := (by simp at hl ⊢; omega)
            have hbb : ∀ x ∈ c :: cs, x.r ≤ 1114111 := (fun x hx => hb x (List.mem_cons_of_mem _ hx))
            refine VLoop.mk [5, 2, 3] (Nat × Nat) (fun x => [.int .i64 x.1, .int .u64 x.2, .bool true]) (fun _ => []) (fun x => x.1 ≤ (c :: cs).length ∧ x.2 ≤ 1152921504606846977 ∧ numLoop (scrR c.r) (((c :: cs).map (·.r)).drop x.1) x.2 = numLoop (scrR c.r) ((c :: cs).map (·.r)) 0) (fun x => (c :: cs).length - x.1) (0, 0) ?_ ?_
            · exact ⟨⟨by simp, by simp, by simp⟩, rfl, .nil⟩
            rintro ⟨i, n⟩ ⟨hi, hn, hI⟩
            dsimp only at hi hn hI ⊢
            refine go ?_
            refine fork (fun hlt => go ?_) (fun hlt => go ?_)
            · have hlt : i < (c :: cs).length := by simp at hlt ⊢; omega
              obtain ⟨x, hx⟩ : ∃ x, (c :: cs)[i]? = some x := ⟨(c :: cs)[i], by simp [hlt]⟩
              have hxr := hbb x (List.mem_of_getElem? hx)
              have hd : ((c :: cs).map (·.r)).drop i = x.r :: ((c :: cs).map (·.r)).drop (i + 1) := by
                obtain ⟨h1, h2⟩ := List.getElem?_eq_some_iff.1 hx
                rw [List.drop_eq_getElem_cons (by simpa using hlt), List.getElem_map, h2]
              have e0 := e1 hx
              rw [hd, numLoop] at hI
              refine VQ.mk (.int .i32 x.r) (by refine go ?_; exact VNth.mk _ (by simpa using e0) ⟨rfl, rfl⟩) (go ?_)
              refine VQ.mk (.int .i32 (scrR x.r)) (by refine go ?_; refine Fn.use (f_script x.r) (go ?_); exact ⟨congrArg _ (rfl), rfl⟩) (go ?_)
              refine VQ.mk (.int .i32 (scrR c.r)) (by refine go ?_; refine Fn.use (f_script c.r) (go ?_); exact ⟨congrArg _ (rfl), rfl⟩) (go ?_)
              refine fork (fun hne => go ?_) (fun hne => go ?_)
              · refine VRet.mk [] .nil ?_
                rw [if_pos (by omega)] at hI
                rw [← hI]; exact ⟨rfl, rfl⟩
              · rw [if_neg (by omega)] at hI
                have hsx := scrR_bound (r := x.r) (by omega)
                refine VQ.mk (.int .i32 x.r) (by refine go ?_; exact VNth.mk _ (by simpa using e0) ⟨rfl, rfl⟩) (go ?_)
                refine VQ.mk (.int .i32 x.r) (by refine go ?_; exact VNth.mk _ (by simpa using e0) ⟨rfl, rfl⟩) (go ?_)
                refine VQ.mk (.int .i32 (scrR x.r)) (by refine go ?_; refine Fn.use (f_script x.r) (go ?_); exact ⟨congrArg _ (rfl), rfl⟩) (go ?_)
                refine ⟨(i + 1, min (10 * n + (x.r - (scrR c.r).toNat)) 1152921504606846977), ⟨?_, Nat.min_le_right _ _, hI⟩, ?_, ?_, .nil⟩
                · dsimp only; omega
                · dsimp only; omega
                · dsimp only
                  rw [show ((i + 1 : Nat) : Int) = (i : Int) + 1 by omega, show min (10 * (n : Int) + ((x.r : Int) - scrR x.r)) 1152921504606846977 = ((min (10 * n + (x.r - (scrR c.r).toNat)) 1152921504606846977 : Nat) : Int) by omega]
            · refine VRet.mk [] .nil ?_
              rw [List.drop_eq_nil_of_le (by simp at hlt ⊢; omega), numLoop] at hI
              rw [← hI]; exact ⟨rfl, rfl⟩
      · have hmm : decide (c.r = 45 ∨ c.r = 8722) = false := decide_eq_false (by omega)
        rw [hmm]
        rw [if_neg Bool.false_ne_true]
        have e1 : ∀ {i : Nat} {x : Ch}, (c :: cs)[i]? = some x → ((chC (c :: cs) ++ ra).drop (i * 4))[0]? = some (.int .i32 x.r) := fun h => chC_r h
        refine Fn.use (f_script c.r) (go ?_)
        refine fork (fun h0 => go ?_) (fun h0 => go ?_)
        · refine VRet.mk [] .nil ?_
          rw [List.map_cons, numR', if_pos (by omega)]; exact ⟨rfl, rfl⟩
        · rw [List.map_cons, numR', if_neg (by omega), ← List.map_cons]
          have h0 : scrR c.r ≠ 0 := by omega
          have hsb := scrR_bound h0
          have hll : (c :: cs).length ≤ 1000000000 := hl
          have hbb : ∀ x ∈ c :: cs, x.r ≤ 1114111 := hb
          refine VLoop.mk [5, 2, 3] (Nat × Nat) (fun x => [.int .i64 x.1, .int .u64 x.2, .bool false]) (fun _ => []) (fun x => x.1 ≤ (c :: cs).length ∧ x.2 ≤ 1152921504606846977 ∧ numLoop (scrR c.r) (((c :: cs).map (·.r)).drop x.1) x.2 = numLoop (scrR c.r) ((c :: cs).map (·.r)) 0) (fun x => (c :: cs).length - x.1) (0, 0) ?_ ?_
          · exact ⟨⟨by simp, by simp, by simp⟩, rfl, .nil⟩
          rintro ⟨i, n⟩ ⟨hi, hn, hI⟩
          dsimp only at hi hn hI ⊢
          refine go ?_
          refine fork (fun hlt => go ?_) (fun hlt => go ?_)
          · have hlt : i < (c :: cs).length := by simp at hlt ⊢; omega
            obtain ⟨x, hx⟩ : ∃ x, (c :: cs)[i]? = some x := ⟨(c :: cs)[i], by simp [hlt]⟩
            have hxr := hbb x (List.mem_of_getElem? hx)
            have hd : ((c :: cs).map (·.r)).drop i = x.r :: ((c :: cs).map (·.r)).drop (i + 1) := by
              obtain ⟨h1, h2⟩ := List.getElem?_eq_some_iff.1 hx
              rw [List.drop_eq_getElem_cons (by simpa using hlt), List.getElem_map, h2]
            have e0 := e1 hx
            rw [hd, numLoop] at hI
            refine VQ.mk (.int .i32 x.r) (by refine go ?_; exact VNth.mk _ (by simpa using e0) ⟨rfl, rfl⟩) (go ?_)
            refine VQ.mk (.int .i32 (scrR x.r)) (by refine go ?_; refine Fn.use (f_script x.r) (go ?_); exact ⟨congrArg _ (rfl), rfl⟩) (go ?_)
            refine VQ.mk (.int .i32 (scrR c.r)) (by refine go ?_; refine Fn.use (f_script c.r) (go ?_); exact ⟨congrArg _ (rfl), rfl⟩) (go ?_)
            refine fork (fun hne => go ?_) (fun hne => go ?_)
            · refine VRet.mk [] .nil ?_
              rw [if_pos (by omega)] at hI
              rw [← hI]; exact ⟨rfl, rfl⟩
            · rw [if_neg (by omega)] at hI
              have hsx := scrR_bound (r := x.r) (by omega)
              refine VQ.mk (.int .i32 x.r) (by refine go ?_; exact VNth.mk _ (by simpa using e0) ⟨rfl, rfl⟩) (go ?_)
              refine VQ.mk (.int .i32 x.r) (by refine go ?_; exact VNth.mk _ (by simpa using e0) ⟨rfl, rfl⟩) (go ?_)
              refine VQ.mk (.int .i32 (scrR x.r)) (by refine go ?_; refine Fn.use (f_script x.r) (go ?_); exact ⟨congrArg _ (rfl), rfl⟩) (go ?_)
              refine ⟨(i + 1, min (10 * n + (x.r - (scrR c.r).toNat)) 1152921504606846977), ⟨?_, Nat.min_le_right _ _, hI⟩, ?_, ?_, .nil⟩
              · dsimp only; omega
              · dsimp only; omega
              · dsimp only
                rw [show ((i + 1 : Nat) : Int) = (i : Int) + 1 by omega, show min (10 * (n : Int) + ((x.r : Int) - scrR x.r)) 1152921504606846977 = ((min (10 * n + (x.r - (scrR c.r).toNat)) 1152921504606846977 : Nat) : Int) by omega]
          · refine VRet.mk [] .nil ?_
            rw [List.drop_eq_nil_of_le (by simp at hlt ⊢; omega), numLoop] at hI
            rw [← hI]; exact ⟨rfl, rfl⟩
theorem charsR_r (l : List UInt8) : (charsR l).map (·.r) = chars l := by
  unfold charsR chars
  generalize 0 = i
  induction runes l generalizing i with
  | nil => rfl
  | cons x rs ih => obtain ⟨r, k⟩ := x; simp [chL, ih]
theorem charsR_le (l : List UInt8) : ∀ c ∈ charsR l, c.r ≤ 1114111 := by
  intro c hc
  have : c.r ∈ chars l := by rw [← charsR_r]; exact List.mem_map_of_mem hc
  clear hc
  generalize c.r = r at this
  revert this
  induction l using runes_ind with
  | h0 => simp [chars]
  | h1 l hl ih =>
    rw [chars_cons hl, List.mem_cons]
    rintro (h | h)
    · rw [h]; exact (dec_pos l hl).2.2.2
    · exact ih h
theorem charsR_len (l : List UInt8) : (charsR l).length ≤ l.length := by
  have := runes_len l
  unfold charsR; rw [chL_length]; exact this
theorem f_number' (l : List UInt8) (hl : l.length ≤ 1000000000) : Av.Fn Tryd.prog 50 [.fz (chC (charsR l)) (charsR l).length false] (numV (minusR (chars l)) (numR (chars l))) := by
  have := f_number (charsR l) [] false (charsR_le l) (by have := charsR_len l; omega)
  rwa [List.append_nil, charsR_r] at this
/-- What the reference's Number says. -/
def refNumR (l : List Nat) : Int × Int := match numR l with
  | none => (0, 9)
  | some n => if minusR l ∧ n ≤ 1152921504606846976 then (-n, 0) else if 1152921504606846975 < n then (0, 11) else (n, 0)
theorem numR_le {l : List Nat} {n : Nat} (h : numR l = some n) : n ≤ 1152921504606846977 := by
  unfold numR numR' at h
  split at h
  · cases h
  · split at h
    · cases h
    · exact numLoop_le (by omega) h
end Go.Proofs.YtliabblchkgclaaDoor

namespace Go.Proofs.YtliabblchkgclaaDoor
open Go Go.Av
/-- What the reference's Name says. -/
def refNameR (l : List UInt8) : Bool := decide (1 ≤ (chars l).length ∧ (chars l).length ≤ 32) && !decide ((chars l).head? = some 34) && !decide (l = [33]) && (chars l).all (okCh false) && (numR (chars l)).isNone
theorem chC_cons (c : Ch) (r : List Ch) : chC (c :: r) = c.cells ++ chC r := by simp [chC]
theorem f_refName (l : List UInt8) (hl : l.length ≤ 1000000000) : Av.Fn Tryd.prog 37 [.str l] (.bool (refNameR l)) := by
  have h1 := f_Chars l hl
  have h2 := f_number' l hl
  have hr := charsR_r l
  have hle := charsR_le l
  have hlen := charsR_len l
  unfold refNameR
  rw [← hr] at h2 ⊢
  clear hr
  generalize charsR l = cs at h1 h2 hle hlen ⊢
  refine ACalls.of_W tb_ok (fn := Tryd.f37) (n := 73) (by kernel_rfl) rfl (by kernel_rfl) rfl rfl (by simp) (go ?_)
  refine Fn.use (h1) (go ?_)
  cases cs with
  | nil =>
    refine go ?_
    refine VRet.mk [] .nil ?_
    exact ⟨rfl, rfl⟩
  | cons c cs =>
    refine VIf.no (by simp; try omega) (go ?_)
    refine fork (fun h4 => go ?_) (fun h4 => go ?_)
    · refine VRet.mk [] .nil ?_
      simp at h4 ⊢; omega
    refine fork (fun h5 => go ?_) (fun h5 => go ?_)
    · refine VRet.mk [] .nil ?_
      simp at h5 ⊢; omega
    refine fork (fun h6 => go ?_) (fun h6 => go ?_)
    · refine VRet.mk [] .nil ?_
      simp at h6 ⊢; simp [h6]
    refine VLoop.mk [4] Nat (fun i => [.int .i64 i]) (fun _ => []) (fun i => i ≤ (c :: cs).length ∧ (((c :: cs).map (·.r)).drop i).all (okCh false) = ((c :: cs).map (·.r)).all (okCh false)) (fun i => (c :: cs).length - i) 0 ?_ ?_
    · exact ⟨⟨by simp, by simp⟩, rfl, .nil⟩
    rintro i ⟨hi, hI⟩
    refine go ?_
    refine fork (fun hlt => go ?_) (fun hlt => go ?_)
    · have hlt : i < (c :: cs).length := by omega
      obtain ⟨x, hx⟩ : ∃ x, (c :: cs)[i]? = some x := ⟨(c :: cs)[i], by simp [hlt]⟩
      have hxr := hle x (List.mem_of_getElem? hx)
      have hd : ((c :: cs).map (·.r)).drop i = x.r :: ((c :: cs).map (·.r)).drop (i + 1) := by
        obtain ⟨h1, h2⟩ := List.getElem?_eq_some_iff.1 hx
        rw [List.drop_eq_getElem_cons (by simpa using hlt), List.getElem_map, h2]
      have e0 := chC_r (ra := []) hx
      rw [List.append_nil] at e0
      rw [hd, List.all_cons] at hI
      refine VNth.mk (.int .i32 x.r) (by simpa using e0) (go ?_)
      refine Fn.use (f_refBlank x.r) (go ?_)
      refine fork (fun a1 => go ?_) (fun a1 => go ?_)
      · refine VRet.mk [] .nil ?_
        rw [← hI]; simp [okCh, a1]
      refine VNth.mk (.int .i32 x.r) (by simpa using e0) (go ?_)
      refine fork (fun a2 => go ?_) (fun a2 => go ?_)
      · refine VRet.mk [] .nil ?_
        have a2 : x.r < 32 := by omega
        rw [← hI]; simp [okCh, a2]
      refine VNth.mk (.int .i32 x.r) (by simpa using e0) (go ?_)
      refine fork (fun a3 => go ?_) (fun a3 => go ?_)
      · refine VRet.mk [] .nil ?_
        have a3 : x.r = 127 := by omega
        rw [← hI]; simp [okCh, a3]
      refine VNth.mk (.int .i32 x.r) (by simpa using e0) (go ?_)
      refine fork (fun a4 => go ?_) (fun a4 => go ?_)
      · refine VRet.mk [] .nil ?_
        have a4 : x.r = 65533 := by omega
        rw [← hI]; simp [okCh, a4]
      refine ⟨i + 1, ⟨by omega, ?_⟩, by omega, rfl, .nil⟩
      have hok : okCh false x.r = true := by simp [okCh, a1]; omega
      rw [hok, Bool.true_and] at hI
      exact hI
    · rw [List.drop_eq_nil_of_le (by simp; simp at hlt; omega)] at hI
      rw [← hI]
      refine Fn.use (h2) (go ?_)
      cases hn : numR ((c :: cs).map (·.r)) with
      | none =>
        refine go ?_
        refine VRet.mk [] .nil ?_
        simp at h4 h5 ⊢; simp [h6]; omega
      | some n =>
        refine go ?_
        refine VRet.mk [] .nil ?_
        simp
/-! Numbers: as the program has them. -/
theorem digR_scrR (r : Nat) : digR r = if scrR r = 0 then none else some ((r : Int) - scrR r, scrR r) := by
  unfold digR scrR
  repeat' split
  all_goals first | rfl | omega
theorem num_dig {z : Int} (hz : 48 ≤ z) : ∀ (rs : List Nat) (n : Nat) (n' : Int) (ok : Bool), ((ok = true ∧ n' = n ∧ n ≤ 1152921504606846976) ∨ (ok = false ∧ n = 1152921504606846977)) →
    (numLoop z rs n = none ∧ digLoop rs n' ok z = none) ∨ ∃ m m' ok', numLoop z rs n = some m ∧ digLoop rs n' ok z = some (m', ok', z) ∧ ((ok' = true ∧ m' = m ∧ m ≤ 1152921504606846976) ∨ (ok' = false ∧ m = 1152921504606846977))
  | [], n, n', ok, h => .inr ⟨n, n', ok, rfl, rfl, h⟩
  | r :: rs, n, n', ok, h => by
    rw [numLoop, digLoop, digR_scrR]
    by_cases h0 : scrR r = 0
    · rw [if_pos (by omega), if_pos h0]; exact .inl ⟨rfl, rfl⟩
    rw [if_neg h0]
    have hb := scrR_bound h0
    dsimp only
    by_cases h1 : scrR r = z
    · rw [if_neg (by omega), if_neg (by omega)]
      by_cases h2 : n' > (1152921504606846976 - ((r : Int) - scrR r)) / 10
      · rw [if_pos h2, h1]
        refine num_dig hz rs _ _ _ (.inr ⟨rfl, ?_⟩)
        rcases h with ⟨_, h, _⟩ | ⟨_, h⟩ <;> omega
      · rw [if_neg h2, h1]
        refine num_dig hz rs _ _ _ ?_
        rcases h with ⟨e, h, _⟩ | ⟨e, h⟩
        · exact .inl ⟨e, by omega, by omega⟩
        · exact .inr ⟨e, by omega⟩
    · rw [if_pos h1, if_pos (by omega)]; exact .inl ⟨rfl, rfl⟩
theorem num_dig0 (l : List Nat) : (numR' l = none ∧ (digLoop l 0 true (-1) = none ∨ l = [])) ∨ ∃ m m' ok' z, 48 ≤ z ∧ numR' l = some m ∧ digLoop l 0 true (-1) = some (m', ok', z) ∧ ((ok' = true ∧ m' = m ∧ m ≤ 1152921504606846976) ∨ (ok' = false ∧ m = 1152921504606846977)) := by
  cases l with
  | nil => exact .inl ⟨rfl, .inr rfl⟩
  | cons r rs =>
    rw [numR', digLoop, digR_scrR]
    by_cases h0 : scrR r = 0
    · rw [if_pos h0, if_pos h0]; exact .inl ⟨rfl, .inl rfl⟩
    · rw [if_neg h0, if_neg h0]
      have hb := scrR_bound h0
      dsimp only
      rw [if_neg (by omega), if_neg (by omega)]
      have := num_dig (z := scrR r) (by omega) rs (min (10 * 0 + (r - (scrR r).toNat)) 1152921504606846977) (10 * 0 + ((r : Int) - scrR r)) true (.inl ⟨rfl, by omega, by omega⟩)
      rw [numLoop, if_neg (by simp)]
      rcases this with h | ⟨m, m', ok', h1, h2, h3⟩
      · exact .inl ⟨h.1, .inl h.2⟩
      · exact .inr ⟨m, m', ok', _, by omega, h1, h2, h3⟩
theorem minus_eq (l : List UInt8) : minusB l = minusR (chars l) := by
  by_cases hl : l = []
  · subst hl; rfl
  rw [chars_cons hl, minusR]
  have hlen : 1 ≤ l.length := by cases l with | nil => exact absurd rfl hl | cons => simp
  have hs : minusB l = (decide ((l.getD 0 0).toNat = 45) || decide ((l.getD 0 0).toNat = 226 ∧ (l.getD 1 0).toNat = 136 ∧ (l.getD 2 0).toNat = 146)) := by
    unfold minusB begins
    match l with
    | [] => simp at hlen
    | [a] => simp [← UInt8.toNat_inj]
    | [a, b] => simp [← UInt8.toNat_inj]
    | a :: b :: d :: r => simp [← UInt8.toNat_inj]
  rw [hs, dec_N]
  have b0 := (l.getD 0 0).toNat_lt
  have b1 := (l.getD 1 0).toNat_lt
  have b2 := (l.getD 2 0).toNat_lt
  have b3 := (l.getD 3 0).toNat_lt
  have hlen2 : (l.getD 2 0).toNat ≠ 0 → 2 < l.length := by
    intro h; refine Decidable.byContradiction fun hn => h ?_
    rw [List.getD_eq_getElem?_getD, List.getElem?_eq_none (by omega)]; rfl
  generalize (l.getD 0 0).toNat = a at *
  generalize (l.getD 1 0).toNat = b at *
  generalize (l.getD 2 0).toNat = c at *
  generalize (l.getD 3 0).toNat = d at *
  generalize l.length = n at *
  rw [Bool.eq_iff_iff]
  simp only [Bool.or_eq_true, decide_eq_true_eq]
  unfold Lib.decodeN
  repeat' split
  all_goals (dsimp only; omega)
theorem digits_num (l : List UInt8) : (digitsR l).2.1 = (numR (chars l)).isSome ∧ ((digitsR l).2.1 = true → ((digitsR l).2.2 = true ↔ (refNumR (chars l)).2 = 0) ∧ ((digitsR l).2.2 = true → (digitsR l).1 = (refNumR (chars l)).1)) := by
  have hc : (runes (if minusB l then l.drop (dec l).2 else l)).map (·.1) = if minusR (chars l) then (chars l).drop 1 else chars l := by
    rw [minus_eq]
    by_cases hm : minusR (chars l) = true
    · rw [if_pos hm, if_pos hm]
      by_cases hl : l = []
      · subst hl; rfl
      · rw [chars_cons hl]; rfl
    · rw [if_neg hm, if_neg hm]; rfl
  unfold digitsR refNumR numR
  rw [hc, minus_eq]
  generalize (if minusR (chars l) then (chars l).drop 1 else chars l) = cs
  generalize minusR (chars l) = m
  rcases num_dig0 cs with ⟨h1, h2 | h2⟩ | ⟨n, n', ok, z, hz, h1, h2, h3⟩
  · rw [h1, h2]; simp
  · subst h2; rw [h1]; simp [digLoop]
  · rw [h1, h2]
    dsimp only
    rcases h3 with ⟨rfl, rfl, h3⟩ | ⟨rfl, rfl⟩
    · cases m with
      | true => simp [h3]; omega
      | false =>
        by_cases h4 : 1152921504606846975 < n
        · simp [h4]; omega
        · simp [h4]; omega
    · cases m with
      | true => simp; omega
      | false => simp; omega
theorem okAll_all : ∀ (f : Bool) (l : List Nat), okAll f l = (l.all (okCh false) && !(f && decide (l.head? = some 34)))
  | f, [] => by simp [okAll]
  | f, r :: rs => by
    rw [okAll, okAll_all false rs]
    simp only [List.all_cons, List.head?_cons, Option.some.injEq, Bool.false_and, Bool.not_false, Bool.and_true]
    have : okCh f r = (okCh false r && !(f && decide (r = 34))) := by
      unfold okCh
      cases decide (r = 65533) <;> cases blankB r <;> cases decide (r < 32) <;> cases decide (r = 127) <;> cases f <;> simp
    rw [this]
    cases okCh false r <;> cases (f && decide (r = 34)) <;> simp
theorem refName_eq (l : List UInt8) : refNameR l = nameR l := by
  unfold refNameR nameR
  rw [okAll_all, (digits_num l).1]
  have h1 : decide (1 ≤ (chars l).length ∧ (chars l).length ≤ 32) = (decide (1 ≤ (chars l).length) && decide ((chars l).length ≤ 32)) := by simp
  rw [h1]
  have h2 : decide (l ≠ [33]) = !decide (l = [33]) := by simp
  rw [h2]
  have h3 : (numR (chars l)).isNone = !(numR (chars l)).isSome := by cases numR (chars l) <;> rfl
  rw [h3]
  generalize decide (1 ≤ (chars l).length) = a
  generalize decide ((chars l).length ≤ 32) = b
  generalize decide ((chars l).head? = some 34) = c
  generalize decide (l = [33]) = d
  generalize (chars l).all (okCh false) = e
  generalize (numR (chars l)).isSome = f
  revert a b c d e f
  decide
theorem f_refName' (l : List UInt8) (hl : l.length ≤ 1000000000) : Av.Fn Tryd.prog 37 [.str l] (.bool (nameR l)) := by
  rw [← refName_eq]; exact f_refName l hl
end Go.Proofs.YtliabblchkgclaaDoor
