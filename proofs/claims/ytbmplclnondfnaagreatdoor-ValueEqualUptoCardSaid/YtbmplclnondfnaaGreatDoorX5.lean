/- Lex: blanks. Lex: is a character a blank? Lex: digits, numbers. Lex: Name. The tokens of a text, as plain Lean tells them. Conditions: none. What parse reads, as plain Lean tells it. Conditions: none. Lex: Tokens. The reader of parse: its small steps. Conditions: as each says. The trees of values and items: the walks. Conditions: as each says. -/
import Derived.Test.YtbmplclnondfnaaGreatDoorX4
import Derived.Test.YtbmplclnondfnaaGreatDoorX3
set_option linter.all false
set_option maxRecDepth 20000
namespace Go.Proofs.YtbmplclnondfnaaGreatDoor
open Go Go.Av
/-- The blanks, as a text. -/
def blanks : List UInt8 := [9, 10, 13, 32, 194, 160, 227, 128, 128]
def blankB (r : Int) : Bool := decide (r = 9) || decide (r = 10) || decide (r = 13) || decide (r = 32) || decide (r = 160) || decide (r = 12288)
theorem ascii_blank : ∀ n : Fin 128, (decide (0 ≤ Lib.indexByte blanks (UInt8.ofNat n.1)) = blankB n.1) := by decide +kernel
def posn (i : Nat) : Nat := [0, 1, 2, 3, 4, 6, 9].getD i 9
theorem posn_next : ∀ i : Fin 6, (Utf8.decode ⟨⟨blanks⟩⟩ (posn i.1)).1 < 13000 ∧ posn i.1 + (Utf8.decode ⟨⟨blanks⟩⟩ (posn i.1)).2 = posn (i.1 + 1) ∧ posn i.1 < 9 := by decide +kernel
theorem f37_ascii (r : Int) (h0 : 0 ≤ r) (h1 : r < 128) : ∃ k : Int, decide (0 ≤ k) = blankB r ∧ Av.Fn Tryz.prog 161 [.str blanks, .int .i32 r] (.int .i64 k) := by
  refine ⟨Lib.indexByte blanks r.toNat.toUInt8, ?_, ?_⟩
  · have := ascii_blank ⟨r.toNat, by omega⟩
    simp only [show ((r.toNat : Nat) : Int) = r by omega] at this
    exact this
  · refine ACalls.of_W tb_ok (fn := Tryz.f161) (n := 187) (by kernel_rfl) rfl (by kernel_rfl) rfl rfl (by simp) (go ?_)
    refine fork (fun h2 => go ?_) (fun h2 => go ?_)
    · refine fork (fun h3 => go ?_) (fun h3 => go ?_)
      · refine Fn.use (fn_IndexByte blanks r) (go ?_)
        refine VRet.mk [] .nil ?_
        simp
      · omega
    · omega
theorem f37_bad : Av.Fn Tryz.prog 161 [.str blanks, .int .i32 65533] (.int .i64 (-1)) := by
  refine ACalls.of_W tb_ok (fn := Tryz.f161) (n := 187) (by kernel_rfl) rfl (by kernel_rfl) rfl rfl (by simp) (go ?_)
  refine VAll.mk (fun b => go ?_)
  refine VLoop.mk [] Nat (fun _ => []) (fun i => [(b, .siter blanks (posn i))]) (fun i => i ≤ 6) (fun i => 6 - i) 0 ?_ ?_
  · exact ⟨by omega, rfl, .cons 0 rfl .nil⟩
  intro i hi
  refine go ?_
  refine fork (fun h => go ?_) (fun h => go ?_)
  · have hi6 : i < 6 := by
      rcases Nat.lt_or_ge i 6 with h6 | h6
      · exact h6
      · obtain rfl : i = 6 := by omega
        exact absurd h (by decide)
    obtain ⟨h1, h2, h3⟩ := posn_next ⟨i, hi6⟩
    dsimp only at h1 h2 h3
    generalize Utf8.decode ⟨⟨blanks⟩⟩ (posn i) = c at *
    refine go ?_
    refine fork (fun h4 => go ?_) (fun h4 => go ?_)
    · omega
    · exact ⟨i + 1, by omega, by omega, rfl, .cons 0 (by rw [h2]; rfl) .nil⟩
  · refine VRet.mk [] .nil ?_
    simp
theorem f37_invalid (r : Int) (h0 : 128 ≤ r) (h1 : r ≠ 65533) (h3 : Lib.validRune r = false) : Av.Fn Tryz.prog 161 [.str blanks, .int .i32 r] (.int .i64 (-1)) := by
  refine ACalls.of_W tb_ok (fn := Tryz.f161) (n := 187) (by kernel_rfl) rfl (by kernel_rfl) rfl rfl (by simp) (go ?_)
  refine fork (fun h4 => go ?_) (fun h4 => go ?_)
  · refine fork (fun h5 => go ?_) (fun h5 => go ?_)
    · omega
    · refine fork (fun h6 => go ?_) (fun h6 => go ?_)
      · omega
      · have h := fn_ValidRune r
        rw [h3] at h
        refine Fn.use (h) (go ?_)
        refine VRet.mk [] .nil ?_
        simp
  · omega








theorem blanks_other {c : UInt8} (hc : 128 ≤ c.toNat ∧ c.toNat < 192 ∧ c.toNat ≠ 160 ∧ c.toNat ≠ 128) (k : Nat) : Lib.indexByte (List.drop k blanks) (c.toNat : Int).toNat.toUInt8 = -1 := by
  have key : ∀ n : Fin 256, (128 ≤ n.1 ∧ n.1 < 192 ∧ n.1 ≠ 160 ∧ n.1 ≠ 128) → ∀ k : Fin 10, Lib.indexByte (List.drop k.1 blanks) n.1.toUInt8 = -1 := by decide +kernel
  have h := key ⟨c.toNat, c.toNat_lt⟩ hc
  by_cases hk : k < 10
  · exact h ⟨k, hk⟩
  · rw [List.drop_eq_nil_of_le (by simp [blanks]; omega)]; rfl
theorem f37_2a (r : Int) (e : UInt8) (h0 : 128 ≤ r) (h1 : r ≠ 65533) (h3 : Lib.validRune r = true) (hE : (Utf8.encode r).data.toList = [e, 160]) :
    Av.Fn Tryz.prog 161 [.str blanks, .int .i32 r] (.int .i64 (if e.toNat = 194 then 4 else -1)) := by
  refine ACalls.of_W tb_ok (fn := Tryz.f161) (n := 187) (by kernel_rfl) rfl (by kernel_rfl) rfl rfl (by simp) (go ?_)
  refine fork (fun h4 => go ?_) (fun h4 => go ?_)
  · refine fork (fun h5 => go ?_) (fun h5 => go ?_)
    · omega
    · refine fork (fun h6 => go ?_) (fun h6 => go ?_)
      · omega
      · have h := fn_ValidRune r
        rw [h3] at h
        refine Fn.use (h) (go ?_)
        refine VSem.scope 1 ?_
        refine go ?_
        rw [hE]
        refine go ?_
        refine VInt.to (1) (by simp) (by omega) (by omega) (go ?_)
        refine VLoop.un 5 [9, 10] ?_
        refine go ?_
        refine VSem.scope 1 ?_
        refine go ?_
        refine VQ.mk (.int .i64 3) (by refine go ?_; refine Fn.use (fn_IndexByte _ _) (go ?_); exact ⟨congrArg _ (by show Lib.indexByte (List.drop 2 blanks) 160 = 3; decide +kernel), rfl⟩) (go ?_)
        refine VLoop.un 5 [12] ?_
        refine go ?_
        refine fork (fun h7 => go ?_) (fun h7 => go ?_)
        · have h7 : ¬ (194 : Int) = e.toNat := h7
          rw [if_neg (by omega)]
          refine Fn.use (fn_Cutover _ (by decide) (by decide)) (go ?_)
          refine VSem.scope 1 ?_
          refine go ?_
          refine VQ.mk (.int .i64 (-1)) (by refine go ?_; refine Fn.use (fn_IndexByte _ _) (go ?_); exact ⟨congrArg _ (by show Lib.indexByte (List.drop 7 blanks) 160 = -1; decide +kernel), rfl⟩) (go ?_)
          refine VRet.mk [] .nil ?_
          simp
        · refine VRet.mk [] .nil ?_
          have h7 : (194 : Int) = e.toNat := h7
          rw [if_pos (by omega)]
          simp
  · omega
theorem f37_2b (r : Int) (e : UInt8) (h0 : 128 ≤ r) (h1 : r ≠ 65533) (h3 : Lib.validRune r = true) (hE : (Utf8.encode r).data.toList = [e, 128]) (he : 194 ≤ e.toNat ∧ e.toNat < 224) :
    Av.Fn Tryz.prog 161 [.str blanks, .int .i32 r] (.int .i64 (-1)) := by
  refine ACalls.of_W tb_ok (fn := Tryz.f161) (n := 187) (by kernel_rfl) rfl (by kernel_rfl) rfl rfl (by simp) (go ?_)
  refine fork (fun h4 => go ?_) (fun h4 => go ?_)
  · refine fork (fun h5 => go ?_) (fun h5 => go ?_)
    · omega
    · refine fork (fun h6 => go ?_) (fun h6 => go ?_)
      · omega
      · have h := fn_ValidRune r
        rw [h3] at h
        refine Fn.use (h) (go ?_)
        refine VSem.scope 1 ?_
        refine go ?_
        rw [hE]
        refine go ?_
        refine VInt.to (1) (by simp) (by omega) (by omega) (go ?_)
        refine VLoop.un 5 [9, 10] ?_
        refine go ?_
        refine VSem.scope 1 ?_
        refine go ?_
        refine VQ.mk (.int .i64 5) (by refine go ?_; refine Fn.use (fn_IndexByte _ _) (go ?_); exact ⟨congrArg _ (by show Lib.indexByte (List.drop 2 blanks) 128 = 5; decide +kernel), rfl⟩) (go ?_)
        refine VLoop.un 5 [12] ?_
        refine go ?_
        refine fork (fun h7 => go ?_) (fun h7 => go ?_)
        · refine Fn.use (fn_Cutover _ (by decide) (by decide)) (go ?_)
          refine VSem.scope 1 ?_
          refine go ?_
          refine VLoop.un 5 [12] ?_
          refine go ?_
          refine fork (fun h8 => go ?_) (fun h8 => go ?_)
          · refine Fn.use (fn_Cutover _ (by decide) (by decide)) (go ?_)
            refine VRet.mk [] .nil ?_
            simp
          · exfalso
            have h8 : (128 : Int) = e.toNat := h8
            omega
        · exfalso
          have h7 : (227 : Int) = e.toNat := h7
          omega
  · omega
theorem f37_3a (r : Int) (e e' : UInt8) (h0 : 128 ≤ r) (h1 : r ≠ 65533) (h3 : Lib.validRune r = true) (hE : (Utf8.encode r).data.toList = [e, e', 160]) (he : 128 ≤ e'.toNat ∧ e'.toNat < 192) :
    Av.Fn Tryz.prog 161 [.str blanks, .int .i32 r] (.int .i64 (-1)) := by
  refine ACalls.of_W tb_ok (fn := Tryz.f161) (n := 187) (by kernel_rfl) rfl (by kernel_rfl) rfl rfl (by simp) (go ?_)
  refine fork (fun h4 => go ?_) (fun h4 => go ?_)
  · refine fork (fun h5 => go ?_) (fun h5 => go ?_)
    · omega
    · refine fork (fun h6 => go ?_) (fun h6 => go ?_)
      · omega
      · have h := fn_ValidRune r
        rw [h3] at h
        refine Fn.use (h) (go ?_)
        refine VSem.scope 1 ?_
        refine go ?_
        rw [hE]
        refine go ?_
        refine VInt.to (2) (by simp) (by omega) (by omega) (go ?_)
        refine VLoop.un 5 [9, 10] ?_
        refine go ?_
        refine VSem.scope 1 ?_
        refine go ?_
        refine VQ.mk (.int .i64 2) (by refine go ?_; refine Fn.use (fn_IndexByte _ _) (go ?_); exact ⟨congrArg _ (by show Lib.indexByte (List.drop 3 blanks) 160 = 2; decide +kernel), rfl⟩) (go ?_)
        refine VLoop.un 5 [12] ?_
        refine go ?_
        refine fork (fun h7 => go ?_) (fun h7 => go ?_)
        · refine Fn.use (fn_Cutover _ (by decide) (by decide)) (go ?_)
          refine VSem.scope 1 ?_
          refine go ?_
          refine VQ.mk (.int .i64 (-1)) (by refine go ?_; refine Fn.use (fn_IndexByte _ _) (go ?_); exact ⟨congrArg _ (by show Lib.indexByte (List.drop 7 blanks) 160 = -1; decide +kernel), rfl⟩) (go ?_)
          refine VRet.mk [] .nil ?_
          simp
        · exfalso
          have h7 : (194 : Int) = e'.toNat := h7
          omega
  · omega
theorem f37_3b (r : Int) (e e' : UInt8) (h0 : 128 ≤ r) (h1 : r ≠ 65533) (h3 : Lib.validRune r = true) (hE : (Utf8.encode r).data.toList = [e, e', 128]) (he : 128 ≤ e'.toNat ∧ e'.toNat < 192) :
    Av.Fn Tryz.prog 161 [.str blanks, .int .i32 r] (.int .i64 (if e.toNat = 227 ∧ e'.toNat = 128 then 6 else -1)) := by
  refine ACalls.of_W tb_ok (fn := Tryz.f161) (n := 187) (by kernel_rfl) rfl (by kernel_rfl) rfl rfl (by simp) (go ?_)
  refine fork (fun h4 => go ?_) (fun h4 => go ?_)
  · refine fork (fun h5 => go ?_) (fun h5 => go ?_)
    · omega
    · refine fork (fun h6 => go ?_) (fun h6 => go ?_)
      · omega
      · have h := fn_ValidRune r
        rw [h3] at h
        refine Fn.use (h) (go ?_)
        refine VSem.scope 1 ?_
        refine go ?_
        rw [hE]
        refine go ?_
        refine VInt.to (2) (by simp) (by omega) (by omega) (go ?_)
        refine VLoop.un 5 [9, 10] ?_
        refine go ?_
        refine VSem.scope 1 ?_
        refine go ?_
        refine VQ.mk (.int .i64 4) (by refine go ?_; refine Fn.use (fn_IndexByte _ _) (go ?_); exact ⟨congrArg _ (by show Lib.indexByte (List.drop 3 blanks) 128 = 4; decide +kernel), rfl⟩) (go ?_)
        refine VLoop.un 5 [12] ?_
        refine go ?_
        refine fork (fun h7 => go ?_) (fun h7 => go ?_)
        · refine Fn.use (fn_Cutover _ (by decide) (by decide)) (go ?_)
          refine VSem.scope 1 ?_
          refine go ?_
          refine VLoop.un 5 [12] ?_
          refine go ?_
          refine fork (fun h8 => go ?_) (fun h8 => go ?_)
          · have h8 : ¬ (128 : Int) = e'.toNat := h8
            rw [if_neg (by omega)]
            refine Fn.use (fn_Cutover _ (by decide) (by decide)) (go ?_)
            refine VRet.mk [] .nil ?_
            simp
          · have h8 : (128 : Int) = e'.toNat := h8
            refine fork (fun h9 => go ?_) (fun h9 => go ?_)
            · have h9 : ¬ (227 : Int) = e.toNat := h9
              rw [if_neg (by omega)]
              refine Fn.use (fn_Cutover _ (by decide) (by decide)) (go ?_)
              refine VRet.mk [] .nil ?_
              simp
            · have h9 : (227 : Int) = e.toNat := h9
              rw [if_pos (by omega)]
              refine VRet.mk [] .nil ?_
              simp
        · exfalso
          have h7 : (227 : Int) = e'.toNat := h7
          omega
  · omega
theorem f37_4a (r : Int) (e e'' e' : UInt8) (h0 : 128 ≤ r) (h1 : r ≠ 65533) (h3 : Lib.validRune r = true) (hE : (Utf8.encode r).data.toList = [e, e'', e', 160]) (he : 128 ≤ e'.toNat ∧ e'.toNat < 192) :
    Av.Fn Tryz.prog 161 [.str blanks, .int .i32 r] (.int .i64 (-1)) := by
  refine ACalls.of_W tb_ok (fn := Tryz.f161) (n := 187) (by kernel_rfl) rfl (by kernel_rfl) rfl rfl (by simp) (go ?_)
  refine fork (fun h4 => go ?_) (fun h4 => go ?_)
  · refine fork (fun h5 => go ?_) (fun h5 => go ?_)
    · omega
    · refine fork (fun h6 => go ?_) (fun h6 => go ?_)
      · omega
      · have h := fn_ValidRune r
        rw [h3] at h
        refine Fn.use (h) (go ?_)
        refine VSem.scope 1 ?_
        refine go ?_
        rw [hE]
        refine go ?_
        refine VInt.to (3) (by simp) (by omega) (by omega) (go ?_)
        refine VLoop.un 5 [9, 10] ?_
        refine go ?_
        refine VSem.scope 1 ?_
        refine go ?_
        refine VQ.mk (.int .i64 1) (by refine go ?_; refine Fn.use (fn_IndexByte _ _) (go ?_); exact ⟨congrArg _ (by show Lib.indexByte (List.drop 4 blanks) 160 = 1; decide +kernel), rfl⟩) (go ?_)
        refine VLoop.un 5 [12] ?_
        refine go ?_
        refine fork (fun h7 => go ?_) (fun h7 => go ?_)
        · refine Fn.use (fn_Cutover _ (by decide) (by decide)) (go ?_)
          refine VSem.scope 1 ?_
          refine go ?_
          refine VQ.mk (.int .i64 (-1)) (by refine go ?_; refine Fn.use (fn_IndexByte _ _) (go ?_); exact ⟨congrArg _ (by show Lib.indexByte (List.drop 7 blanks) 160 = -1; decide +kernel), rfl⟩) (go ?_)
          refine VRet.mk [] .nil ?_
          simp
        · exfalso
          have h7 : (194 : Int) = e'.toNat := h7
          omega
  · omega
theorem f37_4b (r : Int) (e e'' e' : UInt8) (h0 : 128 ≤ r) (h1 : r ≠ 65533) (h3 : Lib.validRune r = true) (hE : (Utf8.encode r).data.toList = [e, e'', e', 128]) (he : 128 ≤ e'.toNat ∧ e'.toNat < 192) (he' : 128 ≤ e''.toNat ∧ e''.toNat < 192) :
    Av.Fn Tryz.prog 161 [.str blanks, .int .i32 r] (.int .i64 (-1)) := by
  refine ACalls.of_W tb_ok (fn := Tryz.f161) (n := 187) (by kernel_rfl) rfl (by kernel_rfl) rfl rfl (by simp) (go ?_)
  refine fork (fun h4 => go ?_) (fun h4 => go ?_)
  · refine fork (fun h5 => go ?_) (fun h5 => go ?_)
    · omega
    · refine fork (fun h6 => go ?_) (fun h6 => go ?_)
      · omega
      · have h := fn_ValidRune r
        rw [h3] at h
        refine Fn.use (h) (go ?_)
        refine VSem.scope 1 ?_
        refine go ?_
        rw [hE]
        refine go ?_
        refine VInt.to (3) (by simp) (by omega) (by omega) (go ?_)
        refine VLoop.un 5 [9, 10] ?_
        refine go ?_
        refine VSem.scope 1 ?_
        refine go ?_
        refine VQ.mk (.int .i64 3) (by refine go ?_; refine Fn.use (fn_IndexByte _ _) (go ?_); exact ⟨congrArg _ (by show Lib.indexByte (List.drop 4 blanks) 128 = 3; decide +kernel), rfl⟩) (go ?_)
        refine VLoop.un 5 [12] ?_
        refine go ?_
        refine fork (fun h7 => go ?_) (fun h7 => go ?_)
        · refine Fn.use (fn_Cutover _ (by decide) (by decide)) (go ?_)
          refine VSem.scope 1 ?_
          refine go ?_
          refine VLoop.un 5 [12] ?_
          refine go ?_
          refine fork (fun h8 => go ?_) (fun h8 => go ?_)
          · refine Fn.use (fn_Cutover _ (by decide) (by decide)) (go ?_)
            refine VRet.mk [] .nil ?_
            simp
          · refine fork (fun h9 => go ?_) (fun h9 => go ?_)
            · refine Fn.use (fn_Cutover _ (by decide) (by decide)) (go ?_)
              refine VRet.mk [] .nil ?_
              simp
            · exfalso
              have h9 : (227 : Int) = e''.toNat := h9
              omega
        · exfalso
          have h7 : (227 : Int) = e'.toNat := h7
          omega
  · omega
theorem f37_2c (r : Int) (e c : UInt8) (h0 : 128 ≤ r) (h1 : r ≠ 65533) (h3 : Lib.validRune r = true) (hE : (Utf8.encode r).data.toList = [e, c]) (hc : 128 ≤ c.toNat ∧ c.toNat < 192 ∧ c.toNat ≠ 160 ∧ c.toNat ≠ 128) :
    Av.Fn Tryz.prog 161 [.str blanks, .int .i32 r] (.int .i64 (-1)) := by
  refine ACalls.of_W tb_ok (fn := Tryz.f161) (n := 187) (by kernel_rfl) rfl (by kernel_rfl) rfl rfl (by simp) (go ?_)
  refine fork (fun h4 => go ?_) (fun h4 => go ?_)
  · refine fork (fun h5 => go ?_) (fun h5 => go ?_)
    · omega
    · refine fork (fun h6 => go ?_) (fun h6 => go ?_)
      · omega
      · have h := fn_ValidRune r
        rw [h3] at h
        refine Fn.use (h) (go ?_)
        refine VSem.scope 1 ?_
        refine go ?_
        rw [hE]
        refine go ?_
        refine VInt.to (1) (by simp) (by omega) (by omega) (go ?_)
        refine VLoop.un 5 [9, 10] ?_
        refine go ?_
        refine VSem.scope 1 ?_
        refine go ?_
        refine fork (fun h7 => go ?_) (fun h7 => go ?_)
        · refine VQ.mk (.int .i64 (-1)) (by refine go ?_; refine Fn.use (fn_IndexByte _ _) (go ?_); exact ⟨congrArg _ (by show Lib.indexByte (List.drop 2 blanks) (c.toNat : Int).toNat.toUInt8 = -1; exact blanks_other hc 2), rfl⟩) (go ?_)
          refine VRet.mk [] .nil ?_
          simp
        · exfalso
          have h7 : (10 : Int) = c.toNat := h7
          omega
  · omega
theorem f37_3c (r : Int) (e e' c : UInt8) (h0 : 128 ≤ r) (h1 : r ≠ 65533) (h3 : Lib.validRune r = true) (hE : (Utf8.encode r).data.toList = [e, e', c]) (hc : 128 ≤ c.toNat ∧ c.toNat < 192 ∧ c.toNat ≠ 160 ∧ c.toNat ≠ 128) :
    Av.Fn Tryz.prog 161 [.str blanks, .int .i32 r] (.int .i64 (-1)) := by
  refine ACalls.of_W tb_ok (fn := Tryz.f161) (n := 187) (by kernel_rfl) rfl (by kernel_rfl) rfl rfl (by simp) (go ?_)
  refine fork (fun h4 => go ?_) (fun h4 => go ?_)
  · refine fork (fun h5 => go ?_) (fun h5 => go ?_)
    · omega
    · refine fork (fun h6 => go ?_) (fun h6 => go ?_)
      · omega
      · have h := fn_ValidRune r
        rw [h3] at h
        refine Fn.use (h) (go ?_)
        refine VSem.scope 1 ?_
        refine go ?_
        rw [hE]
        refine go ?_
        refine VInt.to (2) (by simp) (by omega) (by omega) (go ?_)
        refine VLoop.un 5 [9, 10] ?_
        refine go ?_
        refine VSem.scope 1 ?_
        refine go ?_
        refine fork (fun h7 => go ?_) (fun h7 => go ?_)
        · refine VQ.mk (.int .i64 (-1)) (by refine go ?_; refine Fn.use (fn_IndexByte _ _) (go ?_); exact ⟨congrArg _ (by show Lib.indexByte (List.drop 3 blanks) (c.toNat : Int).toNat.toUInt8 = -1; exact blanks_other hc 3), rfl⟩) (go ?_)
          refine VRet.mk [] .nil ?_
          simp
        · exfalso
          have h7 : (13 : Int) = c.toNat := h7
          omega
  · omega
theorem f37_4c (r : Int) (e e'' e' c : UInt8) (h0 : 128 ≤ r) (h1 : r ≠ 65533) (h3 : Lib.validRune r = true) (hE : (Utf8.encode r).data.toList = [e, e'', e', c]) (hc : 128 ≤ c.toNat ∧ c.toNat < 192 ∧ c.toNat ≠ 160 ∧ c.toNat ≠ 128) :
    Av.Fn Tryz.prog 161 [.str blanks, .int .i32 r] (.int .i64 (-1)) := by
  refine ACalls.of_W tb_ok (fn := Tryz.f161) (n := 187) (by kernel_rfl) rfl (by kernel_rfl) rfl rfl (by simp) (go ?_)
  refine fork (fun h4 => go ?_) (fun h4 => go ?_)
  · refine fork (fun h5 => go ?_) (fun h5 => go ?_)
    · omega
    · refine fork (fun h6 => go ?_) (fun h6 => go ?_)
      · omega
      · have h := fn_ValidRune r
        rw [h3] at h
        refine Fn.use (h) (go ?_)
        refine VSem.scope 1 ?_
        refine go ?_
        rw [hE]
        refine go ?_
        refine VInt.to (3) (by simp) (by omega) (by omega) (go ?_)
        refine VLoop.un 5 [9, 10] ?_
        refine go ?_
        refine VSem.scope 1 ?_
        refine go ?_
        refine fork (fun h7 => go ?_) (fun h7 => go ?_)
        · refine VQ.mk (.int .i64 (-1)) (by refine go ?_; refine Fn.use (fn_IndexByte _ _) (go ?_); exact ⟨congrArg _ (by show Lib.indexByte (List.drop 4 blanks) (c.toNat : Int).toNat.toUInt8 = -1; exact blanks_other hc 4), rfl⟩) (go ?_)
          refine VRet.mk [] .nil ?_
          simp
        · exfalso
          have h7 : (32 : Int) = c.toNat := h7
          omega
  · omega
end Go.Proofs.YtbmplclnondfnaaGreatDoor

namespace Go.Proofs.YtbmplclnondfnaaGreatDoor
open Go Go.Av
theorem ofNat_toNat {n : Nat} (h : n < 256) : (UInt8.ofNat n).toNat = n := by simp; omega
theorem f37_of (r : Int) (hr : 0 ≤ r ∧ r ≤ 1114111) : ∃ k : Int, decide (0 ≤ k) = blankB r ∧ Av.Fn Tryz.prog 161 [.str blanks, .int .i32 r] (.int .i64 k) := by
  by_cases h1 : r < 128
  · exact f37_ascii r hr.1 h1
  by_cases h2 : r = 65533
  · exact ⟨-1, by subst h2; decide, by subst h2; exact f37_bad⟩
  cases h3 : Lib.validRune r with
  | false =>
    refine ⟨-1, ?_, f37_invalid r (by omega) h2 h3⟩
    simp [Lib.validRune] at h3
    simp [blankB]
    omega
  | true =>
    have hv : Utf8.valid r = true := by
      simp [Lib.validRune] at h3
      simp [Utf8.valid]; omega
    obtain ⟨n, rfl⟩ : ∃ n : Nat, r = n := ⟨r.toNat, by omega⟩
    have hn : (n : Int).toNat = n := by omega
    by_cases c2 : n < 2048
    · have hE : (Utf8.encode n).data.toList = [UInt8.ofNat (192 + n / 64), UInt8.ofNat (128 + n % 64)] := by
        simp only [Utf8.encode, hv, if_true, hn]
        rw [if_neg (by omega), if_pos (by omega)]
      by_cases ca : n % 64 = 32
      · rw [ca] at hE
        refine ⟨_, ?_, f37_2a n _ (by omega) h2 h3 hE⟩
        rw [ofNat_toNat (by omega)]
        by_cases hh : 192 + n / 64 = 194
        · rw [if_pos hh]; simp [blankB]; omega
        · rw [if_neg hh]; simp [blankB]; omega
      by_cases cb : n % 64 = 0
      · rw [cb] at hE
        refine ⟨_, ?_, f37_2b n _ (by omega) h2 h3 hE (by rw [ofNat_toNat (by omega)]; omega)⟩
        simp [blankB]; omega
      · refine ⟨_, ?_, f37_2c n _ _ (by omega) h2 h3 hE (by rw [ofNat_toNat (by omega)]; omega)⟩
        simp [blankB]; omega
    by_cases c3 : n < 65536
    · have hE : (Utf8.encode n).data.toList = [UInt8.ofNat (224 + n / 4096), UInt8.ofNat (128 + n / 64 % 64), UInt8.ofNat (128 + n % 64)] := by
        simp only [Utf8.encode, hv, if_true, hn]
        rw [if_neg (by omega), if_neg (by omega), if_pos (by omega)]
      by_cases ca : n % 64 = 32
      · rw [ca] at hE
        refine ⟨_, ?_, f37_3a n _ _ (by omega) h2 h3 hE (by rw [ofNat_toNat (by omega)]; omega)⟩
        simp [blankB]; omega
      by_cases cb : n % 64 = 0
      · rw [cb] at hE
        refine ⟨_, ?_, f37_3b n _ _ (by omega) h2 h3 hE (by rw [ofNat_toNat (by omega)]; omega)⟩
        rw [ofNat_toNat (by omega), ofNat_toNat (by omega)]
        by_cases hh : 224 + n / 4096 = 227 ∧ 128 + n / 64 % 64 = 128
        · rw [if_pos hh]; simp [blankB]; omega
        · rw [if_neg hh]; simp [blankB]; omega
      · refine ⟨_, ?_, f37_3c n _ _ _ (by omega) h2 h3 hE (by rw [ofNat_toNat (by omega)]; omega)⟩
        simp [blankB]; omega
    · have hE : (Utf8.encode n).data.toList = [UInt8.ofNat (240 + n / 262144), UInt8.ofNat (128 + n / 4096 % 64), UInt8.ofNat (128 + n / 64 % 64), UInt8.ofNat (128 + n % 64)] := by
        simp only [Utf8.encode, hv, if_true, hn]
        rw [if_neg (by omega), if_neg (by omega), if_neg (by omega)]
      by_cases ca : n % 64 = 32
      · rw [ca] at hE
        refine ⟨_, ?_, f37_4a n _ _ _ (by omega) h2 h3 hE (by rw [ofNat_toNat (by omega)]; omega)⟩
        simp [blankB]; omega
      by_cases cb : n % 64 = 0
      · rw [cb] at hE
        refine ⟨_, ?_, f37_4b n _ _ _ (by omega) h2 h3 hE (by rw [ofNat_toNat (by omega)]; omega) (by rw [ofNat_toNat (by omega)]; omega)⟩
        simp [blankB]; omega
      · refine ⟨_, ?_, f37_4c n _ _ _ _ (by omega) h2 h3 hE (by rw [ofNat_toNat (by omega)]; omega)⟩
        simp [blankB]; omega
theorem f30_of (r : Int) (hr : 0 ≤ r ∧ r ≤ 1114111) : Av.Fn Tryz.prog 148 [.str blanks, .int .i32 r] (.bool (blankB r)) := by
  obtain ⟨k, h1, h2⟩ := f37_of r hr
  refine ACalls.of_W tb_ok (fn := Tryz.f148) (n := 9) (by kernel_rfl) rfl (by kernel_rfl) rfl rfl (by simp) (go ?_)
  refine Fn.use (h2) (go ?_)
  refine VRet.mk [] .nil ?_
  simp [← h1]
theorem f18_of (r : Int) (hr : 0 ≤ r ∧ r ≤ 1114111) : Av.Fn Tryz.prog 129 [.int .i32 r] (.bool (blankB r)) := by
  refine ACalls.of_W tb_ok (fn := Tryz.f129) (n := 5) (by kernel_rfl) rfl (by kernel_rfl) rfl rfl (by simp) (go ?_)
  refine Fn.use (f30_of r hr) (go ?_)
  refine VRet.mk [] .nil ?_
  simp
end Go.Proofs.YtbmplclnondfnaaGreatDoor

namespace Go.Proofs.YtbmplclnondfnaaGreatDoor
open Go Go.Av
def zeros : List Int := [48, 1632, 65296]
def digOf (r : Int) : List Int → AV
  | [] => .tup [.int .i64 0, .int .i32 0, .bool false]
  | z :: l => if z ≤ r ∧ r ≤ z + 9 then .tup [.int .i64 (r - z), .int .i32 z, .bool true] else digOf r l
theorem f29_of (r : Int) (hr : -2147483648 ≤ r ∧ r ≤ 2147483647) : Av.Fn Tryz.prog 151 [.int .i32 r] (digOf r zeros) := by
  refine ACalls.of_W tb_ok (fn := Tryz.f151) (n := 28) (by kernel_rfl) rfl (by kernel_rfl) rfl rfl (by simp) (go ?_)
  refine VLoop.mk [9] Nat (fun i => [.int .i64 i]) (fun _ => []) (fun i => i ≤ 3 ∧ digOf r zeros = digOf r (zeros.drop i)) (fun i => 3 - i) 0 ?_ ?_
  · exact ⟨⟨by omega, rfl⟩, rfl, .nil⟩
  intro i ⟨hi, he⟩
  refine go ?_
  refine fork (fun h => go ?_) (fun h => go ?_)
  · obtain ⟨z, hz, hz1, hz2⟩ : ∃ z, ([.int .i32 48, .int .i32 1632, .int .i32 65296] : List AV)[i]? = some (.int .i32 z) ∧ (48 ≤ z ∧ z ≤ 65296) ∧ digOf r (zeros.drop i) = digOf r (z :: zeros.drop (i + 1)) := by
      obtain rfl | rfl | rfl : i = 0 ∨ i = 1 ∨ i = 2 := by omega
      · exact ⟨48, rfl, by omega, rfl⟩
      · exact ⟨1632, rfl, by omega, rfl⟩
      · exact ⟨65296, rfl, by omega, rfl⟩
    refine VNth.mk (.int .i32 z) (by simpa using hz) ?_
    refine go ?_
    rw [hz2, digOf] at he
    refine fork (fun h2 => go ?_) (fun h2 => go ?_)
    · refine fork (fun h3 => go ?_) (fun h3 => go ?_)
      · refine VRet.mk [] .nil ?_
        simp only [he]
        rw [if_pos (by omega)]
        simp
      · rw [if_neg (by omega)] at he
        exact ⟨i + 1, ⟨by omega, he⟩, by omega, rfl, .nil⟩
    · rw [if_neg (by omega)] at he
      exact ⟨i + 1, ⟨by omega, he⟩, by omega, rfl, .nil⟩
  · refine VRet.mk [] .nil ?_
    obtain rfl : i = 3 := by omega
    rw [he]
    simp [zeros, digOf]
end Go.Proofs.YtbmplclnondfnaaGreatDoor

namespace Go.Proofs.YtbmplclnondfnaaGreatDoor
open Go Go.Av
/-- A character as a digit: its value, its script's nought. -/
def digR (r : Int) : Option (Int × Int) :=
  if 48 ≤ r ∧ r ≤ 57 then some (r - 48, 48) else if 1632 ≤ r ∧ r ≤ 1641 then some (r - 1632, 1632) else if 65296 ≤ r ∧ r ≤ 65305 then some (r - 65296, 65296) else none
def digV : Option (Int × Int) → AV
  | none => .tup [.int .i64 0, .int .i32 0, .bool false]
  | some (d, z) => .tup [.int .i64 d, .int .i32 z, .bool true]
theorem digOf_eq (r : Int) : digOf r zeros = digV (digR r) := by
  simp only [digOf, zeros, digR]
  repeat' split
  all_goals first | rfl | omega
theorem digR_bound {r d z : Int} (h : digR r = some (d, z)) : 0 ≤ d ∧ d ≤ 9 ∧ 48 ≤ z ∧ z ≤ 65296 ∧ r = z + d := by
  unfold digR at h
  repeat' split at h
  all_goals simp at h
  all_goals omega
/-- The digits of a number, one behind the other: what has been read, is it small enough, its script. -/
def digLoop : List Nat → Int → Bool → Int → Option (Int × Bool × Int)
  | [], n, ok, z => some (n, ok, z)
  | r :: rs, n, ok, z => match digR r with
    | none => none
    | some (d, z') => if 0 ≤ z ∧ z' ≠ z then none else
      if n > (1152921504606846976 - d) / 10 then digLoop rs d false z' else digLoop rs (10 * n + d) ok z'
def minusB (l : List UInt8) : Bool := begins l [45] || begins l [226, 136, 146]
def digitsR (l : List UInt8) : Int × Bool × Bool :=
  match digLoop ((runes (if minusB l then l.drop (dec l).2 else l)).map (·.1)) 0 true (-1) with
  | none => (0, false, false)
  | some (n, ok, z) => (if minusB l then -n else n, decide (0 ≤ z), ok && decide ((if minusB l then -n else n) ≤ 1152921504606846975))
theorem decodeGo_eq {l : List UInt8} (h : l ≠ []) : Lib.decodeGo ⟨⟨l⟩⟩ = dec l := by
  unfold Lib.decodeGo dec
  rw [if_neg]
  intro e
  exact h (List.length_eq_zero_iff.1 e)
theorem begins_ne {l p : List UInt8} (hp : p ≠ []) (h : begins l p = true) : l ≠ [] := by
  intro e; subst e
  simp [begins] at h
  exact hp h
theorem digitsR_some {l l' : List UInt8} {n z : Int} {ok : Bool} (hl : l' = if minusB l then l.drop (dec l).2 else l) (h : digLoop ((runes l').map (·.1)) 0 true (-1) = some (n, ok, z)) :
    digitsR l = (if minusB l then -n else n, decide (0 ≤ z), ok && decide ((if minusB l then -n else n) ≤ 1152921504606846975)) := by
  subst hl; simp only [digitsR, h]
theorem digitsR_none {l l' : List UInt8} (hl : l' = if minusB l then l.drop (dec l).2 else l) (h : digLoop ((runes l').map (·.1)) 0 true (-1) = none) : digitsR l = (0, false, false) := by
  subst hl; simp only [digitsR, h]
theorem f29_digR (r : Int) (hr : -2147483648 ≤ r ∧ r ≤ 2147483647) : Av.Fn Tryz.prog 151 [.int .i32 r] (digV (digR r)) := by
  rw [← digOf_eq]; exact f29_of r hr

/-- What Number says: the number, the error. -/
def numberR (l : List UInt8) : Int × Int :=
  if (digitsR l).2.1 then (if (digitsR l).2.2 then ((digitsR l).1, 0) else (0, 11)) else (0, 9)
structure DigI where
  p : Nat
  n : Int
  ok : Bool
  z : Int


theorem f17_of (l : List UInt8) : Av.Fn Tryz.prog 133 [.str l] (.tup [.int .i64 (digitsR l).1, .bool (digitsR l).2.1, .bool (digitsR l).2.2]) := by
  refine ACalls.of_W tb_ok (fn := Tryz.f133) (n := 72) (by kernel_rfl) rfl (by kernel_rfl) rfl rfl (by simp) (go ?_)
  have g1 := fn_HasPrefix l [45]
  have g2 := fn_HasPrefix l [226, 136, 146]
  cases h1 : begins l [45] with
  | true =>
    rw [h1] at g1
    refine Fn.use (g1) (go ?_)
    have hne := begins_ne (by simp) h1
    have hd := dec_pos l hne
    have hm : minusB l = true := by simp [minusB, h1]
    have fd := fn_Decode l
    rw [decodeGo_eq hne] at fd
    refine Fn.use (fd) (go ?_)
    obtain ⟨l', hl'⟩ : ∃ l', l' = l.drop (dec l).2 := ⟨_, rfl⟩
    rw [← hl']
    replace hl' : l' = if minusB l then l.drop (dec l).2 else l := by rw [if_pos hm]; exact hl'
    refine go ?_
    refine VAll.mk (fun b => go ?_)
    refine VLoop.mk [2, 4, 8] DigI (fun i => [.int .i64 i.n, .bool i.ok, .int .i32 i.z]) (fun i => [(b, .siter l' i.p)])
      (fun i => i.p ≤ l'.length ∧ (0 ≤ i.n ∧ i.n ≤ 1152921504606846976) ∧ (-1 ≤ i.z ∧ i.z ≤ 65296) ∧ digLoop ((runes (l'.drop i.p)).map (·.1)) i.n i.ok i.z = digLoop ((runes l').map (·.1)) 0 true (-1)) (fun i => l'.length - i.p) ⟨0, 0, true, -1⟩ ?_ ?_
    · exact ⟨⟨by simp, by simp, by simp, by simp⟩, rfl, .cons 0 rfl .nil⟩
    rintro ⟨p, n, ok, z⟩ ⟨hp, hn, hz, hI⟩
    dsimp only at hp hn hz hI ⊢
    refine go ?_
    refine fork (fun hlt => go ?_) (fun hlt => go ?_)
    · have hne' : l'.drop p ≠ [] := by simp; omega
      have hc := dec_pos _ hne'
      have hru := runes_cons hne'
      rw [← dec_at] at hc hru
      generalize hdc : Utf8.decode ⟨⟨l'⟩⟩ p = c
      rw [hdc] at hc hru
      rw [List.length_drop] at hc
      rw [List.drop_drop] at hru
      rw [hru, List.map_cons, digLoop] at hI
      obtain ⟨r, k⟩ := c
      dsimp only at hc hru hI ⊢
      refine Fn.use (f29_digR r (by omega)) (go ?_)
      cases hd : digR r with
      | none =>
        rw [hd] at hI
        dsimp only at hI
        refine go ?_
        refine VRet.mk [] .nil ?_
        rw [digitsR_none (l := l) hl' hI.symm]
        simp
      | some dz =>
        obtain ⟨d, z'⟩ := dz
        have hb := digR_bound hd
        rw [hd] at hI
        dsimp only at hI
        refine go ?_
        refine fork (fun hz0 => go ?_) (fun hz0 => go ?_)
        · refine fork (fun hz1 => go ?_) (fun hz1 => go ?_)
          · rw [if_pos ⟨hz0, hz1⟩] at hI
            refine VRet.mk [] .nil ?_
            rw [digitsR_none (l := l) hl' hI.symm]
            simp
          · have hz1 : z' = z := hz1
            rw [if_neg (by simp [hz1])] at hI
            rw [Int.tdiv_eq_ediv_of_nonneg (by omega)]
            refine go ?_
            refine fork (fun hgt => go ?_) (fun hgt => go ?_)
            · rw [if_pos (by omega)] at hI
              refine ⟨⟨p + k, 10 * 0 + d, false, z'⟩, ⟨?_, ?_, ?_, ?_⟩, ?_, rfl, .cons 0 rfl .nil⟩
              · dsimp only; omega
              · dsimp only; omega
              · dsimp only; omega
              · dsimp only; rw [show (10 * 0 + d : Int) = d by omega]; exact hI
              · dsimp only; omega
            · rw [if_neg (by omega)] at hI
              refine ⟨⟨p + k, 10 * n + d, ok, z'⟩, ⟨?_, ?_, ?_, ?_⟩, ?_, rfl, .cons 0 rfl .nil⟩
              · dsimp only; omega
              · dsimp only; omega
              · dsimp only; omega
              · exact hI
              · dsimp only; omega
        · rw [if_neg (fun h => hz0 h.1)] at hI
          rw [Int.tdiv_eq_ediv_of_nonneg (by omega)]
          refine go ?_
          refine fork (fun hgt => go ?_) (fun hgt => go ?_)
          · rw [if_pos (by omega)] at hI
            refine ⟨⟨p + k, 10 * 0 + d, false, z'⟩, ⟨?_, ?_, ?_, ?_⟩, ?_, rfl, .cons 0 rfl .nil⟩
            · dsimp only; omega
            · dsimp only; omega
            · dsimp only; omega
            · dsimp only; rw [show (10 * 0 + d : Int) = d by omega]; exact hI
            · dsimp only; omega
          · rw [if_neg (by omega)] at hI
            refine ⟨⟨p + k, 10 * n + d, ok, z'⟩, ⟨?_, ?_, ?_, ?_⟩, ?_, rfl, .cons 0 rfl .nil⟩
            · dsimp only; omega
            · dsimp only; omega
            · dsimp only; omega
            · exact hI
            · dsimp only; omega
    · rw [List.drop_eq_nil_of_le (by omega), runes_nil, List.map_nil, digLoop] at hI
      rw [digitsR_some (l := l) hl' hI.symm]
      cases hok : ok with
      | true =>
        refine go ?_
        refine VRet.mk [] .nil ?_
        simp [hm]
      | false =>
        refine go ?_
        refine VRet.mk [] .nil ?_
        simp [hm]
  | false =>
    rw [h1] at g1
    refine Fn.use (g1) (go ?_)
    cases h2 : begins l [226, 136, 146] with
    | true =>
      rw [h2] at g2
      refine Fn.use (g2) (go ?_)
      have hne := begins_ne (by simp) h2
      have hd := dec_pos l hne
      have hm : minusB l = true := by simp [minusB, h2]
      have fd := fn_Decode l
      rw [decodeGo_eq hne] at fd
      refine Fn.use (fd) (go ?_)
      obtain ⟨l', hl'⟩ : ∃ l', l' = l.drop (dec l).2 := ⟨_, rfl⟩
      rw [← hl']
      replace hl' : l' = if minusB l then l.drop (dec l).2 else l := by rw [if_pos hm]; exact hl'
      refine go ?_
      refine VAll.mk (fun b => go ?_)
      refine VLoop.mk [2, 4, 8] DigI (fun i => [.int .i64 i.n, .bool i.ok, .int .i32 i.z]) (fun i => [(b, .siter l' i.p)])
        (fun i => i.p ≤ l'.length ∧ (0 ≤ i.n ∧ i.n ≤ 1152921504606846976) ∧ (-1 ≤ i.z ∧ i.z ≤ 65296) ∧ digLoop ((runes (l'.drop i.p)).map (·.1)) i.n i.ok i.z = digLoop ((runes l').map (·.1)) 0 true (-1)) (fun i => l'.length - i.p) ⟨0, 0, true, -1⟩ ?_ ?_
      · exact ⟨⟨by simp, by simp, by simp, by simp⟩, rfl, .cons 0 rfl .nil⟩
      rintro ⟨p, n, ok, z⟩ ⟨hp, hn, hz, hI⟩
      dsimp only at hp hn hz hI ⊢
      refine go ?_
      refine fork (fun hlt => go ?_) (fun hlt => go ?_)
      · have hne' : l'.drop p ≠ [] := by simp; omega
        have hc := dec_pos _ hne'
        have hru := runes_cons hne'
        rw [← dec_at] at hc hru
        generalize hdc : Utf8.decode ⟨⟨l'⟩⟩ p = c
        rw [hdc] at hc hru
        rw [List.length_drop] at hc
        rw [List.drop_drop] at hru
        rw [hru, List.map_cons, digLoop] at hI
        obtain ⟨r, k⟩ := c
        dsimp only at hc hru hI ⊢
        refine Fn.use (f29_digR r (by omega)) (go ?_)
        cases hd : digR r with
        | none =>
          rw [hd] at hI
          dsimp only at hI
          refine go ?_
          refine VRet.mk [] .nil ?_
          rw [digitsR_none (l := l) hl' hI.symm]
          simp
        | some dz =>
          obtain ⟨d, z'⟩ := dz
          have hb := digR_bound hd
          rw [hd] at hI
          dsimp only at hI
          refine go ?_
          refine fork (fun hz0 => go ?_) (fun hz0 => go ?_)
          · refine fork (fun hz1 => go ?_) (fun hz1 => go ?_)
            · rw [if_pos ⟨hz0, hz1⟩] at hI
              refine VRet.mk [] .nil ?_
              rw [digitsR_none (l := l) hl' hI.symm]
              simp
            · have hz1 : z' = z := hz1
              rw [if_neg (by simp [hz1])] at hI
              rw [Int.tdiv_eq_ediv_of_nonneg (by omega)]
              refine go ?_
              refine fork (fun hgt => go ?_) (fun hgt => go ?_)
              · rw [if_pos (by omega)] at hI
                refine ⟨⟨p + k, 10 * 0 + d, false, z'⟩, ⟨?_, ?_, ?_, ?_⟩, ?_, rfl, .cons 0 rfl .nil⟩
                · dsimp only; omega
                · dsimp only; omega
                · dsimp only; omega
                · dsimp only; rw [show (10 * 0 + d : Int) = d by omega]; exact hI
                · dsimp only; omega
              · rw [if_neg (by omega)] at hI
                refine ⟨⟨p + k, 10 * n + d, ok, z'⟩, ⟨?_, ?_, ?_, ?_⟩, ?_, rfl, .cons 0 rfl .nil⟩
                · dsimp only; omega
                · dsimp only; omega
                · dsimp only; omega
                · exact hI
                · dsimp only; omega
          · rw [if_neg (fun h => hz0 h.1)] at hI
            rw [Int.tdiv_eq_ediv_of_nonneg (by omega)]
            refine go ?_
            refine fork (fun hgt => go ?_) (fun hgt => go ?_)
            · rw [if_pos (by omega)] at hI
              refine ⟨⟨p + k, 10 * 0 + d, false, z'⟩, ⟨?_, ?_, ?_, ?_⟩, ?_, rfl, .cons 0 rfl .nil⟩
              · dsimp only; omega
              · dsimp only; omega
              · dsimp only; omega
              · dsimp only; rw [show (10 * 0 + d : Int) = d by omega]; exact hI
              · dsimp only; omega
            · rw [if_neg (by omega)] at hI
              refine ⟨⟨p + k, 10 * n + d, ok, z'⟩, ⟨?_, ?_, ?_, ?_⟩, ?_, rfl, .cons 0 rfl .nil⟩
              · dsimp only; omega
              · dsimp only; omega
              · dsimp only; omega
              · exact hI
              · dsimp only; omega
      · rw [List.drop_eq_nil_of_le (by omega), runes_nil, List.map_nil, digLoop] at hI
        rw [digitsR_some (l := l) hl' hI.symm]
        cases hok : ok with
        | true =>
          refine go ?_
          refine VRet.mk [] .nil ?_
          simp [hm]
        | false =>
          refine go ?_
          refine VRet.mk [] .nil ?_
          simp [hm]
    | false =>
      rw [h2] at g2
      refine Fn.use (g2) (go ?_)
      have hm : minusB l = false := by simp [minusB, h1, h2]
      have hl' : l = if minusB l then l.drop (dec l).2 else l := by simp [hm]
      refine VAll.mk (fun b => go ?_)
      refine VLoop.mk [2, 4, 8] DigI (fun i => [.int .i64 i.n, .bool i.ok, .int .i32 i.z]) (fun i => [(b, .siter l i.p)])
        (fun i => i.p ≤ l.length ∧ (0 ≤ i.n ∧ i.n ≤ 1152921504606846976) ∧ (-1 ≤ i.z ∧ i.z ≤ 65296) ∧ digLoop ((runes (l.drop i.p)).map (·.1)) i.n i.ok i.z = digLoop ((runes l).map (·.1)) 0 true (-1)) (fun i => l.length - i.p) ⟨0, 0, true, -1⟩ ?_ ?_
      · exact ⟨⟨by simp, by simp, by simp, by simp⟩, rfl, .cons 0 rfl .nil⟩
      rintro ⟨p, n, ok, z⟩ ⟨hp, hn, hz, hI⟩
      dsimp only at hp hn hz hI ⊢
      refine go ?_
      refine fork (fun hlt => go ?_) (fun hlt => go ?_)
      · have hne' : l.drop p ≠ [] := by simp; omega
        have hc := dec_pos _ hne'
        have hru := runes_cons hne'
        rw [← dec_at] at hc hru
        generalize hdc : Utf8.decode ⟨⟨l⟩⟩ p = c
        rw [hdc] at hc hru
        rw [List.length_drop] at hc
        rw [List.drop_drop] at hru
        rw [hru, List.map_cons, digLoop] at hI
        obtain ⟨r, k⟩ := c
        dsimp only at hc hru hI ⊢
        refine Fn.use (f29_digR r (by omega)) (go ?_)
        cases hd : digR r with
        | none =>
          rw [hd] at hI
          dsimp only at hI
          refine go ?_
          refine VRet.mk [] .nil ?_
          rw [digitsR_none (l := l) hl' hI.symm]
          simp
        | some dz =>
          obtain ⟨d, z'⟩ := dz
          have hb := digR_bound hd
          rw [hd] at hI
          dsimp only at hI
          refine go ?_
          refine fork (fun hz0 => go ?_) (fun hz0 => go ?_)
          · refine fork (fun hz1 => go ?_) (fun hz1 => go ?_)
            · rw [if_pos ⟨hz0, hz1⟩] at hI
              refine VRet.mk [] .nil ?_
              rw [digitsR_none (l := l) hl' hI.symm]
              simp
            · have hz1 : z' = z := hz1
              rw [if_neg (by simp [hz1])] at hI
              rw [Int.tdiv_eq_ediv_of_nonneg (by omega)]
              refine go ?_
              refine fork (fun hgt => go ?_) (fun hgt => go ?_)
              · rw [if_pos (by omega)] at hI
                refine ⟨⟨p + k, 10 * 0 + d, false, z'⟩, ⟨?_, ?_, ?_, ?_⟩, ?_, rfl, .cons 0 rfl .nil⟩
                · dsimp only; omega
                · dsimp only; omega
                · dsimp only; omega
                · dsimp only; rw [show (10 * 0 + d : Int) = d by omega]; exact hI
                · dsimp only; omega
              · rw [if_neg (by omega)] at hI
                refine ⟨⟨p + k, 10 * n + d, ok, z'⟩, ⟨?_, ?_, ?_, ?_⟩, ?_, rfl, .cons 0 rfl .nil⟩
                · dsimp only; omega
                · dsimp only; omega
                · dsimp only; omega
                · exact hI
                · dsimp only; omega
          · rw [if_neg (fun h => hz0 h.1)] at hI
            rw [Int.tdiv_eq_ediv_of_nonneg (by omega)]
            refine go ?_
            refine fork (fun hgt => go ?_) (fun hgt => go ?_)
            · rw [if_pos (by omega)] at hI
              refine ⟨⟨p + k, 10 * 0 + d, false, z'⟩, ⟨?_, ?_, ?_, ?_⟩, ?_, rfl, .cons 0 rfl .nil⟩
              · dsimp only; omega
              · dsimp only; omega
              · dsimp only; omega
              · dsimp only; rw [show (10 * 0 + d : Int) = d by omega]; exact hI
              · dsimp only; omega
            · rw [if_neg (by omega)] at hI
              refine ⟨⟨p + k, 10 * n + d, ok, z'⟩, ⟨?_, ?_, ?_, ?_⟩, ?_, rfl, .cons 0 rfl .nil⟩
              · dsimp only; omega
              · dsimp only; omega
              · dsimp only; omega
              · exact hI
              · dsimp only; omega
      · rw [List.drop_eq_nil_of_le (by omega), runes_nil, List.map_nil, digLoop] at hI
        rw [digitsR_some (l := l) hl' hI.symm]
        cases hok : ok with
        | true =>
          refine go ?_
          refine VRet.mk [] .nil ?_
          simp [hm]
        | false =>
          refine go ?_
          refine VRet.mk [] .nil ?_
          simp [hm]
end Go.Proofs.YtbmplclnondfnaaGreatDoor

namespace Go.Proofs.YtbmplclnondfnaaGreatDoor
open Go Go.Av
/-- May a character stand in a name? -/
def okCh (first : Bool) (r : Nat) : Bool := !(decide (r = 65533) || blankB r || decide (r < 32) || decide (r = 127) || (first && decide (r = 34)))
def okAll : Bool → List Nat → Bool
  | _, [] => true
  | f, r :: rs => okCh f r && okAll false rs
def chars (l : List UInt8) : List Nat := (runes l).map (·.1)
def nameR (l : List UInt8) : Bool := okAll true (chars l) && (decide (1 ≤ (chars l).length) && decide ((chars l).length ≤ 32) && decide (l ≠ [33]) && !(digitsR l).2.1)
theorem chars_cons {l : List UInt8} (h : l ≠ []) : chars l = (dec l).1 :: chars (l.drop (dec l).2) := by simp [chars, runes_cons h]
theorem nameR_bad {l : List UInt8} (h : okAll true (chars l) = false) : nameR l = false := by simp [nameR, h]


theorem f11_of (l : List UInt8) (hlen : l.length ≤ 4611686018427387904) : Av.Fn Tryz.prog 124 [.str l] (.bool (nameR l)) := by
  refine ACalls.of_W tb_ok (fn := Tryz.f124) (n := 59) (by kernel_rfl) rfl (by kernel_rfl) rfl rfl (by simp) (go ?_)
  refine VAll.mk (fun b => go ?_)
  refine VLoop.mk [3] (Nat × Nat) (fun i => [.int .i64 i.2]) (fun i => [(b, .siter l i.1)])
    (fun i => i.1 ≤ l.length ∧ i.2 ≤ i.1 ∧ (okAll (decide (i.1 = 0)) (chars (l.drop i.1)) = okAll true (chars l) ∧ i.2 + (chars (l.drop i.1)).length = (chars l).length)) (fun i => l.length - i.1) ⟨0, 0⟩ ?_ ?_
  · exact ⟨⟨by simp, by simp, by simp, by simp⟩, rfl, .cons 0 rfl .nil⟩
  rintro ⟨p, n⟩ ⟨hp, hn, hI⟩
  dsimp only at hp hn hI ⊢
  refine go ?_
  refine fork (fun hlt => go ?_) (fun hlt => go ?_)
  · have hne' : l.drop p ≠ [] := by simp; omega
    have hc := dec_pos _ hne'
    rw [chars_cons hne', List.length_drop] at *
    rw [← dec_at] at hc hI
    generalize hdc : Utf8.decode ⟨⟨l⟩⟩ p = c
    rw [hdc] at hc hI
    rw [List.drop_drop] at hI
    obtain ⟨r, k⟩ := c
    dsimp only at hc hI ⊢
    refine fork (fun a1 => go ?_) (fun a1 => go ?_)
    · have a1 : r = 65533 := by omega
      refine VRet.mk [] .nil ?_
      rw [nameR_bad (by rw [← hI.1]; simp [okAll, okCh, a1])]
      simp
    · have hb := f18_of r (by omega)
      cases a2 : blankB r with
      | true =>
        rw [a2] at hb
        refine Fn.use (hb) (go ?_)
        refine VRet.mk [] .nil ?_
        rw [nameR_bad (by rw [← hI.1]; simp [okAll, okCh, a2])]
        simp
      | false =>
        rw [a2] at hb
        refine Fn.use (hb) (go ?_)
        refine fork (fun a3 => go ?_) (fun a3 => go ?_)
        · have a3 : r < 32 := by omega
          refine VRet.mk [] .nil ?_
          rw [nameR_bad (by rw [← hI.1]; simp [okAll, okCh, a3])]
          simp
        · have a3 : ¬ r < 32 := by omega
          refine fork (fun a4 => go ?_) (fun a4 => go ?_)
          · have a4 : r = 127 := by omega
            refine VRet.mk [] .nil ?_
            rw [nameR_bad (by rw [← hI.1]; simp [okAll, okCh, a4])]
            simp
          · have a4 : ¬ r = 127 := by omega
            have a1 : ¬ r = 65533 := by omega
            refine fork (fun a5 => go ?_) (fun a5 => go ?_)
            · have a5 : p = 0 := by omega
              refine fork (fun a6 => go ?_) (fun a6 => go ?_)
              · have a6 : r = 34 := by omega
                refine VRet.mk [] .nil ?_
                rw [nameR_bad (by rw [← hI.1]; simp [okAll, okCh, a5, a6])]
                simp
              · have a6 : ¬ r = 34 := by omega
                refine ⟨⟨p + k, n + 1⟩, ⟨?_, ?_, ?_⟩, ?_, rfl, .cons 0 rfl .nil⟩
                · dsimp only; omega
                · dsimp only; omega
                · dsimp only
                  refine ⟨?_, ?_⟩
                  · rw [← hI.1, okAll, decide_eq_false (show ¬ p + k = 0 by omega)]
                    have : okCh (decide (p = 0)) r = true := by simp [okCh, a1, a2, a3, a4, a6]; try omega
                    rw [this, Bool.true_and]
                  · rw [← hI.2, List.length_cons]; omega
                · dsimp only; omega
            · have a5 : ¬ p = 0 := by omega
              refine ⟨⟨p + k, n + 1⟩, ⟨?_, ?_, ?_⟩, ?_, rfl, .cons 0 rfl .nil⟩
              · dsimp only; omega
              · dsimp only; omega
              · dsimp only
                refine ⟨?_, ?_⟩
                · rw [← hI.1, okAll, decide_eq_false (show ¬ p + k = 0 by omega)]
                  have : okCh (decide (p = 0)) r = true := by simp [okCh, a1, a2, a3, a4, a5]; try omega
                  rw [this, Bool.true_and]
                · rw [← hI.2, List.length_cons]; omega
              · dsimp only; omega
  · have h17 := f17_of l
    rw [List.drop_eq_nil_of_le (by omega)] at hI
    have hok : okAll true (chars l) = true := by rw [← hI.1]; rfl
    have hct : (chars l).length = n := by rw [← hI.2]; simp [chars]
    cases hd : (digitsR l).2.1 with
    | true =>
      rw [hd] at h17
      refine Fn.use (h17) (go ?_)
      refine fork (fun b1 => go ?_) (fun b1 => go ?_)
      · refine fork (fun b2 => go ?_) (fun b2 => go ?_)
        · refine fork (fun b3 => go ?_) (fun b3 => go ?_)
          · refine VRet.mk [] .nil ?_
            simp [nameR, hok, hct, hd]
          · refine VRet.mk [] .nil ?_
            simp [nameR, hok, hct, hd]
        · refine VRet.mk [] .nil ?_
          simp [nameR, hok, hct, hd]
      · refine VRet.mk [] .nil ?_
        simp [nameR, hok, hct, hd]
    | false =>
      rw [hd] at h17
      refine Fn.use (h17) (go ?_)
      refine fork (fun b1 => go ?_) (fun b1 => go ?_)
      · refine fork (fun b2 => go ?_) (fun b2 => go ?_)
        · refine fork (fun b3 => go ?_) (fun b3 => go ?_)
          · refine VRet.mk [] .nil ?_
            simp [nameR, hok, hct, hd]
            exact ⟨⟨by omega, by omega⟩, b3⟩
          · refine VRet.mk [] .nil ?_
            simp [nameR, hok, hct, hd]
            exact fun _ _ => b3
        · refine VRet.mk [] .nil ?_
          simp [nameR, hok, hct, hd]
          intros; omega
      · refine VRet.mk [] .nil ?_
        simp [nameR, hok, hct, hd]
        intros; omega
end Go.Proofs.YtbmplclnondfnaaGreatDoor

namespace Go.Proofs.YtbmplclnondfnaaGreatDoor
open Go Go.Av
structure Tok where
  kind : Int
  text : List UInt8
  n : Int
  pos : Int
  deriving DecidableEq
def trimL (l : List UInt8) : List UInt8 := l.drop (spanR (fun r => !blankB r) (runes l))
def wlen (l : List UInt8) : Nat := spanR (fun r => blankB r) (runes l)
inductive TStep where
  | stop
  | skip (l : List UInt8)
  | bad (p e : Int)
  | tok (t : Tok) (l : List UInt8)
  deriving DecidableEq
/-- The next token, where so many bytes are in the whole. -/
def tokAt (N : Nat) (r : List UInt8) : TStep :=
  if r.take (wlen r) = [33] then
    (if Lib.indexByte r 10 < 0 then .stop else .skip (r.drop (Lib.indexByte r 10).toNat))
  else match r.take (wlen r) with
    | [] => .stop
    | c :: _ => if c = 34 then
        (if (textL (N - r.length) (r.drop 1) [] (N - r.length + 1)).2.2 = 0
          then .tok ⟨3, (textL (N - r.length) (r.drop 1) [] (N - r.length + 1)).1, 0, (N - r.length : Nat)⟩ (r.drop ((textL (N - r.length) (r.drop 1) [] (N - r.length + 1)).2.1 - (N - r.length : Nat)).toNat)
          else .bad (textL (N - r.length) (r.drop 1) [] (N - r.length + 1)).2.1 (textL (N - r.length) (r.drop 1) [] (N - r.length + 1)).2.2)
      else if (digitsR (r.take (wlen r))).2.1 then
        (if (digitsR (r.take (wlen r))).2.2 then .tok ⟨2, [], (digitsR (r.take (wlen r))).1, (N - r.length : Nat)⟩ (r.drop (wlen r)) else .bad (N - r.length : Nat) 11)
      else if nameR (r.take (wlen r)) then .tok ⟨1, r.take (wlen r), 0, (N - r.length : Nat)⟩ (r.drop (wlen r)) else .bad (N - r.length : Nat) 10
def toksN (N : Nat) : Nat → List UInt8 → List Tok → List Tok × Int × Int
  | 0, _, _ => ([], 0, -1)
  | k + 1, l, out => if l = [] then (out, 0, 0) else match tokAt N (trimL l) with
    | .stop => (out, 0, 0)
    | .skip l' => toksN N k l' out
    | .bad p e => ([], p, e)
    | .tok t l' => if out.length ≥ 4096 then ([], t.pos, 11) else toksN N k l' (out ++ [t])
def toks (N : Nat) (l : List UInt8) (out : List Tok) : List Tok × Int × Int := toksN N (l.length + 1) l out
def tokensR (s : List UInt8) : List Tok × Int × Int :=
  if s.length > 65536 then ([], 0, 11) else match faultR s with
    | some i => ([], i, 8)
    | none => toks s.length s []
def Tok.cells (t : Tok) : List AV := [.int .i64 t.kind, .str t.text, .int .i64 t.n, .int .i64 t.pos]
def toksC (l : List Tok) : List AV := (l.map Tok.cells).flatten
@[simp] theorem toksC_length (l : List Tok) : (toksC l).length = l.length * 4 := by
  induction l with
  | nil => rfl
  | cons t l ih => show (t.cells ++ toksC l).length = _; rw [List.length_append, ih]; simp [Tok.cells]; omega
theorem toksC_snoc (l : List Tok) (t : Tok) : toksC (l ++ [t]) = toksC l ++ t.cells := by simp [toksC]
theorem trimL_le (l : List UInt8) : (trimL l).length ≤ l.length := by simp [trimL]
theorem wlen_le (l : List UInt8) : wlen l ≤ l.length := spanR_le _ _
theorem indexByte_lt : ∀ (l : List UInt8) (c : UInt8), Lib.indexByte l c < l.length ∧ -1 ≤ Lib.indexByte l c
  | [], c => by simp [Lib.indexByte]
  | b :: l, c => by
    have := indexByte_lt l c
    unfold Lib.indexByte
    simp only [beq_iff_eq, List.length_cons]
    repeat' split
    all_goals omega
theorem textL_next (a : Nat) : ∀ (r acc : List UInt8) (i : Nat), (textL a r acc i).2.2 = 0 → (i : Int) + 1 ≤ (textL a r acc i).2.1 ∧ (textL a r acc i).2.1 ≤ i + r.length
  | [], acc, i, h => by simp [textL] at h
  | c :: r, acc, i, h => by
    rw [textL_cons] at h ⊢
    by_cases h1 : c = 34
    · rw [if_pos h1] at h ⊢
      by_cases h2 : acc.length > 4096
      · rw [if_pos h2] at h; simp at h
      · rw [if_neg h2]; simp; omega
    · rw [if_neg h1] at h ⊢
      by_cases h2 : c = 92
      · rw [if_pos h2] at h ⊢
        match r with
        | [] => simp at h
        | d :: r' =>
          dsimp only at h ⊢
          cases he : esc d with
          | none => rw [he] at h; simp at h
          | some e =>
            rw [he] at h
            dsimp only at h ⊢
            have := textL_next a r' (acc ++ [e]) (i + 2) h
            simp; omega
      · rw [if_neg h2] at h ⊢
        have := textL_next a r (acc ++ [c]) (i + 1) h
        simp; omega
/-- A step takes something away. -/
theorem tokAt_less {N : Nat} {r l' : List UInt8} (h : tokAt N r = .skip l' ∨ ∃ t, tokAt N r = .tok t l') : l'.length < r.length ∧ ∃ k, l' = r.drop k := by
  have hw := wlen_le r
  unfold tokAt at h
  by_cases h1 : r.take (wlen r) = [33]
  · rw [if_pos h1] at h
    have hb := indexByte_lt r 10
    by_cases h2 : Lib.indexByte r 10 < 0
    · rw [if_pos h2] at h; simp at h
    · rw [if_neg h2] at h
      simp at h
      subst h
      refine ⟨?_, _, rfl⟩
      have h3 : Lib.indexByte r 10 ≠ 0 := by
        cases r with
        | nil => simp at h1
        | cons c r =>
          have hc : c = 33 := by
            cases hn : wlen (c :: r) with
            | zero => rw [hn] at h1; simp at h1
            | succ n => rw [hn] at h1; simp at h1; exact h1.1
          subst hc
          unfold Lib.indexByte
          have := indexByte_lt r 10
          simp only [beq_iff_eq]
          rw [if_neg (by decide)]
          split
          all_goals omega
      rw [List.length_drop]; omega
  · rw [if_neg h1] at h
    cases hr : r.take (wlen r) with
    | nil => rw [hr] at h; simp at h
    | cons c q =>
      have hw0 : 0 < wlen r := by
        rcases Nat.eq_zero_or_pos (wlen r) with h0 | h0
        · rw [h0] at hr; simp at hr
        · exact h0
      have hcut : (r.drop (wlen r)).length < r.length := by rw [List.length_drop]; omega
      rw [hr] at h
      dsimp only at h
      by_cases hq : c = 34
      · rw [if_pos hq] at h
        by_cases he : (textL (N - r.length) (r.drop 1) [] (N - r.length + 1)).2.2 = 0
        · rw [if_pos he] at h
          obtain h | ⟨t, h⟩ := h
          · cases h
          · injection h with _ h
            subst h
            have := textL_next _ _ _ _ he
            refine ⟨?_, _, rfl⟩
            rw [List.length_drop]; omega
        · rw [if_neg he] at h; simp at h
      · rw [if_neg hq] at h
        cases hd : (digitsR (c :: q)).2.1 with
        | true =>
          rw [hd, if_pos rfl] at h
          cases ho : (digitsR (c :: q)).2.2 with
          | true => rw [ho, if_pos rfl] at h; simp at h; subst h; exact ⟨hcut, _, rfl⟩
          | false => rw [ho, if_neg (by simp)] at h; simp at h
        | false =>
          rw [hd, if_neg (by simp)] at h
          cases ho : nameR (c :: q) with
          | true => rw [ho, if_pos rfl] at h; simp at h; subst h; exact ⟨hcut, _, rfl⟩
          | false => rw [ho, if_neg (by simp)] at h; simp at h
theorem trimL_drop (l : List UInt8) : ∃ k, trimL l = l.drop k := ⟨_, rfl⟩
theorem toksN_eq (N : Nat) : ∀ (k : Nat) (l : List UInt8) (out : List Tok), l.length < k → toksN N k l out = toks N l out
  | 0, l, out, h => by omega
  | k + 1, l, out, h => by
    have hl := trimL_le l
    unfold toks
    simp only [toksN]
    by_cases e : l = []
    · rw [if_pos e, if_pos e]
    · rw [if_neg e, if_neg e]
      cases hs : tokAt N (trimL l) with
      | stop => rfl
      | bad p e => rfl
      | skip l' =>
        have := (tokAt_less (.inl hs)).1
        dsimp only
        rw [toksN_eq N k l' out (by omega)]
        obtain ⟨m, hm⟩ : ∃ m, l.length = m + 1 := ⟨l.length - 1, by omega⟩
        rw [hm, toksN_eq N (m + 1) l' out (by omega)]
      | tok t l' =>
        have := (tokAt_less (.inr ⟨t, hs⟩)).1
        dsimp only
        rw [toksN_eq N k l' _ (by omega)]
        obtain ⟨m, hm⟩ : ∃ m, l.length = m + 1 := ⟨l.length - 1, by omega⟩
        rw [hm, toksN_eq N (m + 1) l' _ (by omega)]
theorem toks_step (N : Nat) (l : List UInt8) (out : List Tok) : toks N l out = if l = [] then (out, 0, 0) else match tokAt N (trimL l) with
    | .stop => (out, 0, 0)
    | .skip l' => toks N l' out
    | .bad p e => ([], p, e)
    | .tok t l' => if out.length ≥ 4096 then ([], t.pos, 11) else toks N l' (out ++ [t]) := by
  have hl := trimL_le l
  by_cases e : l = []
  · subst e; rfl
  · unfold toks
    rw [toksN, if_neg e]
    obtain ⟨m, hm⟩ : ∃ m, l.length = m + 1 := ⟨l.length - 1, by cases l with | nil => exact absurd rfl e | cons => simp⟩
    cases hs : tokAt N (trimL l) with
    | stop => rw [if_neg e]
    | bad p e' => rw [if_neg e]
    | skip l' =>
      have := (tokAt_less (.inl hs)).1
      dsimp only
      rw [if_neg e, toksN_eq N _ l' out (by omega)]; rfl
    | tok t l' =>
      have := (tokAt_less (.inr ⟨t, hs⟩)).1
      dsimp only
      rw [if_neg e, toksN_eq N _ l' _ (by omega)]; rfl
end Go.Proofs.YtbmplclnondfnaaGreatDoor

namespace Go.Proofs.YtbmplclnondfnaaGreatDoor
open Go Go.Av
abbrev PE := Int × Int
structure RS where
  l : List Tok
  opn : Nat
  sz : Nat
abbrev PR (α : Type) := Except PE (α × RS)
def reservedL : List (List UInt8) := [[58], [59], [40], [41], [45, 45], [91], [93], [123], [125], [116], [102]]
def reservedR (s : List UInt8) : Bool := reservedL.contains s
def countR (p : Int) (s : RS) : Except PE RS :=
  if 0 < s.opn then (if 1024 < s.sz + 1 then .error (p, 11) else .ok { s with sz := s.sz + 1 }) else .ok s
def enterR (p : Int) (s : RS) : Except PE RS :=
  if 32 < s.opn + 1 then .error (p, 11) else countR p { s with opn := s.opn + 1, sz := if s.opn + 1 = 1 then 0 else s.sz }
def atR (fin : Int) (l : List Tok) : Int := match l with
  | [] => fin
  | t :: _ => t.pos
def peekR (l : List Tok) : Option (List UInt8) := match l with
  | [] => none
  | t :: _ => if t.kind = 1 then some t.text else none
def takeR (fin : Int) (s : RS) : PR Tok := match s.l with
  | [] => .error (fin, 9)
  | t :: r => .ok (t, { s with l := r })
mutual
def litR (fin : Int) : Nat → RS → PR (Option Tree)
  | 0, _ => .error (0, -1)
  | k + 1, s => match s.l with
    | [] => .ok (none, s)
    | t :: r =>
      if t.kind = 2 then (match countR t.pos { s with l := r } with
        | .error e => .error e
        | .ok s' => .ok (some (.int t.n), s'))
      else if t.kind = 3 then (match countR t.pos { s with l := r } with
        | .error e => .error e
        | .ok s' => .ok (some (.str t.text), s'))
      else if t.text = [116] ∨ t.text = [102] then (match countR t.pos { s with l := r } with
        | .error e => .error e
        | .ok s' => .ok (some (.bool (decide (t.text = [116]))), s'))
      else if t.text = [91] then (match enterR t.pos { s with l := r } with
        | .error e => .error e
        | .ok s1 => match itemsR fin k [93] s1 [] with
          | .error e => .error e
          | .ok (ys, s2) => .ok (some (.quot ys), { s2 with opn := s2.opn - 1 }))
      else if t.text = [123] then (match enterR t.pos { s with l := r } with
        | .error e => .error e
        | .ok s1 => match valsR fin k s1 [] with
          | .error e => .error e
          | .ok (ys, s2) => .ok (some (.list ys), { s2 with opn := s2.opn - 1 }))
      else .ok (none, s)
def itemR (fin : Int) : Nat → RS → PR (Option Tree)
  | 0, _ => .error (0, -1)
  | k + 1, s => match litR fin k s with
    | .error e => .error e
    | .ok (some v, s') => .ok (some v, s')
    | .ok (none, s') => match peekR s'.l with
      | none => .ok (none, s')
      | some w => if reservedR w then .ok (none, s') else match takeR fin s' with
        | .error e => .error e
        | .ok (t, s1) => match countR t.pos s1 with
          | .error e => .error e
          | .ok s2 => .ok (some (.call w), s2)
def itemsR (fin : Int) : Nat → List UInt8 → RS → List Tree → PR (List Tree)
  | 0, _, _, _ => .error (0, -1)
  | k + 1, shut, s, acc => if peekR s.l = some shut then (match takeR fin s with
      | .error e => .error e
      | .ok (_, s') => .ok (acc, s'))
    else match itemR fin k s with
      | .error e => .error e
      | .ok (none, s') => .error (atR fin s'.l, 9)
      | .ok (some y, s') => itemsR fin k shut s' (acc ++ [y])
def valsR (fin : Int) : Nat → RS → List Tree → PR (List Tree)
  | 0, _, _ => .error (0, -1)
  | k + 1, s, acc => if peekR s.l = some [125] then (match takeR fin s with
      | .error e => .error e
      | .ok (_, s') => .ok (acc, s'))
    else match litR fin k s with
      | .error e => .error e
      | .ok (none, s') => .error (atR fin s'.l, 9)
      | .ok (some y, s') => valsR fin k s' (acc ++ [y])
end
def wordR (fin : Int) (want : List UInt8) (s : RS) : PR (List UInt8) := match peekR s.l with
  | none => .error (atR fin s.l, 9)
  | some w => if (want ≠ [] ∧ w ≠ want) ∨ (want = [] ∧ reservedR w = true) then .error (atR fin s.l, 9) else match takeR fin s with
    | .error e => .error e
    | .ok (_, s') => .ok (w, s')
def namesR (fin : Int) (shut : List UInt8) : Nat → RS → Nat → PR Nat
  | 0, _, _ => .error (0, -1)
  | k + 1, s, n => if peekR s.l = some shut then (match takeR fin s with
      | .error e => .error e
      | .ok (_, s') => .ok (n, s'))
    else match wordR fin [] s with
      | .error e => .error e
      | .ok (_, s') => if 16 < n + 1 then .error (atR fin s.l, 11) else namesR fin shut k s' (n + 1)
structure DefT where
  name : List UInt8
  inn : Nat
  out : Nat
  body : List Tree
/-- As many steps as suffice. -/
def fuel (s : RS) : Nat := 3 * s.l.length + 3
def defineR (fin : Int) (p : Int) (s : RS) : PR DefT := match enterR p s with
  | .error e => .error e
  | .ok s1 => match wordR fin [] s1 with
    | .error e => .error e
    | .ok (nm, s2) => match wordR fin [40] s2 with
      | .error e => .error e
      | .ok (_, s3) => match namesR fin [45, 45] (fuel s3) s3 0 with
        | .error e => .error e
        | .ok (i, s4) => match namesR fin [41] (fuel s4) s4 0 with
          | .error e => .error e
          | .ok (o, s5) => match itemsR fin (fuel s5) [59] s5 [] with
            | .error e => .error e
            | .ok (b, s6) => .ok (⟨nm, i, o, b⟩, { s6 with opn := s6.opn - 1 })
inductive FormT where
  | define (d : DefT)
  | item (t : Tree)
def formsR (fin : Int) : Nat → RS → List FormT → PR (List FormT)
  | 0, _, _ => .error (0, -1)
  | k + 1, s, acc => if peekR s.l = some [58] then (match takeR fin s with
      | .error e => .error e
      | .ok (t, s1) => match defineR fin t.pos s1 with
        | .error e => .error e
        | .ok (d, s2) => formsR fin k s2 (acc ++ [.define d]))
    else match itemR fin (fuel s) s with
      | .error e => .error e
      | .ok (none, s') => .ok (acc, s')
      | .ok (some y, s') => formsR fin k s' (acc ++ [.item y])
def onlyR (fin : Int) : Nat → RS → List Tree → PR (List Tree)
  | 0, _, _ => .error (0, -1)
  | k + 1, s, acc => match itemR fin (fuel s) s with
      | .error e => .error e
      | .ok (none, s') => .ok (acc, s')
      | .ok (some y, s') => onlyR fin k s' (acc ++ [y])
def finR {α : Type} (fin : Int) (x : PR (List α)) : List α × Int × Int := match x with
  | .error e => ([], e.1, e.2)
  | .ok x => if x.2.l ≠ [] then ([], atR fin x.2.l, 9) else (x.1, 0, 0)
def readR {α : Type} (s : List UInt8) (what : RS → PR (List α)) : List α × Int × Int :=
  if (tokensR s).2.2 ≠ 0 then ([], (tokensR s).2.1, (tokensR s).2.2) else finR s.length (what ⟨(tokensR s).1, 0, 0⟩)
def parseR (s : List UInt8) : List FormT × Int × Int := readR s fun r => formsR s.length (r.l.length + 1) r []
def itemsOnlyR (s : List UInt8) : List Tree × Int × Int := readR s fun r => onlyR s.length (r.l.length + 1) r []
end Go.Proofs.YtbmplclnondfnaaGreatDoor

namespace Go.Proofs.YtbmplclnondfnaaGreatDoor
open Go Go.Av
structure TokI where
  o : Option Nat
  p : Nat
  out : List Tok
theorem f18_nat (r : Nat) (hr : r ≤ 1114111) : Av.Fn Tryz.prog 129 [.int .i32 r] (.bool (blankB r)) := f18_of r (by omega)
theorem fn_end (l : List UInt8) : ∃ k : Int, Av.Fn Tryz.prog 130 [.str l, .fn (.func 129) [] []] (.int .i64 k) ∧ ((k = wlen l ∧ 0 ≤ k) ∨ (k = -1 ∧ wlen l = l.length)) := by
  have h := fn_IndexFunc 129 (fun r => blankB r) f18_nat l
  by_cases ha : (runes l).any (fun x => blankB x.1) = true
  · rw [if_pos ha] at h
    exact ⟨_, h, .inl ⟨rfl, by omega⟩⟩
  · rw [if_neg ha] at h
    exact ⟨_, h, .inr ⟨rfl, by unfold wlen; rw [spanR_none (by simpa using ha), sum_runes]⟩⟩
theorem take_toksC (l : List Tok) : (toksC l).take (l.length * 4) = toksC l := List.take_of_length_le (by simp)






set_option maxRecDepth 20000 in
set_option maxHeartbeats 1600000 in
theorem toks_of (s : List UInt8) (hs : s.length ≤ 65536) (hf : faultR s = none) : Av.Fn Tryz.prog 102 [.str s] (.tup [.fz (toksC (toks s.length s []).1) (toks s.length s []).1.length false, .int .i64 (toks s.length s []).2.1, .int .i64 (toks s.length s []).2.2]) := by
  have ff := f_fault s
  rw [show faultV s = -1 by simp [faultV, hf]] at ff
  obtain ⟨R, hR⟩ : ∃ R, R = toks s.length s [] := ⟨_, rfl⟩
  rw [← hR]
  refine ACalls.of_W tb_ok (fn := Tryz.f102) (n := 113) (by kernel_rfl) rfl (by kernel_rfl) rfl rfl (by simp) (go ?_)
  refine VIf.no (decide_eq_false (by omega)) (go ?_)
  refine Fn.use (ff) (go ?_)
  refine VLoop.mk [6, 7] TokI (fun i => [accV i.o i.out.length, .int .i64 i.p]) (fun i => accS i.o 4 (toksC i.out))
    (fun i => i.p ≤ s.length ∧ i.out.length ≤ 4096 ∧ (i.o = none → i.out = []) ∧ toks s.length (s.drop i.p) i.out = R) (fun i => s.length - i.p) ⟨none, 0, []⟩ ?_ ?_
  · exact ⟨⟨by simp, by simp, by simp, hR.symm⟩, rfl, .nil⟩
  rintro ⟨o, p, out⟩ ⟨hp, hol, ho, hI⟩
  dsimp only at hp hol ho hI ⊢
  cases o with
  | none =>
    have hacc := ho rfl
    subst hacc
    refine go ?_
    refine fork (fun hlt => go ?_) (fun hlt => go ?_)
    · have hlt : p < s.length := by omega
      have htr := trimL_le (s.drop p)
      obtain ⟨p', hp', hp2, hr⟩ : ∃ p', p ≤ p' ∧ p' ≤ s.length ∧ trimL (s.drop p) = s.drop p' := by
        have := spanR_le (fun r => !blankB r) (s.drop p)
        rw [List.length_drop] at this
        exact ⟨p + spanR (fun r => !blankB r) (runes (s.drop p)), by omega, by omega, by unfold trimL; rw [List.drop_drop]⟩
      have ft := fn_TrimLeftFunc 129 (fun r => blankB r) f18_nat (s.drop p)
      rw [show (s.drop p).drop (spanR (fun r => !blankB r) (runes (s.drop p))) = s.drop p' from hr] at ft
      refine Fn.use (ft) (go ?_)
      refine VInt.to (p' : Int) (by simp; omega) (by omega) (by omega) (go ?_)
      obtain ⟨k, fe, hk⟩ := fn_end (s.drop p')
      refine Fn.use (fe) (go ?_)
      obtain ⟨w, hw⟩ : ∃ w, w = wlen (s.drop p') := ⟨_, rfl⟩
      have hwl := wlen_le (s.drop p')
      rw [← hw] at hk hwl
      rw [List.length_drop] at hwl
      have hpp : s.length - (s.drop p').length = p' := by simp; omega
      rw [toks_step, if_neg (by simp; omega), hr] at hI
      unfold tokAt at hI
      rw [← hw, hpp] at hI
      rcases hk with ⟨hk, hk0⟩ | ⟨hk, hk1⟩
      · subst hk
        refine VIf.no (decide_eq_false (by omega)) (go ?_)
        refine fork (fun h1 => go ?_) (fun h1 => go ?_)
        · rw [if_pos h1] at hI
          have hb := indexByte_lt (s.drop p') 10
          rw [List.length_drop] at hb
          have fi := fn_IndexByte (s.drop p') 10
          rw [show (10 : Int).toNat.toUInt8 = (10 : UInt8) from rfl] at fi
          obtain ⟨m, hmm⟩ : ∃ m, m = Lib.indexByte (s.drop p') 10 := ⟨_, rfl⟩
          rw [← hmm] at fi hb hI
          refine Fn.use (fi) (go ?_)
          refine fork (fun hm => go ?_) (fun hm => go ?_)
          · rw [if_pos hm] at hI
            refine VRet.mk [] .nil ?_
            rw [← hI]; exact ⟨rfl, rfl⟩
          · rw [if_neg hm] at hI
            dsimp only at hI
            have hsk := (tokAt_less (N := s.length) (.inl (show tokAt s.length (s.drop p') = .skip ((s.drop p').drop m.toNat) by unfold tokAt; rw [← hw, if_pos h1, ← hmm, if_neg hm]))).1
            rw [List.drop_drop] at hI hsk
            rw [List.length_drop, List.length_drop] at hsk
            refine ⟨⟨none, p' + m.toNat, []⟩, ⟨?_, ?_, ?_, ?_⟩, ?_, ?_, ?_⟩
            · dsimp only; omega
            · exact hol
            · exact ho
            · exact hI
            · dsimp only; omega
            · simp [accV]; omega
            · exact .nil
        · rw [if_neg h1] at hI
          refine fork (fun h2 => go ?_) (fun h2 => go ?_)
          · rw [h2] at hI
            refine VRet.mk [] .nil ?_
            rw [← hI]; exact ⟨rfl, rfl⟩
          · obtain ⟨c, q, hcq⟩ : ∃ c q, (s.drop p').take w = c :: q := by
              cases hx : (s.drop p').take w with
              | nil => exact absurd hx h2
              | cons c q => exact ⟨c, q, rfl⟩
            have hwp : 0 < w := by
              rcases Nat.eq_zero_or_pos w with h0 | h0
              · rw [h0] at hcq; simp at hcq
              · exact h0
            have hc0 : ((s.drop p').take w).getD 0 0 = c := by rw [hcq]; rfl
            refine VAll.mk (fun bt => go ?_)
            rw [hc0]
            have f17 := f17_of ((s.drop p').take w)
            have f11 := f11_of ((s.drop p').take w) (by simp; omega)
            have hI2 := hI
            rw [hcq] at hI2
            dsimp only at hI2
            rw [← hcq] at hI2
            replace hI := hI2
            clear hI2
            refine fork (fun h34 => go ?_) (fun h34 => go ?_)
            · have h34 : c = 34 := by rw [← UInt8.toNat_inj]; exact Int.ofNat_inj.1 h34
              rw [if_pos h34, List.drop_drop] at hI
              have fx := f_text s p' (by omega) hs
              have hnx := textL_next p' (s.drop (p' + 1)) [] (p' + 1)
              rw [show textR s p' = textL p' (s.drop (p' + 1)) [] (p' + 1) from rfl] at fx
              generalize textL p' (s.drop (p' + 1)) [] (p' + 1) = x at fx hI hnx
              obtain ⟨x, nx, e⟩ := x
              dsimp only at fx hI hnx
              refine Fn.use (fx) (go ?_)
              refine fork (fun he => go ?_) (fun he => go ?_)
              · have he : e = 0 := he
                have hnx := hnx he
                subst he
                rw [if_pos rfl] at hI
                dsimp only at hI
                obtain ⟨j, rfl⟩ : ∃ j : Nat, nx = j := ⟨nx.toNat, by omega⟩
                rw [List.drop_drop, show p' + ((j : Int) - (p' : Int)).toNat = j by omega] at hI
                rw [List.length_drop] at hnx
                refine VIf.no (by simp) (go ?_)
                refine VAll.mk (fun b2 => go ?_)
                refine ⟨⟨some b2, j, [⟨3, x, 0, (p' : Nat)⟩]⟩, ⟨?_, ?_, ?_, ?_⟩, ?_, ?_, ?_⟩
                · dsimp only; omega
                · simp
                · intro h; cases h
                · exact hI
                · dsimp only; omega
                · simp [accV]; try omega
                · exact .cons 0 rfl .nil
              · have he : ¬ e = 0 := he
                rw [if_neg he] at hI
                refine VIf.yes (by simpa using he) (go ?_)
                refine VRet.mk [] .nil ?_
                rw [← hI]; exact ⟨rfl, rfl⟩
            · have h34 : ¬ c = 34 := by rw [← UInt8.toNat_inj]; exact fun e => h34 (Int.ofNat_inj.2 e)
              rw [if_neg h34, List.drop_drop] at hI
              generalize digitsR ((s.drop p').take w) = d at f17 hI
              obtain ⟨n, num, ok⟩ := d
              dsimp only at f17 hI
              refine Fn.use (f17) (go ?_)
              cases num with
              | true =>
                rw [if_pos rfl] at hI
                cases ok with
                | true =>
                  rw [if_pos rfl] at hI
                  dsimp only at hI
                  refine go ?_
                  skip
                  refine VAll.mk (fun b2 => go ?_)
                  refine ⟨⟨some b2, p' + w, [⟨2, [], n, (p' : Nat)⟩]⟩, ⟨?_, ?_, ?_, ?_⟩, ?_, ?_, ?_⟩
                  · dsimp only; omega
                  · simp
                  · intro h; cases h
                  · exact hI
                  · dsimp only; omega
                  · simp [accV]; try omega
                  · exact .cons 0 rfl .nil
                | false =>
                  rw [if_neg (by simp)] at hI
                  refine go ?_
                  refine VRet.mk [] .nil ?_
                  rw [← hI]; exact ⟨rfl, rfl⟩
              | false =>
                rw [if_neg (by simp)] at hI
                refine go ?_
                generalize nameR ((s.drop p').take w) = nm at f11 hI
                refine Fn.use (f11) (go ?_)
                cases nm with
                | true =>
                  rw [if_pos rfl] at hI
                  dsimp only at hI
                  refine go ?_
                  skip
                  refine VAll.mk (fun b2 => go ?_)
                  refine ⟨⟨some b2, p' + w, [⟨1, (s.drop p').take w, 0, (p' : Nat)⟩]⟩, ⟨?_, ?_, ?_, ?_⟩, ?_, ?_, ?_⟩
                  · dsimp only; omega
                  · simp
                  · intro h; cases h
                  · exact hI
                  · dsimp only; omega
                  · simp [accV]; try omega
                  · exact .cons 0 rfl .nil
                | false =>
                  rw [if_neg (by simp)] at hI
                  refine go ?_
                  refine VRet.mk [] .nil ?_
                  rw [← hI]; exact ⟨rfl, rfl⟩
      · subst hk
        refine go ?_
        rw [← hk1]
        refine fork (fun h1 => go ?_) (fun h1 => go ?_)
        · rw [if_pos h1] at hI
          have hb := indexByte_lt (s.drop p') 10
          rw [List.length_drop] at hb
          have fi := fn_IndexByte (s.drop p') 10
          rw [show (10 : Int).toNat.toUInt8 = (10 : UInt8) from rfl] at fi
          obtain ⟨m, hmm⟩ : ∃ m, m = Lib.indexByte (s.drop p') 10 := ⟨_, rfl⟩
          rw [← hmm] at fi hb hI
          refine Fn.use (fi) (go ?_)
          refine fork (fun hm => go ?_) (fun hm => go ?_)
          · rw [if_pos hm] at hI
            refine VRet.mk [] .nil ?_
            rw [← hI]; exact ⟨rfl, rfl⟩
          · rw [if_neg hm] at hI
            dsimp only at hI
            have hsk := (tokAt_less (N := s.length) (.inl (show tokAt s.length (s.drop p') = .skip ((s.drop p').drop m.toNat) by unfold tokAt; rw [← hw, if_pos h1, ← hmm, if_neg hm]))).1
            rw [List.drop_drop] at hI hsk
            rw [List.length_drop, List.length_drop] at hsk
            refine ⟨⟨none, p' + m.toNat, []⟩, ⟨?_, ?_, ?_, ?_⟩, ?_, ?_, ?_⟩
            · dsimp only; omega
            · exact hol
            · exact ho
            · exact hI
            · dsimp only; omega
            · simp [accV]; omega
            · exact .nil
        · rw [if_neg h1] at hI
          refine fork (fun h2 => go ?_) (fun h2 => go ?_)
          · rw [h2] at hI
            refine VRet.mk [] .nil ?_
            rw [← hI]; exact ⟨rfl, rfl⟩
          · obtain ⟨c, q, hcq⟩ : ∃ c q, (s.drop p').take w = c :: q := by
              cases hx : (s.drop p').take w with
              | nil => exact absurd hx h2
              | cons c q => exact ⟨c, q, rfl⟩
            have hwp : 0 < w := by
              rcases Nat.eq_zero_or_pos w with h0 | h0
              · rw [h0] at hcq; simp at hcq
              · exact h0
            have hc0 : ((s.drop p').take w).getD 0 0 = c := by rw [hcq]; rfl
            refine VAll.mk (fun bt => go ?_)
            rw [hc0]
            have f17 := f17_of ((s.drop p').take w)
            have f11 := f11_of ((s.drop p').take w) (by simp; omega)
            have hI2 := hI
            rw [hcq] at hI2
            dsimp only at hI2
            rw [← hcq] at hI2
            replace hI := hI2
            clear hI2
            refine fork (fun h34 => go ?_) (fun h34 => go ?_)
            · have h34 : c = 34 := by rw [← UInt8.toNat_inj]; exact Int.ofNat_inj.1 h34
              rw [if_pos h34, List.drop_drop] at hI
              have fx := f_text s p' (by omega) hs
              have hnx := textL_next p' (s.drop (p' + 1)) [] (p' + 1)
              rw [show textR s p' = textL p' (s.drop (p' + 1)) [] (p' + 1) from rfl] at fx
              generalize textL p' (s.drop (p' + 1)) [] (p' + 1) = x at fx hI hnx
              obtain ⟨x, nx, e⟩ := x
              dsimp only at fx hI hnx
              refine Fn.use (fx) (go ?_)
              refine fork (fun he => go ?_) (fun he => go ?_)
              · have he : e = 0 := he
                have hnx := hnx he
                subst he
                rw [if_pos rfl] at hI
                dsimp only at hI
                obtain ⟨j, rfl⟩ : ∃ j : Nat, nx = j := ⟨nx.toNat, by omega⟩
                rw [List.drop_drop, show p' + ((j : Int) - (p' : Int)).toNat = j by omega] at hI
                rw [List.length_drop] at hnx
                refine VIf.no (by simp) (go ?_)
                refine VAll.mk (fun b2 => go ?_)
                refine ⟨⟨some b2, j, [⟨3, x, 0, (p' : Nat)⟩]⟩, ⟨?_, ?_, ?_, ?_⟩, ?_, ?_, ?_⟩
                · dsimp only; omega
                · simp
                · intro h; cases h
                · exact hI
                · dsimp only; omega
                · simp [accV]; try omega
                · exact .cons 0 rfl .nil
              · have he : ¬ e = 0 := he
                rw [if_neg he] at hI
                refine VIf.yes (by simpa using he) (go ?_)
                refine VRet.mk [] .nil ?_
                rw [← hI]; exact ⟨rfl, rfl⟩
            · have h34 : ¬ c = 34 := by rw [← UInt8.toNat_inj]; exact fun e => h34 (Int.ofNat_inj.2 e)
              rw [if_neg h34, List.drop_drop] at hI
              generalize digitsR ((s.drop p').take w) = d at f17 hI
              obtain ⟨n, num, ok⟩ := d
              dsimp only at f17 hI
              refine Fn.use (f17) (go ?_)
              cases num with
              | true =>
                rw [if_pos rfl] at hI
                cases ok with
                | true =>
                  rw [if_pos rfl] at hI
                  dsimp only at hI
                  refine go ?_
                  skip
                  refine VAll.mk (fun b2 => go ?_)
                  refine ⟨⟨some b2, p' + w, [⟨2, [], n, (p' : Nat)⟩]⟩, ⟨?_, ?_, ?_, ?_⟩, ?_, ?_, ?_⟩
                  · dsimp only; omega
                  · simp
                  · intro h; cases h
                  · exact hI
                  · dsimp only; omega
                  · simp [accV]; try omega
                  · exact .cons 0 rfl .nil
                | false =>
                  rw [if_neg (by simp)] at hI
                  refine go ?_
                  refine VRet.mk [] .nil ?_
                  rw [← hI]; exact ⟨rfl, rfl⟩
              | false =>
                rw [if_neg (by simp)] at hI
                refine go ?_
                generalize nameR ((s.drop p').take w) = nm at f11 hI
                refine Fn.use (f11) (go ?_)
                cases nm with
                | true =>
                  rw [if_pos rfl] at hI
                  dsimp only at hI
                  refine go ?_
                  skip
                  refine VAll.mk (fun b2 => go ?_)
                  refine ⟨⟨some b2, p' + w, [⟨1, (s.drop p').take w, 0, (p' : Nat)⟩]⟩, ⟨?_, ?_, ?_, ?_⟩, ?_, ?_, ?_⟩
                  · dsimp only; omega
                  · simp
                  · intro h; cases h
                  · exact hI
                  · dsimp only; omega
                  · simp [accV]; try omega
                  · exact .cons 0 rfl .nil
                | false =>
                  rw [if_neg (by simp)] at hI
                  refine go ?_
                  refine VRet.mk [] .nil ?_
                  rw [← hI]; exact ⟨rfl, rfl⟩
    · rw [List.drop_eq_nil_of_le (by omega), toks_step, if_pos rfl] at hI
      refine VRet.mk [] .nil ?_
      rw [← hI]; exact ⟨rfl, rfl⟩
  | some b =>
    refine go ?_
    refine fork (fun hlt => go ?_) (fun hlt => go ?_)
    · have hlt : p < s.length := by omega
      have htr := trimL_le (s.drop p)
      obtain ⟨p', hp', hp2, hr⟩ : ∃ p', p ≤ p' ∧ p' ≤ s.length ∧ trimL (s.drop p) = s.drop p' := by
        have := spanR_le (fun r => !blankB r) (s.drop p)
        rw [List.length_drop] at this
        exact ⟨p + spanR (fun r => !blankB r) (runes (s.drop p)), by omega, by omega, by unfold trimL; rw [List.drop_drop]⟩
      have ft := fn_TrimLeftFunc 129 (fun r => blankB r) f18_nat (s.drop p)
      rw [show (s.drop p).drop (spanR (fun r => !blankB r) (runes (s.drop p))) = s.drop p' from hr] at ft
      refine Fn.use (ft) (go ?_)
      refine VInt.to (p' : Int) (by simp; omega) (by omega) (by omega) (go ?_)
      obtain ⟨k, fe, hk⟩ := fn_end (s.drop p')
      refine Fn.use (fe) (go ?_)
      obtain ⟨w, hw⟩ : ∃ w, w = wlen (s.drop p') := ⟨_, rfl⟩
      have hwl := wlen_le (s.drop p')
      rw [← hw] at hk hwl
      rw [List.length_drop] at hwl
      have hpp : s.length - (s.drop p').length = p' := by simp; omega
      rw [toks_step, if_neg (by simp; omega), hr] at hI
      unfold tokAt at hI
      rw [← hw, hpp] at hI
      rcases hk with ⟨hk, hk0⟩ | ⟨hk, hk1⟩
      · subst hk
        refine VIf.no (decide_eq_false (by omega)) (go ?_)
        refine fork (fun h1 => go ?_) (fun h1 => go ?_)
        · rw [if_pos h1] at hI
          have hb := indexByte_lt (s.drop p') 10
          rw [List.length_drop] at hb
          have fi := fn_IndexByte (s.drop p') 10
          rw [show (10 : Int).toNat.toUInt8 = (10 : UInt8) from rfl] at fi
          obtain ⟨m, hmm⟩ : ∃ m, m = Lib.indexByte (s.drop p') 10 := ⟨_, rfl⟩
          rw [← hmm] at fi hb hI
          refine Fn.use (fi) (go ?_)
          refine fork (fun hm => go ?_) (fun hm => go ?_)
          · rw [if_pos hm] at hI
            refine VRet.mk [] .nil ?_
            rw [← hI]; dsimp only; rw [take_toksC]; exact ⟨rfl, rfl⟩
          · rw [if_neg hm] at hI
            dsimp only at hI
            have hsk := (tokAt_less (N := s.length) (.inl (show tokAt s.length (s.drop p') = .skip ((s.drop p').drop m.toNat) by unfold tokAt; rw [← hw, if_pos h1, ← hmm, if_neg hm]))).1
            rw [List.drop_drop] at hI hsk
            rw [List.length_drop, List.length_drop] at hsk
            refine ⟨⟨some b, p' + m.toNat, out⟩, ⟨?_, ?_, ?_, ?_⟩, ?_, ?_, ?_⟩
            · dsimp only; omega
            · exact hol
            · exact ho
            · exact hI
            · dsimp only; omega
            · simp [accV]; omega
            · exact .cons 0 rfl .nil
        · rw [if_neg h1] at hI
          refine fork (fun h2 => go ?_) (fun h2 => go ?_)
          · rw [h2] at hI
            refine VRet.mk [] .nil ?_
            rw [← hI]; dsimp only; rw [take_toksC]; exact ⟨rfl, rfl⟩
          · obtain ⟨c, q, hcq⟩ : ∃ c q, (s.drop p').take w = c :: q := by
              cases hx : (s.drop p').take w with
              | nil => exact absurd hx h2
              | cons c q => exact ⟨c, q, rfl⟩
            have hwp : 0 < w := by
              rcases Nat.eq_zero_or_pos w with h0 | h0
              · rw [h0] at hcq; simp at hcq
              · exact h0
            have hc0 : ((s.drop p').take w).getD 0 0 = c := by rw [hcq]; rfl
            refine VAll.mk (fun bt => go ?_)
            rw [hc0]
            have f17 := f17_of ((s.drop p').take w)
            have f11 := f11_of ((s.drop p').take w) (by simp; omega)
            have hI2 := hI
            rw [hcq] at hI2
            dsimp only at hI2
            rw [← hcq] at hI2
            replace hI := hI2
            clear hI2
            refine fork (fun h34 => go ?_) (fun h34 => go ?_)
            · have h34 : c = 34 := by rw [← UInt8.toNat_inj]; exact Int.ofNat_inj.1 h34
              rw [if_pos h34, List.drop_drop] at hI
              have fx := f_text s p' (by omega) hs
              have hnx := textL_next p' (s.drop (p' + 1)) [] (p' + 1)
              rw [show textR s p' = textL p' (s.drop (p' + 1)) [] (p' + 1) from rfl] at fx
              generalize textL p' (s.drop (p' + 1)) [] (p' + 1) = x at fx hI hnx
              obtain ⟨x, nx, e⟩ := x
              dsimp only at fx hI hnx
              refine Fn.use (fx) (go ?_)
              refine fork (fun he => go ?_) (fun he => go ?_)
              · have he : e = 0 := he
                have hnx := hnx he
                subst he
                rw [if_pos rfl] at hI
                dsimp only at hI
                obtain ⟨j, rfl⟩ : ∃ j : Nat, nx = j := ⟨nx.toNat, by omega⟩
                rw [List.drop_drop, show p' + ((j : Int) - (p' : Int)).toNat = j by omega] at hI
                rw [List.length_drop] at hnx
                refine fork (fun hbig => go ?_) (fun hbig => go ?_)
                · rw [if_pos (by omega)] at hI
                  refine VRet.mk [] .nil ?_
                  rw [← hI]; exact ⟨rfl, rfl⟩
                · rw [if_neg (by omega)] at hI
                  refine VGd.mk (by simp; omega) (go ?_)
                  refine VAll.mk (fun b2 => go ?_)
                  refine ⟨⟨some b2, j, out ++ [⟨3, x, 0, (p' : Nat)⟩]⟩, ⟨?_, ?_, ?_, ?_⟩, ?_, ?_, ?_⟩
                  · dsimp only; omega
                  · simp; omega
                  · intro h; cases h
                  · exact hI
                  · dsimp only; omega
                  · simp [accV]; try omega
                  · simp only [accS, toksC_snoc]; rw [mulN_eq, take_toksC]; exact .cons 0 rfl .nil
              · have he : ¬ e = 0 := he
                rw [if_neg he] at hI
                refine VIf.yes (by simpa using he) (go ?_)
                refine VRet.mk [] .nil ?_
                rw [← hI]; exact ⟨rfl, rfl⟩
            · have h34 : ¬ c = 34 := by rw [← UInt8.toNat_inj]; exact fun e => h34 (Int.ofNat_inj.2 e)
              rw [if_neg h34, List.drop_drop] at hI
              generalize digitsR ((s.drop p').take w) = d at f17 hI
              obtain ⟨n, num, ok⟩ := d
              dsimp only at f17 hI
              refine Fn.use (f17) (go ?_)
              cases num with
              | true =>
                rw [if_pos rfl] at hI
                cases ok with
                | true =>
                  rw [if_pos rfl] at hI
                  dsimp only at hI
                  refine go ?_
                  refine fork (fun hbig => go ?_) (fun hbig => go ?_)
                  · rw [if_pos (by omega)] at hI
                    refine VRet.mk [] .nil ?_
                    rw [← hI]; exact ⟨rfl, rfl⟩
                  · rw [if_neg (by omega)] at hI
                    refine VGd.mk (by simp; omega) (go ?_)
                    refine VAll.mk (fun b2 => go ?_)
                    refine ⟨⟨some b2, p' + w, out ++ [⟨2, [], n, (p' : Nat)⟩]⟩, ⟨?_, ?_, ?_, ?_⟩, ?_, ?_, ?_⟩
                    · dsimp only; omega
                    · simp; omega
                    · intro h; cases h
                    · exact hI
                    · dsimp only; omega
                    · simp [accV]; try omega
                    · simp only [accS, toksC_snoc]; rw [mulN_eq, take_toksC]; exact .cons 0 rfl .nil
                | false =>
                  rw [if_neg (by simp)] at hI
                  refine go ?_
                  refine VRet.mk [] .nil ?_
                  rw [← hI]; exact ⟨rfl, rfl⟩
              | false =>
                rw [if_neg (by simp)] at hI
                refine go ?_
                generalize nameR ((s.drop p').take w) = nm at f11 hI
                refine Fn.use (f11) (go ?_)
                cases nm with
                | true =>
                  rw [if_pos rfl] at hI
                  dsimp only at hI
                  refine go ?_
                  refine fork (fun hbig => go ?_) (fun hbig => go ?_)
                  · rw [if_pos (by omega)] at hI
                    refine VRet.mk [] .nil ?_
                    rw [← hI]; exact ⟨rfl, rfl⟩
                  · rw [if_neg (by omega)] at hI
                    refine VGd.mk (by simp; omega) (go ?_)
                    refine VAll.mk (fun b2 => go ?_)
                    refine ⟨⟨some b2, p' + w, out ++ [⟨1, (s.drop p').take w, 0, (p' : Nat)⟩]⟩, ⟨?_, ?_, ?_, ?_⟩, ?_, ?_, ?_⟩
                    · dsimp only; omega
                    · simp; omega
                    · intro h; cases h
                    · exact hI
                    · dsimp only; omega
                    · simp [accV]; try omega
                    · simp only [accS, toksC_snoc]; rw [mulN_eq, take_toksC]; exact .cons 0 rfl .nil
                | false =>
                  rw [if_neg (by simp)] at hI
                  refine go ?_
                  refine VRet.mk [] .nil ?_
                  rw [← hI]; exact ⟨rfl, rfl⟩
      · subst hk
        refine go ?_
        rw [← hk1]
        refine fork (fun h1 => go ?_) (fun h1 => go ?_)
        · rw [if_pos h1] at hI
          have hb := indexByte_lt (s.drop p') 10
          rw [List.length_drop] at hb
          have fi := fn_IndexByte (s.drop p') 10
          rw [show (10 : Int).toNat.toUInt8 = (10 : UInt8) from rfl] at fi
          obtain ⟨m, hmm⟩ : ∃ m, m = Lib.indexByte (s.drop p') 10 := ⟨_, rfl⟩
          rw [← hmm] at fi hb hI
          refine Fn.use (fi) (go ?_)
          refine fork (fun hm => go ?_) (fun hm => go ?_)
          · rw [if_pos hm] at hI
            refine VRet.mk [] .nil ?_
            rw [← hI]; dsimp only; rw [take_toksC]; exact ⟨rfl, rfl⟩
          · rw [if_neg hm] at hI
            dsimp only at hI
            have hsk := (tokAt_less (N := s.length) (.inl (show tokAt s.length (s.drop p') = .skip ((s.drop p').drop m.toNat) by unfold tokAt; rw [← hw, if_pos h1, ← hmm, if_neg hm]))).1
            rw [List.drop_drop] at hI hsk
            rw [List.length_drop, List.length_drop] at hsk
            refine ⟨⟨some b, p' + m.toNat, out⟩, ⟨?_, ?_, ?_, ?_⟩, ?_, ?_, ?_⟩
            · dsimp only; omega
            · exact hol
            · exact ho
            · exact hI
            · dsimp only; omega
            · simp [accV]; omega
            · exact .cons 0 rfl .nil
        · rw [if_neg h1] at hI
          refine fork (fun h2 => go ?_) (fun h2 => go ?_)
          · rw [h2] at hI
            refine VRet.mk [] .nil ?_
            rw [← hI]; dsimp only; rw [take_toksC]; exact ⟨rfl, rfl⟩
          · obtain ⟨c, q, hcq⟩ : ∃ c q, (s.drop p').take w = c :: q := by
              cases hx : (s.drop p').take w with
              | nil => exact absurd hx h2
              | cons c q => exact ⟨c, q, rfl⟩
            have hwp : 0 < w := by
              rcases Nat.eq_zero_or_pos w with h0 | h0
              · rw [h0] at hcq; simp at hcq
              · exact h0
            have hc0 : ((s.drop p').take w).getD 0 0 = c := by rw [hcq]; rfl
            refine VAll.mk (fun bt => go ?_)
            rw [hc0]
            have f17 := f17_of ((s.drop p').take w)
            have f11 := f11_of ((s.drop p').take w) (by simp; omega)
            have hI2 := hI
            rw [hcq] at hI2
            dsimp only at hI2
            rw [← hcq] at hI2
            replace hI := hI2
            clear hI2
            refine fork (fun h34 => go ?_) (fun h34 => go ?_)
            · have h34 : c = 34 := by rw [← UInt8.toNat_inj]; exact Int.ofNat_inj.1 h34
              rw [if_pos h34, List.drop_drop] at hI
              have fx := f_text s p' (by omega) hs
              have hnx := textL_next p' (s.drop (p' + 1)) [] (p' + 1)
              rw [show textR s p' = textL p' (s.drop (p' + 1)) [] (p' + 1) from rfl] at fx
              generalize textL p' (s.drop (p' + 1)) [] (p' + 1) = x at fx hI hnx
              obtain ⟨x, nx, e⟩ := x
              dsimp only at fx hI hnx
              refine Fn.use (fx) (go ?_)
              refine fork (fun he => go ?_) (fun he => go ?_)
              · have he : e = 0 := he
                have hnx := hnx he
                subst he
                rw [if_pos rfl] at hI
                dsimp only at hI
                obtain ⟨j, rfl⟩ : ∃ j : Nat, nx = j := ⟨nx.toNat, by omega⟩
                rw [List.drop_drop, show p' + ((j : Int) - (p' : Int)).toNat = j by omega] at hI
                rw [List.length_drop] at hnx
                refine fork (fun hbig => go ?_) (fun hbig => go ?_)
                · rw [if_pos (by omega)] at hI
                  refine VRet.mk [] .nil ?_
                  rw [← hI]; exact ⟨rfl, rfl⟩
                · rw [if_neg (by omega)] at hI
                  refine VGd.mk (by simp; omega) (go ?_)
                  refine VAll.mk (fun b2 => go ?_)
                  refine ⟨⟨some b2, j, out ++ [⟨3, x, 0, (p' : Nat)⟩]⟩, ⟨?_, ?_, ?_, ?_⟩, ?_, ?_, ?_⟩
                  · dsimp only; omega
                  · simp; omega
                  · intro h; cases h
                  · exact hI
                  · dsimp only; omega
                  · simp [accV]; try omega
                  · simp only [accS, toksC_snoc]; rw [mulN_eq, take_toksC]; exact .cons 0 rfl .nil
              · have he : ¬ e = 0 := he
                rw [if_neg he] at hI
                refine VIf.yes (by simpa using he) (go ?_)
                refine VRet.mk [] .nil ?_
                rw [← hI]; exact ⟨rfl, rfl⟩
            · have h34 : ¬ c = 34 := by rw [← UInt8.toNat_inj]; exact fun e => h34 (Int.ofNat_inj.2 e)
              rw [if_neg h34, List.drop_drop] at hI
              generalize digitsR ((s.drop p').take w) = d at f17 hI
              obtain ⟨n, num, ok⟩ := d
              dsimp only at f17 hI
              refine Fn.use (f17) (go ?_)
              cases num with
              | true =>
                rw [if_pos rfl] at hI
                cases ok with
                | true =>
                  rw [if_pos rfl] at hI
                  dsimp only at hI
                  refine go ?_
                  refine fork (fun hbig => go ?_) (fun hbig => go ?_)
                  · rw [if_pos (by omega)] at hI
                    refine VRet.mk [] .nil ?_
                    rw [← hI]; exact ⟨rfl, rfl⟩
                  · rw [if_neg (by omega)] at hI
                    refine VGd.mk (by simp; omega) (go ?_)
                    refine VAll.mk (fun b2 => go ?_)
                    refine ⟨⟨some b2, p' + w, out ++ [⟨2, [], n, (p' : Nat)⟩]⟩, ⟨?_, ?_, ?_, ?_⟩, ?_, ?_, ?_⟩
                    · dsimp only; omega
                    · simp; omega
                    · intro h; cases h
                    · exact hI
                    · dsimp only; omega
                    · simp [accV]; try omega
                    · simp only [accS, toksC_snoc]; rw [mulN_eq, take_toksC]; exact .cons 0 rfl .nil
                | false =>
                  rw [if_neg (by simp)] at hI
                  refine go ?_
                  refine VRet.mk [] .nil ?_
                  rw [← hI]; exact ⟨rfl, rfl⟩
              | false =>
                rw [if_neg (by simp)] at hI
                refine go ?_
                generalize nameR ((s.drop p').take w) = nm at f11 hI
                refine Fn.use (f11) (go ?_)
                cases nm with
                | true =>
                  rw [if_pos rfl] at hI
                  dsimp only at hI
                  refine go ?_
                  refine fork (fun hbig => go ?_) (fun hbig => go ?_)
                  · rw [if_pos (by omega)] at hI
                    refine VRet.mk [] .nil ?_
                    rw [← hI]; exact ⟨rfl, rfl⟩
                  · rw [if_neg (by omega)] at hI
                    refine VGd.mk (by simp; omega) (go ?_)
                    refine VAll.mk (fun b2 => go ?_)
                    refine ⟨⟨some b2, p' + w, out ++ [⟨1, (s.drop p').take w, 0, (p' : Nat)⟩]⟩, ⟨?_, ?_, ?_, ?_⟩, ?_, ?_, ?_⟩
                    · dsimp only; omega
                    · simp; omega
                    · intro h; cases h
                    · exact hI
                    · dsimp only; omega
                    · simp [accV]; try omega
                    · simp only [accS, toksC_snoc]; rw [mulN_eq, take_toksC]; exact .cons 0 rfl .nil
                | false =>
                  rw [if_neg (by simp)] at hI
                  refine go ?_
                  refine VRet.mk [] .nil ?_
                  rw [← hI]; exact ⟨rfl, rfl⟩
    · rw [List.drop_eq_nil_of_le (by omega), toks_step, if_pos rfl] at hI
      refine VRet.mk [] .nil ?_
      rw [← hI]; dsimp only; rw [take_toksC]; exact ⟨rfl, rfl⟩

theorem f_Tokens (s : List UInt8) : Av.Fn Tryz.prog 102 [.str s] (.tup [.fz (toksC (tokensR s).1) (tokensR s).1.length false, .int .i64 (tokensR s).2.1, .int .i64 (tokensR s).2.2]) := by
  unfold tokensR
  by_cases hs : s.length > 65536
  · rw [if_pos hs]
    refine ACalls.of_W tb_ok (fn := Tryz.f102) (n := 113) (by kernel_rfl) rfl (by kernel_rfl) rfl rfl (by simp) (go ?_)
    refine VIf.yes (decide_eq_true (by omega)) (go ?_)
    refine VRet.mk [] .nil ?_
    exact ⟨rfl, rfl⟩
  · rw [if_neg hs]
    cases hf : faultR s with
    | some i =>
      have ff := f_fault s
      rw [show faultV s = i by simp [faultV, hf]] at ff
      refine ACalls.of_W tb_ok (fn := Tryz.f102) (n := 113) (by kernel_rfl) rfl (by kernel_rfl) rfl rfl (by simp) (go ?_)
      refine VIf.no (decide_eq_false (by omega)) (go ?_)
      refine Fn.use (ff) (go ?_)
      refine VRet.mk [] .nil ?_
      exact ⟨rfl, rfl⟩
    | none => exact toks_of s (by omega) hf
end Go.Proofs.YtbmplclnondfnaaGreatDoor

namespace Go.Proofs.YtbmplclnondfnaaGreatDoor
open Go Go.Av
def rbox (fin b : Nat) (s : RS) : Nat × AObj := (b, .box [.fz (toksC s.l) s.l.length false, .int .i64 fin, .int .i64 s.opn, .int .i64 s.sz])
def faultAV (e : PE) : AV := .iface 187 (.agg [.int .i64 e.1, .int .i64 e.2])
/-- What a step of the reader answers. -/
def PostR {α : Type} (fin b : Nat) (res : PR α) (f : α → AV) (out : AOut) (st : St) : Prop := match res with
  | .error e => out = .panic (faultAV e) ∧ st = []
  | .ok x => out = .ret (f x.1) ∧ st = [rbox fin b x.2]
/-- A step of the reader. -/
def RFn {α : Type} (fn : Nat) (args : List AV) (fin b : Nat) (s : RS) (res : PR α) (f : α → AV) : Prop := ACalls Tryz.prog fn (.ptr b 0 :: args) [rbox fin b s] (PostR fin b res f)
theorem f_fail (p e : Int) : ACalls Tryz.prog 104 [.int .i64 p, .int .i64 e] [] fun out st' => out = .panic (faultAV (p, e)) ∧ st' = [] := by
  refine ACalls.of_W tb_ok (fn := Tryz.f104) (n := 8) (by kernel_rfl) rfl (by kernel_rfl) rfl rfl (by simp) (go ?_)
  refine VRet.mk [] .nil ?_
  exact ⟨rfl, rfl⟩
/-- A call that fails. -/
theorem fails {p e : Int} {st : St} {Post : AOut → St → Prop} (k : Post (.panic (faultAV (p, e))) st) : ACalls Tryz.prog 104 [.int .i64 p, .int .i64 e] st Post :=
  ACalls.use (s := []) (R := st) (f_fail p e) (List.Perm.refl _) fun out s' ⟨h1, h2⟩ => by subst h1; subst h2; exact k
def peekV (x : Option (List UInt8)) : AV := match x with
  | none => .tup [.str [], .bool false]
  | some w => .tup [.str w, .bool true]


/-- A contract out of the cells. -/
theorem RFn.of_cells {α : Type} {fn fin b : Nat} {args : List AV} {s : RS} {res : PR α} {f : α → AV} {cells : List AV} (hc : cells = [.fz (toksC s.l) s.l.length false, .int .i64 fin, .int .i64 s.opn, .int .i64 s.sz])
    (h : ACalls Tryz.prog fn (.ptr b 0 :: args) [(b, .box cells)] (PostR fin b res f)) : RFn fn args fin b s res f := by subst hc; exact h
theorem f_peek (fin b : Nat) (s : RS) : RFn 76 [] fin b s (.ok (peekR s.l, s)) peekV := by
  rcases hl : s.l with _ | ⟨t, r⟩
  · refine RFn.of_cells (cells := [.fz (toksC []) 0 false, .int .i64 fin, .int .i64 s.opn, .int .i64 s.sz]) (by rw [hl]; rfl) ?_
    refine ACalls.of_W tb_ok (fn := Tryz.f76) (n := 27) (by kernel_rfl) rfl (by kernel_rfl) rfl rfl (by simp) (go ?_)
    exact VRet.mk [rbox fin b s] (.cons 0 (by rw [rbox, hl]; rfl) .nil) ⟨by simp [peekR, peekV], rfl⟩
  · refine RFn.of_cells (cells := [.fz (toksC (t :: r)) (r.length + 1) false, .int .i64 fin, .int .i64 s.opn, .int .i64 s.sz]) (by rw [hl]; rfl) ?_
    refine ACalls.of_W tb_ok (fn := Tryz.f76) (n := 27) (by kernel_rfl) rfl (by kernel_rfl) rfl rfl (by simp) (go ?_)
    refine fork (fun h => go ?_) (fun h => go ?_)
    · exact VRet.mk [rbox fin b s] (.cons 0 (by rw [rbox, hl]; rfl) .nil) ⟨by simp [peekR, peekV, h], rfl⟩
    · have h : t.kind = 1 := by simpa using h
      exact VRet.mk [rbox fin b s] (.cons 0 (by rw [rbox, hl]; rfl) .nil) ⟨by simp [peekR, peekV, h], rfl⟩
theorem f_at (fin b : Nat) (s : RS) : RFn 105 [] fin b s (.ok (atR fin s.l, s)) (.int .i64) := by
  rcases hl : s.l with _ | ⟨t, r⟩
  · refine RFn.of_cells (cells := [.fz (toksC []) 0 false, .int .i64 fin, .int .i64 s.opn, .int .i64 s.sz]) (by rw [hl]; rfl) ?_
    refine ACalls.of_W tb_ok (fn := Tryz.f105) (n := 20) (by kernel_rfl) rfl (by kernel_rfl) rfl rfl (by simp) (go ?_)
    exact VRet.mk [rbox fin b s] (.cons 0 (by rw [rbox, hl]; rfl) .nil) ⟨by simp [atR], rfl⟩
  · refine RFn.of_cells (cells := [.fz (toksC (t :: r)) (r.length + 1) false, .int .i64 fin, .int .i64 s.opn, .int .i64 s.sz]) (by rw [hl]; rfl) ?_
    refine ACalls.of_W tb_ok (fn := Tryz.f105) (n := 20) (by kernel_rfl) rfl (by kernel_rfl) rfl rfl (by simp) (go ?_)
    exact VRet.mk [rbox fin b s] (.cons 0 (by rw [rbox, hl]; rfl) .nil) ⟨by simp [atR], rfl⟩
theorem drop_toksC (t : Tok) (r : List Tok) : List.drop 4 (List.take ((r.length + 1) * 4) (toksC (t :: r))) = toksC r := by
  rw [show (r.length + 1) * 4 = (t :: r).length * 4 from rfl, take_toksC]; rfl
theorem f_take (fin b : Nat) (s : RS) : RFn 78 [] fin b s (takeR fin s) (fun t => .agg t.cells) := by
  rcases hl : s.l with _ | ⟨t, r⟩
  · refine RFn.of_cells (cells := [.fz (toksC []) 0 false, .int .i64 fin, .int .i64 s.opn, .int .i64 s.sz]) (by rw [hl]; rfl) ?_
    unfold takeR
    rw [hl]
    refine ACalls.of_W tb_ok (fn := Tryz.f78) (n := 30) (by kernel_rfl) rfl (by kernel_rfl) rfl rfl (by simp) (go ?_)
    refine VAll.mk (fun b1 => go ?_)
    refine fails (go ?_)
    exact VRet.mk [] .nil ⟨rfl, rfl⟩
  · refine RFn.of_cells (cells := [.fz (toksC (t :: r)) (r.length + 1) false, .int .i64 fin, .int .i64 s.opn, .int .i64 s.sz]) (by rw [hl]; rfl) ?_
    unfold takeR
    rw [hl]
    refine ACalls.of_W tb_ok (fn := Tryz.f78) (n := 30) (by kernel_rfl) rfl (by kernel_rfl) rfl rfl (by simp) (go ?_)
    refine VAll.mk (fun b1 => go ?_)
    refine VAll.mk (fun b2 => go ?_)
    refine VRet.mk [rbox fin b ⟨r, s.opn, s.sz⟩] (.cons 2 ?_ .nil) ⟨rfl, rfl⟩
    rw [rbox, ← drop_toksC t r]; rfl
theorem f_count (fin b : Nat) (p : Int) (s : RS) (hs : s.opn ≤ 32 ∧ s.sz ≤ 1024) : RFn 112 [.int .i64 p] fin b s ((countR p s).map fun s' => ((), s')) (fun _ => .tup []) := by
  unfold RFn countR
  refine ACalls.of_W tb_ok (fn := Tryz.f112) (n := 23) (by kernel_rfl) rfl (by kernel_rfl) rfl rfl (by simp) (go ?_)
  refine fork (fun h1 => go ?_) (fun h1 => go ?_)
  · refine fork (fun h2 => go ?_) (fun h2 => go ?_)
    · rw [if_pos (by omega), if_pos (by omega)]
      refine fails (go ?_)
      exact VRet.mk [] .nil ⟨rfl, rfl⟩
    · rw [if_pos (by omega), if_neg (by omega)]
      exact VRet.mk [rbox fin b { s with sz := s.sz + 1 }] (.cons 0 rfl .nil) ⟨rfl, rfl⟩
  · rw [if_neg (by omega)]
    exact VRet.mk [rbox fin b s] (.cons 0 rfl .nil) ⟨rfl, rfl⟩
def UseK {α : Type} (fin b : Nat) (res : PR α) (f : α → AV) (Post : AOut → St → Prop) (R : St) : Prop := match res with
  | .error e => Post (.panic (faultAV e)) R
  | .ok x => Post (.ret (f x.1)) (rbox fin b x.2 :: R)
/-- A step of the reader within another. -/
theorem RFn.use {α : Type} {fn fin b : Nat} {args : List AV} {s : RS} {res : PR α} {f : α → AV} (h : RFn fn args fin b s res f) {R st : St} {Post : AOut → St → Prop} (hp : (rbox fin b s :: R).Perm st)
    (k : UseK fin b res f Post R) : ACalls Tryz.prog fn (.ptr b 0 :: args) st Post :=
  ACalls.use (R := R) h hp fun out s' hq => by
    cases res with
    | error e => obtain ⟨rfl, rfl⟩ := hq; exact k
    | ok x => obtain ⟨rfl, rfl⟩ := hq; exact k
theorem f_enter (fin b : Nat) (p : Int) (s : RS) (hs : s.opn ≤ 32 ∧ s.sz ≤ 1024) : RFn 106 [.int .i64 p] fin b s ((enterR p s).map fun s' => ((), s')) (fun _ => .tup []) := by
  unfold RFn enterR
  refine ACalls.of_W tb_ok (fn := Tryz.f106) (n := 29) (by kernel_rfl) rfl (by kernel_rfl) rfl rfl (by simp) (go ?_)
  refine fork (fun h1 => go ?_) (fun h1 => go ?_)
  · rw [if_pos (by omega)]
    refine fails (go ?_)
    exact VRet.mk [] .nil ⟨rfl, rfl⟩
  · rw [if_neg (by omega)]
    refine fork (fun h2 => go ?_) (fun h2 => go ?_)
    · have fc := f_count fin b p ⟨s.l, s.opn + 1, 0⟩ ⟨by dsimp only; omega, by dsimp only; omega⟩
      rw [if_pos (by omega)]
      refine fc.use (.refl _) ?_
      cases countR p ⟨s.l, s.opn + 1, 0⟩ with
      | error e =>
        refine go ?_
        exact VRet.mk [] .nil ⟨rfl, rfl⟩
      | ok s' =>
        refine go ?_
        exact VRet.mk [rbox fin b s'] (.cons 0 rfl .nil) ⟨rfl, rfl⟩
    · have fc := f_count fin b p ⟨s.l, s.opn + 1, s.sz⟩ ⟨by dsimp only; omega, by dsimp only; omega⟩
      rw [if_neg (by omega)]
      refine fc.use (.refl _) ?_
      cases countR p ⟨s.l, s.opn + 1, s.sz⟩ with
      | error e =>
        refine go ?_
        exact VRet.mk [] .nil ⟨rfl, rfl⟩
      | ok s' =>
        refine go ?_
        exact VRet.mk [rbox fin b s'] (.cons 0 rfl .nil) ⟨rfl, rfl⟩
def idxL (s : List UInt8) : List (List UInt8) → Int
  | [] => -1
  | x :: r => if s = x then 0 else if idxL s r < 0 then -1 else idxL s r + 1
theorem idxL_has (s : List UInt8) : ∀ l : List (List UInt8), decide (0 ≤ idxL s l) = l.contains s
  | [] => by simp [idxL]
  | x :: r => by
    have ih := idxL_has s r
    rw [List.contains_cons, ← ih, idxL]
    by_cases h : s = x
    · simp [h]
    · have : (s == x) = false := by simpa using h
      rw [if_neg h, this, Bool.false_or, decide_eq_decide]
      split <;> omega
theorem fn_Index (l : List (List UInt8)) (s : List UInt8) (hl : l.length ≤ 1000000) : Av.Fn Tryz.prog 152 [.fz (l.map .str) l.length false, .str s] (.int .i64 (idxL s l)) := by
  refine ACalls.of_W tb_ok (fn := Tryz.f152) (n := 19) (by kernel_rfl) rfl (by kernel_rfl) rfl rfl (by simp) (go ?_)
  refine VLoop.mk [8] Nat (fun i => [.int .i64 i]) (fun _ => []) (fun i => i ≤ l.length ∧ idxL s l = if idxL s (l.drop i) < 0 then -1 else idxL s (l.drop i) + i) (fun i => l.length - i) 0 ?_ ?_
  · refine ⟨⟨by omega, ?_⟩, rfl, .nil⟩
    have : -1 ≤ idxL s l := by
      cases l with
      | nil => simp [idxL]
      | cons x r => unfold idxL; repeat' split
                    all_goals omega
    simp; intro _; omega
  intro i ⟨hi, hI⟩
  refine go ?_
  refine fork (fun hlt => go ?_) (fun hlt => go ?_)
  · have hlt : i < l.length := by omega
    have hx : l[i]? = some l[i] := by simp [hlt]
    rw [List.drop_eq_getElem_cons hlt, idxL] at hI
    refine VNth.mk (.str l[i]) (by simp [hx]) (go ?_)
    refine fork (fun he => go ?_) (fun he => go ?_)
    · rw [if_pos he] at hI
      refine VRet.mk [] .nil ?_
      rw [hI]; simp
    · rw [if_neg he] at hI
      refine ⟨i + 1, ⟨by omega, ?_⟩, by omega, rfl, .nil⟩
      rw [hI]
      repeat' split
      all_goals omega
  · rw [List.drop_eq_nil_of_le (by omega), idxL] at hI
    refine VRet.mk [] .nil ?_
    rw [hI]; simp
theorem fn_Contains (l : List (List UInt8)) (s : List UInt8) (hl : l.length ≤ 1000000) : Av.Fn Tryz.prog 134 [.fz (l.map .str) l.length false, .str s] (.bool (l.contains s)) := by
  have h1 := fn_Index l s hl
  refine ACalls.of_W tb_ok (fn := Tryz.f134) (n := 9) (by kernel_rfl) rfl (by kernel_rfl) rfl rfl (by simp) (go ?_)
  refine Fn.use (h1) (go ?_)
  refine VRet.mk [] .nil ?_
  rw [idxL_has]; exact ⟨rfl, rfl⟩
theorem f_Reserved (s : List UInt8) : Av.Fn Tryz.prog 111 [.str s] (.bool (reservedR s)) := by
  have h := fn_Contains reservedL s (by decide)
  refine ACalls.of_W tb_ok (fn := Tryz.f111) (n := 6) (by kernel_rfl) rfl (by kernel_rfl) rfl rfl (by simp) (go ?_)
  refine Fn.use (h) (go ?_)
  refine VRet.mk [] .nil ?_
  exact ⟨rfl, rfl⟩
theorem f_word (fin b : Nat) (want : List UInt8) (s : RS) : RFn 107 [.str want] fin b s (wordR fin want s) .str := by
  have hp := f_peek fin b s
  have ha := f_at fin b s
  have ht := f_take fin b s
  unfold wordR RFn
  refine ACalls.of_W tb_ok (fn := Tryz.f107) (n := 37) (by kernel_rfl) rfl (by kernel_rfl) rfl rfl (by simp) (go ?_)
  refine hp.use (.refl _) ?_
  cases peekR s.l with
  | none =>
    refine go ?_
    refine ha.use (.refl _) (go ?_)
    refine fails (go ?_)
    exact VRet.mk [] .nil ⟨rfl, rfl⟩
  | some w =>
    have hr := f_Reserved w
    refine go ?_
    by_cases hw : want = []
    · subst hw
      refine go ?_
      cases hrr : reservedR w with
      | true =>
        rw [hrr] at hr
        refine Fn.use (hr) (go ?_)
        refine ha.use (.refl _) (go ?_)
        dsimp only
        rw [if_pos (by simp [hrr])]
        refine fails (go ?_)
        exact VRet.mk [] .nil ⟨rfl, rfl⟩
      | false =>
        rw [hrr] at hr
        refine Fn.use (hr) (go ?_)
        refine ht.use (.refl _) ?_
        dsimp only
        rw [if_neg (by simp [hrr])]
        cases takeR fin s with
        | error e =>
          refine go ?_
          exact VRet.mk [] .nil ⟨rfl, rfl⟩
        | ok x =>
          refine go ?_
          exact VRet.mk [rbox fin b x.2] (.cons 0 rfl .nil) ⟨rfl, rfl⟩
    · refine VIf.yes (by simp [hw]) (go ?_)
      refine fork (fun hne => go ?_) (fun hne => go ?_)
      · refine ha.use (.refl _) (go ?_)
        dsimp only
        rw [if_pos (.inl ⟨hw, hne⟩)]
        refine fails (go ?_)
        exact VRet.mk [] .nil ⟨rfl, rfl⟩
      · refine VIf.no (by simp [hw]) (go ?_)
        refine ht.use (.refl _) ?_
        dsimp only
        rw [if_neg (by simp [hw]; exact hne)]
        cases takeR fin s with
        | error e =>
          refine go ?_
          exact VRet.mk [] .nil ⟨rfl, rfl⟩
        | ok x =>
          refine go ?_
          exact VRet.mk [rbox fin b x.2] (.cons 0 rfl .nil) ⟨rfl, rfl⟩
theorem takeR_less {fin : Int} {s : RS} {x : Tok × RS} (h : takeR fin s = .ok x) : x.2.l.length < s.l.length ∧ x.2.opn = s.opn ∧ x.2.sz = s.sz := by
  unfold takeR at h
  split at h
  · cases h
  · rename_i t r hl
    cases h
    rw [hl]
    exact ⟨by simp, rfl, rfl⟩
theorem wordR_less {fin : Int} {want : List UInt8} {s : RS} {x : List UInt8 × RS} (h : wordR fin want s = .ok x) : x.2.l.length < s.l.length ∧ x.2.opn = s.opn ∧ x.2.sz = s.sz := by
  unfold wordR at h
  split at h
  · cases h
  · split at h
    · cases h
    · split at h
      · cases h
      · rename_i t s' ht
        cases h
        exact takeR_less ht
structure NmI where
  k : Nat
  s : RS
  n : Nat

theorem f_names (fin b : Nat) (shut : List UInt8) (s : RS) : RFn 108 [.str shut] fin b s (namesR fin shut (fuel s) s 0) (fun n : Nat => .int .i64 n) := by
  obtain ⟨R, hR⟩ : ∃ R, R = namesR fin shut (fuel s) s 0 := ⟨_, rfl⟩
  rw [← hR]
  unfold RFn
  refine ACalls.of_W tb_ok (fn := Tryz.f108) (n := 33) (by kernel_rfl) rfl (by kernel_rfl) rfl rfl (by simp) (go ?_)
  refine VLoop.mk [5] NmI (fun i => [.int .i64 i.n]) (fun i => [rbox fin b i.s]) (fun i => R = namesR fin shut i.k i.s i.n ∧ i.s.l.length < i.k ∧ i.n ≤ 16) (fun i => i.k) ⟨fuel s, s, 0⟩ ?_ ?_
  · exact ⟨⟨hR, by simp [fuel]; omega, by simp⟩, rfl, .cons 0 rfl .nil⟩
  clear hR
  rintro ⟨k, s, n⟩ ⟨hI, hk, hn⟩
  dsimp only at hI hk hn ⊢
  obtain ⟨k, rfl⟩ : ∃ m, k = m + 1 := ⟨k - 1, by omega⟩
  rw [namesR] at hI
  have hp := f_peek fin b s
  have ha := f_at fin b s
  have ht := f_take fin b s
  have hw := f_word fin b [] s
  refine go ?_
  refine hp.use (.refl _) ?_
  cases hpk : peekR s.l with
  | none =>
    rw [hpk, if_neg (by simp)] at hI
    refine go ?_
    refine ha.use (.refl _) (go ?_)
    refine hw.use (.refl _) ?_
    cases hwr : wordR fin [] s with
    | error e =>
      rw [hwr] at hI
      dsimp only at hI
      subst hI
      refine go ?_
      exact VRet.mk [] .nil ⟨rfl, rfl⟩
    | ok x =>
      have hlt := (wordR_less hwr).1
      rw [hwr] at hI
      dsimp only at hI
      refine go ?_
      refine fork (fun h16 => go ?_) (fun h16 => go ?_)
      · rw [if_pos (by omega)] at hI
        subst hI
        refine fails (go ?_)
        exact VRet.mk [] .nil ⟨rfl, rfl⟩
      · rw [if_neg (by omega)] at hI
        exact ⟨⟨k, x.2, n + 1⟩, ⟨hI, by dsimp only; omega, by dsimp only; omega⟩, by dsimp only; omega, rfl, .cons 0 rfl .nil⟩
  | some w =>
    rw [hpk] at hI
    refine go ?_
    refine fork (fun hws => go ?_) (fun hws => go ?_)
    · rw [if_pos (by rw [hws])] at hI
      refine ht.use (.refl _) ?_
      cases htk : takeR fin s with
      | error e =>
        rw [htk] at hI
        dsimp only at hI
        subst hI
        refine go ?_
        exact VRet.mk [] .nil ⟨rfl, rfl⟩
      | ok x =>
        rw [htk] at hI
        dsimp only at hI
        subst hI
        refine go ?_
        exact VRet.mk [rbox fin b x.2] (.cons 0 rfl .nil) ⟨rfl, rfl⟩
    · rw [if_neg (by simpa using hws)] at hI
      refine ha.use (.refl _) (go ?_)
      refine hw.use (.refl _) ?_
      cases hwr : wordR fin [] s with
      | error e =>
        rw [hwr] at hI
        dsimp only at hI
        subst hI
        refine go ?_
        exact VRet.mk [] .nil ⟨rfl, rfl⟩
      | ok x =>
        have hlt := (wordR_less hwr).1
        rw [hwr] at hI
        dsimp only at hI
        refine go ?_
        refine fork (fun h16 => go ?_) (fun h16 => go ?_)
        · rw [if_pos (by omega)] at hI
          subst hI
          refine fails (go ?_)
          exact VRet.mk [] .nil ⟨rfl, rfl⟩
        · rw [if_neg (by omega)] at hI
          exact ⟨⟨k, x.2, n + 1⟩, ⟨hI, by dsimp only; omega, by dsimp only; omega⟩, by dsimp only; omega, rfl, .cons 0 rfl .nil⟩
end Go.Proofs.YtbmplclnondfnaaGreatDoor

namespace Go.Proofs.YtbmplclnondfnaaGreatDoor
open Go Go.Av
structure AccI where
  k : Nat
  o : Option Nat

theorem f_ItemTrees' (l : List Tree) (h : ∀ (i : Nat) t, l[i]? = some t → Av.Fn Tryz.prog 56 [itemAV t] (.agg (rvAV (itemRV t)))) (hl : l.length ≤ 2513169434916) :
    Av.Fn Tryz.prog 30 [.fz (itemAVs l) l.length false] (.fz (rvsC (itemRVs l)) l.length false) := by
  refine ACalls.of_W tb_ok (fn := Tryz.f30) (n := 20) (by kernel_rfl) rfl (by kernel_rfl) rfl rfl (by simp) (go ?_)
  refine VLoop.mk [3, 4] AccI (fun i => [accV i.o i.k, .int .i64 i.k]) (fun i => accS i.o 4 (rvsC (itemRVs (l.take i.k)))) (fun i => i.k ≤ l.length ∧ (i.o = none → i.k = 0)) (fun i => l.length - i.k) ⟨0, none⟩ ?_ ?_
  · exact ⟨⟨by simp, by simp⟩, rfl, .nil⟩
  rintro ⟨k, o⟩ ⟨hk, ho⟩
  dsimp only at hk ho ⊢
  refine go ?_
  refine fork (fun hlt => go ?_) (fun hlt => ?_)
  · have hlt : k < l.length := by omega
    obtain ⟨t, ht⟩ : ∃ t, l[k]? = some t := ⟨l[k], by simp [hlt]⟩
    have hv := h k t ht
    have hacc : rvsC (itemRVs (l.take (k + 1))) = rvsC (itemRVs (l.take k)) ++ rvAV (itemRV t) := by
      rw [take_succ_at ht, itemRVs_map, itemRVs_map, List.map_append, rvsC_app]; simp [rvsC]
    obtain ⟨v, e⟩ : ∃ v, v = itemRV t := ⟨_, rfl⟩
    rw [← e] at hv hacc
    obtain ⟨v1, v2, v3, v4⟩ := v
    rw [rvAV] at hv hacc
    have hlen : (rvsC (itemRVs (l.take k))).length = k * 4 := by rw [rvsC_length, itemRVs_length, List.length_take, Nat.min_eq_left hk]
    refine VNth.mk (itemAV t) (by simp [mulN_eq, itemAVs_map, ht]) (go ?_)
    refine Fn.use (hv) (go ?_)
    cases o with
    | none =>
      obtain rfl : k = 0 := ho rfl
      refine go ?_
      refine VAll.mk (fun b2 => go ?_)
      refine ⟨⟨1, some b2⟩, ⟨by dsimp only; omega, by simp⟩, by dsimp only; omega, rfl, .cons 0 ?_ .nil⟩
      dsimp only
      rw [hacc]; simp [itemRVs, rvsC]
    | some bo =>
      refine go ?_
      refine VGd.mk ⟨rfl, by omega, by rw [mulN_eq, hlen]; exact Nat.le_refl _, by dsimp only; omega⟩ (go ?_)
      refine VAll.mk (fun b2 => go ?_)
      refine ⟨⟨k + 1, some b2⟩, ⟨by dsimp only; omega, by simp⟩, by dsimp only; omega, rfl, .cons 0 ?_ .nil⟩
      dsimp only
      rw [hacc, mulN_eq, List.take_of_length_le (by rw [hlen]; exact Nat.le_refl _)]; rfl
  · obtain rfl : k = l.length := by omega
    rw [List.take_length]
    cases o with
    | none =>
      have := ho rfl
      obtain rfl : l = [] := List.length_eq_zero_iff.1 this
      refine go ?_
      refine VRet.mk [] .nil ?_
      exact ⟨by simp [itemRVs, rvsC], rfl⟩
    | some bo =>
      refine go ?_
      refine VRet.mk [] .nil ?_
      exact ⟨by simp [mulN_eq, List.take_of_length_le], rfl⟩
theorem f_Trees' (l : List Tree) (h : ∀ (i : Nat) t, l[i]? = some t → Av.Fn Tryz.prog 19 [valAV t] (.agg (rvAV (valRV t)))) (hl : l.length ≤ 2513169434916) :
    Av.Fn Tryz.prog 17 [.fz (valAVs l) l.length false] (.fz (rvsC (valRVs l)) l.length false) := by
  refine ACalls.of_W tb_ok (fn := Tryz.f17) (n := 20) (by kernel_rfl) rfl (by kernel_rfl) rfl rfl (by simp) (go ?_)
  refine VLoop.mk [3, 4] AccI (fun i => [accV i.o i.k, .int .i64 i.k]) (fun i => accS i.o 4 (rvsC (valRVs (l.take i.k)))) (fun i => i.k ≤ l.length ∧ (i.o = none → i.k = 0)) (fun i => l.length - i.k) ⟨0, none⟩ ?_ ?_
  · exact ⟨⟨by simp, by simp⟩, rfl, .nil⟩
  rintro ⟨k, o⟩ ⟨hk, ho⟩
  dsimp only at hk ho ⊢
  refine go ?_
  refine fork (fun hlt => go ?_) (fun hlt => ?_)
  · have hlt : k < l.length := by omega
    obtain ⟨t, ht⟩ : ∃ t, l[k]? = some t := ⟨l[k], by simp [hlt]⟩
    have hv := h k t ht
    have hacc : rvsC (valRVs (l.take (k + 1))) = rvsC (valRVs (l.take k)) ++ rvAV (valRV t) := by
      rw [take_succ_at ht, valRVs_map, valRVs_map, List.map_append, rvsC_app]; simp [rvsC]
    obtain ⟨v, e⟩ : ∃ v, v = valRV t := ⟨_, rfl⟩
    rw [← e] at hv hacc
    obtain ⟨v1, v2, v3, v4⟩ := v
    rw [rvAV] at hv hacc
    have hlen : (rvsC (valRVs (l.take k))).length = k * 4 := by rw [rvsC_length, valRVs_length, List.length_take, Nat.min_eq_left hk]
    refine VNth.mk (valAV t) (by simp [mulN_eq, valAVs_map, ht]) (go ?_)
    refine Fn.use (hv) (go ?_)
    cases o with
    | none =>
      obtain rfl : k = 0 := ho rfl
      refine go ?_
      refine VAll.mk (fun b2 => go ?_)
      refine ⟨⟨1, some b2⟩, ⟨by dsimp only; omega, by simp⟩, by dsimp only; omega, rfl, .cons 0 ?_ .nil⟩
      dsimp only
      rw [hacc]; simp [valRVs, rvsC]
    | some bo =>
      refine go ?_
      refine VGd.mk ⟨rfl, by omega, by rw [mulN_eq, hlen]; exact Nat.le_refl _, by dsimp only; omega⟩ (go ?_)
      refine VAll.mk (fun b2 => go ?_)
      refine ⟨⟨k + 1, some b2⟩, ⟨by dsimp only; omega, by simp⟩, by dsimp only; omega, rfl, .cons 0 ?_ .nil⟩
      dsimp only
      rw [hacc, mulN_eq, List.take_of_length_le (by rw [hlen]; exact Nat.le_refl _)]; rfl
  · obtain rfl : k = l.length := by omega
    rw [List.take_length]
    cases o with
    | none =>
      have := ho rfl
      obtain rfl : l = [] := List.length_eq_zero_iff.1 this
      refine go ?_
      refine VRet.mk [] .nil ?_
      exact ⟨by simp [valRVs, rvsC], rfl⟩
    | some bo =>
      refine go ?_
      refine VRet.mk [] .nil ?_
      exact ⟨by simp [mulN_eq, List.take_of_length_le], rfl⟩
theorem thawV (a b c : AV) : FzO (.ret (.agg [a, b, c, .nils])) (.ret (.agg [a, b, c, .fz [] 0 false])) [] [] :=
  .ret (.agg (.cons (.keep a []) (.cons (.keep b []) (.cons (.keep c []) (.cons (.nils []) (.nil [])))))) .nil


theorem f_Tree' (t : Tree) (hc : t.clean = true) (h4 : ∀ l, t = .list l → Av.Fn Tryz.prog 17 [.fz (valAVs l) l.length false] (.fz (rvsC (valRVs l)) l.length false))
    (h5 : ∀ l, t = .quot l → Av.Fn Tryz.prog 30 [.fz (itemAVs l) l.length false] (.fz (rvsC (itemRVs l)) l.length false)) :
    Av.Fn Tryz.prog 19 [valAV t] (.agg (rvAV (valRV t))) := by
  cases t with
  | odd t v => simp [Tree.clean] at hc
  | none =>
    simp only [valAV, valRV, rvAV, rvsC, List.length_nil]
    refine ACalls.thaw (ACalls.of_W tb_ok (fn := Tryz.f19) (n := 50) (by kernel_rfl) rfl (by kernel_rfl) rfl rfl (by simp) (go ?_))
    refine VAll.mk (fun b => go ?_)
    refine VRet.mk [] .nil ?_
    exact ⟨_, _, thawV _ _ _, rfl, rfl⟩
  | call s =>
    simp only [valAV, valRV, rvAV, rvsC, List.length_nil]
    refine ACalls.thaw (ACalls.of_W tb_ok (fn := Tryz.f19) (n := 50) (by kernel_rfl) rfl (by kernel_rfl) rfl rfl (by simp) (go ?_))
    refine VAll.mk (fun b => go ?_)
    refine VRet.mk [] .nil ?_
    exact ⟨_, _, thawV _ _ _, rfl, rfl⟩
  | int n =>
    simp only [valAV, valRV, rvAV, rvsC, List.length_nil]
    refine ACalls.thaw (ACalls.of_W tb_ok (fn := Tryz.f19) (n := 50) (by kernel_rfl) rfl (by kernel_rfl) rfl rfl (by simp) (go ?_))
    refine VAll.mk (fun b => go ?_)
    refine VAll.mk (fun b2 => go ?_)
    refine VRet.mk [] .nil ?_
    exact ⟨_, _, thawV _ _ _, rfl, rfl⟩
  | str s =>
    simp only [valAV, valRV, rvAV, rvsC, List.length_nil]
    refine ACalls.thaw (ACalls.of_W tb_ok (fn := Tryz.f19) (n := 50) (by kernel_rfl) rfl (by kernel_rfl) rfl rfl (by simp) (go ?_))
    refine VAll.mk (fun b => go ?_)
    refine VAll.mk (fun b2 => go ?_)
    refine VRet.mk [] .nil ?_
    exact ⟨_, _, thawV _ _ _, rfl, rfl⟩
  | bool b =>
    simp only [valAV, valRV, rvAV, rvsC, List.length_nil]
    refine ACalls.thaw (ACalls.of_W tb_ok (fn := Tryz.f19) (n := 50) (by kernel_rfl) rfl (by kernel_rfl) rfl rfl (by simp) (go ?_))
    refine VAll.mk (fun b => go ?_)
    refine VAll.mk (fun b2 => go ?_)
    refine fork (fun hb => go ?_) (fun hb => go ?_)
    · refine VRet.mk [] .nil ?_
      subst hb; exact ⟨_, _, thawV _ _ _, rfl, rfl⟩
    · refine VRet.mk [] .nil ?_
      subst hb; exact ⟨_, _, thawV _ _ _, rfl, rfl⟩
  | list l =>
    have h4 := h4 l rfl
    simp only [valAV, valRV, rvAV, rvsC, List.length_nil]
    refine ACalls.thaw (ACalls.of_W tb_ok (fn := Tryz.f19) (n := 50) (by kernel_rfl) rfl (by kernel_rfl) rfl rfl (by simp) (go ?_))
    refine VAll.mk (fun b => go ?_)
    refine VAll.mk (fun b2 => go ?_)
    refine Fn.use (h4) (go ?_)
    refine VRet.mk [] .nil ?_
    exact ⟨_, _, .same _ _, by simp, rfl⟩
  | quot l =>
    have h5 := h5 l rfl
    simp only [valAV, valRV, rvAV, rvsC, List.length_nil]
    refine ACalls.thaw (ACalls.of_W tb_ok (fn := Tryz.f19) (n := 50) (by kernel_rfl) rfl (by kernel_rfl) rfl rfl (by simp) (go ?_))
    refine VAll.mk (fun b => go ?_)
    refine VAll.mk (fun b2 => go ?_)
    refine Fn.use (h5) (go ?_)
    refine VRet.mk [] .nil ?_
    exact ⟨_, _, .same _ _, by simp, rfl⟩
  | box n =>
    simp only [valAV, valRV, rvAV, rvsC, List.length_nil]
    refine ACalls.thaw (ACalls.of_W tb_ok (fn := Tryz.f19) (n := 50) (by kernel_rfl) rfl (by kernel_rfl) rfl rfl (by simp) (go ?_))
    refine VAll.mk (fun b => go ?_)
    refine VAll.mk (fun b2 => go ?_)
    refine VRet.mk [] .nil ?_
    exact ⟨_, _, thawV _ _ _, rfl, rfl⟩
theorem f_ItemTree' (t : Tree) (hc : t.clean = true) (h : (∀ s, t ≠ .call s) → Av.Fn Tryz.prog 19 [valAV t] (.agg (rvAV (valRV t)))) :
    Av.Fn Tryz.prog 56 [itemAV t] (.agg (rvAV (itemRV t))) := by
  cases t with
  | odd t v => simp [Tree.clean] at hc
  | none =>
    simp only [itemAV, itemRV, valRV, rvAV, rvsC, List.length_nil]
    refine ACalls.thaw (ACalls.of_W tb_ok (fn := Tryz.f56) (n := 19) (by kernel_rfl) rfl (by kernel_rfl) rfl rfl (by simp) (go ?_))
    refine VAll.mk (fun b => go ?_)
    refine VRet.mk [] .nil ?_
    exact ⟨_, _, thawV _ _ _, rfl, rfl⟩
  | call s =>
    simp only [itemAV, itemRV, valRV, rvAV, rvsC, List.length_nil]
    refine ACalls.thaw (ACalls.of_W tb_ok (fn := Tryz.f56) (n := 19) (by kernel_rfl) rfl (by kernel_rfl) rfl rfl (by simp) (go ?_))
    refine VAll.mk (fun b => go ?_)
    refine VAll.mk (fun b2 => go ?_)
    refine VRet.mk [] .nil ?_
    exact ⟨_, _, thawV _ _ _, rfl, rfl⟩
  | int n =>
    have h := h (by intro s; exact Tree.noConfusion)
    simp only [itemAV, itemRV]
    obtain ⟨v, e⟩ : ∃ v, v = valRV (.int n) := ⟨_, rfl⟩
    rw [← e] at h ⊢
    obtain ⟨v1, v2, v3, v4⟩ := v
    rw [rvAV] at h ⊢
    refine ACalls.of_W tb_ok (fn := Tryz.f56) (n := 19) (by kernel_rfl) rfl (by kernel_rfl) rfl rfl (by simp) (go ?_)
    refine VAll.mk (fun b => go ?_)
    refine VAll.mk (fun b2 => go ?_)
    refine Fn.use (h) (go ?_)
    refine VRet.mk [] .nil ?_
    exact ⟨rfl, rfl⟩
  | str s =>
    have h := h (by intro s; exact Tree.noConfusion)
    simp only [itemAV, itemRV]
    obtain ⟨v, e⟩ : ∃ v, v = valRV (.str s) := ⟨_, rfl⟩
    rw [← e] at h ⊢
    obtain ⟨v1, v2, v3, v4⟩ := v
    rw [rvAV] at h ⊢
    refine ACalls.of_W tb_ok (fn := Tryz.f56) (n := 19) (by kernel_rfl) rfl (by kernel_rfl) rfl rfl (by simp) (go ?_)
    refine VAll.mk (fun b => go ?_)
    refine VAll.mk (fun b2 => go ?_)
    refine Fn.use (h) (go ?_)
    refine VRet.mk [] .nil ?_
    exact ⟨rfl, rfl⟩
  | bool b =>
    have h := h (by intro s; exact Tree.noConfusion)
    simp only [itemAV, itemRV]
    obtain ⟨v, e⟩ : ∃ v, v = valRV (.bool b) := ⟨_, rfl⟩
    rw [← e] at h ⊢
    obtain ⟨v1, v2, v3, v4⟩ := v
    rw [rvAV] at h ⊢
    refine ACalls.of_W tb_ok (fn := Tryz.f56) (n := 19) (by kernel_rfl) rfl (by kernel_rfl) rfl rfl (by simp) (go ?_)
    refine VAll.mk (fun b => go ?_)
    refine VAll.mk (fun b2 => go ?_)
    refine Fn.use (h) (go ?_)
    refine VRet.mk [] .nil ?_
    exact ⟨rfl, rfl⟩
  | list l =>
    have h := h (by intro s; exact Tree.noConfusion)
    simp only [itemAV, itemRV]
    obtain ⟨v, e⟩ : ∃ v, v = valRV (.list l) := ⟨_, rfl⟩
    rw [← e] at h ⊢
    obtain ⟨v1, v2, v3, v4⟩ := v
    rw [rvAV] at h ⊢
    refine ACalls.of_W tb_ok (fn := Tryz.f56) (n := 19) (by kernel_rfl) rfl (by kernel_rfl) rfl rfl (by simp) (go ?_)
    refine VAll.mk (fun b => go ?_)
    refine VAll.mk (fun b2 => go ?_)
    refine Fn.use (h) (go ?_)
    refine VRet.mk [] .nil ?_
    exact ⟨rfl, rfl⟩
  | quot l =>
    have h := h (by intro s; exact Tree.noConfusion)
    simp only [itemAV, itemRV]
    obtain ⟨v, e⟩ : ∃ v, v = valRV (.quot l) := ⟨_, rfl⟩
    rw [← e] at h ⊢
    obtain ⟨v1, v2, v3, v4⟩ := v
    rw [rvAV] at h ⊢
    refine ACalls.of_W tb_ok (fn := Tryz.f56) (n := 19) (by kernel_rfl) rfl (by kernel_rfl) rfl rfl (by simp) (go ?_)
    refine VAll.mk (fun b => go ?_)
    refine VAll.mk (fun b2 => go ?_)
    refine Fn.use (h) (go ?_)
    refine VRet.mk [] .nil ?_
    exact ⟨rfl, rfl⟩
  | box n =>
    have h := h (by intro s; exact Tree.noConfusion)
    simp only [itemAV, itemRV]
    obtain ⟨v, e⟩ : ∃ v, v = valRV (.box n) := ⟨_, rfl⟩
    rw [← e] at h ⊢
    obtain ⟨v1, v2, v3, v4⟩ := v
    rw [rvAV] at h ⊢
    refine ACalls.of_W tb_ok (fn := Tryz.f56) (n := 19) (by kernel_rfl) rfl (by kernel_rfl) rfl rfl (by simp) (go ?_)
    refine VAll.mk (fun b => go ?_)
    refine VAll.mk (fun b2 => go ?_)
    refine Fn.use (h) (go ?_)
    refine VRet.mk [] .nil ?_
    exact ⟨rfl, rfl⟩
theorem f_trees (n : Nat) :
    (∀ t : Tree, t.clean = true → t.depth ≤ n → Av.Fn Tryz.prog 19 [valAV t] (.agg (rvAV (valRV t))) ∧ Av.Fn Tryz.prog 56 [itemAV t] (.agg (rvAV (itemRV t)))) ∧
    (∀ l : List Tree, cleanAll l = true → l.length ≤ 2513169434916 → depthAll l ≤ n → Av.Fn Tryz.prog 17 [.fz (valAVs l) l.length false] (.fz (rvsC (valRVs l)) l.length false) ∧
      Av.Fn Tryz.prog 30 [.fz (itemAVs l) l.length false] (.fz (rvsC (itemRVs l)) l.length false)) := by
  have lists : ∀ n, (∀ t : Tree, t.clean = true → t.depth ≤ n → Av.Fn Tryz.prog 19 [valAV t] (.agg (rvAV (valRV t))) ∧ Av.Fn Tryz.prog 56 [itemAV t] (.agg (rvAV (itemRV t)))) →
      (∀ l : List Tree, cleanAll l = true → l.length ≤ 2513169434916 → depthAll l ≤ n → Av.Fn Tryz.prog 17 [.fz (valAVs l) l.length false] (.fz (rvsC (valRVs l)) l.length false) ∧
      Av.Fn Tryz.prog 30 [.fz (itemAVs l) l.length false] (.fz (rvsC (itemRVs l)) l.length false)) := fun n h l hc hl hd =>
    ⟨f_Trees' l (fun i t ht => (h t (cleanAll_at hc ht) (Nat.le_trans (depthAll_at ht) hd)).1) hl, f_ItemTrees' l (fun i t ht => (h t (cleanAll_at hc ht) (Nat.le_trans (depthAll_at ht) hd)).2) hl⟩
  have both : ∀ t : Tree, t.clean = true → Av.Fn Tryz.prog 19 [valAV t] (.agg (rvAV (valRV t))) → Av.Fn Tryz.prog 19 [valAV t] (.agg (rvAV (valRV t))) ∧ Av.Fn Tryz.prog 56 [itemAV t] (.agg (rvAV (itemRV t))) :=
    fun t hc h => ⟨h, f_ItemTree' t hc fun _ => h⟩
  suffices H : ∀ t : Tree, t.clean = true → t.depth ≤ n → Av.Fn Tryz.prog 19 [valAV t] (.agg (rvAV (valRV t))) from
    ⟨fun t hc hd => both t hc (H t hc hd), lists n fun t hc hd => both t hc (H t hc hd)⟩
  induction n with
  | zero =>
    intro t hc hd
    refine f_Tree' t hc ?_ ?_
    · rintro l rfl; simp [Tree.depth] at hd
    · rintro l rfl; simp [Tree.depth] at hd
  | succ n ih =>
    intro t hc hd
    have L := lists n fun t hc hd => both t hc (ih t hc hd)
    refine f_Tree' t hc ?_ ?_
    · rintro l rfl
      simp only [Tree.clean, Bool.and_eq_true, decide_eq_true_eq] at hc
      rw [Tree.depth] at hd
      exact (L l hc.2 hc.1 (by omega)).1
    · rintro l rfl
      simp only [Tree.clean, Bool.and_eq_true, decide_eq_true_eq] at hc
      rw [Tree.depth] at hd
      exact (L l hc.2 hc.1 (by omega)).2
theorem f_Tree {t : Tree} (h : t.clean = true) : Av.Fn Tryz.prog 19 [valAV t] (.agg (rvAV (valRV t))) := ((f_trees t.depth).1 t h (Nat.le_refl _)).1
theorem f_ItemTree {t : Tree} (h : t.clean = true) : Av.Fn Tryz.prog 56 [itemAV t] (.agg (rvAV (itemRV t))) := ((f_trees t.depth).1 t h (Nat.le_refl _)).2
theorem f_Trees {l : List Tree} (h : cleanAll l = true) (hl : l.length ≤ 2513169434916) : Av.Fn Tryz.prog 17 [.fz (valAVs l) l.length false] (.fz (rvsC (valRVs l)) l.length false) := ((f_trees (depthAll l)).2 l h hl (Nat.le_refl _)).1
theorem f_ItemTrees {l : List Tree} (h : cleanAll l = true) (hl : l.length ≤ 2513169434916) : Av.Fn Tryz.prog 30 [.fz (itemAVs l) l.length false] (.fz (rvsC (itemRVs l)) l.length false) := ((f_trees (depthAll l)).2 l h hl (Nat.le_refl _)).2
end Go.Proofs.YtbmplclnondfnaaGreatDoor
