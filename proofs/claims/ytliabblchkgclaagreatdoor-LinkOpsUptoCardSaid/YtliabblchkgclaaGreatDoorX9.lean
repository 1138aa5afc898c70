/- The reference's Measure, Sound, Bare, Name. Conditions: as each says. term.Name, term.measure, term.item, term.Check: the walks. Conditions: as each says. measure and the reference's Measure: plain Lean. Conditions: as each says. term.Same, term.SameItems: the walks. Conditions: as each says. Effects: what effect.Of computes, in plain Lean. Conditions: none. Effects: the names of the primitives, and their effects: strings.Fields, strings.Cut, effect.Names, effect.Prim. Conditions: as each says. Effects: how far an inference goes: bounds, and that the measure of its work is enough. Conditions: as each says. Effects: the state of an inference in memory; pop, quot, need, apply. Conditions: as each says. Effects: own, move, control, run. Conditions: as each says. -/
import Derived.Test.YtliabblchkgclaaGreatDoorX8
import Derived.Test.YtliabblchkgclaaGreatDoorX7
import Derived.Lib.Fields
import Derived.Test.YtliabblchkgclaaGreatDoorX6
set_option linter.all false
set_option maxRecDepth 20000
namespace Go.Proofs.YtliabblchkgclaaGreatDoor
open Go Go.Av
def RV.kind : RV → Int
  | .mk k _ _ _ => k
def inR (n : Int) : Bool := decide (-1152921504606846976 ≤ n) && decide (n ≤ 1152921504606846975)
mutual
/-- What Measure says: the size, the depth, is it sound? -/
def measR : RV → Int → Int → Int × Int × Bool
  | .mk k n s l, left, nest =>
    if left < 1 ∨ 32 < nest then (0, 0, false)
    else if k = 1 then (1, 0, inR n)
    else if k = 2 then (1, 0, decide (s.length ≤ 4096) && decide (faultV s < 0))
    else if k = 3 then (1, 0, true)
    else if k = 6 then (1, 0, decide (1 ≤ n) && decide (n ≤ 1048576))
    else if k = 7 then (1, 0, nameR s && !reservedR s)
    else if k = 4 ∨ k = 5 then measAll (decide (k = 4)) l left nest 1 0
    else (0, 0, false)
def measAll (vals : Bool) : List RV → Int → Int → Int → Int → Int × Int × Bool
  | [], _, _, size, depth => (size, depth + 1, decide (depth < 32))
  | v :: r, left, nest, size, depth =>
    if (vals && decide (v.kind = 7)) = true then (0, 0, false)
    else if (measR v (left - size) (nest + 1)).2.2 = true then measAll vals r left nest (size + (measR v (left - size) (nest + 1)).1) (max depth (measR v (left - size) (nest + 1)).2.1)
    else (0, 0, false)
end
mutual
/-- No list of more than 2^40, no name of more than 10^9 bytes. -/
def RV.fit : RV → Bool
  | .mk k _ s l => decide (l.length ≤ 2513169434916) && decide (k = 7 → s.length ≤ 1000000000) && (if k = 4 ∨ k = 5 then fitAll l else true)
def fitAll : List RV → Bool
  | [] => true
  | v :: r => v.fit && fitAll r
end
theorem fitAll_at : ∀ {l : List RV} {i : Nat} {t : RV}, fitAll l = true → l[i]? = some t → t.fit = true
  | [], _, _, _, h => by simp at h
  | x :: l, 0, t, hc, h => by simp at h; subst h; simp [fitAll] at hc; exact hc.1
  | x :: l, i + 1, t, hc, h => by simp [fitAll] at hc; exact fitAll_at hc.2 (by simpa using h)
mutual
theorem measR_le : ∀ (v : RV) (left nest : Int), (measR v left nest).2.2 = true → 1 ≤ (measR v left nest).1 ∧ (measR v left nest).1 ≤ left ∧ 0 ≤ (measR v left nest).2.1 ∧ (measR v left nest).2.1 ≤ 32
  | .mk k n s l, left, nest, h => by
    rw [measR] at h ⊢
    split at h
    · simp at h
    · rename_i h0
      rw [if_neg h0]
      repeat' split
      all_goals first
      | (dsimp only; omega)
      | skip
      · rename_i h1 h2 h3 h4 h5 h6
        rw [if_neg h1, if_neg h2, if_neg h3, if_neg h4, if_neg h5, if_pos h6] at h
        exact measAll_le _ l left nest 1 0 (by omega) (by omega) h
      · rename_i h1 h2 h3 h4 h5 h6
        rw [if_neg h1, if_neg h2, if_neg h3, if_neg h4, if_neg h5, if_neg h6] at h
        simp at h
theorem measAll_le : ∀ (vals : Bool) (l : List RV) (left nest size depth : Int), 1 ≤ size ∧ size ≤ left → 0 ≤ depth → (measAll vals l left nest size depth).2.2 = true →
    1 ≤ (measAll vals l left nest size depth).1 ∧ (measAll vals l left nest size depth).1 ≤ left ∧ 0 ≤ (measAll vals l left nest size depth).2.1 ∧ (measAll vals l left nest size depth).2.1 ≤ 32
  | vals, [], left, nest, size, depth, hs, hd, h => by
    rw [measAll] at h ⊢
    simp at h
    dsimp only
    omega
  | vals, v :: r, left, nest, size, depth, hs, hd, h => by
    rw [measAll] at h ⊢
    split at h
    · simp at h
    · rename_i h1
      rw [if_neg h1]
      split at h
      · rename_i h2
        rw [if_pos h2]
        have := measR_le v (left - size) (nest + 1) h2
        exact measAll_le vals r left nest _ _ (by omega) (by omega) h
      · simp at h
end
theorem f_refReserved (s : List UInt8) : Av.Fn Tryz.prog 95 [.str s] (.bool (reservedR s)) := by
  have e : reservedR s = decide (s = [58] ∨ s = [59] ∨ s = [40] ∨ s = [41] ∨ s = [45, 45] ∨ s = [91] ∨ s = [93] ∨ s = [123] ∨ s = [125] ∨ s = [116] ∨ s = [102]) := by
    rw [Bool.eq_iff_iff]
    simp [reservedR, reservedL]
  rw [e]
  refine ACalls.of_W tb_ok (fn := Tryz.f95) (n := 45) (by kernel_rfl) rfl (by kernel_rfl) rfl rfl (by simp) (go ?_)
  repeat' (refine fork (fun _ => go ?_) (fun _ => go ?_))
  all_goals
    refine VRet.mk [] .nil ?_
    refine ⟨congrArg (fun b => AOut.ret (.bool b)) ?_, rfl⟩
    simp_all
theorem f_ref07Name (s : List UInt8) (hl : s.length ≤ 1000000000) : Av.Fn Tryz.prog 74 [.str s] (.bool (nameR s && !reservedR s)) := by
  have h1 := f_refName' s hl
  have h2 := f_refReserved s
  refine ACalls.of_W tb_ok (fn := Tryz.f74) (n := 10) (by kernel_rfl) rfl (by kernel_rfl) rfl rfl (by simp) (go ?_)
  refine Fn.use (h1) (go ?_)
  cases nameR s with
  | true =>
    refine go ?_
    refine Fn.use (h2) (go ?_)
    refine VRet.mk [] .nil ?_
    exact ⟨rfl, rfl⟩
  | false =>
    refine go ?_
    refine VRet.mk [] .nil ?_
    exact ⟨rfl, rfl⟩
theorem f_In (n : Int) : Av.Fn Tryz.prog 115 [.int .i64 n] (.bool (inR n)) := by
  refine ACalls.of_W tb_ok (fn := Tryz.f115) (n := 9) (by kernel_rfl) rfl (by kernel_rfl) rfl rfl (by simp) (go ?_)
  refine fork (fun h => go ?_) (fun h => go ?_)
  · refine VRet.mk [] .nil ?_
    simp [inR, h]
  · refine VRet.mk [] .nil ?_
    simp [inR, h]
structure MeI where
  i : Nat
  size : Int
  depth : Int

theorem rvs_n {l : List RV} {i : Nat} {x : RV} (h : l[i]? = some x) : ((rvsC l).drop (i * 4))[0]? = some (.int .i64 x.kind) := by
  have e1 := rvsC_at (r := []) h
  rw [List.append_nil] at e1
  obtain ⟨k, n, s, l'⟩ := x
  have := congrArg (·[0]?) e1
  simpa [List.getElem?_take, rvAV, RV.kind] using this


theorem f_Measure (d : Nat) : ∀ (v : RV) (left nest : Int), v.deep ≤ d → v.fit = true → -1000000000 ≤ left ∧ left ≤ 1000000000 → 0 ≤ nest ∧ nest ≤ 1000000000 →
    Av.Fn Tryz.prog 89 [.agg (rvAV v), .int .i64 left, .int .i64 nest] (.tup [.int .i64 (measR v left nest).1, .int .i64 (measR v left nest).2.1, .bool (measR v left nest).2.2]) := by
  induction d with
  | zero =>
    intro v left nest hd
    obtain ⟨k, n, s, l⟩ := v
    rw [RV.deep] at hd; omega
  | succ d ih =>
    intro v left nest hd hf hl hn
    obtain ⟨k, n, s, l⟩ := v
    rw [RV.deep] at hd
    simp only [RV.fit, Bool.and_eq_true, decide_eq_true_eq] at hf
    obtain ⟨⟨hf1, hf2⟩, hf3⟩ := hf
    rw [rvAV]
    refine ACalls.of_W tb_ok (fn := Tryz.f89) (n := 105) (by kernel_rfl) rfl (by kernel_rfl) rfl rfl (by simp) (go ?_)
    refine VAll.mk (fun b => go ?_)
    refine fork (fun h1 => go ?_) (fun h1 => go ?_)
    · refine VRet.mk [] .nil ?_
      rw [measR, if_pos (by omega)]; exact ⟨rfl, rfl⟩
    refine fork (fun h2 => go ?_) (fun h2 => go ?_)
    · refine VRet.mk [] .nil ?_
      rw [measR, if_pos (by omega)]; exact ⟨rfl, rfl⟩
    rw [measR, if_neg (by omega)]
    refine fork (fun k1 => go ?_) (fun k1 => go ?_)
    · rw [if_pos k1]
      refine Fn.use (f_In n) (go ?_)
      refine VRet.mk [] .nil ?_
      exact ⟨rfl, rfl⟩
    rw [if_neg k1]
    refine fork (fun k2 => go ?_) (fun k2 => go ?_)
    · rw [if_pos k2]
      refine fork (fun h3 => go ?_) (fun h3 => go ?_)
      · refine Fn.use (f_Bad s (by omega)) (go ?_)
        refine VRet.mk [] .nil ?_
        rw [show decide (s.length ≤ 4096) = true from decide_eq_true (by omega)]; exact ⟨rfl, rfl⟩
      · refine VRet.mk [] .nil ?_
        rw [show decide (s.length ≤ 4096) = false from decide_eq_false (by omega)]; exact ⟨rfl, rfl⟩
    rw [if_neg k2]
    refine fork (fun k3 => go ?_) (fun k3 => go ?_)
    · rw [if_pos k3]
      refine VRet.mk [] .nil ?_
      exact ⟨rfl, rfl⟩
    rw [if_neg k3]
    refine fork (fun k6 => go ?_) (fun k6 => go ?_)
    · rw [if_pos k6]
      refine fork (fun h3 => go ?_) (fun h3 => go ?_)
      · refine VRet.mk [] .nil ?_
        rw [decide_eq_true h3]; exact ⟨rfl, rfl⟩
      · refine VRet.mk [] .nil ?_
        rw [decide_eq_false h3]; exact ⟨rfl, rfl⟩
    rw [if_neg k6]
    refine fork (fun k7 => go ?_) (fun k7 => go ?_)
    · rw [if_pos k7]
      refine Fn.use (f_ref07Name s (hf2 k7)) (go ?_)
      refine VRet.mk [] .nil ?_
      exact ⟨rfl, rfl⟩
    rw [if_neg k7]
    refine fork (fun k4 => go ?_) (fun k4 => go ?_)
    · rw [if_pos (.inl k4), decide_eq_true k4]
      subst k4
      rw [if_pos (.inl rfl)] at hf3
      refine go ?_
      refine VLoop.mk [6, 7, 9] MeI (fun i => [.int .i64 i.size, .int .i64 i.depth, .int .i64 i.i]) (fun _ => [(b, .box [.int .i64 4, .int .i64 n, .str s, .fz (rvsC l) l.length false])])
        (fun i => i.i ≤ l.length ∧ (1 ≤ i.size ∧ i.size ≤ left) ∧ (0 ≤ i.depth ∧ i.depth ≤ 32) ∧ measAll true (l.drop i.i) left nest i.size i.depth = measAll true l left nest 1 0) (fun i => l.length - i.i) ⟨0, 1, 0⟩ ?_ ?_
      · exact ⟨⟨by simp, by dsimp only; omega, by simp, by simp⟩, rfl, .cons 0 rfl .nil⟩
      rintro ⟨i, size, depth⟩ ⟨hi, hsz, hdp, hI⟩
      dsimp only at hi hsz hdp hI ⊢
      refine go ?_
      refine fork (fun hlt => go ?_) (fun hlt => go ?_)
      · have hlt : i < l.length := by omega
        obtain ⟨x, hx⟩ : ∃ x, l[i]? = some x := ⟨l[i], by simp [hlt]⟩
        have hda : l.drop i = x :: l.drop (i + 1) := by rw [List.drop_eq_getElem_cons hlt]; congr 1; rw [List.getElem?_eq_getElem hlt] at hx; exact Option.some.inj hx
        have hfx := ih x (left - size) (nest + 1) (by have := deepAll_at hx; omega) (fitAll_at hf3 hx) (by omega) (by omega)
        have hle := measR_le x (left - size) (nest + 1)
        have hk := rvs_n hx
        have ht := rvsC_at (r := []) hx
        rw [List.append_nil] at ht
        rw [hda, measAll] at hI
        refine VNth.mk _ (by simpa using hk) (go ?_)
        refine fork (fun h7 => go ?_) (fun h7 => go ?_)
        · rw [if_pos (by simp; omega)] at hI
          refine VRet.mk [] .nil ?_
          rw [← hI]; exact ⟨rfl, rfl⟩
        rw [if_neg (by simp; omega)] at hI
        refine VTake.mk (rvAV x) (by simpa using ht) (by simp) (go ?_)
        refine Fn.use (hfx) (go ?_)
        generalize measR x (left - size) (nest + 1) = m at hI hle
        obtain ⟨a, dd, c⟩ := m
        dsimp only at hI hle
        cases c with
        | false =>
          refine go ?_
          refine VRet.mk [] .nil ?_
          rw [← hI]; exact ⟨rfl, rfl⟩
        | true =>
          have hle := hle rfl
          rw [if_pos rfl] at hI
          refine go ?_
          refine ⟨⟨i + 1, size + a, max depth dd⟩, ⟨?_, ?_, ?_, hI⟩, ?_, rfl, .cons 0 rfl .nil⟩
          · dsimp only; omega
          · dsimp only; omega
          · dsimp only; omega
          · dsimp only; omega
      · rw [List.drop_eq_nil_of_le (by omega), measAll] at hI
        refine VRet.mk [] .nil ?_
        rw [← hI]; exact ⟨rfl, rfl⟩
    · refine fork (fun k5 => go ?_) (fun k5 => go ?_)
      · rw [if_pos (.inr k5), decide_eq_false k4]
        subst k5
        rw [if_pos (.inr rfl)] at hf3
        refine go ?_
        refine VLoop.mk [6, 7, 9] MeI (fun i => [.int .i64 i.size, .int .i64 i.depth, .int .i64 i.i]) (fun _ => [(b, .box [.int .i64 5, .int .i64 n, .str s, .fz (rvsC l) l.length false])])
          (fun i => i.i ≤ l.length ∧ (1 ≤ i.size ∧ i.size ≤ left) ∧ (0 ≤ i.depth ∧ i.depth ≤ 32) ∧ measAll false (l.drop i.i) left nest i.size i.depth = measAll false l left nest 1 0) (fun i => l.length - i.i) ⟨0, 1, 0⟩ ?_ ?_
        · exact ⟨⟨by simp, by dsimp only; omega, by simp, by simp⟩, rfl, .cons 0 rfl .nil⟩
        rintro ⟨i, size, depth⟩ ⟨hi, hsz, hdp, hI⟩
        dsimp only at hi hsz hdp hI ⊢
        refine go ?_
        refine fork (fun hlt => go ?_) (fun hlt => go ?_)
        · have hlt : i < l.length := by omega
          obtain ⟨x, hx⟩ : ∃ x, l[i]? = some x := ⟨l[i], by simp [hlt]⟩
          have hda : l.drop i = x :: l.drop (i + 1) := by rw [List.drop_eq_getElem_cons hlt]; congr 1; rw [List.getElem?_eq_getElem hlt] at hx; exact Option.some.inj hx
          have hfx := ih x (left - size) (nest + 1) (by have := deepAll_at hx; omega) (fitAll_at hf3 hx) (by omega) (by omega)
          have hle := measR_le x (left - size) (nest + 1)
          have hk := rvs_n hx
          have ht := rvsC_at (r := []) hx
          rw [List.append_nil] at ht
          rw [hda, measAll] at hI
          rw [if_neg (by simp)] at hI
          refine VTake.mk (rvAV x) (by simpa using ht) (by simp) (go ?_)
          refine Fn.use (hfx) (go ?_)
          generalize measR x (left - size) (nest + 1) = m at hI hle
          obtain ⟨a, dd, c⟩ := m
          dsimp only at hI hle
          cases c with
          | false =>
            refine go ?_
            refine VRet.mk [] .nil ?_
            rw [← hI]; exact ⟨rfl, rfl⟩
          | true =>
            have hle := hle rfl
            rw [if_pos rfl] at hI
            refine go ?_
            refine ⟨⟨i + 1, size + a, max depth dd⟩, ⟨?_, ?_, ?_, hI⟩, ?_, rfl, .cons 0 rfl .nil⟩
            · dsimp only; omega
            · dsimp only; omega
            · dsimp only; omega
            · dsimp only; omega
        · rw [List.drop_eq_nil_of_le (by omega), measAll] at hI
          refine VRet.mk [] .nil ?_
          rw [← hI]; exact ⟨rfl, rfl⟩
      · rw [if_neg (by omega)]
        refine VRet.mk [] .nil ?_
        exact ⟨rfl, rfl⟩
theorem f_Sound (v : RV) (hf : v.fit = true) : Av.Fn Tryz.prog 67 [.agg (rvAV v)] (.bool ((measR v 1024 0).2.2 && decide (v.kind ≠ 7))) := by
  have h := f_Measure v.deep v 1024 0 (Nat.le_refl _) hf (by omega) (by omega)
  obtain ⟨k, n, s, l⟩ := v
  rw [rvAV] at h ⊢
  rw [show (RV.mk k n s l).kind = k from rfl]
  generalize measR (.mk k n s l) 1024 0 = m at h ⊢
  obtain ⟨a, dd, c⟩ := m
  dsimp only at h ⊢
  refine ACalls.of_W tb_ok (fn := Tryz.f67) (n := 18) (by kernel_rfl) rfl (by kernel_rfl) rfl rfl (by simp) (go ?_)
  refine VAll.mk (fun b => go ?_)
  refine Fn.use (h) (go ?_)
  cases c with
  | true =>
    refine go ?_
    refine VRet.mk [] .nil ?_
    simp
  | false =>
    refine go ?_
    refine VRet.mk [] .nil ?_
    simp
theorem f_SoundItems (l : List RV) (hl : l.length ≤ 2513169434916) (hf : fitAll l = true) : Av.Fn Tryz.prog 38 [.fz (rvsC l) l.length false] (.bool (measR (.mk 5 0 [] l) 1024 0).2.2) := by
  have h := f_Sound (.mk 5 0 [] l) (by simp [RV.fit, hf, hl])
  rw [rvAV, show (RV.mk 5 0 [] l).kind = 5 from rfl, show decide ((5 : Int) ≠ 7) = true from rfl, Bool.and_true] at h
  refine ACalls.of_W tb_ok (fn := Tryz.f38) (n := 6) (by kernel_rfl) rfl (by kernel_rfl) rfl rfl (by simp) (go ?_)
  refine Fn.use (h) (go ?_)
  refine VRet.mk [] .nil ?_
  exact ⟨rfl, rfl⟩
mutual
/-- Does no box stand in a tree? -/
def bareR : RV → Bool
  | .mk k _ _ l => decide (k ≠ 6) && bareAll l
def bareAll : List RV → Bool
  | [] => true
  | v :: r => bareR v && bareAll r
end
theorem f_Bare (d : Nat) : ∀ (v : RV), v.deep ≤ d → v.small = true → Av.Fn Tryz.prog 39 [.agg (rvAV v)] (.bool (bareR v)) := by
  induction d with
  | zero =>
    intro v hd
    obtain ⟨k, n, s, l⟩ := v
    rw [RV.deep] at hd; omega
  | succ d ih =>
    intro v hd hs
    obtain ⟨k, n, s, l⟩ := v
    rw [RV.deep] at hd
    simp only [RV.small, Bool.and_eq_true, decide_eq_true_eq] at hs
    rw [rvAV, bareR]
    refine ACalls.of_W tb_ok (fn := Tryz.f39) (n := 21) (by kernel_rfl) rfl (by kernel_rfl) rfl rfl (by simp) (go ?_)
    refine VAll.mk (fun b => go ?_)
    refine fork (fun h6 => go ?_) (fun h6 => go ?_)
    · refine VRet.mk [] .nil ?_
      simp [h6]
    rw [show decide (k ≠ 6) = true by simpa using h6, Bool.true_and]
    refine VLoop.mk [3] Nat (fun i => [.int .i64 i]) (fun _ => [(b, .box [.int .i64 k, .int .i64 n, .str s, .fz (rvsC l) l.length false])]) (fun i => i ≤ l.length ∧ bareAll (l.drop i) = bareAll l) (fun i => l.length - i) 0 ?_ ?_
    · exact ⟨⟨by simp, by simp⟩, rfl, .cons 0 rfl .nil⟩
    rintro i ⟨hi, hI⟩
    refine go ?_
    refine fork (fun hlt => go ?_) (fun hlt => go ?_)
    · have hlt : i < l.length := by omega
      obtain ⟨x, hx⟩ : ∃ x, l[i]? = some x := ⟨l[i], by simp [hlt]⟩
      have hda : l.drop i = x :: l.drop (i + 1) := by rw [List.drop_eq_getElem_cons hlt]; congr 1; rw [List.getElem?_eq_getElem hlt] at hx; exact Option.some.inj hx
      have hfx := ih x (by have := deepAll_at hx; omega) (smallAll_at hs.2 hx)
      have ht := rvsC_at (r := []) hx
      rw [List.append_nil] at ht
      rw [hda, bareAll] at hI
      refine VTake.mk (rvAV x) (by simpa using ht) (by simp) (go ?_)
      refine Fn.use (hfx) (go ?_)
      cases hb : bareR x with
      | true =>
        rw [hb, Bool.true_and] at hI
        refine go ?_
        exact ⟨i + 1, ⟨by omega, hI⟩, by omega, rfl, .cons 0 rfl .nil⟩
      | false =>
        rw [hb, Bool.false_and] at hI
        refine go ?_
        refine VRet.mk [] .nil ?_
        rw [← hI]; exact ⟨rfl, rfl⟩
    · refine VRet.mk [] .nil ?_
      rw [List.drop_eq_nil_of_le (by omega), bareAll] at hI
      rw [← hI]; exact ⟨rfl, rfl⟩
def soundDefR (d : RDef) : Bool := nameR d.name && !reservedR d.name && (decide (0 ≤ d.inn) && decide (d.inn ≤ 16)) && (decide (0 ≤ d.out) && decide (d.out ≤ 16)) && (measR (.mk 5 0 [] d.body) 1024 0).2.2 && bareAll d.body
end Go.Proofs.YtliabblchkgclaaGreatDoor

namespace Go.Proofs.YtliabblchkgclaaGreatDoor
open Go Go.Av
def nmR (s : List UInt8) : Bool := nameR s && !reservedR s
theorem f_tName (s : List UInt8) (hs : s.length ≤ 4611686018427387904) : Av.Fn Tryz.prog 45 [.str s] (.bool (nmR s)) := by
  have h1 := f11_of s hs
  have h2 := f_Reserved s
  unfold nmR
  refine ACalls.of_W tb_ok (fn := Tryz.f45) (n := 10) (by kernel_rfl) rfl (by kernel_rfl) rfl rfl (by simp) (go ?_)
  refine Fn.use (h1) (go ?_)
  cases nameR s with
  | true =>
    refine go ?_
    refine Fn.use (h2) (go ?_)
    refine VRet.mk [] .nil ?_
    exact ⟨rfl, rfl⟩
  | false =>
    refine go ?_
    refine VRet.mk [] .nil ?_
    exact ⟨rfl, rfl⟩
mutual
/-- What measure says of a value (or item says of an item): its depth, and how many may still come. -/
def measT (it : Bool) : Tree → Int → Int → Option (Int × Int)
  | .none, _, _ => none
  | .odd _ _, _, _ => none
  | .call s, left, _ => if it = true ∧ 1 ≤ left ∧ nmR s = true then some (0, left - 1) else none
  | .int n, left, nest => if left < 1 ∨ 32 < nest then none else if inR n = true then some (0, left - 1) else none
  | .str s, left, nest => if left < 1 ∨ 32 < nest then none else if s.length ≤ 4096 ∧ faultR s = none then some (0, left - 1) else none
  | .bool _, left, nest => if left < 1 ∨ 32 < nest then none else some (0, left - 1)
  | .box n, left, nest => if left < 1 ∨ 32 < nest then none else if 1 ≤ n ∧ n ≤ 1048576 then some (0, left - 1) else none
  | .list l, left, nest => if left < 1 ∨ 32 < nest then none else measTs false l (left - 1) nest 0
  | .quot l, left, nest => if left < 1 ∨ 32 < nest then none else measTs true l (left - 1) nest 0
def measTs (it : Bool) : List Tree → Int → Int → Int → Option (Int × Int)
  | [], left, _, depth => if depth < 32 then some (depth + 1, left) else none
  | t :: r, left, nest, depth => match measT it t left (nest + 1) with
    | some (d, left) => measTs it r left nest (max depth d)
    | none => none
end
mutual
theorem measT_le : ∀ (it : Bool) (t : Tree) (left nest d l' : Int), measT it t left nest = some (d, l') → (0 ≤ d ∧ d ≤ 32) ∧ 0 ≤ l' ∧ l' < left := by
  intro it t left nest d l' h
  cases t with
  | none => rw [measT] at h; cases h
  | odd t v => rw [measT] at h; cases h
  | list l =>
    rw [measT] at h
    split at h
    · cases h
    · have := measTs_le _ l (left - 1) nest 0 d l' (by omega) (by omega) h; omega
  | quot l =>
    rw [measT] at h
    split at h
    · cases h
    · have := measTs_le _ l (left - 1) nest 0 d l' (by omega) (by omega) h; omega
  | _ =>
    rw [measT] at h
    repeat' split at h
    all_goals first
    | (cases h; done)
    | (simp only [Option.some.injEq, Prod.mk.injEq] at h; omega)
theorem measTs_le : ∀ (it : Bool) (l : List Tree) (left nest depth d l' : Int), 0 ≤ left → 0 ≤ depth → measTs it l left nest depth = some (d, l') → (0 ≤ d ∧ d ≤ 32) ∧ 0 ≤ l' ∧ l' ≤ left
  | it, [], left, nest, depth, d, l', hl, hd, h => by
    rw [measTs] at h
    split at h
    · simp only [Option.some.injEq, Prod.mk.injEq] at h; omega
    · cases h
  | it, t :: r, left, nest, depth, d, l', hl, hd, h => by
    rw [measTs] at h
    split at h
    · rename_i d1 l1 e
      have h1 := measT_le it t left (nest + 1) d1 l1 e
      have h2 := measTs_le it r l1 nest _ d l' (by omega) (by omega) h
      omega
    · cases h
end
/-- What measure does: the answer, and how many may still come. -/
def MeasC (x : AV) (m : Option (Int × Int)) (left nest : Int) : Prop := ∀ b, ACalls Tryz.prog 87 [x, .ptr b 0, .int .i64 nest] [(b, .box [.int .i64 left])] (fun out st => ∃ d l', out = .ret (.tup [.int .i64 d, .bool m.isSome]) ∧ st = [(b, .box [.int .i64 l'])] ∧ (m = none ∨ m = some (d, l')))
def ItemC (x : AV) (m : Option (Int × Int)) (left nest : Int) : Prop := ∀ b, ACalls Tryz.prog 112 [x, .ptr b 0, .int .i64 nest] [(b, .box [.int .i64 left])] (fun out st => ∃ d l', out = .ret (.tup [.int .i64 d, .bool m.isSome]) ∧ st = [(b, .box [.int .i64 l'])] ∧ (m = none ∨ m = some (d, l')))
structure MeT where
  i : Nat
  depth : Int
  left : Int

theorem m_list (l : List Tree) (hl : l.length ≤ 2513169434916) (left nest : Int) (hb : 1 ≤ left ∧ left ≤ 1000000) (hn : 0 ≤ nest ∧ nest ≤ 32)
    (ih : ∀ (i : Nat) t, l[i]? = some t → ∀ left nest, 0 ≤ left ∧ left ≤ 1000000 → 0 ≤ nest ∧ nest ≤ 33 → MeasC (valAV t) (measT false t left nest) left nest) :
    MeasC (valAV (.list l)) (measTs false l (left - 1) nest 0) left nest := by
  intro b
  rw [valAV]
  refine ACalls.of_W tb_ok (fn := Tryz.f87) (n := 129) (by kernel_rfl) rfl (by kernel_rfl) rfl rfl (by simp) (go ?_)
  refine VIf.no (by simp; omega) (go ?_)
  refine VIf.no (by simp; omega) (go ?_)
  refine VAll.mk (fun b2 => go ?_)
  refine VLoop.mk [79, 6] MeT (fun i => [.int .i64 i.i, .int .i64 i.depth]) (fun i => [(b, .box [.int .i64 i.left]), (b2, .box [.fz (valAVs l) l.length false])])
    (fun i => i.i ≤ l.length ∧ (0 ≤ i.left ∧ i.left ≤ 1000000) ∧ (0 ≤ i.depth ∧ i.depth ≤ 32) ∧ measTs false (l.drop i.i) i.left nest i.depth = measTs false l (left - 1) nest 0) (fun i => l.length - i.i) ⟨0, 0, left - 1⟩ ?_ ?_
  · exact ⟨⟨by simp, by dsimp only; omega, by simp, by simp⟩, rfl, .cons 1 rfl (.cons 0 rfl .nil)⟩
  rintro ⟨i, depth, lf⟩ ⟨hi, hlf, hdp, hI⟩
  dsimp only at hi hlf hdp hI ⊢
  refine go ?_
  refine fork (fun hlt => go ?_) (fun hlt => go ?_)
  · have hlt : i < l.length := by omega
    obtain ⟨x, hx⟩ : ∃ x, l[i]? = some x := ⟨l[i], by simp [hlt]⟩
    have hda : l.drop i = x :: l.drop (i + 1) := by rw [List.drop_eq_getElem_cons hlt]; congr 1; rw [List.getElem?_eq_getElem hlt] at hx; exact Option.some.inj hx
    rw [hda, measTs] at hI
    have hfx := ih i x hx lf (nest + 1) (by omega) (by omega) b
    have hle := measT_le false x lf (nest + 1)
    refine VNth.mk (valAV x) (by simp [mulN_eq, valAVs_map, hx]) (go ?_)
    generalize measT false x lf (nest + 1) = m at hI hfx hle
    refine ACalls.use (R := [(b2, .box [.fz (valAVs l) l.length false])]) hfx (.refl _) ?_
    rintro _ _ ⟨d, l', rfl, rfl, hm⟩
    cases m with
    | none =>
      rw [← hI]
      refine go ?_
      exact VRet.mk [(b, .box [.int .i64 l'])] (.cons 0 rfl .nil) ⟨0, l', rfl, rfl, .inl rfl⟩
    | some p =>
      obtain rfl : p = (d, l') := by simpa using hm
      have hle := hle d l' rfl
      dsimp only at hI
      refine go ?_
      refine ⟨⟨i + 1, max depth d, l'⟩, ⟨?_, ?_, ?_, hI⟩, ?_, rfl, .cons 0 rfl (.cons 0 rfl .nil)⟩
      · dsimp only; omega
      · dsimp only; omega
      · dsimp only; omega
      · dsimp only; omega
  · rw [List.drop_eq_nil_of_le (by omega), measTs] at hI
    rw [← hI]
    refine VRet.mk [(b, .box [.int .i64 lf])] (.cons 0 rfl .nil) ⟨depth + 1, lf, ?_, rfl, ?_⟩
    · by_cases h : depth < 32 <;> simp [h]
    · by_cases h : depth < 32 <;> simp [h]
theorem m_quot (l : List Tree) (hl : l.length ≤ 2513169434916) (left nest : Int) (hb : 1 ≤ left ∧ left ≤ 1000000) (hn : 0 ≤ nest ∧ nest ≤ 32)
    (ih : ∀ (i : Nat) t, l[i]? = some t → ∀ left nest, 0 ≤ left ∧ left ≤ 1000000 → 0 ≤ nest ∧ nest ≤ 33 → ItemC (itemAV t) (measT true t left nest) left nest) :
    MeasC (valAV (.quot l)) (measTs true l (left - 1) nest 0) left nest := by
  intro b
  rw [valAV]
  refine ACalls.of_W tb_ok (fn := Tryz.f87) (n := 129) (by kernel_rfl) rfl (by kernel_rfl) rfl rfl (by simp) (go ?_)
  refine VIf.no (by simp; omega) (go ?_)
  refine VIf.no (by simp; omega) (go ?_)
  refine VAll.mk (fun b2 => go ?_)
  refine VLoop.mk [107, 6] MeT (fun i => [.int .i64 i.i, .int .i64 i.depth]) (fun i => [(b, .box [.int .i64 i.left]), (b2, .box [.fz (itemAVs l) l.length false])])
    (fun i => i.i ≤ l.length ∧ (0 ≤ i.left ∧ i.left ≤ 1000000) ∧ (0 ≤ i.depth ∧ i.depth ≤ 32) ∧ measTs true (l.drop i.i) i.left nest i.depth = measTs true l (left - 1) nest 0) (fun i => l.length - i.i) ⟨0, 0, left - 1⟩ ?_ ?_
  · exact ⟨⟨by simp, by dsimp only; omega, by simp, by simp⟩, rfl, .cons 1 rfl (.cons 0 rfl .nil)⟩
  rintro ⟨i, depth, lf⟩ ⟨hi, hlf, hdp, hI⟩
  dsimp only at hi hlf hdp hI ⊢
  refine go ?_
  refine fork (fun hlt => go ?_) (fun hlt => go ?_)
  · have hlt : i < l.length := by omega
    obtain ⟨x, hx⟩ : ∃ x, l[i]? = some x := ⟨l[i], by simp [hlt]⟩
    have hda : l.drop i = x :: l.drop (i + 1) := by rw [List.drop_eq_getElem_cons hlt]; congr 1; rw [List.getElem?_eq_getElem hlt] at hx; exact Option.some.inj hx
    rw [hda, measTs] at hI
    have hfx := ih i x hx lf (nest + 1) (by omega) (by omega) b
    have hle := measT_le true x lf (nest + 1)
    refine VNth.mk (itemAV x) (by simp [mulN_eq, itemAVs_map, hx]) (go ?_)
    generalize measT true x lf (nest + 1) = m at hI hfx hle
    refine ACalls.use (R := [(b2, .box [.fz (itemAVs l) l.length false])]) hfx (.refl _) ?_
    rintro _ _ ⟨d, l', rfl, rfl, hm⟩
    cases m with
    | none =>
      rw [← hI]
      refine go ?_
      exact VRet.mk [(b, .box [.int .i64 l'])] (.cons 0 rfl .nil) ⟨0, l', rfl, rfl, .inl rfl⟩
    | some p =>
      obtain rfl : p = (d, l') := by simpa using hm
      have hle := hle d l' rfl
      dsimp only at hI
      refine go ?_
      refine ⟨⟨i + 1, max depth d, l'⟩, ⟨?_, ?_, ?_, hI⟩, ?_, rfl, .cons 0 rfl (.cons 0 rfl .nil)⟩
      · dsimp only; omega
      · dsimp only; omega
      · dsimp only; omega
      · dsimp only; omega
  · rw [List.drop_eq_nil_of_le (by omega), measTs] at hI
    rw [← hI]
    refine VRet.mk [(b, .box [.int .i64 lf])] (.cons 0 rfl .nil) ⟨depth + 1, lf, ?_, rfl, ?_⟩
    · by_cases h : depth < 32 <;> simp [h]
    · by_cases h : depth < 32 <;> simp [h]
theorem m_less {x : AV} {left nest : Int} (hl : left < 1 ∨ 32 < nest) (hb : 0 ≤ left ∧ left ≤ 1000000) (hn : 0 ≤ nest ∧ nest ≤ 33) : MeasC x none left nest := by
  intro b
  refine ACalls.of_W tb_ok (fn := Tryz.f87) (n := 129) (by kernel_rfl) rfl (by kernel_rfl) rfl rfl (by simp) (go ?_)
  refine fork (fun h1 => go ?_) (fun h1 => go ?_)
  · exact VRet.mk [(b, .box [.int .i64 (left - 1)])] (.cons 0 rfl .nil) ⟨0, _, rfl, rfl, .inl rfl⟩
  · refine VIf.yes (by simp; omega) (go ?_)
    exact VRet.mk [(b, .box [.int .i64 (left - 1)])] (.cons 0 rfl .nil) ⟨0, _, rfl, rfl, .inl rfl⟩

theorem m_int' (n left nest : Int) (hb : 1 ≤ left ∧ left ≤ 1000000) (hn : 0 ≤ nest ∧ nest ≤ 32) : MeasC (valAV (.int n)) (if inR n = true then some (0, left - 1) else none) left nest := by
  intro b
  rw [valAV]
  refine ACalls.of_W tb_ok (fn := Tryz.f87) (n := 129) (by kernel_rfl) rfl (by kernel_rfl) rfl rfl (by simp) (go ?_)
  refine VIf.no (by simp; omega) (go ?_)
  refine VIf.no (by simp; omega) (go ?_)
  refine VAll.mk (fun b2 => go ?_)
  refine fork (fun h1 => go ?_) (fun h1 => go ?_)
  · by_cases h2 : n ≤ 1152921504606846975
    · rw [if_pos (by simp [inR, h1, h2]), decide_eq_true h2]
      exact VRet.mk [(b, .box [.int .i64 (left - 1)])] (.cons 1 rfl .nil) ⟨0, _, rfl, rfl, .inr rfl⟩
    · rw [if_neg (by simp [inR, h2]), decide_eq_false h2]
      exact VRet.mk [(b, .box [.int .i64 (left - 1)])] (.cons 1 rfl .nil) ⟨0, _, rfl, rfl, .inl rfl⟩
  · rw [if_neg (by simp [inR, h1])]
    exact VRet.mk [(b, .box [.int .i64 (left - 1)])] (.cons 1 rfl .nil) ⟨0, _, rfl, rfl, .inl rfl⟩
theorem m_box' (n left nest : Int) (hb : 1 ≤ left ∧ left ≤ 1000000) (hn : 0 ≤ nest ∧ nest ≤ 32) : MeasC (valAV (.box n)) (if 1 ≤ n ∧ n ≤ 1048576 then some (0, left - 1) else none) left nest := by
  intro b
  rw [valAV]
  refine ACalls.of_W tb_ok (fn := Tryz.f87) (n := 129) (by kernel_rfl) rfl (by kernel_rfl) rfl rfl (by simp) (go ?_)
  refine VIf.no (by simp; omega) (go ?_)
  refine VIf.no (by simp; omega) (go ?_)
  refine VAll.mk (fun b2 => go ?_)
  refine fork (fun h1 => go ?_) (fun h1 => go ?_)
  · by_cases h2 : n ≤ 1048576
    · rw [if_pos (by omega), decide_eq_true h2]
      exact VRet.mk [(b, .box [.int .i64 (left - 1)])] (.cons 1 rfl .nil) ⟨0, _, rfl, rfl, .inr rfl⟩
    · rw [if_neg (by omega), decide_eq_false h2]
      exact VRet.mk [(b, .box [.int .i64 (left - 1)])] (.cons 1 rfl .nil) ⟨0, _, rfl, rfl, .inl rfl⟩
  · rw [if_neg (by omega)]
    exact VRet.mk [(b, .box [.int .i64 (left - 1)])] (.cons 1 rfl .nil) ⟨0, _, rfl, rfl, .inl rfl⟩
theorem m_bool' (n : Bool) (left nest : Int) (hb : 1 ≤ left ∧ left ≤ 1000000) (hn : 0 ≤ nest ∧ nest ≤ 32) : MeasC (valAV (.bool n)) (some (0, left - 1)) left nest := by
  intro b
  rw [valAV]
  refine ACalls.of_W tb_ok (fn := Tryz.f87) (n := 129) (by kernel_rfl) rfl (by kernel_rfl) rfl rfl (by simp) (go ?_)
  refine VIf.no (by simp; omega) (go ?_)
  refine VIf.no (by simp; omega) (go ?_)
  refine VAll.mk (fun b2 => go ?_)
  exact VRet.mk [(b, .box [.int .i64 (left - 1)])] (.cons 1 rfl .nil) ⟨0, _, rfl, rfl, .inr rfl⟩
theorem m_none' (left nest : Int) (hb : 1 ≤ left ∧ left ≤ 1000000) (hn : 0 ≤ nest ∧ nest ≤ 32) : MeasC .nili none left nest := by
  intro b
  refine ACalls.of_W tb_ok (fn := Tryz.f87) (n := 129) (by kernel_rfl) rfl (by kernel_rfl) rfl rfl (by simp) (go ?_)
  refine VIf.no (by simp; omega) (go ?_)
  refine VIf.no (by simp; omega) (go ?_)
  exact VRet.mk [(b, .box [.int .i64 (left - 1)])] (.cons 0 rfl .nil) ⟨0, _, rfl, rfl, .inl rfl⟩
theorem m_str' (s : List UInt8) (left nest : Int) (hb : 1 ≤ left ∧ left ≤ 1000000) (hn : 0 ≤ nest ∧ nest ≤ 32) : MeasC (valAV (.str s)) (if s.length ≤ 4096 ∧ faultR s = none then some (0, left - 1) else none) left nest := by
  have hv := f_Valid s
  intro b
  rw [valAV]
  refine ACalls.of_W tb_ok (fn := Tryz.f87) (n := 129) (by kernel_rfl) rfl (by kernel_rfl) rfl rfl (by simp) (go ?_)
  refine VIf.no (by simp; omega) (go ?_)
  refine VIf.no (by simp; omega) (go ?_)
  refine VAll.mk (fun b2 => go ?_)
  refine fork (fun h1 => go ?_) (fun h1 => go ?_)
  · refine Fn.use (hv) (go ?_)
    by_cases h2 : faultR s = none
    · rw [if_pos ⟨by omega, h2⟩, decide_eq_true h2]
      exact VRet.mk [(b, .box [.int .i64 (left - 1)])] (.cons 1 rfl .nil) ⟨0, _, rfl, rfl, .inr rfl⟩
    · rw [if_neg (fun h => h2 h.2), decide_eq_false h2]
      exact VRet.mk [(b, .box [.int .i64 (left - 1)])] (.cons 1 rfl .nil) ⟨0, _, rfl, rfl, .inl rfl⟩
  · rw [if_neg (by omega)]
    exact VRet.mk [(b, .box [.int .i64 (left - 1)])] (.cons 1 rfl .nil) ⟨0, _, rfl, rfl, .inl rfl⟩
theorem i_call (s : List UInt8) (hs : s.length ≤ 4611686018427387904) (left nest : Int) (hb : 0 ≤ left ∧ left ≤ 1000000) : ItemC (itemAV (.call s)) (if 1 ≤ left ∧ nmR s = true then some (0, left - 1) else none) left nest := by
  have h := f_tName s hs
  intro b
  rw [itemAV]
  refine ACalls.of_W tb_ok (fn := Tryz.f112) (n := 47) (by kernel_rfl) rfl (by kernel_rfl) rfl rfl (by simp) (go ?_)
  refine VAll.mk (fun b2 => go ?_)
  refine VAll.mk (fun b3 => go ?_)
  refine fork (fun h1 => go ?_) (fun h1 => go ?_)
  · refine Fn.use (h) (go ?_)
    cases hn : nmR s with
    | true =>
      rw [if_pos ⟨by omega, rfl⟩]
      refine go ?_
      exact VRet.mk [(b, .box [.int .i64 (left - 1)])] (.cons 2 rfl .nil) ⟨0, _, rfl, rfl, .inr rfl⟩
    | false =>
      rw [if_neg (by simp)]
      refine go ?_
      exact VRet.mk [(b, .box [.int .i64 (left - 1)])] (.cons 2 rfl .nil) ⟨0, _, rfl, rfl, .inl rfl⟩
  · rw [if_neg (by omega)]
    exact VRet.mk [(b, .box [.int .i64 (left - 1)])] (.cons 2 rfl .nil) ⟨0, _, rfl, rfl, .inl rfl⟩
theorem i_none (left nest : Int) (hb : 0 ≤ left ∧ left ≤ 1000000) : ItemC .nili none left nest := by
  intro b
  refine ACalls.of_W tb_ok (fn := Tryz.f112) (n := 47) (by kernel_rfl) rfl (by kernel_rfl) rfl rfl (by simp) (go ?_)
  refine VAll.mk (fun b2 => go ?_)
  refine VAll.mk (fun b3 => go ?_)
  exact VRet.mk [(b, .box [.int .i64 (left - 1)])] (.cons 2 rfl .nil) ⟨0, _, rfl, rfl, .inl rfl⟩
theorem i_push' {x : AV} {m : Option (Int × Int)} {left nest : Int} (h : MeasC x m left nest) (ho : x.one = true) : ItemC (.iface 138 (.agg [x])) m left nest := by
  intro b
  refine ACalls.of_W tb_ok (fn := Tryz.f112) (n := 47) (by kernel_rfl) rfl (by kernel_rfl) rfl rfl (by simp) (go ?_)
  refine VAll.mk (fun b2 => go ?_)
  refine ACalls.use (R := [(b2, .box [x])]) (h b) (.swap _ _ _) ?_
  rintro _ _ ⟨d, l', rfl, rfl, hm⟩
  refine go ?_
  exact VRet.mk [(b, .box [.int .i64 l'])] (.cons 0 rfl .nil) ⟨d, l', rfl, rfl, hm⟩
mutual
/-- No name of more than 2^62 bytes. -/
def Tree.nmS : Tree → Bool
  | .call s => decide (s.length ≤ 4611686018427387904)
  | .list l => nmSAll l
  | .quot l => nmSAll l
  | _ => true
def nmSAll : List Tree → Bool
  | [] => true
  | t :: r => t.nmS && nmSAll r
end
theorem nmSAll_at : ∀ {l : List Tree} {i : Nat} {t : Tree}, nmSAll l = true → l[i]? = some t → t.nmS = true
  | [], _, _, _, h => by simp at h
  | x :: l, 0, t, hc, h => by simp at h; subst h; simp [nmSAll] at hc; exact hc.1
  | x :: l, i + 1, t, hc, h => by simp [nmSAll] at hc; exact nmSAll_at hc.2 (by simpa using h)
theorem measT_less (it : Bool) {t : Tree} (h : t.isCall = false) {left nest : Int} (hl : left < 1 ∨ 32 < nest) : measT it t left nest = none := by
  cases t <;> first | (simp [Tree.isCall] at h; done) | (rw [measT, if_pos hl]; done) | (rw [measT]; done)
theorem measT_flag (it it' : Bool) {t : Tree} (h : t.isCall = false) (left nest : Int) : measT it t left nest = measT it' t left nest := by
  cases t <;> first | (simp [Tree.isCall] at h; done) | rw [measT, measT]
theorem f_meas (n : Nat) : ∀ t : Tree, t.depth ≤ n → t.clean = true → t.nmS = true → ∀ left nest, 0 ≤ left ∧ left ≤ 1000000 → 0 ≤ nest ∧ nest ≤ 33 →
    MeasC (valAV t) (measT false t left nest) left nest ∧ ItemC (itemAV t) (measT true t left nest) left nest := by
  have H : ∀ t : Tree, t.clean = true → t.nmS = true → ∀ left nest, 0 ≤ left ∧ left ≤ 1000000 → 0 ≤ nest ∧ nest ≤ 33 → MeasC (valAV t) (measT false t left nest) left nest → ItemC (itemAV t) (measT true t left nest) left nest := by
    intro t hc hs left nest hl hn h
    cases t with
    | none => rw [measT]; exact i_none left nest hl
    | call s =>
      rw [measT]
      simp only [true_and]
      exact i_call s (by simpa [Tree.nmS] using hs) left nest hl
    | odd u v => simp [Tree.clean] at hc
    | int m => rw [measT_flag true false rfl]; exact i_push' h rfl
    | str m => rw [measT_flag true false rfl]; exact i_push' h rfl
    | bool m => rw [measT_flag true false rfl]; exact i_push' h rfl
    | box m => rw [measT_flag true false rfl]; exact i_push' h rfl
    | list m => rw [measT_flag true false rfl]; exact i_push' h rfl
    | quot m => rw [measT_flag true false rfl]; exact i_push' h rfl
  suffices M : ∀ t : Tree, t.depth ≤ n → t.clean = true → t.nmS = true → ∀ left nest, 0 ≤ left ∧ left ≤ 1000000 → 0 ≤ nest ∧ nest ≤ 33 → MeasC (valAV t) (measT false t left nest) left nest from
    fun t hd hc hs left nest hl hn => ⟨M t hd hc hs left nest hl hn, H t hc hs left nest hl hn (M t hd hc hs left nest hl hn)⟩
  have L : ∀ t : Tree, t.clean = true → (∀ l, t ≠ .list l) → (∀ l, t ≠ .quot l) → ∀ left nest, 0 ≤ left ∧ left ≤ 1000000 → 0 ≤ nest ∧ nest ≤ 33 → ¬ (left < 1 ∨ 32 < nest) → MeasC (valAV t) (measT false t left nest) left nest := by
    intro t hc h4 h5 left nest hl hn h0
    cases t with
    | none => rw [measT]; exact m_none' left nest (by omega) (by omega)
    | call s => rw [measT, if_neg (by simp)]; exact m_none' left nest (by omega) (by omega)
    | odd u v => simp [Tree.clean] at hc
    | int m => rw [measT, if_neg h0]; exact m_int' m left nest (by omega) (by omega)
    | str m => rw [measT, if_neg h0]; exact m_str' m left nest (by omega) (by omega)
    | bool m => rw [measT, if_neg h0]; exact m_bool' m left nest (by omega) (by omega)
    | box m => rw [measT, if_neg h0]; exact m_box' m left nest (by omega) (by omega)
    | list l => exact absurd rfl (h4 l)
    | quot l => exact absurd rfl (h5 l)
  have B : ∀ t : Tree, ∀ left nest, 0 ≤ left ∧ left ≤ 1000000 → 0 ≤ nest ∧ nest ≤ 33 → (left < 1 ∨ 32 < nest) → MeasC (valAV t) (measT false t left nest) left nest := by
    intro t left nest hl hn h0
    have : measT false t left nest = none := by
      cases t with
      | call s => rw [measT, if_neg (by simp)]
      | _ => exact measT_less false rfl h0
    rw [this]; exact m_less h0 hl hn
  induction n with
  | zero =>
    intro t hd hc hs left nest hl hn
    by_cases h0 : left < 1 ∨ 32 < nest
    · exact B t left nest hl hn h0
    · refine L t hc ?_ ?_ left nest hl hn h0
      · rintro l rfl; rw [Tree.depth] at hd; omega
      · rintro l rfl; rw [Tree.depth] at hd; omega
  | succ n ih =>
    intro t hd hc hs left nest hl hn
    by_cases h0 : left < 1 ∨ 32 < nest
    · exact B t left nest hl hn h0
    cases t with
    | list l =>
      rw [Tree.depth] at hd
      simp only [Tree.clean, Bool.and_eq_true, decide_eq_true_eq] at hc
      rw [Tree.nmS] at hs
      rw [measT, if_neg h0]
      exact m_list l hc.1 left nest (by omega) (by omega) fun i t ht left nest hl hn => ih t (by have := depthAll_at ht; omega) (cleanAll_at hc.2 ht) (nmSAll_at hs ht) left nest hl hn
    | quot l =>
      rw [Tree.depth] at hd
      simp only [Tree.clean, Bool.and_eq_true, decide_eq_true_eq] at hc
      rw [Tree.nmS] at hs
      rw [measT, if_neg h0]
      exact m_quot l hc.1 left nest (by omega) (by omega) fun i t ht left nest hl hn => H t (cleanAll_at hc.2 ht) (nmSAll_at hs ht) left nest hl hn (ih t (by have := depthAll_at ht; omega) (cleanAll_at hc.2 ht) (nmSAll_at hs ht) left nest hl hn)
    | _ => exact L _ hc (by intro l e; cases e) (by intro l e; cases e) left nest hl hn h0
theorem f_tCheck {t : Tree} (hc : t.clean = true) (hs : t.nmS = true) : Av.Fn Tryz.prog 62 [valAV t] (.int .i64 (if (measT false t 1024 0).isSome = true then 0 else 1)) := by
  have h := (f_meas t.depth t (Nat.le_refl _) hc hs 1024 0 (by omega) (by omega)).1
  generalize measT false t 1024 0 = m at h
  refine ACalls.of_W tb_ok (fn := Tryz.f62) (n := 13) (by kernel_rfl) rfl (by kernel_rfl) rfl rfl (by simp) (go ?_)
  refine VAll.mk (fun b => go ?_)
  refine ACalls.use (R := []) (h b) (.refl _) ?_
  rintro _ _ ⟨d, l', rfl, rfl, hm⟩
  cases m with
  | some p =>
    refine go ?_
    refine VRet.mk [] .nil ?_
    exact ⟨rfl, rfl⟩
  | none =>
    refine go ?_
    refine VRet.mk [] .nil ?_
    exact ⟨rfl, rfl⟩
end Go.Proofs.YtliabblchkgclaaGreatDoor

namespace Go.Proofs.YtliabblchkgclaaGreatDoor
open Go Go.Av
theorem faultV_none (s : List UInt8) : decide (faultV s < 0) = decide (faultR s = none) := by
  unfold faultV
  cases faultR s with
  | none => simp
  | some i => simp
theorem valRV_kind (t : Tree) : (valRV t).kind ≠ 7 := by cases t <;> simp [valRV, RV.kind]
def refOf (it : Bool) (t : Tree) : RV := if it = true then itemRV t else valRV t
theorem refOf_call (s : List UInt8) : refOf true (.call s) = .mk 7 0 s [] := rfl
theorem refOf_val {it : Bool} {t : Tree} (h : t.isCall = false) : refOf it t = valRV t := by
  unfold refOf
  split
  · exact item_val h
  · rfl
def refsOf (it : Bool) (l : List Tree) : List RV := if it = true then itemRVs l else valRVs l
theorem refsOf_cons (it : Bool) (t : Tree) (r : List Tree) : refsOf it (t :: r) = refOf it t :: refsOf it r := by
  unfold refsOf refOf
  split
  · exact itemRVs_cons t r
  · rfl
theorem refsOf_nil (it : Bool) : refsOf it [] = [] := by cases it <;> simp [refsOf, itemRVs, valRVs]
theorem meas_step (vals it : Bool) (t : Tree) (hv : it = !vals) (r : List RV) (left nest size depth : Int) : measAll vals (refOf it t :: r) left nest size depth =
    if (measR (refOf it t) (left - size) (nest + 1)).2.2 = true then measAll vals r left nest (size + (measR (refOf it t) (left - size) (nest + 1)).1) (max depth (measR (refOf it t) (left - size) (nest + 1)).2.1) else (0, 0, false) := by
  rw [measAll, if_neg]
  subst hv
  cases vals with
  | false => simp
  | true => simp [refOf, valRV_kind]
mutual
theorem meas_fw : ∀ (it : Bool) (t : Tree) (left nest : Int), (measR (refOf it t) left nest).2.2 = true → measT it t left nest = some ((measR (refOf it t) left nest).2.1, left - (measR (refOf it t) left nest).1) := by
  intro it t left nest h
  cases t with
  | call s =>
    cases it with
    | false =>
      rw [show refOf false (.call s) = .mk 8 0 [] [] by simp [refOf, valRV]] at h
      rw [measR] at h
      simp at h
    | true =>
      rw [refOf_call, measR] at h ⊢
      simp only [show ¬ ((7 : Int) = 1) by decide, show ¬ ((7 : Int) = 2) by decide, show ¬ ((7 : Int) = 3) by decide, show ¬ ((7 : Int) = 6) by decide, if_false, if_true] at h ⊢
      split at h
      · simp at h
      · rename_i h0
        rw [if_neg h0, measT, if_pos ⟨rfl, by omega, h⟩]
  | none => rw [refOf_val rfl, valRV, measR] at h; simp at h
  | odd u v => rw [refOf_val rfl, valRV, measR] at h; simp at h
  | int n =>
    rw [refOf_val rfl, valRV, measR] at h ⊢
    simp only [if_true] at h ⊢
    split at h
    · simp at h
    · rename_i h0
      rw [if_neg h0, measT, if_neg h0, if_pos h]
  | str s =>
    rw [refOf_val rfl, valRV, measR] at h ⊢
    simp only [show ¬ ((2 : Int) = 1) by decide, if_false, if_true] at h ⊢
    split at h
    · simp at h
    · rename_i h0
      rw [faultV_none] at h
      simp only [Bool.and_eq_true, decide_eq_true_eq] at h
      rw [if_neg h0, measT, if_neg h0, if_pos h]
  | bool b =>
    rw [refOf_val rfl, valRV, measR] at h ⊢
    simp only [show ¬ ((3 : Int) = 1) by decide, show ¬ ((3 : Int) = 2) by decide, if_false, if_true] at h ⊢
    split at h
    · simp at h
    · rename_i h0
      rw [if_neg h0, measT, if_neg h0]
  | box n =>
    rw [refOf_val rfl, valRV, measR] at h ⊢
    simp only [show ¬ ((6 : Int) = 1) by decide, show ¬ ((6 : Int) = 2) by decide, show ¬ ((6 : Int) = 3) by decide, if_false, if_true] at h ⊢
    split at h
    · simp at h
    · rename_i h0
      simp only [Bool.and_eq_true, decide_eq_true_eq] at h
      rw [if_neg h0, measT, if_neg h0, if_pos h]
  | list l =>
    rw [refOf_val rfl, valRV, measR] at h ⊢
    simp only [show ¬ ((4 : Int) = 1) by decide, show ¬ ((4 : Int) = 2) by decide, show ¬ ((4 : Int) = 3) by decide, show ¬ ((4 : Int) = 6) by decide, show ¬ ((4 : Int) = 7) by decide, true_or, if_false, if_true, decide_true] at h ⊢
    split at h
    · simp at h
    · rename_i h0
      rw [if_neg h0, measT, if_neg h0]
      exact meass_fw true false rfl l left nest 1 0 (by omega) (by omega) h
  | quot l =>
    rw [refOf_val rfl, valRV, measR] at h ⊢
    simp only [show ¬ ((5 : Int) = 1) by decide, show ¬ ((5 : Int) = 2) by decide, show ¬ ((5 : Int) = 3) by decide, show ¬ ((5 : Int) = 6) by decide, show ¬ ((5 : Int) = 7) by decide, or_true, if_false, if_true, show decide ((5 : Int) = 4) = false by decide] at h ⊢
    split at h
    · simp at h
    · rename_i h0
      rw [if_neg h0, measT, if_neg h0]
      exact meass_fw false true rfl l left nest 1 0 (by omega) (by omega) h
theorem meass_fw : ∀ (vals it : Bool) (_ : it = !vals) (l : List Tree) (left nest size depth : Int), 0 ≤ size → 0 ≤ depth → (measAll vals (refsOf it l) left nest size depth).2.2 = true →
    measTs it l (left - size) nest depth = some ((measAll vals (refsOf it l) left nest size depth).2.1, left - (measAll vals (refsOf it l) left nest size depth).1)
  | vals, it, hv, [], left, nest, size, depth, hs, hd, h => by
    rw [refsOf_nil, measAll] at h ⊢
    simp only [decide_eq_true_eq] at h
    rw [measTs, if_pos h]
  | vals, it, hv, t :: r, left, nest, size, depth, hs, hd, h => by
    rw [refsOf_cons, meas_step vals it t hv] at h ⊢
    split at h
    · rename_i h2
      rw [if_pos h2, measTs, meas_fw it t (left - size) (nest + 1) h2]
      have hle := measR_le (refOf it t) (left - size) (nest + 1) h2
      dsimp only
      have := meass_fw vals it hv r left nest _ _ (by omega) (by omega) h
      rw [← this]
      congr 1; omega
    · simp at h
end
theorem measTs_depth : ∀ (it : Bool) (l : List Tree) (left nest depth d l' : Int), measTs it l left nest depth = some (d, l') → depth + 1 ≤ d
  | it, [], left, nest, depth, d, l', h => by
    rw [measTs] at h
    split at h
    · simp only [Option.some.injEq, Prod.mk.injEq] at h; omega
    · cases h
  | it, t :: r, left, nest, depth, d, l', h => by
    rw [measTs] at h
    split at h
    · have := measTs_depth it r _ nest _ d l' h
      omega
    · cases h
mutual
theorem meas_bw : ∀ (it : Bool) (t : Tree) (left nest d l' : Int), measT it t left nest = some (d, l') → d + nest ≤ 32 → measR (refOf it t) left nest = (left - l', d, true) := by
  intro it t left nest d l' h hd
  cases t with
  | call s =>
    rw [measT] at h
    split at h
    · rename_i h0
      obtain ⟨rfl, h1, h2⟩ := h0
      simp only [Option.some.injEq, Prod.mk.injEq] at h
      rw [refOf_call, measR, if_neg (by omega)]
      simp only [show ¬ ((7 : Int) = 1) by decide, show ¬ ((7 : Int) = 2) by decide, show ¬ ((7 : Int) = 3) by decide, show ¬ ((7 : Int) = 6) by decide, if_false, if_true]
      refine Prod.ext (by dsimp only; omega) (Prod.ext (by dsimp only; omega) h2)
    · cases h
  | none => rw [measT] at h; cases h
  | odd u v => rw [measT] at h; cases h
  | int n =>
    rw [measT] at h
    repeat' split at h
    · cases h
    · rename_i h0 h1
      simp only [Option.some.injEq, Prod.mk.injEq] at h
      rw [refOf_val rfl, valRV, measR, if_neg h0]
      simp only [if_true]
      refine Prod.ext (by dsimp only; omega) (Prod.ext (by dsimp only; omega) h1)
    · cases h
  | str s =>
    rw [measT] at h
    repeat' split at h
    · cases h
    · rename_i h0 h1
      simp only [Option.some.injEq, Prod.mk.injEq] at h
      rw [refOf_val rfl, valRV, measR, if_neg h0]
      simp only [show ¬ ((2 : Int) = 1) by decide, if_false, if_true]
      refine Prod.ext (by dsimp only; omega) (Prod.ext (by dsimp only; omega) ?_)
      rw [faultV_none]; simp [h1]
    · cases h
  | bool b =>
    rw [measT] at h
    repeat' split at h
    · cases h
    · rename_i h0
      simp only [Option.some.injEq, Prod.mk.injEq] at h
      rw [refOf_val rfl, valRV, measR, if_neg h0]
      simp only [show ¬ ((3 : Int) = 1) by decide, show ¬ ((3 : Int) = 2) by decide, if_false, if_true]
      refine Prod.ext (by dsimp only; omega) (Prod.ext (by dsimp only; omega) rfl)
  | box n =>
    rw [measT] at h
    repeat' split at h
    · cases h
    · rename_i h0 h1
      simp only [Option.some.injEq, Prod.mk.injEq] at h
      rw [refOf_val rfl, valRV, measR, if_neg h0]
      simp only [show ¬ ((6 : Int) = 1) by decide, show ¬ ((6 : Int) = 2) by decide, show ¬ ((6 : Int) = 3) by decide, if_false, if_true]
      refine Prod.ext (by dsimp only; omega) (Prod.ext (by dsimp only; omega) ?_)
      simp [h1]
    · cases h
  | list l =>
    rw [measT] at h
    split at h
    · cases h
    · rename_i h0
      rw [refOf_val rfl, valRV, measR, if_neg h0]
      simp only [show ¬ ((4 : Int) = 1) by decide, show ¬ ((4 : Int) = 2) by decide, show ¬ ((4 : Int) = 3) by decide, show ¬ ((4 : Int) = 6) by decide, show ¬ ((4 : Int) = 7) by decide, true_or, if_false, if_true, decide_true]
      exact meass_bw true false rfl l left nest 1 0 d l' (by omega) h hd
  | quot l =>
    rw [measT] at h
    split at h
    · cases h
    · rename_i h0
      rw [refOf_val rfl, valRV, measR, if_neg h0]
      simp only [show ¬ ((5 : Int) = 1) by decide, show ¬ ((5 : Int) = 2) by decide, show ¬ ((5 : Int) = 3) by decide, show ¬ ((5 : Int) = 6) by decide, show ¬ ((5 : Int) = 7) by decide, or_true, if_false, if_true, show decide ((5 : Int) = 4) = false by decide]
      exact meass_bw false true rfl l left nest 1 0 d l' (by omega) h hd
theorem meass_bw : ∀ (vals it : Bool) (_ : it = !vals) (l : List Tree) (left nest size depth d l' : Int), 0 ≤ depth → measTs it l (left - size) nest depth = some (d, l') → d + nest ≤ 32 →
    measAll vals (refsOf it l) left nest size depth = (left - l', d, true)
  | vals, it, hv, [], left, nest, size, depth, d, l', hp, h, hd => by
    rw [measTs] at h
    split at h
    · rename_i h1
      simp only [Option.some.injEq, Prod.mk.injEq] at h
      rw [refsOf_nil, measAll]
      refine Prod.ext (by dsimp only; omega) (Prod.ext (by dsimp only; omega) (decide_eq_true h1))
    · cases h
  | vals, it, hv, t :: r, left, nest, size, depth, d, l', hp, h, hd => by
    rw [measTs] at h
    split at h
    · rename_i d1 l1 e
      have hdp := measTs_depth it r _ nest _ d l' h
      have e1 := meas_bw it t (left - size) (nest + 1) d1 l1 e (by omega)
      rw [refsOf_cons, meas_step vals it t hv, e1, if_pos rfl]
      dsimp only
      exact meass_bw vals it hv r left nest _ _ d l' (by omega) (by rw [← h]; congr 1; omega) hd
    · cases h
end
/-- From the outside, both are the same. -/
theorem meas_top (t : Tree) : (measT false t 1024 0).isSome = (measR (valRV t) 1024 0).2.2 := by
  rw [Bool.eq_iff_iff]
  constructor
  · intro h
    obtain ⟨⟨d, l'⟩, e⟩ := Option.isSome_iff_exists.1 h
    have := measT_le false t 1024 0 d l' e
    have e2 := meas_bw false t 1024 0 d l' e (by omega)
    rw [show refOf false t = valRV t from rfl] at e2
    rw [e2]
  · intro h
    have := meas_fw false t 1024 0 (by rw [show refOf false t = valRV t from rfl]; exact h)
    rw [this]; rfl
end Go.Proofs.YtliabblchkgclaaGreatDoor

namespace Go.Proofs.YtliabblchkgclaaGreatDoor
open Go Go.Av
mutual
/-- Neither nil nor another dynamic type; calls among items alone. -/
def Tree.full (it : Bool) : Tree → Bool
  | .none => false
  | .odd _ _ => false
  | .call _ => it
  | .list l => fullAll false l
  | .quot l => fullAll true l
  | .int _ => true
  | .str _ => true
  | .bool _ => true
  | .box _ => true
def fullAll (it : Bool) : List Tree → Bool
  | [] => true
  | t :: r => t.full it && fullAll it r
end
theorem fullAll_at : ∀ {it : Bool} {l : List Tree} {i : Nat} {t : Tree}, fullAll it l = true → l[i]? = some t → t.full it = true
  | _, [], _, _, _, h => by simp at h
  | _, x :: l, 0, t, hc, h => by simp at h; subst h; simp [fullAll] at hc; exact hc.1
  | _, x :: l, i + 1, t, hc, h => by simp [fullAll] at hc; exact fullAll_at hc.2 (by simpa using h)
mutual
theorem meas_full : ∀ (it : Bool) (t : Tree) (left nest : Int), (measT it t left nest).isSome = true → t.full it = true := by
  intro it t left nest h
  cases t with
  | none => rw [measT] at h; cases h
  | odd u v => rw [measT] at h; cases h
  | call s =>
    rw [measT] at h
    split at h
    · rename_i h0; rw [Tree.full]; exact h0.1
    · cases h
  | list l =>
    rw [measT] at h
    split at h
    · cases h
    · rw [Tree.full]; exact meass_full false l _ _ _ h
  | quot l =>
    rw [measT] at h
    split at h
    · cases h
    · rw [Tree.full]; exact meass_full true l _ _ _ h
  | _ => rw [Tree.full]
theorem meass_full : ∀ (it : Bool) (l : List Tree) (left nest depth : Int), (measTs it l left nest depth).isSome = true → fullAll it l = true
  | it, [], _, _, _, _ => by rw [fullAll]
  | it, t :: r, left, nest, depth, h => by
    rw [measTs] at h
    split at h
    · rename_i d l' e
      rw [fullAll, meas_full it t left (nest + 1) (by rw [e]; rfl), meass_full it r _ _ _ h]; rfl
    · cases h
end

theorem f_EqFuncV (a b : List Tree) (h : ∀ (i : Nat) t u, a[i]? = some t → b[i]? = some u → Av.Fn Tryz.prog 53 [valAV t, valAV u] (.bool (sameV (valRV t) (valRV u)))) (ha : a.length ≤ 2513169434916) (hb : b.length ≤ 2513169434916) :
    Av.Fn Tryz.prog 76 [.fz (valAVs a) a.length false, .fz (valAVs b) b.length false, .fn (.func 53) [] []] (.bool (sameVs (valRVs a) (valRVs b))) := by
  refine ACalls.of_W tb_ok (fn := Tryz.f76) (n := 32) (by kernel_rfl) rfl (by kernel_rfl) rfl rfl (by simp) (go ?_)
  refine fork (fun hne => go ?_) (fun hne => go ?_)
  · refine VRet.mk [] .nil ?_
    refine ⟨?_, rfl⟩
    cases e : sameVs (valRVs a) (valRVs b) with
    | true => exact absurd (by have := sameVs_length e; simp at this; rw [this]) hne
    | false => rfl
  · have hne : a.length = b.length := by omega
    refine VLoop.mk [17] Nat (fun i => [.int .i64 i]) (fun _ => []) (fun i => i ≤ a.length ∧ sameVs (valRVs a) (valRVs b) = sameVs (valRVs (a.drop i)) (valRVs (b.drop i))) (fun i => a.length - i) 0 ?_ ?_
    · exact ⟨⟨by omega, by simp⟩, rfl, .nil⟩
    intro i ⟨hi, hI⟩
    refine go ?_
    refine fork (fun hlt => go ?_) (fun hlt => go ?_)
    · have hlt : i < a.length := by omega
      obtain ⟨x, hx⟩ : ∃ x, a[i]? = some x := ⟨a[i], by simp [hlt]⟩
      obtain ⟨y, hy⟩ : ∃ y, b[i]? = some y := ⟨b[i]'(by omega), by simp [hne ▸ hlt]⟩
      have hda : a.drop i = x :: a.drop (i + 1) := by rw [List.drop_eq_getElem_cons hlt]; congr 1; rw [List.getElem?_eq_getElem hlt] at hx; exact Option.some.inj hx
      have hdb : b.drop i = y :: b.drop (i + 1) := by rw [List.drop_eq_getElem_cons (hne ▸ hlt)]; congr 1; rw [List.getElem?_eq_getElem (hne ▸ hlt)] at hy; exact Option.some.inj hy
      rw [hda, hdb, valRVs, valRVs, sameVs] at hI
      have hxy := h i x y hx hy
      refine VNth.mk (valAV x) (by simp [mulN_eq, valAVs_map, hx]) (go ?_)
      refine VNth.mk (valAV y) (by simp [mulN_eq, valAVs_map, hy]) (go ?_)
      refine Fn.use (hxy) (go ?_)
      generalize sameV (valRV x) (valRV y) = q at hI
      cases q with
      | true =>
        refine go ?_
        exact ⟨i + 1, ⟨by omega, by rw [hI, Bool.true_and]⟩, by omega, rfl, .nil⟩
      | false =>
        refine go ?_
        refine VRet.mk [] .nil ?_
        rw [hI]; exact ⟨rfl, rfl⟩
    · rw [List.drop_eq_nil_of_le (by omega), List.drop_eq_nil_of_le (by omega)] at hI
      refine VRet.mk [] .nil ?_
      rw [hI]; exact ⟨by simp [valRVs, sameVs], rfl⟩
theorem f_EqFuncI (a b : List Tree) (h : ∀ (i : Nat) t u, a[i]? = some t → b[i]? = some u → Av.Fn Tryz.prog 99 [itemAV t, itemAV u] (.bool (sameV (itemRV t) (itemRV u)))) (ha : a.length ≤ 2513169434916) (hb : b.length ≤ 2513169434916) :
    Av.Fn Tryz.prog 98 [.fz (itemAVs a) a.length false, .fz (itemAVs b) b.length false, .fn (.func 99) [] []] (.bool (sameVs (itemRVs a) (itemRVs b))) := by
  refine ACalls.of_W tb_ok (fn := Tryz.f98) (n := 32) (by kernel_rfl) rfl (by kernel_rfl) rfl rfl (by simp) (go ?_)
  refine fork (fun hne => go ?_) (fun hne => go ?_)
  · refine VRet.mk [] .nil ?_
    refine ⟨?_, rfl⟩
    cases e : sameVs (itemRVs a) (itemRVs b) with
    | true => exact absurd (by have := sameVs_length e; simp at this; rw [this]) hne
    | false => rfl
  · have hne : a.length = b.length := by omega
    refine VLoop.mk [17] Nat (fun i => [.int .i64 i]) (fun _ => []) (fun i => i ≤ a.length ∧ sameVs (itemRVs a) (itemRVs b) = sameVs (itemRVs (a.drop i)) (itemRVs (b.drop i))) (fun i => a.length - i) 0 ?_ ?_
    · exact ⟨⟨by omega, by simp⟩, rfl, .nil⟩
    intro i ⟨hi, hI⟩
    refine go ?_
    refine fork (fun hlt => go ?_) (fun hlt => go ?_)
    · have hlt : i < a.length := by omega
      obtain ⟨x, hx⟩ : ∃ x, a[i]? = some x := ⟨a[i], by simp [hlt]⟩
      obtain ⟨y, hy⟩ : ∃ y, b[i]? = some y := ⟨b[i]'(by omega), by simp [hne ▸ hlt]⟩
      have hda : a.drop i = x :: a.drop (i + 1) := by rw [List.drop_eq_getElem_cons hlt]; congr 1; rw [List.getElem?_eq_getElem hlt] at hx; exact Option.some.inj hx
      have hdb : b.drop i = y :: b.drop (i + 1) := by rw [List.drop_eq_getElem_cons (hne ▸ hlt)]; congr 1; rw [List.getElem?_eq_getElem (hne ▸ hlt)] at hy; exact Option.some.inj hy
      rw [hda, hdb, itemRVs_cons, itemRVs_cons, sameVs] at hI
      have hxy := h i x y hx hy
      refine VNth.mk (itemAV x) (by simp [mulN_eq, itemAVs_map, hx]) (go ?_)
      refine VNth.mk (itemAV y) (by simp [mulN_eq, itemAVs_map, hy]) (go ?_)
      refine Fn.use (hxy) (go ?_)
      generalize sameV (itemRV x) (itemRV y) = q at hI
      cases q with
      | true =>
        refine go ?_
        exact ⟨i + 1, ⟨by omega, by rw [hI, Bool.true_and]⟩, by omega, rfl, .nil⟩
      | false =>
        refine go ?_
        refine VRet.mk [] .nil ?_
        rw [hI]; exact ⟨rfl, rfl⟩
    · rw [List.drop_eq_nil_of_le (by omega), List.drop_eq_nil_of_le (by omega)] at hI
      refine VRet.mk [] .nil ?_
      rw [hI]; exact ⟨by simp [itemRVs, sameVs], rfl⟩
theorem sameV_leaf (k n : Int) (s : List UInt8) (k' n' : Int) (s' : List UInt8) (l' : List RV) (h : k ≠ k') : sameV (.mk k n s []) (.mk k' n' s' l') = false := by
  rw [sameV, decide_eq_false h]; rfl
/-- A leaf and what it is compared with. -/
def Tree.leaf : Tree → Bool
  | .int _ => true
  | .str _ => true
  | .bool _ => true
  | .box _ => true
  | _ => false
set_option maxHeartbeats 2000000 in
theorem f_SameLeaf (t u : Tree) (ht : t.leaf = true) (hu : u.full false = true) : Av.Fn Tryz.prog 53 [valAV t, valAV u] (.bool (sameV (valRV t) (valRV u))) := by
  cases t <;> first | (simp [Tree.leaf] at ht; done) | skip
  all_goals cases u <;> first | (simp [Tree.full] at hu; done) | skip
  all_goals
    rw [valAV, valAV]
    refine ACalls.of_W tb_ok (fn := Tryz.f53) (n := 55) (by kernel_rfl) rfl (by kernel_rfl) rfl rfl (by simp) (go ?_)
    refine VRet.mk [] .nil ⟨congrArg (fun b => AOut.ret (.bool b)) ?_, rfl⟩
    first
    | (simp [valRV, sameV, leafSame, sameVs]; done)
    | (rename_i b1 b2; cases b1 <;> cases b2 <;> rfl)
theorem f_SameList (a b : List Tree) (h : Av.Fn Tryz.prog 76 [.fz (valAVs a) a.length false, .fz (valAVs b) b.length false, .fn (.func 53) [] []] (.bool (sameVs (valRVs a) (valRVs b)))) :
    Av.Fn Tryz.prog 53 [valAV (.list a), valAV (.list b)] (.bool (sameV (valRV (.list a)) (valRV (.list b)))) := by
  rw [valAV, valAV]
  refine ACalls.of_W tb_ok (fn := Tryz.f53) (n := 55) (by kernel_rfl) rfl (by kernel_rfl) rfl rfl (by simp) (go ?_)
  refine VAll.mk (fun b1 => go ?_)
  refine VAll.mk (fun b2 => go ?_)
  refine Fn.use (h) (go ?_)
  refine VRet.mk [] .nil ⟨congrArg (fun b => AOut.ret (.bool b)) ?_, rfl⟩
  simp only [valRV, sameV, leafSame, decide_true, Bool.true_and]
  cases e : sameVs (valRVs a) (valRVs b) with
  | true => have := sameVs_length e; simp at this; simp [this]
  | false => simp
theorem f_SameQuot (a b : List Tree) (h : Av.Fn Tryz.prog 77 [.fz (itemAVs a) a.length false, .fz (itemAVs b) b.length false] (.bool (sameVs (itemRVs a) (itemRVs b)))) :
    Av.Fn Tryz.prog 53 [valAV (.quot a), valAV (.quot b)] (.bool (sameV (valRV (.quot a)) (valRV (.quot b)))) := by
  rw [valAV, valAV]
  refine ACalls.of_W tb_ok (fn := Tryz.f53) (n := 55) (by kernel_rfl) rfl (by kernel_rfl) rfl rfl (by simp) (go ?_)
  refine VAll.mk (fun b1 => go ?_)
  refine VAll.mk (fun b2 => go ?_)
  refine Fn.use (h) (go ?_)
  refine VRet.mk [] .nil ⟨congrArg (fun b => AOut.ret (.bool b)) ?_, rfl⟩
  simp only [valRV, sameV, leafSame, decide_true, Bool.true_and]
  cases e : sameVs (itemRVs a) (itemRVs b) with
  | true => have := sameVs_length e; simp at this; simp [this]
  | false => simp
theorem f_SameOdd (t u : Tree) (ht : t.leaf = false) (hft : t.full false = true) (hu : u.full false = true) (h4 : ∀ a b, t = .list a → u = .list b → False) (h5 : ∀ a b, t = .quot a → u = .quot b → False) : Av.Fn Tryz.prog 53 [valAV t, valAV u] (.bool (sameV (valRV t) (valRV u))) := by
  cases t <;> first | (simp [Tree.leaf] at ht; done) | (simp [Tree.full] at hft; done) | skip
  all_goals cases u <;> first | (simp [Tree.full] at hu; done) | exact (h4 _ _ rfl rfl).elim | exact (h5 _ _ rfl rfl).elim | skip
  all_goals
    rw [valAV, valAV]
    refine ACalls.of_W tb_ok (fn := Tryz.f53) (n := 55) (by kernel_rfl) rfl (by kernel_rfl) rfl rfl (by simp) (go ?_)
    refine VAll.mk (fun b1 => go ?_)
    refine VAll.mk (fun b2 => go ?_)
    refine VRet.mk [] .nil ⟨congrArg (fun b => AOut.ret (.bool b)) ?_, rfl⟩
    simp [valRV, sameV]
theorem f_SameItems (a b : List Tree) (h : Av.Fn Tryz.prog 98 [.fz (itemAVs a) a.length false, .fz (itemAVs b) b.length false, .fn (.func 99) [] []] (.bool (sameVs (itemRVs a) (itemRVs b)))) :
    Av.Fn Tryz.prog 77 [.fz (itemAVs a) a.length false, .fz (itemAVs b) b.length false] (.bool (sameVs (itemRVs a) (itemRVs b))) := by
  refine ACalls.of_W tb_ok (fn := Tryz.f77) (n := 8) (by kernel_rfl) rfl (by kernel_rfl) rfl rfl (by simp) (go ?_)
  refine Fn.use (h) (go ?_)
  refine VRet.mk [] .nil ?_
  exact ⟨rfl, rfl⟩
theorem item_push {t : Tree} (hc : t.isCall = false) (hf : t.full true = true) : itemAV t = .iface 138 (.agg [valAV t]) := by
  cases t <;> first | rfl | (simp [Tree.isCall] at hc; done) | (simp [Tree.full] at hf; done)
theorem full_val {t : Tree} (hc : t.isCall = false) (hf : t.full true = true) : t.full false = true := by
  cases t <;> first | exact hf | (simp [Tree.isCall] at hc; done) | (simp [Tree.full] at hf; done)
theorem f_SameItem (t u : Tree) (ht : t.full true = true) (hu : u.full true = true) (h : t.isCall = false → u.isCall = false → Av.Fn Tryz.prog 53 [valAV t, valAV u] (.bool (sameV (valRV t) (valRV u)))) :
    Av.Fn Tryz.prog 99 [itemAV t, itemAV u] (.bool (sameV (itemRV t) (itemRV u))) := by
  cases hct : t.isCall with
  | true =>
    obtain ⟨s, rfl⟩ : ∃ s, t = .call s := by cases t <;> first | exact ⟨_, rfl⟩ | (simp [Tree.isCall] at hct; done)
    cases hcu : u.isCall with
    | true =>
      obtain ⟨s', rfl⟩ : ∃ s, u = .call s := by cases u <;> first | exact ⟨_, rfl⟩ | (simp [Tree.isCall] at hcu; done)
      rw [itemAV, itemAV]
      refine ACalls.of_W tb_ok (fn := Tryz.f99) (n := 31) (by kernel_rfl) rfl (by kernel_rfl) rfl rfl (by simp) (go ?_)
      refine VAll.mk (fun b1 => go ?_)
      refine VAll.mk (fun b2 => go ?_)
      refine VRet.mk [] .nil ⟨congrArg (fun b => AOut.ret (.bool b)) ?_, rfl⟩
      simp [itemRV, sameV, leafSame, sameVs]
    | false =>
      rw [item_push hcu hu, itemAV]
      have ho := valAV_one' u
      have hk := valRV_kind u
      rw [item_val hcu]
      generalize valAV u = y at ho ⊢
      refine ACalls.of_W tb_ok (fn := Tryz.f99) (n := 31) (by kernel_rfl) rfl (by kernel_rfl) rfl rfl (by simp) (go ?_)
      refine VAll.mk (fun b1 => go ?_)
      refine VAll.mk (fun b2 => go ?_)
      refine VRet.mk [] .nil ⟨congrArg (fun b => AOut.ret (.bool b)) ?_, rfl⟩
      generalize valRV u = z at hk ⊢
      obtain ⟨k, n, s', l⟩ := z
      exact (sameV_leaf _ _ _ _ _ _ _ (fun e => hk e.symm)).symm
  | false =>
    rw [item_push hct ht]
    have ho := valAV_one' t
    cases hcu : u.isCall with
    | true =>
      obtain ⟨s', rfl⟩ : ∃ s, u = .call s := by cases u <;> first | exact ⟨_, rfl⟩ | (simp [Tree.isCall] at hcu; done)
      rw [itemAV]
      have hk := valRV_kind t
      rw [item_val hct]
      generalize valAV t = y at ho ⊢
      refine ACalls.of_W tb_ok (fn := Tryz.f99) (n := 31) (by kernel_rfl) rfl (by kernel_rfl) rfl rfl (by simp) (go ?_)
      refine VAll.mk (fun b1 => go ?_)
      refine VAll.mk (fun b2 => go ?_)
      refine VRet.mk [] .nil ⟨congrArg (fun b => AOut.ret (.bool b)) ?_, rfl⟩
      generalize valRV t = z at hk ⊢
      obtain ⟨k, n, s, l⟩ := z
      show false = sameV (.mk k n s l) (.mk 7 0 s' [])
      have hk : k ≠ 7 := hk
      rw [sameV, decide_eq_false hk]; rfl
    | false =>
      rw [item_push hcu hu, item_val hct, item_val hcu]
      have hh := h hct hcu
      have ho' := valAV_one' u
      generalize valAV t = x at ho hh ⊢
      generalize valAV u = y at ho' hh ⊢
      refine ACalls.of_W tb_ok (fn := Tryz.f99) (n := 31) (by kernel_rfl) rfl (by kernel_rfl) rfl rfl (by simp) (go ?_)
      refine VAll.mk (fun b1 => go ?_)
      refine VAll.mk (fun b2 => go ?_)
      refine Fn.use (hh) (go ?_)
      refine VRet.mk [] .nil ?_
      exact ⟨rfl, rfl⟩
theorem f_tSame' (n : Nat) : ∀ t u : Tree, t.depth ≤ n → t.clean = true → u.clean = true → t.full false = true → u.full false = true → Av.Fn Tryz.prog 53 [valAV t, valAV u] (.bool (sameV (valRV t) (valRV u))) := by
  induction n with
  | zero =>
    intro t u hd hct hcu ht hu
    cases hl : t.leaf with
    | true => exact f_SameLeaf t u hl hu
    | false => refine f_SameOdd t u hl ht hu ?_ ?_ <;> (rintro a b rfl _; rw [Tree.depth] at hd; omega)
  | succ n ih =>
    intro t u hd hct hcu ht hu
    cases hl : t.leaf with
    | true => exact f_SameLeaf t u hl hu
    | false =>
      by_cases h4 : ∃ a b, t = .list a ∧ u = .list b
      · obtain ⟨a, b, rfl, rfl⟩ := h4
        rw [Tree.depth] at hd
        simp only [Tree.clean, Bool.and_eq_true, decide_eq_true_eq] at hct hcu
        rw [Tree.full] at ht hu
        exact f_SameList a b (f_EqFuncV a b (fun i x y hx hy => ih x y (by have := depthAll_at hx; omega) (cleanAll_at hct.2 hx) (cleanAll_at hcu.2 hy) (fullAll_at ht hx) (fullAll_at hu hy)) hct.1 hcu.1)
      by_cases h5 : ∃ a b, t = .quot a ∧ u = .quot b
      · obtain ⟨a, b, rfl, rfl⟩ := h5
        rw [Tree.depth] at hd
        simp only [Tree.clean, Bool.and_eq_true, decide_eq_true_eq] at hct hcu
        rw [Tree.full] at ht hu
        exact f_SameQuot a b (f_SameItems a b (f_EqFuncI a b (fun i x y hx hy => f_SameItem x y (fullAll_at ht hx) (fullAll_at hu hy) fun c1 c2 =>
          ih x y (by have := depthAll_at hx; omega) (cleanAll_at hct.2 hx) (cleanAll_at hcu.2 hy) (full_val c1 (fullAll_at ht hx)) (full_val c2 (fullAll_at hu hy))) hct.1 hcu.1))
      exact f_SameOdd t u hl ht hu (fun a b e1 e2 => h4 ⟨a, b, e1, e2⟩) (fun a b e1 e2 => h5 ⟨a, b, e1, e2⟩)
theorem f_tSame {t u : Tree} (hct : t.clean = true) (hcu : u.clean = true) (ht : t.full false = true) (hu : u.full false = true) : Av.Fn Tryz.prog 53 [valAV t, valAV u] (.bool (sameV (valRV t) (valRV u))) := f_tSame' t.depth t u (Nat.le_refl _) hct hcu ht hu
end Go.Proofs.YtliabblchkgclaaGreatDoor

namespace Go.Proofs.YtliabblchkgclaaGreatDoor
open Go Go.Av
/-- The table of the primitives: its text. -/
def tableT : List UInt8 := [49, 50, 58, 100, 117, 112, 32, 49, 48, 58, 100, 114, 111, 112, 32, 50, 50, 58, 115, 119, 97, 112, 32, 50, 51, 58, 111, 118, 101, 114, 32, 51, 51, 58, 114, 111, 116, 32, 50, 49, 58, 110, 105, 112, 32, 50, 51, 58, 116, 117, 99, 107, 32, 50, 49, 58, 43, 32, 50, 49, 58, 45, 32, 50, 49, 58, 42, 32, 50, 49, 58, 47, 32, 50, 49, 58, 109, 111, 100, 32, 49, 49, 58, 110, 101, 103, 32, 49, 49, 58, 97, 98, 115, 32, 50, 49, 58, 109, 105, 110, 32, 50, 49, 58, 109, 97, 120, 32, 50, 49, 58, 60, 32, 50, 49, 58, 62, 32, 50, 49, 58, 61, 32, 50, 49, 58, 97, 110, 100, 32, 50, 49, 58, 111, 114, 32, 49, 49, 58, 110, 111, 116, 32, 49, 49, 58, 105, 110, 116, 63, 32, 49, 49, 58, 115, 116, 114, 63, 32, 49, 49, 58, 98, 111, 111, 108, 63, 32, 49, 49, 58, 108, 105, 115, 116, 63, 32, 49, 49, 58, 113, 117, 111, 116, 63, 32, 49, 49, 58, 98, 111, 120, 63, 32, 49, 49, 58, 108, 101, 110, 103, 116, 104, 32, 50, 49, 58, 97, 112, 112, 101, 110, 100, 32, 50, 49, 58, 110, 116, 104, 32, 51, 49, 58, 115, 108, 105, 99, 101, 32, 49, 49, 58, 119, 114, 97, 112, 32, 50, 49, 58, 112, 97, 105, 114, 32, 49, 50, 58, 117, 110, 112, 97, 105, 114, 32, 49, 49, 58, 114, 101, 118, 101, 114, 115, 101, 32, 50, 49, 58, 99, 117, 114, 114, 121, 32, 50, 49, 58, 99, 111, 109, 112, 111, 115, 101, 32, 49, 49, 58, 62, 115, 116, 114, 32, 49, 49, 58, 62, 105, 110, 116, 32, 99, 97, 108, 108, 32, 100, 105, 112, 32, 107, 101, 101, 112, 32, 105, 102, 32, 119, 104, 101, 110, 32, 116, 105, 109, 101, 115, 32, 101, 97, 99, 104, 32, 108, 111, 111, 112, 32, 49, 49, 58, 98, 111, 120, 32, 49, 49, 58, 103, 101, 116, 32, 50, 48, 58, 112, 117, 116, 32, 49, 48, 58, 46]
/-- A name with its effect, if it has one of its own. -/
structure PrimE where
  name : List UInt8
  eff : Option (Nat × Nat)
/-- The primitives in order. -/
def primsL : List PrimE := [⟨[100, 117, 112], some (1, 2)⟩,
  ⟨[100, 114, 111, 112], some (1, 0)⟩,
  ⟨[115, 119, 97, 112], some (2, 2)⟩,
  ⟨[111, 118, 101, 114], some (2, 3)⟩,
  ⟨[114, 111, 116], some (3, 3)⟩,
  ⟨[110, 105, 112], some (2, 1)⟩,
  ⟨[116, 117, 99, 107], some (2, 3)⟩,
  ⟨[43], some (2, 1)⟩,
  ⟨[45], some (2, 1)⟩,
  ⟨[42], some (2, 1)⟩,
  ⟨[47], some (2, 1)⟩,
  ⟨[109, 111, 100], some (2, 1)⟩,
  ⟨[110, 101, 103], some (1, 1)⟩,
  ⟨[97, 98, 115], some (1, 1)⟩,
  ⟨[109, 105, 110], some (2, 1)⟩,
  ⟨[109, 97, 120], some (2, 1)⟩,
  ⟨[60], some (2, 1)⟩,
  ⟨[62], some (2, 1)⟩,
  ⟨[61], some (2, 1)⟩,
  ⟨[97, 110, 100], some (2, 1)⟩,
  ⟨[111, 114], some (2, 1)⟩,
  ⟨[110, 111, 116], some (1, 1)⟩,
  ⟨[105, 110, 116, 63], some (1, 1)⟩,
  ⟨[115, 116, 114, 63], some (1, 1)⟩,
  ⟨[98, 111, 111, 108, 63], some (1, 1)⟩,
  ⟨[108, 105, 115, 116, 63], some (1, 1)⟩,
  ⟨[113, 117, 111, 116, 63], some (1, 1)⟩,
  ⟨[98, 111, 120, 63], some (1, 1)⟩,
  ⟨[108, 101, 110, 103, 116, 104], some (1, 1)⟩,
  ⟨[97, 112, 112, 101, 110, 100], some (2, 1)⟩,
  ⟨[110, 116, 104], some (2, 1)⟩,
  ⟨[115, 108, 105, 99, 101], some (3, 1)⟩,
  ⟨[119, 114, 97, 112], some (1, 1)⟩,
  ⟨[112, 97, 105, 114], some (2, 1)⟩,
  ⟨[117, 110, 112, 97, 105, 114], some (1, 2)⟩,
  ⟨[114, 101, 118, 101, 114, 115, 101], some (1, 1)⟩,
  ⟨[99, 117, 114, 114, 121], some (2, 1)⟩,
  ⟨[99, 111, 109, 112, 111, 115, 101], some (2, 1)⟩,
  ⟨[62, 115, 116, 114], some (1, 1)⟩,
  ⟨[62, 105, 110, 116], some (1, 1)⟩,
  ⟨[99, 97, 108, 108], none⟩,
  ⟨[100, 105, 112], none⟩,
  ⟨[107, 101, 101, 112], none⟩,
  ⟨[105, 102], none⟩,
  ⟨[119, 104, 101, 110], none⟩,
  ⟨[116, 105, 109, 101, 115], none⟩,
  ⟨[101, 97, 99, 104], none⟩,
  ⟨[108, 111, 111, 112], none⟩,
  ⟨[98, 111, 120], some (1, 1)⟩,
  ⟨[103, 101, 116], some (1, 1)⟩,
  ⟨[112, 117, 116], some (2, 0)⟩,
  ⟨[46], some (1, 0)⟩]
def namesL : List (List UInt8) := primsL.map (·.name)
def primR (s : List UInt8) : Option (Nat × Nat) := (primsL.find? fun p => p.eff.isSome && decide (p.name = s)).bind (·.eff)
/-- The primitives that move values: which they put back, from the bottom up. -/
def moveR (s : List UInt8) : Option (Nat × List Nat) :=
  if s = [100, 117, 112] then some (1, [0, 0]) else if s = [100, 114, 111, 112] then some (1, []) else if s = [115, 119, 97, 112] then some (2, [1, 0])
  else if s = [111, 118, 101, 114] then some (2, [0, 1, 0]) else if s = [114, 111, 116] then some (3, [1, 2, 0]) else if s = [110, 105, 112] then some (2, [1])
  else if s = [116, 117, 99, 107] then some (2, [1, 0, 1]) else none
/-- What stands on the list: a quotation that is known, or none. -/
abbrev Slot := Option (List Tree)
/-- An inference: how many items may still come; how many were taken from below; the list, its top first. -/
structure EfS where
  left : Nat
  inn : Int
  stk : List Slot
def popS (s : EfS) : Slot × EfS := match s.stk with
  | [] => (none, { s with inn := s.inn + 1 })
  | x :: r => (x, { s with stk := r })
/-- So many are taken: the last taken first. -/
def popsS : Nat → EfS → List Slot × EfS
  | 0, s => ([], s)
  | n + 1, s => ((popsS n (popS s).2).1 ++ [(popS s).1], (popsS n (popS s).2).2)
def pushS (s : EfS) (x : Slot) : EfS := { s with stk := x :: s.stk }
def applyS (i o : Nat) (s : EfS) : EfS := let t := (popsS i s).2; { t with stk := List.replicate o none ++ t.stk }
def quotS (s : EfS) : Except Int (List Tree × EfS) := match popS s with
  | (some l, t) => .ok (l, t)
  | (none, _) => .error 12
def slotOf : Tree → Slot
  | .quot l => some l
  | _ => none
def movesS (n : Nat) (ks : List Nat) (s : EfS) : EfS := ks.foldl (fun t k => pushS t ((popsS n s).1.getD k none)) (popsS n s).2
/-- A quotation by itself: what it takes and leaves. -/
def ownS (run : List Tree → EfS → Except Int EfS) (q : List Tree) (s : EfS) : Except Int (Int × Int × EfS) := match run q ⟨s.left, 0, []⟩ with
  | .ok t => .ok (t.inn, (t.stk.length : Int), { s with left := t.left })
  | .error e => .error e
/-- The primitives that call quotations; none: it is none of them. -/
def controlS (run : List Tree → EfS → Except Int EfS) (name : List UInt8) (s : EfS) : Option (Except Int EfS) :=
  if name = [99, 97, 108, 108] then some (match quotS s with
    | .error e => .error e
    | .ok (q, s) => run q s)
  else if name = [100, 105, 112] then some (match quotS s with
    | .error e => .error e
    | .ok (q, s) => match run q (popS s).2 with
      | .error e => .error e
      | .ok t => .ok (pushS t (popS s).1))
  else if name = [107, 101, 101, 112] then some (match quotS s with
    | .error e => .error e
    | .ok (q, s) => match run q (pushS (popS s).2 (popS s).1) with
      | .error e => .error e
      | .ok t => .ok (pushS t (popS s).1))
  else if name = [105, 102] then some (match quotS s with
    | .error e => .error e
    | .ok (b, s) => match quotS s with
      | .error e => .error e
      | .ok (a, s) => match ownS run a (popS s).2 with
        | .error e => .error e
        | .ok (ai, ao, s) => match ownS run b s with
          | .error e => .error e
          | .ok (bi, bo, s) => if ao - ai = bo - bi then .ok (applyS (max ai bi).toNat (max ai bi + ao - ai).toNat s) else .error 12)
  else if name = [119, 104, 101, 110] ∨ name = [116, 105, 109, 101, 115] then some (match quotS s with
    | .error e => .error e
    | .ok (q, s) => match ownS run q (popS s).2 with
      | .error e => .error e
      | .ok (ai, ao, s) => if ai = ao then .ok (applyS ai.toNat ao.toNat s) else .error 12)
  else if name = [108, 111, 111, 112] then some (match quotS s with
    | .error e => .error e
    | .ok (q, s) => match ownS run q s with
      | .error e => .error e
      | .ok (ai, ao, s) => if ao = ai + 1 then .ok (applyS ai.toNat ai.toNat s) else .error 12)
  else if name = [101, 97, 99, 104] then some (match quotS s with
    | .error e => .error e
    | .ok (q, s) => match ownS run q (popS s).2 with
      | .error e => .error e
      | .ok (ai, ao, s) => if 1 ≤ ai ∧ ao = ai - 1 then .ok (applyS ao.toNat ao.toNat s) else .error 12)
  else none
/-- One item. -/
def stepS (run : List Tree → EfS → Except Int EfS) (known : List UInt8 → Option (Int × Int)) (y : Tree) (s : EfS) : Except Int EfS :=
  match y with
  | .call name => match moveR name with
    | some (k, ks) => .ok (movesS k ks s)
    | none => match controlS run name s with
      | some r => r
      | none => match primR name with
        | some (i, o) => .ok (applyS i o s)
        | none => match known name with
          | some (i, o) => .ok (applyS i.toNat o.toNat s)
          | none => .error 10
  | t => .ok (pushS s (slotOf t))
/-- Items, one after the other. -/
def runS (known : List UInt8 → Option (Int × Int)) : Nat → List Tree → EfS → Except Int EfS
  | _, [], s => .ok s
  | 0, _ :: _, _ => .error 11
  | n + 1, y :: r, s => if s.left = 0 then .error 11 else
    match stepS (fun q s => runS known n q s) known y { s with left := s.left - 1 } with
    | .error e => .error e
    | .ok t => runS known n r t
end Go.Proofs.YtliabblchkgclaaGreatDoor

namespace Go.Proofs.YtliabblchkgclaaGreatDoor
open Go Go.Av
theorem fn_IndexByteL (l : List UInt8) (c : Int) : Av.Fn Tryz.prog 167 [.str l, .int .u8 c] (.int .i64 (Lib.indexByte l c.toNat.toUInt8)) := by
  refine Fn.of_calls (fn := Tryz.f167) (by kernel_rfl) rfl (by kernel_rfl) ?_
  intro W w g us hl hr hb
  obtain ⟨u1, _, rfl, ⟨h1, _⟩, u2, _, rfl, ⟨h2, _⟩, h3⟩ := hr
  have h1 : u1 = _ := h1; have h2 : u2 = _ := h2; have h3 : _ = [] := h3
  subst h1; subst h2; subst h3
  refine (Tryz.stringslite_IndexByte ⟨⟨l⟩⟩ c w).mono fun e w' ⟨h1, h2⟩ => ?_
  subst h2
  exact ⟨_, h1, rfl, RowKit.Below.refl _ _⟩
/-- The table's words. -/
def wordsL : List (List UInt8) := Lib.fields tableT
theorem f_Fields : Av.Fn Tryz.prog 113 [.str tableT] (.fz (wordsL.map .str) wordsL.length true) := by
  refine Fn.of_texts (fn := Tryz.f113) (by kernel_rfl) rfl (by kernel_rfl) ?_
  intro W w g us hl hr hb
  obtain ⟨u1, _, rfl, ⟨h1, _⟩, h3⟩ := hr
  have h1 : u1 = _ := h1; have h3 : _ = [] := h3
  subst h1; subst h3
  have hsz : tableT.length < 4294967281 := by decide
  have hasc : tableT.all (fun b => decide (b.toNat < 128)) = true := by decide +kernel
  refine (Tryz.strings_Fields ⟨⟨tableT⟩⟩ w hsz (fun j b h => ?_) (hl.space (a := 2) hb (by kernel_rfl))).mono fun e w' ⟨h1, h2⟩ => ⟨_, h1, h2⟩
  exact of_decide_eq_true (List.all_eq_true.1 hasc b (List.mem_of_getElem? h))
theorem f_Index (w : List UInt8) : Av.Fn Tryz.prog 152 [.str w, .str [58]] (.int .i64 (Lib.indexByte w 58)) := by
  have h : Av.Fn Tryz.prog 167 [.str w, .int .u8 58] (.int .i64 (Lib.indexByte w 58)) := fn_IndexByteL w 58
  refine ACalls.of_W tb_ok (fn := Tryz.f152) (n := 143) (by kernel_rfl) rfl (by kernel_rfl) rfl rfl (by simp) (go ?_)
  refine fork (fun h0 => go ?_) (fun h0 => go ?_)
  · refine VRet.mk [] .nil ?_
    have : w = [58] := (of_decide_eq_true (by simpa using h0)) |> Eq.symm
    subst this
    rw [show Lib.indexByte [58] 58 = 0 by decide]
    exact ⟨rfl, rfl⟩
  · refine Fn.use (h) (go ?_)
    refine VRet.mk [] .nil ?_
    exact ⟨rfl, rfl⟩
/-- A text, cut at its first colon. -/
def cutR (w : List UInt8) : List UInt8 × List UInt8 × Bool := if 0 ≤ Lib.indexByte w 58 then (w.take (Lib.indexByte w 58).toNat, w.drop ((Lib.indexByte w 58).toNat + 1), true) else (w, [], false)
theorem f_sCut (w : List UInt8) (hw : w.length ≤ 140737488351232) : Av.Fn Tryz.prog 138 [.str w, .str [58]] (.tup [.str (cutR w).1, .str (cutR w).2.1, .bool (cutR w).2.2]) := by
  have hb := indexByte_lt w 58
  have hi := f_Index w
  unfold cutR
  generalize Lib.indexByte w 58 = i at hb hi ⊢
  refine ACalls.of_W tb_ok (fn := Tryz.f138) (n := 23) (by kernel_rfl) rfl (by kernel_rfl) rfl rfl (by simp) (go ?_)
  refine Fn.use (hi) (go ?_)
  refine fork (fun h => go ?_) (fun h => go ?_)
  · rw [if_pos h]
    obtain ⟨k, rfl⟩ := Int.eq_ofNat_of_zero_le h
    have hk : k < w.length := by omega
    refine VQ.mk (.str (w.take k)) (go ?_) (go ?_)
    · exact ⟨rfl, rfl⟩
    refine VQ.mk (.int .i64 ((k : Int) + (([58] : List UInt8).length : Nat))) (by refine go ?_; refine VInt.fit (by show _ ≤ (k : Int) + 1; omega) (by show (k : Int) + 1 ≤ _; omega) (go ?_); exact ⟨rfl, rfl⟩) (go ?_)
    refine VRet.mk [] .nil ?_
    exact ⟨rfl, rfl⟩
  · rw [if_neg h]
    refine VRet.mk [] .nil ?_
    exact ⟨rfl, rfl⟩
theorem f_Cut (w : List UInt8) (hw : w.length ≤ 140737488351232) : Av.Fn Tryz.prog 114 [.str w, .str [58]] (.tup [.str (cutR w).1, .str (cutR w).2.1, .bool (cutR w).2.2]) := by
  refine ACalls.of_W tb_ok (fn := Tryz.f114) (n := 13) (by kernel_rfl) rfl (by kernel_rfl) rfl rfl (by simp) (go ?_)
  refine Fn.use (f_sCut w hw) (go ?_)
  refine VRet.mk [] .nil ?_
  exact ⟨rfl, rfl⟩
def entryR (w : List UInt8) : PrimE := match (cutR w).2.2 with
  | true => ⟨(cutR w).2.1, some (((cutR w).1.getD 0 0).toNat - 48, ((cutR w).1.getD 1 0).toNat - 48)⟩
  | false => ⟨w, none⟩
theorem entries : wordsL.map entryR = primsL := by kernel_rfl
theorem words_length : wordsL.length = 52 := by kernel_rfl
theorem words_ok : (wordsL.all fun w => decide (w.length ≤ 100) && (!(cutR w).2.2 || (decide ((cutR w).1.length = 2) && decide (48 ≤ ((cutR w).1.getD 0 0).toNat) && decide (((cutR w).1.getD 0 0).toNat ≤ 51) && decide (48 ≤ ((cutR w).1.getD 1 0).toNat) && decide (((cutR w).1.getD 1 0).toNat ≤ 51)))) = true := by decide +kernel
theorem word_ok {w : List UInt8} (h : w ∈ wordsL) : w.length ≤ 100 ∧ ((cutR w).2.2 = true → (cutR w).1.length = 2 ∧ 48 ≤ ((cutR w).1.getD 0 0).toNat ∧ ((cutR w).1.getD 0 0).toNat ≤ 51 ∧ 48 ≤ ((cutR w).1.getD 1 0).toNat ∧ ((cutR w).1.getD 1 0).toNat ≤ 51) := by
  have := List.all_eq_true.1 words_ok w h
  simp only [Bool.and_eq_true, Bool.or_eq_true, Bool.not_eq_true', decide_eq_true_eq] at this
  refine ⟨this.1, fun hc => ?_⟩
  rcases this.2 with h | h
  · rw [hc] at h; cases h
  · exact ⟨h.1.1.1.1, h.1.1.1.2, h.1.1.2, h.1.2, h.2⟩
def namesW (l : List (List UInt8)) : List AV := l.map fun w => .str (entryR w).name
theorem namesW_fold (l : List (List UInt8)) : l.map (fun w => AV.str (entryR w).name) = namesW l := rfl
@[simp] theorem namesW_length (l : List (List UInt8)) : (namesW l).length = l.length := by simp [namesW]

theorem f_Names : Av.Fn Tryz.prog 88 [] (.fz (namesL.map .str) 52 false) := by
  have hN : namesL.map AV.str = namesW wordsL := by
    rw [namesL, ← entries, namesW, List.map_map, List.map_map]; rfl
  rw [hN]
  have hF := f_Fields
  have hlen := words_length
  have hok : ∀ w ∈ wordsL, _ := fun w h => word_ok h
  generalize wordsL = l at hF hlen hok ⊢
  refine ACalls.of_W tb_ok (fn := Tryz.f88) (n := 27) (by kernel_rfl) rfl (by kernel_rfl) rfl rfl (by simp) (go ?_)
  refine Fn.use (hF) (go ?_)
  refine VLoop.mk [1, 9] AccI (fun i => [accV i.o i.k, .int .i64 i.k]) (fun i => accS i.o 1 (namesW (l.take i.k))) (fun i => i.k ≤ l.length ∧ (i.o = none → i.k = 0)) (fun i => l.length - i.k) ⟨0, none⟩ ?_ ?_
  · exact ⟨⟨by simp, by simp⟩, rfl, .nil⟩
  rintro ⟨k, o⟩ ⟨hk, ho⟩
  dsimp only at hk ho ⊢
  refine go ?_
  refine fork (fun hlt => go ?_) (fun hlt => ?_)
  · have hlt : k < l.length := by omega
    obtain ⟨t, ht⟩ : ∃ t, l[k]? = some t := ⟨l[k], by simp [hlt]⟩
    have hacc : namesW (l.take (k + 1)) = namesW (l.take k) ++ [.str (entryR t).name] := by
      rw [take_succ_at ht]; simp [namesW]
    have hl2 : (namesW (l.take k)).length = k := by simp [namesW]; omega
    have hw := (hok t (List.mem_of_getElem? ht)).1
    have hC := f_Cut t (by omega)
    have he : ∀ c, (cutR t).2.2 = c → (entryR t).name = if c = true then (cutR t).2.1 else t := fun c hc => by
      unfold entryR; rw [hc]; cases c <;> rfl
    generalize hc : (cutR t).2.2 = c at hC he
    have he := he c rfl
    refine VNth.mk (.str t) (by rw [mulN_eq]; simp [ht]) (go ?_)
    refine Fn.use (hC) (go ?_)
    cases c with
    | true =>
      rw [if_pos rfl] at he
      refine go ?_
      cases o with
      | none =>
        obtain rfl : k = 0 := ho rfl
        refine go ?_
        refine VAll.mk (fun b2 => go ?_)
        refine ⟨⟨1, some b2⟩, ⟨by dsimp only; omega, by simp⟩, by dsimp only; omega, rfl, .cons 0 ?_ .nil⟩
        dsimp only
        rw [hacc, he]; simp [namesW]
      | some bo =>
        refine go ?_
        refine VGd.mk ⟨rfl, by omega, by rw [mulN_eq, hl2]; simp, by simp; omega⟩ (go ?_)
        refine VAll.mk (fun b2 => go ?_)
        refine ⟨⟨k + 1, some b2⟩, ⟨by dsimp only; omega, by simp⟩, by dsimp only; omega, rfl, .cons 0 ?_ .nil⟩
        dsimp only
        rw [hacc, he, mulN_eq, List.take_of_length_le (by rw [hl2]; simp)]; rfl
    | false =>
      rw [if_neg (by simp)] at he
      refine go ?_
      cases o with
      | none =>
        obtain rfl : k = 0 := ho rfl
        refine go ?_
        refine VAll.mk (fun b2 => go ?_)
        refine ⟨⟨1, some b2⟩, ⟨by dsimp only; omega, by simp⟩, by dsimp only; omega, rfl, .cons 0 ?_ .nil⟩
        dsimp only
        rw [hacc, he]; simp [namesW]
      | some bo =>
        refine go ?_
        refine VGd.mk ⟨rfl, by omega, by rw [mulN_eq, hl2]; simp, by simp; omega⟩ (go ?_)
        refine VAll.mk (fun b2 => go ?_)
        refine ⟨⟨k + 1, some b2⟩, ⟨by dsimp only; omega, by simp⟩, by dsimp only; omega, rfl, .cons 0 ?_ .nil⟩
        dsimp only
        rw [hacc, he, mulN_eq, List.take_of_length_le (by rw [hl2]; simp)]; rfl
  · obtain rfl : k = l.length := by omega
    rw [List.take_length]
    cases o with
    | none =>
      have := ho rfl
      omega
    | some bo =>
      refine go ?_
      refine VRet.mk [] .nil ?_
      have hnl : (namesW l).length = l.length := by simp [namesW]
      have htk : (namesW l).take l.length = namesW l := List.take_of_length_le (by omega)
      refine ⟨?_, rfl⟩
      simp only [mulN_eq, Nat.mul_one, htk]
      rw [hlen]
/-- The first that has an effect of its own and this name. -/
def primE (l : List PrimE) (s : List UInt8) : Option (Nat × Nat) := (l.find? fun p => p.eff.isSome && decide (p.name = s)).bind (·.eff)
theorem primE_hit {n s : List UInt8} {x : Nat × Nat} {r : List PrimE} (h : n = s) : primE (⟨n, some x⟩ :: r) s = some x := by
  subst h; simp [primE]
theorem primE_miss {p : PrimE} {s : List UInt8} {r : List PrimE} (h : (p.eff.isSome && decide (p.name = s)) = false) : primE (p :: r) s = primE r s := by
  unfold primE
  rw [List.find?_cons_of_neg (by rw [h]; simp)]
def primV (x : Option (Nat × Nat)) : AV := .tup [.agg [.int .i64 ((x.map (·.1)).getD 0 : Nat), .int .i64 ((x.map (·.2)).getD 0 : Nat)], .bool x.isSome]
theorem f_Prim (s : List UInt8) : Av.Fn Tryz.prog 145 [.str s] (primV (primR s)) := by
  have hN : primR s = primE (wordsL.map entryR) s := by rw [entries]; rfl
  rw [hN]
  have hF := f_Fields
  have hlen := words_length
  have hok : ∀ w ∈ wordsL, _ := fun w h => word_ok h
  generalize wordsL = l at hF hlen hok ⊢
  refine ACalls.of_W tb_ok (fn := Tryz.f145) (n := 38) (by kernel_rfl) rfl (by kernel_rfl) rfl rfl (by simp) (go ?_)
  refine VAll.mk (fun b => go ?_)
  refine Fn.use (hF) (go ?_)
  refine VLoop.mk [11] Nat (fun k => [.int .i64 k]) (fun _ => [(b, .box [.int .i64 0, .int .i64 0])]) (fun k => k ≤ l.length ∧ primE ((l.drop k).map entryR) s = primE (l.map entryR) s) (fun k => l.length - k) 0 ?_ ?_
  · exact ⟨⟨by simp, by simp⟩, rfl, .cons 0 rfl .nil⟩
  rintro k ⟨hk, hI⟩
  dsimp only at hk hI ⊢
  refine go ?_
  refine fork (fun hlt => go ?_) (fun hlt => ?_)
  · have hlt : k < l.length := by omega
    obtain ⟨t, ht⟩ : ∃ t, l[k]? = some t := ⟨l[k], by simp [hlt]⟩
    obtain ⟨hw, hw2⟩ := hok t (List.mem_of_getElem? ht)
    have hC := f_Cut t (by omega)
    have hd : l.drop k = t :: l.drop (k + 1) := by
      rw [List.drop_eq_getElem_cons hlt]
      congr 1
      rw [List.getElem?_eq_getElem hlt] at ht
      exact Option.some.inj ht
    rw [hd, List.map_cons] at hI
    have he : ∀ c, (cutR t).2.2 = c → entryR t = match c with
        | true => ⟨(cutR t).2.1, some (((cutR t).1.getD 0 0).toNat - 48, ((cutR t).1.getD 1 0).toNat - 48)⟩
        | false => ⟨t, none⟩ := fun c hc => by
      unfold entryR; rw [hc]
    generalize hc : (cutR t).2.2 = c at hC he hw2
    have he := he c rfl
    rw [he] at hI
    refine VNth.mk (.str t) (by rw [mulN_eq]; simp [ht]) (go ?_)
    refine Fn.use (hC) (go ?_)
    cases c with
    | true =>
      refine go ?_
      obtain ⟨h1, h2, h3, h4, h5⟩ := hw2 rfl
      refine fork (fun hs => go ?_) (fun hs => go ?_)
      · have hs : (cutR t).2.1 = s := of_decide_eq_true (by simpa using hs)
        refine VDraw.chain [9] (go ?_)
        have d0 : (0 : Int) ≤ (((cutR t).1.getD 0 0).toNat : Int) - 48 ∧ (((cutR t).1.getD 0 0).toNat : Int) - 48 ≤ 3 := by omega
        have d1 : (0 : Int) ≤ (((cutR t).1.getD 1 0).toNat : Int) - 48 ∧ (((cutR t).1.getD 1 0).toNat : Int) - 48 ≤ 3 := by omega
        refine VQ.mk (.int .u8 ((((cutR t).1.getD 0 0).toNat : Int) - 48)) (by refine go ?_; refine VInt.fit d0.1 (Int.le_trans d0.2 (by decide)) (go ?_); exact ⟨rfl, rfl⟩) (go ?_)
        refine VQ.mk (.int .u8 ((((cutR t).1.getD 1 0).toNat : Int) - 48)) (by refine go ?_; refine VInt.fit d1.1 (Int.le_trans d1.2 (by decide)) (go ?_); exact ⟨rfl, rfl⟩) (go ?_)
        refine VRet.mk [] .nil ?_
        rw [← hI, primE_hit hs]
        refine ⟨?_, rfl⟩
        have e0 : ((((cutR t).1.getD 0 0).toNat - 48 : Nat) : Int) = (((cutR t).1.getD 0 0).toNat : Int) - 48 := by omega
        have e1 : ((((cutR t).1.getD 1 0).toNat - 48 : Nat) : Int) = (((cutR t).1.getD 1 0).toNat : Int) - 48 := by omega
        unfold primV
        simp only [Option.map_some, Option.getD_some, Option.isSome_some, e0, e1]
        rfl
      · have hs : ¬ (cutR t).2.1 = s := by simpa using hs
        rw [primE_miss (by simp [hs])] at hI
        exact ⟨k + 1, ⟨by omega, hI⟩, by omega, rfl, .cons 0 rfl .nil⟩
    | false =>
      refine go ?_
      rw [primE_miss (by simp)] at hI
      exact ⟨k + 1, ⟨by omega, hI⟩, by omega, rfl, .cons 0 rfl .nil⟩
  · obtain rfl : k = l.length := by omega
    rw [List.drop_length] at hI
    rw [← hI]
    refine go ?_
    refine VRet.mk [] .nil ?_
    exact ⟨rfl, rfl⟩
end Go.Proofs.YtliabblchkgclaaGreatDoor

namespace Go.Proofs.YtliabblchkgclaaGreatDoor
open Go Go.Av
/-- From one state to another: so many more may have been taken, so many more may stand on the list, besides 16 for each item gone through. -/
structure Gr (c d : Nat) (s t : EfS) : Prop where
  left : t.left ≤ s.left
  inn0 : s.inn ≤ t.inn
  inn : t.inn + 16 * t.left ≤ s.inn + 16 * s.left + c
  len : t.stk.length + 16 * t.left ≤ s.stk.length + 16 * s.left + d
theorem Gr.trans {c d c' d' : Nat} {s t u : EfS} (h : Gr c d s t) (k : Gr c' d' t u) : Gr (c + c') (d + d') s u :=
  ⟨by have := h.left; have := k.left; omega, by have := h.inn0; have := k.inn0; omega, by have := h.inn; have := k.inn; omega, by have := h.len; have := k.len; omega⟩
theorem Gr.refl (s : EfS) : Gr 0 0 s s := ⟨Nat.le_refl _, Int.le_refl _, by omega, by omega⟩
theorem Gr.mono {c d c' d' : Nat} {s t : EfS} (h : Gr c d s t) (hc : c ≤ c') (hd : d ≤ d') : Gr c' d' s t := ⟨h.left, h.inn0, by have := h.inn; omega, by have := h.len; omega⟩
theorem popS_left (s : EfS) : (popS s).2.left = s.left := by unfold popS; split <;> rfl
theorem popS_gr (s : EfS) : Gr 1 0 s (popS s).2 := by
  unfold popS
  split
  · exact ⟨Nat.le_refl _, by simp; omega, by simp; omega, by simp_all⟩
  · rename_i x r h
    exact ⟨Nat.le_refl _, Int.le_refl _, by simp; omega, by simp [h]⟩
theorem pushS_gr (s : EfS) (x : Slot) : Gr 0 1 s (pushS s x) := ⟨Nat.le_refl _, Int.le_refl _, by simp [pushS], by simp [pushS]; omega⟩
theorem popsS_gr : ∀ (n : Nat) (s : EfS), Gr n 0 s (popsS n s).2 ∧ (popsS n s).2.left = s.left ∧ (popsS n s).1.length = n
  | 0, s => ⟨.refl s, rfl, rfl⟩
  | n + 1, s => by
    obtain ⟨h1, h2, h3⟩ := popsS_gr n (popS s).2
    refine ⟨((popS_gr s).trans h1).mono (by omega) (by omega), ?_, ?_⟩
    · show (popsS n (popS s).2).2.left = _
      rw [h2, popS_left]
    · show ((popsS n (popS s).2).1 ++ [(popS s).1]).length = _
      simp [h3]
theorem applyS_left (i o : Nat) (s : EfS) : (applyS i o s).left = s.left := (popsS_gr i s).2.1
theorem applyS_gr (i o : Nat) (s : EfS) : Gr i o s (applyS i o s) := by
  obtain ⟨⟨h1, h2, h3, h4⟩, h5, _⟩ := popsS_gr i s
  refine ⟨h1, h2, h3, ?_⟩
  show (List.replicate o none ++ (popsS i s).2.stk).length + _ ≤ _
  rw [List.length_append, List.length_replicate]
  show _ + 16 * (popsS i s).2.left ≤ _
  omega
theorem quotS_gr {s t : EfS} {q : List Tree} (h : quotS s = .ok (q, t)) : Gr 1 0 s t ∧ t.left = s.left := by
  unfold quotS at h
  have h1 := popS_gr s
  have h2 := popS_left s
  split at h
  · rename_i l u hp
    rw [hp] at h1 h2
    cases h; exact ⟨h1, h2⟩
  · cases h
theorem movesS_gr (n : Nat) (ks : List Nat) (s : EfS) : Gr n ks.length s (movesS n ks s) := by
  unfold movesS
  obtain ⟨h1, _, _⟩ := popsS_gr n s
  have key : ∀ (l : List Slot) (ks : List Nat) (t : EfS), Gr 0 ks.length t (ks.foldl (fun t k => pushS t (l.getD k none)) t) := by
    intro l ks
    induction ks with
    | nil => exact fun t => .refl t
    | cons k ks ih => exact fun t => ((pushS_gr t _).trans (ih _)).mono (by omega) (by simp; omega)
  exact (h1.trans (key _ _ _)).mono (by omega) (by omega)
theorem movesS_left (n : Nat) (ks : List Nat) (s : EfS) : (movesS n ks s).left = s.left := by
  unfold movesS
  rw [← (popsS_gr n s).2.1]
  generalize (popsS n s).2 = t
  generalize (popsS n s).1 = l
  induction ks generalizing t with
  | nil => rfl
  | cons k ks ih => rw [List.foldl_cons, ih]; rfl
section
variable {run : List Tree → EfS → Except Int EfS} {known : List UInt8 → Option (Int × Int)}
theorem ownS_gr (hr : ∀ q s t, run q s = .ok t → Gr 0 0 s t) {q : List Tree} {s t : EfS} {i o : Int} (h : ownS run q s = .ok (i, o, t)) :
    0 ≤ i ∧ 0 ≤ o ∧ i + 16 * t.left ≤ 16 * s.left ∧ o + 16 * t.left ≤ 16 * s.left ∧ t.left ≤ s.left ∧ t = { s with left := t.left } := by
  unfold ownS at h
  split at h
  · rename_i u hu
    obtain ⟨h1, h2, h3, h4⟩ := hr _ _ _ hu
    cases h
    refine ⟨h2, by omega, by simpa using h3, ?_, h1, rfl⟩
    simp at h4 ⊢; omega
  · cases h
theorem ownS_gr' {s t : EfS} (h : t.left ≤ s.left ∧ t = { s with left := t.left }) : Gr 0 0 s t := by
  obtain ⟨h1, h2⟩ := h
  have e1 : t.inn = s.inn := by rw [h2]
  have e2 : t.stk = s.stk := by rw [h2]
  exact ⟨h1, by omega, by omega, by rw [e2]; omega⟩
theorem controlS_gr (hr : ∀ q s t, run q s = .ok t → Gr 0 0 s t) {name : List UInt8} {s t : EfS} (h : controlS run name s = some (.ok t)) : Gr 16 16 s t := by
  unfold controlS at h
  split at h
  · -- call
    simp only [Option.some.injEq] at h
    split at h
    · cases h
    · rename_i q u hq
      exact ((quotS_gr hq).1.trans (hr _ _ _ h)).mono (by omega) (by omega)
  split at h
  · -- dip
    simp only [Option.some.injEq] at h
    split at h
    · cases h
    · rename_i q u hq
      split at h
      · cases h
      · rename_i v hv
        cases h
        exact ((((quotS_gr hq).1.trans (popS_gr u)).trans (hr _ _ _ hv)).trans (pushS_gr v _)).mono (by omega) (by omega)
  split at h
  · -- keep
    simp only [Option.some.injEq] at h
    split at h
    · cases h
    · rename_i q u hq
      split at h
      · cases h
      · rename_i v hv
        cases h
        exact (((((quotS_gr hq).1.trans (popS_gr u)).trans (pushS_gr _ _)).trans (hr _ _ _ hv)).trans (pushS_gr v _)).mono (by omega) (by omega)
  split at h
  · -- if
    simp only [Option.some.injEq] at h
    split at h
    · cases h
    · rename_i b u hq
      split at h
      · cases h
      · rename_i a v hq2
        split at h
        · cases h
        · rename_i ai ao w ha
          split at h
          · cases h
          · rename_i bi bo x hb
            split at h
            · rename_i he
              cases h
              obtain ⟨a1, a2, a3, a4, a5, a6⟩ := ownS_gr hr ha
              obtain ⟨b1, b2, b3, b4, b5, b6⟩ := ownS_gr hr hb
              have g1 := (((quotS_gr hq).1.trans (quotS_gr hq2).1).trans (popS_gr v)).trans ((ownS_gr' ⟨a5, a6⟩).trans (ownS_gr' ⟨b5, b6⟩))
              have e1 : x.inn = (popS v).2.inn := by rw [b6, a6]
              have e2 : x.stk = (popS v).2.stk := by rw [b6, a6]
              have g0 := ((quotS_gr hq).1.trans (quotS_gr hq2).1).trans (popS_gr v)
              have g2 := applyS_gr (max ai bi).toNat (max ai bi + ao - ai).toNat x
              have l2 := applyS_left (max ai bi).toNat (max ai bi + ao - ai).toNat x
              have h1 : ((max ai bi).toNat : Int) = max ai bi := by omega
              have h2 : ((max ai bi + ao - ai).toNat : Int) = max ai bi + ao - ai := by omega
              obtain ⟨q1, q2, q3, q4⟩ := g0
              obtain ⟨p1, p2, p3, p4⟩ := g2
              rw [e1] at p2 p3
              rw [e2] at p4
              exact ⟨by omega, by omega, by omega, by omega⟩
            · cases h
  split at h
  · -- when, times
    simp only [Option.some.injEq] at h
    split at h
    · cases h
    · rename_i q u hq
      split at h
      · cases h
      · rename_i ai ao w ha
        split at h
        · rename_i he
          cases h
          obtain ⟨a1, a2, a3, a4, a5, a6⟩ := ownS_gr hr ha
          have e1 : w.inn = (popS u).2.inn := by rw [a6]
          have e2 : w.stk = (popS u).2.stk := by rw [a6]
          obtain ⟨q1, q2, q3, q4⟩ := (quotS_gr hq).1.trans (popS_gr u)
          obtain ⟨p1, p2, p3, p4⟩ := applyS_gr ai.toNat ao.toNat w
          have l2 := applyS_left ai.toNat ao.toNat w
          rw [e1] at p2 p3
          rw [e2] at p4
          exact ⟨by omega, by omega, by omega, by omega⟩
        · cases h
  split at h
  · -- loop
    simp only [Option.some.injEq] at h
    split at h
    · cases h
    · rename_i q u hq
      split at h
      · cases h
      · rename_i ai ao w ha
        split at h
        · rename_i he
          cases h
          obtain ⟨a1, a2, a3, a4, a5, a6⟩ := ownS_gr hr ha
          have e1 : w.inn = u.inn := by rw [a6]
          have e2 : w.stk = u.stk := by rw [a6]
          obtain ⟨q1, q2, q3, q4⟩ := (quotS_gr hq).1
          obtain ⟨p1, p2, p3, p4⟩ := applyS_gr ai.toNat ai.toNat w
          have l2 := applyS_left ai.toNat ai.toNat w
          rw [e1] at p2 p3
          rw [e2] at p4
          exact ⟨by omega, by omega, by omega, by omega⟩
        · cases h
  split at h
  · -- each
    simp only [Option.some.injEq] at h
    split at h
    · cases h
    · rename_i q u hq
      split at h
      · cases h
      · rename_i ai ao w ha
        split at h
        · rename_i he
          cases h
          obtain ⟨a1, a2, a3, a4, a5, a6⟩ := ownS_gr hr ha
          have e1 : w.inn = (popS u).2.inn := by rw [a6]
          have e2 : w.stk = (popS u).2.stk := by rw [a6]
          obtain ⟨q1, q2, q3, q4⟩ := (quotS_gr hq).1.trans (popS_gr u)
          obtain ⟨p1, p2, p3, p4⟩ := applyS_gr ao.toNat ao.toNat w
          have l2 := applyS_left ao.toNat ao.toNat w
          rw [e1] at p2 p3
          rw [e2] at p4
          exact ⟨by omega, by omega, by omega, by omega⟩
        · cases h
  · cases h
theorem primR_le {name : List UInt8} {i o : Nat} (h : primR name = some (i, o)) : i ≤ 3 ∧ o ≤ 3 := by
  unfold primR at h
  cases hf : primsL.find? fun p => p.eff.isSome && decide (p.name = name) with
  | none => rw [hf] at h; cases h
  | some p =>
    rw [hf] at h
    have hm := List.mem_of_find?_eq_some hf
    have key : ∀ p ∈ primsL, ∀ x, p.eff = some x → x.1 ≤ 3 ∧ x.2 ≤ 3 := by
      have : (primsL.all fun p => match p.eff with | some x => decide (x.1 ≤ 3 ∧ x.2 ≤ 3) | none => true) = true := by decide
      intro p hp x hx
      have := List.all_eq_true.1 this p hp
      rw [hx] at this; simpa using this
    exact key p hm (i, o) h
theorem moveR_le {name : List UInt8} {k : Nat} {ks : List Nat} (h : moveR name = some (k, ks)) : k ≤ 3 ∧ ks.length ≤ 3 := by
  unfold moveR at h
  repeat' (split at h)
  all_goals first
    | (cases h; exact ⟨by decide, by decide⟩)
    | cases h
theorem stepS_gr (hk : ∀ n i o, known n = some (i, o) → 0 ≤ i ∧ i ≤ 16 ∧ 0 ≤ o ∧ o ≤ 16) (hr : ∀ q s t, run q s = .ok t → Gr 0 0 s t) {y : Tree} {s t : EfS} (h : stepS run known y s = .ok t) : Gr 16 16 s t := by
  unfold stepS at h
  split at h
  · rename_i name
    split at h
    · rename_i k ks hm
      cases h
      have := moveR_le hm
      exact (movesS_gr k ks s).mono (by omega) (by omega)
    · split at h
      · rename_i r hc
        subst h
        exact controlS_gr hr hc
      · split at h
        · rename_i i o hp
          cases h
          have := primR_le hp
          exact (applyS_gr i o s).mono (by omega) (by omega)
        · split at h
          · rename_i i o hp
            cases h
            have := hk _ _ _ hp
            exact (applyS_gr i.toNat o.toNat s).mono (by omega) (by omega)
          · cases h
  · cases h
    exact (pushS_gr s _).mono (by omega) (by omega)
theorem runS_gr (hk : ∀ n i o, known n = some (i, o) → 0 ≤ i ∧ i ≤ 16 ∧ 0 ≤ o ∧ o ≤ 16) : ∀ (n : Nat) (l : List Tree) (s t : EfS), runS known n l s = .ok t → Gr 0 0 s t
  | n, [], s, t, h => by
    unfold runS at h; cases h; exact .refl s
  | 0, _ :: _, s, t, h => by unfold runS at h; cases h
  | n + 1, y :: r, s, t, h => by
    unfold runS at h
    split at h
    · cases h
    · rename_i hl
      split at h
      · cases h
      · rename_i u hu
        obtain ⟨p1, p2, p3, p4⟩ := stepS_gr hk (fun q s t h => runS_gr hk n q s t h) hu
        obtain ⟨q1, q2, q3, q4⟩ := runS_gr hk n r u t h
        simp only at p1 p2 p3 p4
        exact ⟨by omega, by omega, by omega, by omega⟩
theorem controlS_congr {r1 r2 : List Tree → EfS → Except Int EfS} {name : List UInt8} {s : EfS} (h : ∀ q t, t.left ≤ s.left → r1 q t = r2 q t) (hr : ∀ q s t, r1 q s = .ok t → Gr 0 0 s t) :
    controlS r1 name s = controlS r2 name s := by
  have own : ∀ q (t : EfS), t.left ≤ s.left → ownS r1 q t = ownS r2 q t := fun q t ht => by unfold ownS; rw [h q ⟨t.left, 0, []⟩ ht]
  have hq0 : ∀ {q t}, quotS s = .ok (q, t) → t.left = s.left := fun h => (quotS_gr h).2
  unfold controlS
  refine ite_congr rfl (fun _ => ?_) fun _ => ite_congr rfl (fun _ => ?_) fun _ => ite_congr rfl (fun _ => ?_) fun _ => ite_congr rfl (fun _ => ?_) fun _ => ite_congr rfl (fun _ => ?_) fun _ => ite_congr rfl (fun _ => ?_) fun _ => ite_congr rfl (fun _ => ?_) fun _ => rfl
  · cases hq : quotS s with
    | error e => rfl
    | ok p => obtain ⟨q, t⟩ := p; have := hq0 hq; simp only; rw [h q t (by omega)]
  · cases hq : quotS s with
    | error e => rfl
    | ok p => obtain ⟨q, t⟩ := p; have := hq0 hq; simp only; rw [h q _ (by rw [popS_left]; omega)]
  · cases hq : quotS s with
    | error e => rfl
    | ok p => obtain ⟨q, t⟩ := p; have := hq0 hq; simp only; rw [h q _ (by show (popS t).2.left ≤ _; rw [popS_left]; omega)]
  · cases hq : quotS s with
    | error e => rfl
    | ok p =>
      obtain ⟨b, t⟩ := p; have := hq0 hq; simp only
      cases hq2 : quotS t with
      | error e => rfl
      | ok p =>
        obtain ⟨a, u⟩ := p
        have h2 := (quotS_gr hq2).2
        simp only
        rw [← own a _ (by rw [popS_left]; omega)]
        cases ha : ownS r1 a (popS u).2 with
        | error e => rfl
        | ok p =>
          obtain ⟨ai, ao, v⟩ := p
          have h3 := (ownS_gr hr ha).2.2.2.2.1
          rw [popS_left] at h3
          simp only
          rw [own b v (by omega)]
  · cases hq : quotS s with
    | error e => rfl
    | ok p => obtain ⟨q, t⟩ := p; have := hq0 hq; simp only; rw [own q _ (by rw [popS_left]; omega)]
  · cases hq : quotS s with
    | error e => rfl
    | ok p => obtain ⟨q, t⟩ := p; have := hq0 hq; simp only; rw [own q _ (by omega)]
  · cases hq : quotS s with
    | error e => rfl
    | ok p => obtain ⟨q, t⟩ := p; have := hq0 hq; simp only; rw [own q _ (by rw [popS_left]; omega)]
theorem stepS_congr {r1 r2 : List Tree → EfS → Except Int EfS} {y : Tree} {s : EfS} (h : ∀ q t, t.left ≤ s.left → r1 q t = r2 q t) (hr : ∀ q s t, r1 q s = .ok t → Gr 0 0 s t) :
    stepS r1 known y s = stepS r2 known y s := by
  unfold stepS
  cases y <;> first | rfl | skip
  simp only
  rw [controlS_congr h hr]
theorem runS_fuel (hk : ∀ n i o, known n = some (i, o) → 0 ≤ i ∧ i ≤ 16 ∧ 0 ≤ o ∧ o ≤ 16) : ∀ (a b : Nat) (l : List Tree) (s : EfS), s.left ≤ a → s.left ≤ b → runS known a l s = runS known b l s
  | a, b, [], s, _, _ => by unfold runS; rfl
  | 0, 0, _ :: _, _, _, _ => rfl
  | 0, b + 1, y :: r, s, ha, _ => by
    unfold runS
    rw [if_pos (by omega)]
  | a + 1, 0, y :: r, s, _, hb => by
    unfold runS
    rw [if_pos (by omega)]
  | a + 1, b + 1, y :: r, s, ha, hb => by
    unfold runS
    by_cases hl : s.left = 0
    · rw [if_pos hl, if_pos hl]
    rw [if_neg hl, if_neg hl]
    rw [stepS_congr (r1 := fun q s => runS known a q s) (r2 := fun q s => runS known b q s) (s := { s with left := s.left - 1 }) (fun q t ht => runS_fuel hk a b q t (by simp at ht; omega) (by simp at ht; omega)) (fun q s t h => runS_gr hk a q s t h)]
    cases hs : stepS (fun q s => runS known b q s) known y { s with left := s.left - 1 } with
    | error e => rfl
    | ok u =>
      have h1 := (stepS_gr hk (fun q s t h => runS_gr hk b q s t h) hs).left
      simp only at h1 ⊢
      exact runS_fuel hk a b r u (by omega) (by omega)
/-- All that may still come. -/
noncomputable def runL (known : List UInt8 → Option (Int × Int)) (l : List Tree) (s : EfS) : Except Int EfS := runS known s.left l s
theorem runL_nil (s : EfS) : runL known [] s = .ok s := by unfold runL runS; rfl
theorem runL_cons (hk : ∀ n i o, known n = some (i, o) → 0 ≤ i ∧ i ≤ 16 ∧ 0 ≤ o ∧ o ≤ 16) (y : Tree) (r : List Tree) (s : EfS) :
    runL known (y :: r) s = if s.left = 0 then .error 11 else match stepS (runL known) known y { s with left := s.left - 1 } with
      | .error e => .error e
      | .ok t => runL known r t := by
  unfold runL
  cases hl : s.left with
  | zero => rfl
  | succ n =>
    conv => lhs; unfold runS
    rw [if_neg (by omega), if_neg (by omega), hl]
    rw [stepS_congr (r1 := fun q s => runS known n q s) (r2 := fun q s => runS known s.left q s) (s := { s with left := n + 1 - 1 }) (fun q t ht => runS_fuel hk n t.left q t (by simpa using ht) (Nat.le_refl _)) (fun q s t h => runS_gr hk n q s t h)]
    cases hs : stepS (fun q s => runS known s.left q s) known y { s with left := n + 1 - 1 } with
    | error e => rfl
    | ok u =>
      have h1 := (stepS_gr hk (fun q s t h => runS_gr hk _ q s t h) hs).left
      simp only at h1 ⊢
      exact runS_fuel hk n u.left r u (by omega) (Nat.le_refl _)
theorem runL_gr (hk : ∀ n i o, known n = some (i, o) → 0 ≤ i ∧ i ≤ 16 ∧ 0 ≤ o ∧ o ≤ 16) {l : List Tree} {s t : EfS} (h : runL known l s = .ok t) : Gr 0 0 s t := runS_gr hk _ l s t h
end
end Go.Proofs.YtliabblchkgclaaGreatDoor

namespace Go.Proofs.YtliabblchkgclaaGreatDoor
open Go Go.Av
def slotC (x : Slot) : List AV := [.bool x.isSome, .fz (itemAVs (x.getD [])) (x.getD []).length false]
/-- Slots, the lowest first. -/
def slotsC : List Slot → List AV
  | [] => []
  | x :: r => slotC x ++ slotsC r
theorem slotC_len (x : Slot) : (slotC x).length = 2 := rfl
theorem slotsC_len : ∀ l : List Slot, (slotsC l).length = 2 * l.length
  | [] => rfl
  | x :: r => by rw [slotsC, List.length_append, slotC_len, slotsC_len r, List.length_cons]; omega
theorem slotsC_append : ∀ l r : List Slot, slotsC (l ++ r) = slotsC l ++ slotsC r
  | [], r => rfl
  | x :: l, r => by rw [List.cons_append, slotsC, slotsC, slotsC_append l r, List.append_assoc]
theorem slotsC_snoc (l : List Slot) (x : Slot) : slotsC (l ++ [x]) = slotsC l ++ slotC x := by
  rw [slotsC_append, slotsC, slotsC, List.append_nil]
/-- Where the list lies, and what stands behind its end. -/
abbrev LR := Option (Nat × List AV)
def lvV (o : LR) (n : Nat) : AV := match o with
  | none => .nils
  | some x => .own x.1 n
def lvS (o : LR) (stk : List Slot) : St := match o with
  | none => []
  | some x => [(x.1, .arr 2 (slotsC stk.reverse ++ x.2) 0)]
def fbox (bf bm bw : Nat) (o : LR) (s : EfS) : Nat × AObj := (bf, .box [.mapr bm, .ptr bw 0, .int .i64 s.inn, lvV o s.stk.length])
def FS (bf bm bw : Nat) (o : LR) (s : EfS) : St := fbox bf bm bw o s :: lvS o s.stk
def okL (o : LR) (s : EfS) : Prop := o = none → s.stk = []
/-- How far an inference may be. -/
def Fine (s : EfS) : Prop := 0 ≤ s.inn ∧ s.inn ≤ 2000000 ∧ s.stk.length ≤ 2000000
theorem top_cells (x : Slot) (r : List Slot) (junk : List AV) : (List.drop (mulN r.length 2) (slotsC (x :: r).reverse ++ junk)).take 2 = slotC x := by
  have h1 : (slotsC r.reverse).length = mulN r.length 2 := by rw [slotsC_len, mulN_eq, List.length_reverse]; omega
  rw [List.reverse_cons, slotsC_snoc, List.append_assoc, List.drop_append_of_le_length (by omega), ← h1, List.drop_length, List.nil_append, List.take_append_of_le_length (by rw [slotC_len]; exact Nat.le_refl _)]
  exact List.take_of_length_le (by rw [slotC_len]; exact Nat.le_refl _)
theorem app_len (l : List Slot) (junk : List AV) : mulN l.length 2 ≤ (slotsC l.reverse ++ junk).length := by
  rw [mulN_eq, List.length_append, slotsC_len, List.length_reverse]; omega
theorem app_cells (l : List Slot) (x : Slot) (junk : List AV) : (slotsC l.reverse ++ junk).take (mulN l.length 2) ++ slotC x = slotsC (x :: l).reverse ++ [] := by
  have h1 : (slotsC l.reverse).length = mulN l.length 2 := by rw [slotsC_len, mulN_eq, List.length_reverse]; omega
  rw [List.reverse_cons, slotsC_snoc, List.append_nil, ← h1, List.take_append_of_le_length (Nat.le_refl _), List.take_length]
theorem slots_pop (x : Slot) (r : List Slot) (junk : List AV) : slotsC (x :: r).reverse ++ junk = slotsC r.reverse ++ (slotC x ++ junk) := by
  rw [List.reverse_cons, slotsC_snoc, List.append_assoc]

/-- What is answered may be said more weakly. -/
theorem ACalls.retw {P : Program} {f : FuncId} {args : List AV} {st : St} {Q Post : AOut → St → Prop} (h : ACalls P f args st Q) (k : ∀ out s', Q out s' → ∃ out', (∀ g e, OutR g out e → OutR g out' e) ∧ Post out' s') : ACalls P f args st Post :=
  ⟨h.ent, fun W F g w us hl hr inv => (h.run W F g w us hl hr inv).mono fun _ _ ⟨g', out, st', a, b, c, d⟩ => by
    obtain ⟨out', k1, k2⟩ := k out st' d
    exact ⟨g', out', st', a, k1 _ _ b, c, k2⟩⟩
theorem nils_weak (g : Gh) (e : Ending) (h : OutR g (.ret (.agg [.bool false, .nils])) e) : OutR g (.ret (.agg [.bool false, .fz [] 0 false])) e := by
  obtain ⟨u, rfl, us, rfl, x, xs, rfl, h1, y, ys, rfl, ⟨h2, h3⟩, h4⟩ := h
  have h2 : y = _ := h2
  subst h2
  exact ⟨_, rfl, _, rfl, _, _, rfl, h1, _, _, rfl, ⟨⟨none, 0, rfl, Nat.le_refl _, (fun h => by cases h), .inl ⟨rfl, rfl⟩⟩, h3⟩, h4⟩
theorem f_pop (bf bm bw : Nat) (o : LR) (s : EfS) (ho : okL o s) (hs : Fine s) : ACalls Tryz.prog 157 [.ptr bf 0] (FS bf bm bw o s) fun out st' =>
    out = .ret (.agg (slotC (popS s).1)) ∧ ∃ o', okL o' (popS s).2 ∧ st' = FS bf bm bw o' (popS s).2 := by
  suffices H : ACalls Tryz.prog 157 [.ptr bf 0] (FS bf bm bw o s) fun out st' =>
      (out = .ret (.agg (slotC (popS s).1)) ∨ (out = .ret (.agg [.bool false, .nils]) ∧ (popS s).1 = none)) ∧ ∃ o', okL o' (popS s).2 ∧ st' = FS bf bm bw o' (popS s).2 by
    refine ACalls.retw H fun out s' ⟨h1, h2⟩ => ?_
    rcases h1 with rfl | ⟨rfl, h3⟩
    · exact ⟨_, fun _ _ h => h, rfl, h2⟩
    · refine ⟨_, nils_weak, ?_, h2⟩
      rw [h3]; rfl
  obtain ⟨left, inn, stk⟩ := s
  obtain ⟨h1, h2, h3⟩ := hs
  simp only at h1 h2 h3
  unfold FS fbox
  cases o with
  | none =>
    have ho : stk = [] := ho rfl
    subst ho
    refine ACalls.of_W tb_ok (fn := Tryz.f157) (n := 45) (by kernel_rfl) rfl (by kernel_rfl) rfl rfl (by simp) (go ?_)
    refine VAll.mk (fun b => go ?_)
    refine VInt.fit (by dsimp only; omega) (by dsimp only; omega) (go ?_)
    exact VRet.mk _ (.cons 1 rfl .nil) ⟨.inr ⟨rfl, rfl⟩, none, fun _ => rfl, rfl⟩
  | some x =>
    obtain ⟨bl, junk⟩ := x
    cases stk with
    | nil =>
      refine ACalls.of_W tb_ok (fn := Tryz.f157) (n := 45) (by kernel_rfl) rfl (by kernel_rfl) rfl rfl (by simp) (go ?_)
      refine VAll.mk (fun b => go ?_)
      refine VInt.fit (by dsimp only; omega) (by dsimp only; omega) (go ?_)
      exact VRet.mk _ (.cons 1 rfl (.cons 1 rfl .nil)) ⟨.inr ⟨rfl, rfl⟩, some (bl, junk), fun _ => rfl, rfl⟩
    | cons x r =>
      simp only [List.length_cons] at h3
      refine ACalls.of_W tb_ok (fn := Tryz.f157) (n := 45) (by kernel_rfl) rfl (by kernel_rfl) rfl rfl (by simp) (go ?_)
      refine VAll.mk (fun b => go ?_)
      refine VDraw.chain [12, 13] (go ?_)
      refine VQ.mk (.int .i64 (r.length : Int)) (by refine go ?_; refine VInt.to (r.length : Int) (by simp) (by omega) (by omega) (go ?_); exact ⟨rfl, rfl⟩) (go ?_)
      refine VQ.mk (.agg (slotC x)) (by refine go ?_; refine VTake.mk (slotC x) (top_cells x r junk) (by simp [slotC_len]) (go ?_); exact ⟨rfl, rfl⟩) (go ?_)
      refine VAll.mk (fun b2 => go ?_)
      refine VDraw.chain [14] (go ?_)
      refine VQ.mk (.int .i64 (r.length : Int)) (by refine go ?_; refine VInt.to (r.length : Int) (by simp) (by omega) (by omega) (go ?_); exact ⟨rfl, rfl⟩) (go ?_)
      exact VRet.mk _ (.cons 2 rfl (.cons 2 rfl .nil)) ⟨.inl rfl, some (bl, slotC x ++ junk), (fun h => by cases h), congrArg (fun c => ([(bf, AObj.box [.mapr bm, .ptr bw 0, .int .i64 inn, .own bl r.length]), (bl, AObj.arr 2 c 0)] : St)) (slots_pop x r junk)⟩
theorem pop_use {bf bm bw : Nat} {o : LR} {s : EfS} {R st : St} {Post : AOut → St → Prop} (ho : okL o s) (hs : Fine s) (hp : (FS bf bm bw o s ++ R).Perm st)
    (k : ∀ o', okL o' (popS s).2 → Post (.ret (.agg (slotC (popS s).1))) (R ++ FS bf bm bw o' (popS s).2)) : ACalls Tryz.prog 157 [.ptr bf 0] st Post :=
  ACalls.usep (f_pop bf bm bw o s ho hs) hp (by rintro out s' ⟨rfl, o', h, rfl⟩; exact k o' h)
/-- What ends an inference. -/
def stopV (e : Int) : AV := .iface 235 (.agg [.int .i64 e])
def QuotP (bf bm bw : Nat) (r : Except Int (List Tree × EfS)) (out : AOut) (st : St) : Prop := match r with
  | .ok (q, t) => out = .ret (.fz (itemAVs q) q.length false) ∧ ∃ o', okL o' t ∧ st = FS bf bm bw o' t
  | .error e => out = .panic (stopV e) ∧ st = []
theorem f_quot (bf bm bw : Nat) (o : LR) (s : EfS) (ho : okL o s) (hs : Fine s) : ACalls Tryz.prog 158 [.ptr bf 0] (FS bf bm bw o s) (QuotP bf bm bw (quotS s)) := by
  have hp := fun {R st : St} {Post : AOut → St → Prop} => pop_use (R := R) (st := st) (Post := Post) (bf := bf) (bm := bm) (bw := bw) ho hs
  unfold quotS
  generalize popS s = p at hp
  obtain ⟨x, t⟩ := p
  dsimp only at hp
  refine ACalls.of_W tb_ok (fn := Tryz.f158) (n := 13) (by kernel_rfl) rfl (by kernel_rfl) rfl rfl (by simp) (go ?_)
  refine hp (R := []) (by simp) fun o' ho' => ?_
  cases x with
  | none =>
    refine go ?_
    refine VAll.mk (fun b => go ?_)
    exact VRet.mk [] .nil ⟨rfl, rfl⟩
  | some l =>
    refine go ?_
    refine VAll.mk (fun b => go ?_)
    exact VRet.mk _ (VSel.skip (VSel.refl _) _) ⟨rfl, o', ho', rfl⟩
theorem f_need (b : Bool) : ACalls Tryz.prog 160 [.bool b] [] fun out st' => st' = [] ∧ match b with
    | true => out = .ret (.tup [])
    | false => out = .panic (stopV 12) := by
  cases b with
  | true =>
    refine ACalls.of_W tb_ok (fn := Tryz.f160) (n := 6) (by kernel_rfl) rfl (by kernel_rfl) rfl rfl (by simp) (go ?_)
    refine VRet.mk [] .nil ?_
    exact ⟨rfl, rfl⟩
  | false =>
    refine ACalls.of_W tb_ok (fn := Tryz.f160) (n := 6) (by kernel_rfl) rfl (by kernel_rfl) rfl rfl (by simp) (go ?_)
    refine VRet.mk [] .nil ?_
    exact ⟨rfl, rfl⟩
theorem popsS_next : ∀ (n : Nat) (s : EfS), (popsS (n + 1) s).2 = (popS (popsS n s).2).2 ∧ (popsS (n + 1) s).1 = (popS (popsS n s).2).1 :: (popsS n s).1
  | 0, s => ⟨rfl, rfl⟩
  | n + 1, s => by
    obtain ⟨h1, h2⟩ := popsS_next n (popS s).2
    refine ⟨?_, ?_⟩
    · show (popsS (n + 1) (popS s).2).2 = _
      rw [h1]; rfl
    · show (popsS (n + 1) (popS s).2).1 ++ [(popS s).1] = _
      rw [h2]; rfl
theorem Fine.pops {s : EfS} {k : Nat} (h : 0 ≤ s.inn ∧ s.inn ≤ 1000000 ∧ s.stk.length ≤ 1000000) (hk : k ≤ 65536) : Fine (popsS k s).2 := by
  obtain ⟨⟨h1, h2, h3, h4⟩, h5, _⟩ := popsS_gr k s
  exact ⟨by omega, by omega, by omega⟩
/-- Some unknown values on top. -/
def pushN (j : Nat) (s : EfS) : EfS := { s with stk := List.replicate j none ++ s.stk }
theorem f_apply (bf bm bw : Nat) (o : LR) (s : EfS) (i u : Int) (ho : okL o s) (hs : 0 ≤ s.inn ∧ s.inn ≤ 1000000 ∧ s.stk.length ≤ 1000000) (hi : i.toNat ≤ 65536) (hu : u.toNat ≤ 65536) :
    ACalls Tryz.prog 148 [.ptr bf 0, .agg [.int .i64 i, .int .i64 u]] (FS bf bm bw o s) fun out st' => out = .ret (.tup []) ∧ ∃ o', okL o' (applyS i.toNat u.toNat s) ∧ st' = FS bf bm bw o' (applyS i.toNat u.toNat s) := by
  refine ACalls.of_W tb_ok (fn := Tryz.f148) (n := 26) (by kernel_rfl) rfl (by kernel_rfl) rfl rfl (by simp) (go ?_)
  refine VAll.mk (fun b => go ?_)
  refine VLoop.mk [6] (Nat × LR) (fun k => [.int .i64 k.1]) (fun k => (b, .box [.int .i64 i, .int .i64 u]) :: FS bf bm bw k.2 (popsS k.1 s).2) (fun k => k.1 ≤ i.toNat ∧ okL k.2 (popsS k.1 s).2) (fun k => i.toNat - k.1) (0, o) ?_ ?_
  · exact ⟨⟨Nat.zero_le _, ho⟩, rfl, VSel.refl _⟩
  rintro ⟨k, o1⟩ ⟨hk, ho1⟩
  dsimp only at hk ho1 ⊢
  refine go ?_
  refine fork (fun hlt => go ?_) (fun hlt => ?_)
  · refine pop_use ho1 (Fine.pops hs (by omega)) (R := [(b, .box [.int .i64 i, .int .i64 u])]) (List.perm_append_comm) fun o2 ho2 => ?_
    refine go ?_
    obtain ⟨e1, _⟩ := popsS_next k s
    rw [← e1] at ho2 ⊢
    exact ⟨(k + 1, o2), ⟨by dsimp only; omega, ho2⟩, by dsimp only; omega, rfl, VSel.refl _⟩
  have hk : k = i.toNat := by omega
  subst hk
  have hF := Fine.pops hs (Nat.le_trans (Nat.le_refl _) hi)
  have hA : ∀ j, j = u.toNat → pushN j (popsS i.toNat s).2 = applyS i.toNat u.toNat s := fun j hj => by subst hj; rfl
  generalize (popsS i.toNat s).2 = t at ho1 hF hA ⊢
  refine go ?_
  refine VLoop.mk [13] (Nat × LR) (fun k => [.int .i64 k.1]) (fun k => (b, .box [.int .i64 i, .int .i64 u]) :: FS bf bm bw k.2 (pushN k.1 t)) (fun k => k.1 ≤ u.toNat ∧ okL k.2 (pushN k.1 t)) (fun k => u.toNat - k.1) (0, o1) ?_ ?_
  · exact ⟨⟨Nat.zero_le _, ho1⟩, rfl, VSel.refl _⟩
  rintro ⟨k, o2⟩ ⟨hk, ho2⟩
  dsimp only at hk ho2 ⊢
  refine go ?_
  refine fork (fun hlt => go ?_) (fun hlt => ?_)
  · obtain ⟨f1, f2, f3⟩ := hF
    have hlen : (pushN k t).stk.length = k + t.stk.length := by simp [pushN]
    have hnx : pushN (k + 1) t = { pushN k t with stk := none :: (pushN k t).stk } := by simp [pushN, List.replicate_succ]
    cases o2 with
    | none =>
      have h0 := ho2 rfl
      have hk0 : k = 0 ∧ t.stk = [] := by
        rw [h0] at hlen
        exact ⟨by simp at hlen; omega, List.length_eq_zero_iff.1 (by simp at hlen; omega)⟩
      refine go ?_
      refine VAll.mk (fun b2 => go ?_)
      refine ⟨(k + 1, some (b2, [])), ⟨by dsimp only; omega, fun h => by cases h⟩, by dsimp only; omega, rfl, ?_⟩
      unfold FS fbox
      rw [hnx, h0]
      exact .cons 1 rfl (.cons 1 rfl (.cons 0 rfl .nil))
    | some x =>
      obtain ⟨bl, junk⟩ := x
      refine go ?_
      refine VGd.mk ⟨rfl, Nat.zero_le _, app_len _ _, by dsimp only; omega⟩ (go ?_)
      refine VAll.mk (fun b2 => go ?_)
      refine ⟨(k + 1, some (b2, [])), ⟨by dsimp only; omega, fun h => by cases h⟩, by dsimp only; omega, rfl, ?_⟩
      unfold FS fbox
      rw [hnx]
      exact .cons 1 rfl (.cons 1 rfl (.cons 0 (by dsimp only; rw [← app_cells]; rfl) .nil))
  · have hk : k = u.toNat := by omega
    rw [hA k hk] at ho2 ⊢
    refine go ?_
    exact VRet.mk (FS bf bm bw o2 (applyS i.toNat u.toNat s)) (VSel.skip (VSel.refl _) _) ⟨rfl, o2, ho2, rfl⟩
end Go.Proofs.YtliabblchkgclaaGreatDoor

namespace Go.Proofs.YtliabblchkgclaaGreatDoor
open Go Go.Av
mutual
/-- Items of which inference may go through all. -/
def goodI : Tree → Bool
  | .quot l => decide (l.length ≤ 2513169434916) && goodIs l
  | .call s => !s.isEmpty
  | .none => false
  | .odd _ _ => false
  | _ => true
def goodIs : List Tree → Bool
  | [] => true
  | t :: r => goodI t && goodIs r
end
def GoodX (x : Slot) : Prop := ∀ l, x = some l → l.length ≤ 2513169434916 ∧ goodIs l = true
def GoodS (s : EfS) : Prop := ∀ x ∈ s.stk, GoodX x
def Bud (s : EfS) : Prop := 0 ≤ s.inn ∧ s.inn + 16 * s.left ≤ 100000 ∧ s.stk.length + 16 * s.left ≤ 100000 ∧ s.left ≤ 4096
theorem Bud.fine {s : EfS} (h : Bud s) : Fine s := ⟨h.1, by have := h.2.1; omega, by have := h.2.2.1; omega⟩
theorem GoodS.pop {s : EfS} (h : GoodS s) : GoodX (popS s).1 ∧ GoodS (popS s).2 := by
  unfold popS
  split
  · rename_i e
    exact ⟨(fun l e => by cases e), fun x hx => h x (by exact hx)⟩
  · rename_i x r e
    exact ⟨h x (by rw [e]; exact List.mem_cons_self ..), fun y hy => h y (by rw [e]; exact List.mem_cons_of_mem _ hy)⟩
theorem GoodS.push {s : EfS} {x : Slot} (h : GoodS s) (hx : GoodX x) : GoodS (pushS s x) := by
  intro y hy
  rcases List.mem_cons.1 hy with rfl | hy
  · exact hx
  · exact h y hy
theorem GoodS.pops {s : EfS} (h : GoodS s) : ∀ n, GoodS (popsS n s).2 ∧ ∀ x ∈ (popsS n s).1, GoodX x
  | 0 => ⟨h, fun x hx => by cases hx⟩
  | n + 1 => by
    obtain ⟨h1, h2⟩ := GoodS.pops h n
    obtain ⟨e1, e2⟩ := popsS_next n s
    obtain ⟨h3, h4⟩ := h1.pop
    rw [e1, e2]
    refine ⟨h4, fun x hx => ?_⟩
    rcases List.mem_cons.1 hx with rfl | hx
    · exact h3
    · exact h2 x hx
theorem GoodS.apply {s : EfS} (h : GoodS s) (i u : Nat) : GoodS (applyS i u s) := by
  intro x hx
  rcases List.mem_append.1 hx with hx | hx
  · obtain rfl := (List.mem_replicate.1 hx).2
    intro l e; cases e
  · exact (h.pops i).1 x hx
/-- What is shared: the work done, and the effects of known words. -/
def WM (bw bm : Nat) (ents : List (AV × AV)) (left : Nat) : St := [(bw, .box [.int .i64 ((4096 - left : Nat) : Int)]), (bm, .map ents)]
def RunP (bf bw bm : Nat) (ents : List (AV × AV)) (v : AV) (r : Except Int EfS) (out : AOut) (st : St) : Prop := match r with
  | .ok t => out = .ret v ∧ GoodS t ∧ ∃ o', okL o' t ∧ st = WM bw bm ents t.left ++ FS bf bm bw o' t
  | .error e => out = .panic (stopV e) ∧ st = []
/-- The contract of run, for so much work. -/
def RunC (known : List UInt8 → Option (Int × Int)) (bw bm : Nat) (ents : List (AV × AV)) (n : Nat) : Prop :=
  ∀ (bf : Nat) (o : LR) (s : EfS) (q : List Tree), s.left ≤ n → okL o s → Bud s → GoodS s → q.length ≤ 2513169434916 → goodIs q = true →
    ACalls Tryz.prog 131 [.ptr bf 0, .fz (itemAVs q) q.length false] (WM bw bm ents s.left ++ FS bf bm bw o s) (RunP bf bw bm ents (.tup []) (runL known q s))
def OwnP (bf bw bm : Nat) (ents : List (AV × AV)) (o : LR) (r : Except Int (Int × Int × EfS)) (out : AOut) (st : St) : Prop := match r with
  | .ok (i, u, t) => out = .ret (.agg [.int .i64 i, .int .i64 u]) ∧ st = WM bw bm ents t.left ++ FS bf bm bw o t
  | .error e => out = .panic (stopV e) ∧ st = []
/-- A contract over some objects, where there are more: these stand last afterwards. -/
theorem ACalls.usel {P : Program} {f : FuncId} {args : List AV} {s R st : St} {Q Post : AOut → St → Prop} (h : ACalls P f args s Q) (hp : (s ++ R).Perm st) (k : ∀ out s', Q out s' → Post out (s' ++ R)) : ACalls P f args st Post :=
  ⟨h.ent, fun W F g w us hl hr inv => ((ACalls.perm (ACalls.frame (R := R) h) hp).run W F g w us hl hr inv).mono fun _ _ ⟨g', out, st', a, b, c, s', e, hq⟩ => ⟨g', out, st', a, b, c, e ▸ k out s' hq⟩⟩
theorem f_own {known : List UInt8 → Option (Int × Int)} {bw bm : Nat} {ents : List (AV × AV)} {n : Nat} (hR : RunC known bw bm ents n) (bf : Nat) (o : LR) (s : EfS) (q : List Tree) (hn : s.left ≤ n) (hl : s.left ≤ 4096)
    (hq : q.length ≤ 2513169434916) (hg : goodIs q = true) :
    ACalls Tryz.prog 159 [.ptr bf 0, .fz (itemAVs q) q.length false] (WM bw bm ents s.left ++ FS bf bm bw o s) (OwnP bf bw bm ents o (ownS (runL known) q s)) := by
  refine ACalls.of_W tb_ok (fn := Tryz.f159) (n := 29) (by kernel_rfl) rfl (by kernel_rfl) rfl rfl (by simp) (go ?_)
  refine VAll.mk (fun b1 => go ?_)
  refine VDraw.chain [9, 10] (go ?_)
  refine VAll.mk (fun bg => go ?_)
  have h := hR bg none ⟨s.left, 0, []⟩ q hn (fun _ => rfl) ⟨Int.le_refl _, by simp; omega, by simp; omega, hl⟩ (fun x hx => by cases hx) hq hg
  refine ACalls.usel h (R := (b1, .box [.int .i64 0, .int .i64 0]) :: FS bf bm bw o s) (List.Perm.append_right (FS bf bm bw o s) (List.perm_append_comm (l₁ := WM bw bm ents s.left) (l₂ := [(bg, .box [.mapr bm, .ptr bw 0, .int .i64 0, .nils]), (b1, .box [.int .i64 0, .int .i64 0])]))) ?_
  intro out s' hp
  unfold ownS
  cases hr : runL known q ⟨s.left, 0, []⟩ with
  | error e =>
    rw [hr] at hp
    obtain ⟨rfl, rfl⟩ := hp
    refine go ?_
    exact VRet.mk [] .nil ⟨rfl, rfl⟩
  | ok t =>
    rw [hr] at hp
    obtain ⟨rfl, _, o', ho', rfl⟩ := hp
    obtain ⟨tl, ti, tk⟩ := t
    cases o with
    | none =>
      cases o' with
      | none =>
        obtain rfl : tk = [] := ho' rfl
        refine go ?_
        refine VDraw.chain [10] (go ?_)
        exact VRet.mk _ (.cons 0 rfl (.cons 0 rfl (.cons 2 rfl .nil))) ⟨rfl, rfl⟩
      | some x =>
        refine go ?_
        refine VDraw.chain [10] (go ?_)
        exact VRet.mk _ (.cons 0 rfl (.cons 0 rfl (.cons 3 rfl .nil))) ⟨rfl, rfl⟩
    | some y =>
      cases o' with
      | none =>
        obtain rfl : tk = [] := ho' rfl
        refine go ?_
        refine VDraw.chain [10] (go ?_)
        exact VRet.mk _ (.cons 0 rfl (.cons 0 rfl (.cons 2 rfl (.cons 2 rfl .nil)))) ⟨rfl, rfl⟩
      | some x =>
        refine go ?_
        refine VDraw.chain [10] (go ?_)
        exact VRet.mk _ (.cons 0 rfl (.cons 0 rfl (.cons 3 rfl (.cons 3 rfl .nil)))) ⟨rfl, rfl⟩
end Go.Proofs.YtliabblchkgclaaGreatDoor
