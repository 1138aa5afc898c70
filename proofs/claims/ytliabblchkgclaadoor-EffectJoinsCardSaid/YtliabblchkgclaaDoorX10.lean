/- The reference's Measure, Sound, Bare, Name. Conditions: as each says. term.Name, term.measure, term.item, term.Check: the walks. Conditions: as each says. measure and the reference's Measure: plain Lean. Conditions: as each says. Effects: Of. Conditions: as each says. Effects: an inference from elsewhere: with more or less work left, and with more taken before. Conditions: as each says. Effects: what the law EffectQuotes says, of what Of computes. Conditions: none. Trees of the reference as values and items: plain Lean and the walks. Conditions: as each says. Effects: the reference's primitives, and which items are simple. Conditions: as each says. term.Same, term.SameItems: the walks. Conditions: as each says. Names in the reference's trees are no longer than memory. Conditions: as each says. Effects: the law EffectKeeps. Conditions: the slices are no longer than memory can hold. -/
import Derived.Test.YtliabblchkgclaaDoorX9
import Derived.Test.YtliabblchkgclaaDoorX8
import Derived.Test.YtliabblchkgclaaDoorX7
set_option linter.all false
set_option maxRecDepth 20000
namespace Go.Proofs.YtliabblchkgclaaDoor
open Go Go.Av
def RV.kind : RV → Int
  | .mk k _ _ _ => k
def inR (n : Int) : Bool := decide (-1152921504606846976 ≤ n) && decide (n ≤ 1152921504606846975)
mutual
/-- What Measure says: the size, the depth, is it sound? -/
def measR : RV → Int → Int → Int × Int × Bool
  | .mk k n s l, left, nest =>
    if left < 1 ∨ 32 < nest then (0, 0, false)
    else if k = 1 then (1, 0, inR n)
    else if k = 2 then (1, 0, decide (s.length ≤ 4096) && decide (faultV s < 0))
    else if k = 3 then (1, 0, true)
    else if k = 6 then (1, 0, decide (1 ≤ n) && decide (n ≤ 1048576))
    else if k = 7 then (1, 0, nameR s && !reservedR s)
    else if k = 4 ∨ k = 5 then measAll (decide (k = 4)) l left nest 1 0
    else (0, 0, false)
def measAll (vals : Bool) : List RV → Int → Int → Int → Int → Int × Int × Bool
  | [], _, _, size, depth => (size, depth + 1, decide (depth < 32))
  | v :: r, left, nest, size, depth =>
    if (vals && decide (v.kind = 7)) = true then (0, 0, false)
    else if (measR v (left - size) (nest + 1)).2.2 = true then measAll vals r left nest (size + (measR v (left - size) (nest + 1)).1) (max depth (measR v (left - size) (nest + 1)).2.1)
    else (0, 0, false)
end
mutual
/-- No list of more than 2^40, no name of more than 10^9 bytes. -/
def RV.fit : RV → Bool
  | .mk k _ s l => decide (l.length ≤ 2513169434916) && decide (k = 7 → s.length ≤ 1000000000) && (if k = 4 ∨ k = 5 then fitAll l else true)
def fitAll : List RV → Bool
  | [] => true
  | v :: r => v.fit && fitAll r
end
theorem fitAll_at : ∀ {l : List RV} {i : Nat} {t : RV}, fitAll l = true → l[i]? = some t → t.fit = true
  | [], _, _, _, h => by simp at h
  | x :: l, 0, t, hc, h => by simp at h; subst h; simp [fitAll] at hc; exact hc.1
  | x :: l, i + 1, t, hc, h => by simp [fitAll] at hc; exact fitAll_at hc.2 (by simpa using h)
mutual
theorem measR_le : ∀ (v : RV) (left nest : Int), (measR v left nest).2.2 = true → 1 ≤ (measR v left nest).1 ∧ (measR v left nest).1 ≤ left ∧ 0 ≤ (measR v left nest).2.1 ∧ (measR v left nest).2.1 ≤ 32
  | .mk k n s l, left, nest, h => by
    rw [measR] at h ⊢
    split at h
    · simp at h
    · rename_i h0
      rw [if_neg h0]
      repeat' split
      all_goals first
      | (dsimp only; omega)
      | skip
      · rename_i h1 h2 h3 h4 h5 h6
        rw [if_neg h1, if_neg h2, if_neg h3, if_neg h4, if_neg h5, if_pos h6] at h
        exact measAll_le _ l left nest 1 0 (by omega) (by omega) h
      · rename_i h1 h2 h3 h4 h5 h6
        rw [if_neg h1, if_neg h2, if_neg h3, if_neg h4, if_neg h5, if_neg h6] at h
        simp at h
theorem measAll_le : ∀ (vals : Bool) (l : List RV) (left nest size depth : Int), 1 ≤ size ∧ size ≤ left → 0 ≤ depth → (measAll vals l left nest size depth).2.2 = true →
    1 ≤ (measAll vals l left nest size depth).1 ∧ (measAll vals l left nest size depth).1 ≤ left ∧ 0 ≤ (measAll vals l left nest size depth).2.1 ∧ (measAll vals l left nest size depth).2.1 ≤ 32
  | vals, [], left, nest, size, depth, hs, hd, h => by
    rw [measAll] at h ⊢
    simp at h
    dsimp only
    omega
  | vals, v :: r, left, nest, size, depth, hs, hd, h => by
    rw [measAll] at h ⊢
    split at h
    · simp at h
    · rename_i h1
      rw [if_neg h1]
      split at h
      · rename_i h2
        rw [if_pos h2]
        have := measR_le v (left - size) (nest + 1) h2
        exact measAll_le vals r left nest _ _ (by omega) (by omega) h
      · simp at h
end
theorem f_refReserved (s : List UInt8) : Av.Fn Tryd.prog 38 [.str s] (.bool (reservedR s)) := by
  have e : reservedR s = decide (s = [58] ∨ s = [59] ∨ s = [40] ∨ s = [41] ∨ s = [45, 45] ∨ s = [91] ∨ s = [93] ∨ s = [123] ∨ s = [125] ∨ s = [116] ∨ s = [102]) := by
    rw [Bool.eq_iff_iff]
    simp [reservedR, reservedL]
  rw [e]
  refine ACalls.of_W tb_ok (fn := Tryd.f38) (n := 45) (by kernel_rfl) rfl (by kernel_rfl) rfl rfl (by simp) (go ?_)
  repeat' (refine fork (fun _ => go ?_) (fun _ => go ?_))
  all_goals
    refine VRet.mk [] .nil ?_
    refine ⟨congrArg (fun b => AOut.ret (.bool b)) ?_, rfl⟩
    simp_all
theorem f_ref07Name (s : List UInt8) (hl : s.length ≤ 1000000000) : Av.Fn Tryd.prog 24 [.str s] (.bool (nameR s && !reservedR s)) := by
  have h1 := f_refName' s hl
  have h2 := f_refReserved s
  refine ACalls.of_W tb_ok (fn := Tryd.f24) (n := 10) (by kernel_rfl) rfl (by kernel_rfl) rfl rfl (by simp) (go ?_)
  refine Fn.use (h1) (go ?_)
  cases nameR s with
  | true =>
    refine go ?_
    refine Fn.use (h2) (go ?_)
    refine VRet.mk [] .nil ?_
    exact ⟨rfl, rfl⟩
  | false =>
    refine go ?_
    refine VRet.mk [] .nil ?_
    exact ⟨rfl, rfl⟩
theorem f_In (n : Int) : Av.Fn Tryd.prog 22 [.int .i64 n] (.bool (inR n)) := by
  refine ACalls.of_W tb_ok (fn := Tryd.f22) (n := 9) (by kernel_rfl) rfl (by kernel_rfl) rfl rfl (by simp) (go ?_)
  refine fork (fun h => go ?_) (fun h => go ?_)
  · refine VRet.mk [] .nil ?_
    simp [inR, h]
  · refine VRet.mk [] .nil ?_
    simp [inR, h]
structure MeI where
  i : Nat
  size : Int
  depth : Int

theorem rvs_n {l : List RV} {i : Nat} {x : RV} (h : l[i]? = some x) : ((rvsC l).drop (i * 4))[0]? = some (.int .i64 x.kind) := by
  have e1 := rvsC_at (r := []) h
  rw [List.append_nil] at e1
  obtain ⟨k, n, s, l'⟩ := x
  have := congrArg (·[0]?) e1
  simpa [List.getElem?_take, rvAV, RV.kind] using this


theorem f_Measure (d : Nat) : ∀ (v : RV) (left nest : Int), v.deep ≤ d → v.fit = true → -1000000000 ≤ left ∧ left ≤ 1000000000 → 0 ≤ nest ∧ nest ≤ 1000000000 →
    Av.Fn Tryd.prog 10 [.agg (rvAV v), .int .i64 left, .int .i64 nest] (.tup [.int .i64 (measR v left nest).1, .int .i64 (measR v left nest).2.1, .bool (measR v left nest).2.2]) := by
  induction d with
  | zero =>
    intro v left nest hd
    obtain ⟨k, n, s, l⟩ := v
    rw [RV.deep] at hd; omega
  | succ d ih =>
    intro v left nest hd hf hl hn
    obtain ⟨k, n, s, l⟩ := v
    rw [RV.deep] at hd
    simp only [RV.fit, Bool.and_eq_true, decide_eq_true_eq] at hf
    obtain ⟨⟨hf1, hf2⟩, hf3⟩ := hf
    rw [rvAV]
    refine ACalls.of_W tb_ok (fn := Tryd.f10) (n := 105) (by kernel_rfl) rfl (by kernel_rfl) rfl rfl (by simp) (go ?_)
    refine VAll.mk (fun b => go ?_)
    refine fork (fun h1 => go ?_) (fun h1 => go ?_)
    · refine VRet.mk [] .nil ?_
      rw [measR, if_pos (by omega)]; exact ⟨rfl, rfl⟩
    refine fork (fun h2 => go ?_) (fun h2 => go ?_)
    · refine VRet.mk [] .nil ?_
      rw [measR, if_pos (by omega)]; exact ⟨rfl, rfl⟩
    rw [measR, if_neg (by omega)]
    refine fork (fun k1 => go ?_) (fun k1 => go ?_)
    · rw [if_pos k1]
      refine Fn.use (f_In n) (go ?_)
      refine VRet.mk [] .nil ?_
      exact ⟨rfl, rfl⟩
    rw [if_neg k1]
    refine fork (fun k2 => go ?_) (fun k2 => go ?_)
    · rw [if_pos k2]
      refine fork (fun h3 => go ?_) (fun h3 => go ?_)
      · refine Fn.use (f_Bad s (by omega)) (go ?_)
        refine VRet.mk [] .nil ?_
        rw [show decide (s.length ≤ 4096) = true from decide_eq_true (by omega)]; exact ⟨rfl, rfl⟩
      · refine VRet.mk [] .nil ?_
        rw [show decide (s.length ≤ 4096) = false from decide_eq_false (by omega)]; exact ⟨rfl, rfl⟩
    rw [if_neg k2]
    refine fork (fun k3 => go ?_) (fun k3 => go ?_)
    · rw [if_pos k3]
      refine VRet.mk [] .nil ?_
      exact ⟨rfl, rfl⟩
    rw [if_neg k3]
    refine fork (fun k6 => go ?_) (fun k6 => go ?_)
    · rw [if_pos k6]
      refine fork (fun h3 => go ?_) (fun h3 => go ?_)
      · refine VRet.mk [] .nil ?_
        rw [decide_eq_true h3]; exact ⟨rfl, rfl⟩
      · refine VRet.mk [] .nil ?_
        rw [decide_eq_false h3]; exact ⟨rfl, rfl⟩
    rw [if_neg k6]
    refine fork (fun k7 => go ?_) (fun k7 => go ?_)
    · rw [if_pos k7]
      refine Fn.use (f_ref07Name s (hf2 k7)) (go ?_)
      refine VRet.mk [] .nil ?_
      exact ⟨rfl, rfl⟩
    rw [if_neg k7]
    refine fork (fun k4 => go ?_) (fun k4 => go ?_)
    · rw [if_pos (.inl k4), decide_eq_true k4]
      subst k4
      rw [if_pos (.inl rfl)] at hf3
      refine go ?_
      refine VLoop.mk [6, 7, 9] MeI (fun i => [.int .i64 i.size, .int .i64 i.depth, .int .i64 i.i]) (fun _ => [(b, .box [.int .i64 4, .int .i64 n, .str s, .fz (rvsC l) l.length false])])
        (fun i => i.i ≤ l.length ∧ (1 ≤ i.size ∧ i.size ≤ left) ∧ (0 ≤ i.depth ∧ i.depth ≤ 32) ∧ measAll true (l.drop i.i) left nest i.size i.depth = measAll true l left nest 1 0) (fun i => l.length - i.i) ⟨0, 1, 0⟩ ?_ ?_
      · exact ⟨⟨by simp, by dsimp only; omega, by simp, by simp⟩, rfl, .cons 0 rfl .nil⟩
      rintro ⟨i, size, depth⟩ ⟨hi, hsz, hdp, hI⟩
      dsimp only at hi hsz hdp hI ⊢
      refine go ?_
      refine fork (fun hlt => go ?_) (fun hlt => go ?_)
      · have hlt : i < l.length := by omega
        obtain ⟨x, hx⟩ : ∃ x, l[i]? = some x := ⟨l[i], by simp [hlt]⟩
        have hda : l.drop i = x :: l.drop (i + 1) := by rw [List.drop_eq_getElem_cons hlt]; congr 1; rw [List.getElem?_eq_getElem hlt] at hx; exact Option.some.inj hx
        have hfx := ih x (left - size) (nest + 1) (by have := deepAll_at hx; omega) (fitAll_at hf3 hx) (by omega) (by omega)
        have hle := measR_le x (left - size) (nest + 1)
        have hk := rvs_n hx
        have ht := rvsC_at (r := []) hx
        rw [List.append_nil] at ht
        rw [hda, measAll] at hI
        refine VNth.mk _ (by simpa using hk) (go ?_)
        refine fork (fun h7 => go ?_) (fun h7 => go ?_)
        · rw [if_pos (by simp; omega)] at hI
          refine VRet.mk [] .nil ?_
          rw [← hI]; exact ⟨rfl, rfl⟩
        rw [if_neg (by simp; omega)] at hI
        refine VTake.mk (rvAV x) (by simpa using ht) (by simp) (go ?_)
        refine Fn.use (hfx) (go ?_)
        generalize measR x (left - size) (nest + 1) = m at hI hle
        obtain ⟨a, dd, c⟩ := m
        dsimp only at hI hle
        cases c with
        | false =>
          refine go ?_
          refine VRet.mk [] .nil ?_
          rw [← hI]; exact ⟨rfl, rfl⟩
        | true =>
          have hle := hle rfl
          rw [if_pos rfl] at hI
          refine go ?_
          refine ⟨⟨i + 1, size + a, max depth dd⟩, ⟨?_, ?_, ?_, hI⟩, ?_, rfl, .cons 0 rfl .nil⟩
          · dsimp only; omega
          · dsimp only; omega
          · dsimp only; omega
          · dsimp only; omega
      · rw [List.drop_eq_nil_of_le (by omega), measAll] at hI
        refine VRet.mk [] .nil ?_
        rw [← hI]; exact ⟨rfl, rfl⟩
    · refine fork (fun k5 => go ?_) (fun k5 => go ?_)
      · rw [if_pos (.inr k5), decide_eq_false k4]
        subst k5
        rw [if_pos (.inr rfl)] at hf3
        refine go ?_
        refine VLoop.mk [6, 7, 9] MeI (fun i => [.int .i64 i.size, .int .i64 i.depth, .int .i64 i.i]) (fun _ => [(b, .box [.int .i64 5, .int .i64 n, .str s, .fz (rvsC l) l.length false])])
          (fun i => i.i ≤ l.length ∧ (1 ≤ i.size ∧ i.size ≤ left) ∧ (0 ≤ i.depth ∧ i.depth ≤ 32) ∧ measAll false (l.drop i.i) left nest i.size i.depth = measAll false l left nest 1 0) (fun i => l.length - i.i) ⟨0, 1, 0⟩ ?_ ?_
        · exact ⟨⟨by simp, by dsimp only; omega, by simp, by simp⟩, rfl, .cons 0 rfl .nil⟩
        rintro ⟨i, size, depth⟩ ⟨hi, hsz, hdp, hI⟩
        dsimp only at hi hsz hdp hI ⊢
        refine go ?_
        refine fork (fun hlt => go ?_) (fun hlt => go ?_)
        · have hlt : i < l.length := by omega
          obtain ⟨x, hx⟩ : ∃ x, l[i]? = some x := ⟨l[i], by simp [hlt]⟩
          have hda : l.drop i = x :: l.drop (i + 1) := by rw [List.drop_eq_getElem_cons hlt]; congr 1; rw [List.getElem?_eq_getElem hlt] at hx; exact Option.some.inj hx
          have hfx := ih x (left - size) (nest + 1) (by have := deepAll_at hx; omega) (fitAll_at hf3 hx) (by omega) (by omega)
          have hle := measR_le x (left - size) (nest + 1)
          have hk := rvs_n hx
          have ht := rvsC_at (r := []) hx
          rw [List.append_nil] at ht
          rw [hda, measAll] at hI
          rw [if_neg (by simp)] at hI
          refine VTake.mk (rvAV x) (by simpa using ht) (by simp) (go ?_)
          refine Fn.use (hfx) (go ?_)
          generalize measR x (left - size) (nest + 1) = m at hI hle
          obtain ⟨a, dd, c⟩ := m
          dsimp only at hI hle
          cases c with
          | false =>
            refine go ?_
            refine VRet.mk [] .nil ?_
            rw [← hI]; exact ⟨rfl, rfl⟩
          | true =>
            have hle := hle rfl
            rw [if_pos rfl] at hI
            refine go ?_
            refine ⟨⟨i + 1, size + a, max depth dd⟩, ⟨?_, ?_, ?_, hI⟩, ?_, rfl, .cons 0 rfl .nil⟩
            · dsimp only; omega
            · dsimp only; omega
            · dsimp only; omega
            · dsimp only; omega
        · rw [List.drop_eq_nil_of_le (by omega), measAll] at hI
          refine VRet.mk [] .nil ?_
          rw [← hI]; exact ⟨rfl, rfl⟩
      · rw [if_neg (by omega)]
        refine VRet.mk [] .nil ?_
        exact ⟨rfl, rfl⟩
mutual
/-- Does no box stand in a tree? -/
def bareR : RV → Bool
  | .mk k _ _ l => decide (k ≠ 6) && bareAll l
def bareAll : List RV → Bool
  | [] => true
  | v :: r => bareR v && bareAll r
end
def soundDefR (d : RDef) : Bool := nameR d.name && !reservedR d.name && (decide (0 ≤ d.inn) && decide (d.inn ≤ 16)) && (decide (0 ≤ d.out) && decide (d.out ≤ 16)) && (measR (.mk 5 0 [] d.body) 1024 0).2.2 && bareAll d.body
end Go.Proofs.YtliabblchkgclaaDoor

namespace Go.Proofs.YtliabblchkgclaaDoor
open Go Go.Av
def nmR (s : List UInt8) : Bool := nameR s && !reservedR s
theorem f_tName (s : List UInt8) (hs : s.length ≤ 4611686018427387904) : Av.Fn Tryd.prog 64 [.str s] (.bool (nmR s)) := by
  have h1 := f11_of s hs
  have h2 := f_Reserved s
  unfold nmR
  refine ACalls.of_W tb_ok (fn := Tryd.f64) (n := 10) (by kernel_rfl) rfl (by kernel_rfl) rfl rfl (by simp) (go ?_)
  refine Fn.use (h1) (go ?_)
  cases nameR s with
  | true =>
    refine go ?_
    refine Fn.use (h2) (go ?_)
    refine VRet.mk [] .nil ?_
    exact ⟨rfl, rfl⟩
  | false =>
    refine go ?_
    refine VRet.mk [] .nil ?_
    exact ⟨rfl, rfl⟩
mutual
/-- What measure says of a value (or item says of an item): its depth, and how many may still come. -/
def measT (it : Bool) : Tree → Int → Int → Option (Int × Int)
  | .none, _, _ => none
  | .odd _ _, _, _ => none
  | .call s, left, _ => if it = true ∧ 1 ≤ left ∧ nmR s = true then some (0, left - 1) else none
  | .int n, left, nest => if left < 1 ∨ 32 < nest then none else if inR n = true then some (0, left - 1) else none
  | .str s, left, nest => if left < 1 ∨ 32 < nest then none else if s.length ≤ 4096 ∧ faultR s = none then some (0, left - 1) else none
  | .bool _, left, nest => if left < 1 ∨ 32 < nest then none else some (0, left - 1)
  | .box n, left, nest => if left < 1 ∨ 32 < nest then none else if 1 ≤ n ∧ n ≤ 1048576 then some (0, left - 1) else none
  | .list l, left, nest => if left < 1 ∨ 32 < nest then none else measTs false l (left - 1) nest 0
  | .quot l, left, nest => if left < 1 ∨ 32 < nest then none else measTs true l (left - 1) nest 0
def measTs (it : Bool) : List Tree → Int → Int → Int → Option (Int × Int)
  | [], left, _, depth => if depth < 32 then some (depth + 1, left) else none
  | t :: r, left, nest, depth => match measT it t left (nest + 1) with
    | some (d, left) => measTs it r left nest (max depth d)
    | none => none
end
mutual
theorem measT_le : ∀ (it : Bool) (t : Tree) (left nest d l' : Int), measT it t left nest = some (d, l') → (0 ≤ d ∧ d ≤ 32) ∧ 0 ≤ l' ∧ l' < left := by
  intro it t left nest d l' h
  cases t with
  | none => rw [measT] at h; cases h
  | odd t v => rw [measT] at h; cases h
  | list l =>
    rw [measT] at h
    split at h
    · cases h
    · have := measTs_le _ l (left - 1) nest 0 d l' (by omega) (by omega) h; omega
  | quot l =>
    rw [measT] at h
    split at h
    · cases h
    · have := measTs_le _ l (left - 1) nest 0 d l' (by omega) (by omega) h; omega
  | _ =>
    rw [measT] at h
    repeat' split at h
    all_goals first
    | (cases h; done)
    | (simp only [Option.some.injEq, Prod.mk.injEq] at h; omega)
theorem measTs_le : ∀ (it : Bool) (l : List Tree) (left nest depth d l' : Int), 0 ≤ left → 0 ≤ depth → measTs it l left nest depth = some (d, l') → (0 ≤ d ∧ d ≤ 32) ∧ 0 ≤ l' ∧ l' ≤ left
  | it, [], left, nest, depth, d, l', hl, hd, h => by
    rw [measTs] at h
    split at h
    · simp only [Option.some.injEq, Prod.mk.injEq] at h; omega
    · cases h
  | it, t :: r, left, nest, depth, d, l', hl, hd, h => by
    rw [measTs] at h
    split at h
    · rename_i d1 l1 e
      have h1 := measT_le it t left (nest + 1) d1 l1 e
      have h2 := measTs_le it r l1 nest _ d l' (by omega) (by omega) h
      omega
    · cases h
end
/-- What measure does: the answer, and how many may still come. -/
def MeasC (x : AV) (m : Option (Int × Int)) (left nest : Int) : Prop := ∀ b, ACalls Tryd.prog 44 [x, .ptr b 0, .int .i64 nest] [(b, .box [.int .i64 left])] (fun out st => ∃ d l', out = .ret (.tup [.int .i64 d, .bool m.isSome]) ∧ st = [(b, .box [.int .i64 l'])] ∧ (m = none ∨ m = some (d, l')))
def ItemC (x : AV) (m : Option (Int × Int)) (left nest : Int) : Prop := ∀ b, ACalls Tryd.prog 55 [x, .ptr b 0, .int .i64 nest] [(b, .box [.int .i64 left])] (fun out st => ∃ d l', out = .ret (.tup [.int .i64 d, .bool m.isSome]) ∧ st = [(b, .box [.int .i64 l'])] ∧ (m = none ∨ m = some (d, l')))
structure MeT where
  i : Nat
  depth : Int
  left : Int

theorem m_list (l : List Tree) (hl : l.length ≤ 2513169434916) (left nest : Int) (hb : 1 ≤ left ∧ left ≤ 1000000) (hn : 0 ≤ nest ∧ nest ≤ 32)
    (ih : ∀ (i : Nat) t, l[i]? = some t → ∀ left nest, 0 ≤ left ∧ left ≤ 1000000 → 0 ≤ nest ∧ nest ≤ 33 → MeasC (valAV t) (measT false t left nest) left nest) :
    MeasC (valAV (.list l)) (measTs false l (left - 1) nest 0) left nest := by
  intro b
  rw [valAV]
  refine ACalls.of_W tb_ok (fn := Tryd.f44) (n := 129) (by kernel_rfl) rfl (by kernel_rfl) rfl rfl (by simp) (go ?_)
  refine VIf.no (by simp; omega) (go ?_)
  refine VIf.no (by simp; omega) (go ?_)
  refine VAll.mk (fun b2 => go ?_)
  refine VLoop.mk [79, 6] MeT (fun i => [.int .i64 i.i, .int .i64 i.depth]) (fun i => [(b, .box [.int .i64 i.left]), (b2, .box [.fz (valAVs l) l.length false])])
    (fun i => i.i ≤ l.length ∧ (0 ≤ i.left ∧ i.left ≤ 1000000) ∧ (0 ≤ i.depth ∧ i.depth ≤ 32) ∧ measTs false (l.drop i.i) i.left nest i.depth = measTs false l (left - 1) nest 0) (fun i => l.length - i.i) ⟨0, 0, left - 1⟩ ?_ ?_
  · exact ⟨⟨by simp, by dsimp only; omega, by simp, by simp⟩, rfl, .cons 1 rfl (.cons 0 rfl .nil)⟩
  rintro ⟨i, depth, lf⟩ ⟨hi, hlf, hdp, hI⟩
  dsimp only at hi hlf hdp hI ⊢
  refine go ?_
  refine fork (fun hlt => go ?_) (fun hlt => go ?_)
  · have hlt : i < l.length := by omega
    obtain ⟨x, hx⟩ : ∃ x, l[i]? = some x := ⟨l[i], by simp [hlt]⟩
    have hda : l.drop i = x :: l.drop (i + 1) := by rw [List.drop_eq_getElem_cons hlt]; congr 1; rw [List.getElem?_eq_getElem hlt] at hx; exact Option.some.inj hx
    rw [hda, measTs] at hI
    have hfx := ih i x hx lf (nest + 1) (by omega) (by omega) b
    have hle := measT_le false x lf (nest + 1)
    refine VNth.mk (valAV x) (by simp [mulN_eq, valAVs_map, hx]) (go ?_)
    generalize measT false x lf (nest + 1) = m at hI hfx hle
    refine ACalls.use (R := [(b2, .box [.fz (valAVs l) l.length false])]) hfx (.refl _) ?_
    rintro _ _ ⟨d, l', rfl, rfl, hm⟩
    cases m with
    | none =>
      rw [← hI]
      refine go ?_
      exact VRet.mk [(b, .box [.int .i64 l'])] (.cons 0 rfl .nil) ⟨0, l', rfl, rfl, .inl rfl⟩
    | some p =>
      obtain rfl : p = (d, l') := by simpa using hm
      have hle := hle d l' rfl
      dsimp only at hI
      refine go ?_
      refine ⟨⟨i + 1, max depth d, l'⟩, ⟨?_, ?_, ?_, hI⟩, ?_, rfl, .cons 0 rfl (.cons 0 rfl .nil)⟩
      · dsimp only; omega
      · dsimp only; omega
      · dsimp only; omega
      · dsimp only; omega
  · rw [List.drop_eq_nil_of_le (by omega), measTs] at hI
    rw [← hI]
    refine VRet.mk [(b, .box [.int .i64 lf])] (.cons 0 rfl .nil) ⟨depth + 1, lf, ?_, rfl, ?_⟩
    · by_cases h : depth < 32 <;> simp [h]
    · by_cases h : depth < 32 <;> simp [h]
theorem m_quot (l : List Tree) (hl : l.length ≤ 2513169434916) (left nest : Int) (hb : 1 ≤ left ∧ left ≤ 1000000) (hn : 0 ≤ nest ∧ nest ≤ 32)
    (ih : ∀ (i : Nat) t, l[i]? = some t → ∀ left nest, 0 ≤ left ∧ left ≤ 1000000 → 0 ≤ nest ∧ nest ≤ 33 → ItemC (itemAV t) (measT true t left nest) left nest) :
    MeasC (valAV (.quot l)) (measTs true l (left - 1) nest 0) left nest := by
  intro b
  rw [valAV]
  refine ACalls.of_W tb_ok (fn := Tryd.f44) (n := 129) (by kernel_rfl) rfl (by kernel_rfl) rfl rfl (by simp) (go ?_)
  refine VIf.no (by simp; omega) (go ?_)
  refine VIf.no (by simp; omega) (go ?_)
  refine VAll.mk (fun b2 => go ?_)
  refine VLoop.mk [107, 6] MeT (fun i => [.int .i64 i.i, .int .i64 i.depth]) (fun i => [(b, .box [.int .i64 i.left]), (b2, .box [.fz (itemAVs l) l.length false])])
    (fun i => i.i ≤ l.length ∧ (0 ≤ i.left ∧ i.left ≤ 1000000) ∧ (0 ≤ i.depth ∧ i.depth ≤ 32) ∧ measTs true (l.drop i.i) i.left nest i.depth = measTs true l (left - 1) nest 0) (fun i => l.length - i.i) ⟨0, 0, left - 1⟩ ?_ ?_
  · exact ⟨⟨by simp, by dsimp only; omega, by simp, by simp⟩, rfl, .cons 1 rfl (.cons 0 rfl .nil)⟩
  rintro ⟨i, depth, lf⟩ ⟨hi, hlf, hdp, hI⟩
  dsimp only at hi hlf hdp hI ⊢
  refine go ?_
  refine fork (fun hlt => go ?_) (fun hlt => go ?_)
  · have hlt : i < l.length := by omega
    obtain ⟨x, hx⟩ : ∃ x, l[i]? = some x := ⟨l[i], by simp [hlt]⟩
    have hda : l.drop i = x :: l.drop (i + 1) := by rw [List.drop_eq_getElem_cons hlt]; congr 1; rw [List.getElem?_eq_getElem hlt] at hx; exact Option.some.inj hx
    rw [hda, measTs] at hI
    have hfx := ih i x hx lf (nest + 1) (by omega) (by omega) b
    have hle := measT_le true x lf (nest + 1)
    refine VNth.mk (itemAV x) (by simp [mulN_eq, itemAVs_map, hx]) (go ?_)
    generalize measT true x lf (nest + 1) = m at hI hfx hle
    refine ACalls.use (R := [(b2, .box [.fz (itemAVs l) l.length false])]) hfx (.refl _) ?_
    rintro _ _ ⟨d, l', rfl, rfl, hm⟩
    cases m with
    | none =>
      rw [← hI]
      refine go ?_
      exact VRet.mk [(b, .box [.int .i64 l'])] (.cons 0 rfl .nil) ⟨0, l', rfl, rfl, .inl rfl⟩
    | some p =>
      obtain rfl : p = (d, l') := by simpa using hm
      have hle := hle d l' rfl
      dsimp only at hI
      refine go ?_
      refine ⟨⟨i + 1, max depth d, l'⟩, ⟨?_, ?_, ?_, hI⟩, ?_, rfl, .cons 0 rfl (.cons 0 rfl .nil)⟩
      · dsimp only; omega
      · dsimp only; omega
      · dsimp only; omega
      · dsimp only; omega
  · rw [List.drop_eq_nil_of_le (by omega), measTs] at hI
    rw [← hI]
    refine VRet.mk [(b, .box [.int .i64 lf])] (.cons 0 rfl .nil) ⟨depth + 1, lf, ?_, rfl, ?_⟩
    · by_cases h : depth < 32 <;> simp [h]
    · by_cases h : depth < 32 <;> simp [h]
theorem m_less {x : AV} {left nest : Int} (hl : left < 1 ∨ 32 < nest) (hb : 0 ≤ left ∧ left ≤ 1000000) (hn : 0 ≤ nest ∧ nest ≤ 33) : MeasC x none left nest := by
  intro b
  refine ACalls.of_W tb_ok (fn := Tryd.f44) (n := 129) (by kernel_rfl) rfl (by kernel_rfl) rfl rfl (by simp) (go ?_)
  refine fork (fun h1 => go ?_) (fun h1 => go ?_)
  · exact VRet.mk [(b, .box [.int .i64 (left - 1)])] (.cons 0 rfl .nil) ⟨0, _, rfl, rfl, .inl rfl⟩
  · refine VIf.yes (by simp; omega) (go ?_)
    exact VRet.mk [(b, .box [.int .i64 (left - 1)])] (.cons 0 rfl .nil) ⟨0, _, rfl, rfl, .inl rfl⟩

theorem m_int' (n left nest : Int) (hb : 1 ≤ left ∧ left ≤ 1000000) (hn : 0 ≤ nest ∧ nest ≤ 32) : MeasC (valAV (.int n)) (if inR n = true then some (0, left - 1) else none) left nest := by
  intro b
  rw [valAV]
  refine ACalls.of_W tb_ok (fn := Tryd.f44) (n := 129) (by kernel_rfl) rfl (by kernel_rfl) rfl rfl (by simp) (go ?_)
  refine VIf.no (by simp; omega) (go ?_)
  refine VIf.no (by simp; omega) (go ?_)
  refine VAll.mk (fun b2 => go ?_)
  refine fork (fun h1 => go ?_) (fun h1 => go ?_)
  · by_cases h2 : n ≤ 1152921504606846975
    · rw [if_pos (by simp [inR, h1, h2]), decide_eq_true h2]
      exact VRet.mk [(b, .box [.int .i64 (left - 1)])] (.cons 1 rfl .nil) ⟨0, _, rfl, rfl, .inr rfl⟩
    · rw [if_neg (by simp [inR, h2]), decide_eq_false h2]
      exact VRet.mk [(b, .box [.int .i64 (left - 1)])] (.cons 1 rfl .nil) ⟨0, _, rfl, rfl, .inl rfl⟩
  · rw [if_neg (by simp [inR, h1])]
    exact VRet.mk [(b, .box [.int .i64 (left - 1)])] (.cons 1 rfl .nil) ⟨0, _, rfl, rfl, .inl rfl⟩
theorem m_box' (n left nest : Int) (hb : 1 ≤ left ∧ left ≤ 1000000) (hn : 0 ≤ nest ∧ nest ≤ 32) : MeasC (valAV (.box n)) (if 1 ≤ n ∧ n ≤ 1048576 then some (0, left - 1) else none) left nest := by
  intro b
  rw [valAV]
  refine ACalls.of_W tb_ok (fn := Tryd.f44) (n := 129) (by kernel_rfl) rfl (by kernel_rfl) rfl rfl (by simp) (go ?_)
  refine VIf.no (by simp; omega) (go ?_)
  refine VIf.no (by simp; omega) (go ?_)
  refine VAll.mk (fun b2 => go ?_)
  refine fork (fun h1 => go ?_) (fun h1 => go ?_)
  · by_cases h2 : n ≤ 1048576
    · rw [if_pos (by omega), decide_eq_true h2]
      exact VRet.mk [(b, .box [.int .i64 (left - 1)])] (.cons 1 rfl .nil) ⟨0, _, rfl, rfl, .inr rfl⟩
    · rw [if_neg (by omega), decide_eq_false h2]
      exact VRet.mk [(b, .box [.int .i64 (left - 1)])] (.cons 1 rfl .nil) ⟨0, _, rfl, rfl, .inl rfl⟩
  · rw [if_neg (by omega)]
    exact VRet.mk [(b, .box [.int .i64 (left - 1)])] (.cons 1 rfl .nil) ⟨0, _, rfl, rfl, .inl rfl⟩
theorem m_bool' (n : Bool) (left nest : Int) (hb : 1 ≤ left ∧ left ≤ 1000000) (hn : 0 ≤ nest ∧ nest ≤ 32) : MeasC (valAV (.bool n)) (some (0, left - 1)) left nest := by
  intro b
  rw [valAV]
  refine ACalls.of_W tb_ok (fn := Tryd.f44) (n := 129) (by kernel_rfl) rfl (by kernel_rfl) rfl rfl (by simp) (go ?_)
  refine VIf.no (by simp; omega) (go ?_)
  refine VIf.no (by simp; omega) (go ?_)
  refine VAll.mk (fun b2 => go ?_)
  exact VRet.mk [(b, .box [.int .i64 (left - 1)])] (.cons 1 rfl .nil) ⟨0, _, rfl, rfl, .inr rfl⟩
theorem m_none' (left nest : Int) (hb : 1 ≤ left ∧ left ≤ 1000000) (hn : 0 ≤ nest ∧ nest ≤ 32) : MeasC .nili none left nest := by
  intro b
  refine ACalls.of_W tb_ok (fn := Tryd.f44) (n := 129) (by kernel_rfl) rfl (by kernel_rfl) rfl rfl (by simp) (go ?_)
  refine VIf.no (by simp; omega) (go ?_)
  refine VIf.no (by simp; omega) (go ?_)
  exact VRet.mk [(b, .box [.int .i64 (left - 1)])] (.cons 0 rfl .nil) ⟨0, _, rfl, rfl, .inl rfl⟩
theorem m_str' (s : List UInt8) (left nest : Int) (hb : 1 ≤ left ∧ left ≤ 1000000) (hn : 0 ≤ nest ∧ nest ≤ 32) : MeasC (valAV (.str s)) (if s.length ≤ 4096 ∧ faultR s = none then some (0, left - 1) else none) left nest := by
  have hv := f_Valid s
  intro b
  rw [valAV]
  refine ACalls.of_W tb_ok (fn := Tryd.f44) (n := 129) (by kernel_rfl) rfl (by kernel_rfl) rfl rfl (by simp) (go ?_)
  refine VIf.no (by simp; omega) (go ?_)
  refine VIf.no (by simp; omega) (go ?_)
  refine VAll.mk (fun b2 => go ?_)
  refine fork (fun h1 => go ?_) (fun h1 => go ?_)
  · refine Fn.use (hv) (go ?_)
    by_cases h2 : faultR s = none
    · rw [if_pos ⟨by omega, h2⟩, decide_eq_true h2]
      exact VRet.mk [(b, .box [.int .i64 (left - 1)])] (.cons 1 rfl .nil) ⟨0, _, rfl, rfl, .inr rfl⟩
    · rw [if_neg (fun h => h2 h.2), decide_eq_false h2]
      exact VRet.mk [(b, .box [.int .i64 (left - 1)])] (.cons 1 rfl .nil) ⟨0, _, rfl, rfl, .inl rfl⟩
  · rw [if_neg (by omega)]
    exact VRet.mk [(b, .box [.int .i64 (left - 1)])] (.cons 1 rfl .nil) ⟨0, _, rfl, rfl, .inl rfl⟩
theorem i_call (s : List UInt8) (hs : s.length ≤ 4611686018427387904) (left nest : Int) (hb : 0 ≤ left ∧ left ≤ 1000000) : ItemC (itemAV (.call s)) (if 1 ≤ left ∧ nmR s = true then some (0, left - 1) else none) left nest := by
  have h := f_tName s hs
  intro b
  rw [itemAV]
  refine ACalls.of_W tb_ok (fn := Tryd.f55) (n := 47) (by kernel_rfl) rfl (by kernel_rfl) rfl rfl (by simp) (go ?_)
  refine VAll.mk (fun b2 => go ?_)
  refine VAll.mk (fun b3 => go ?_)
  refine fork (fun h1 => go ?_) (fun h1 => go ?_)
  · refine Fn.use (h) (go ?_)
    cases hn : nmR s with
    | true =>
      rw [if_pos ⟨by omega, rfl⟩]
      refine go ?_
      exact VRet.mk [(b, .box [.int .i64 (left - 1)])] (.cons 2 rfl .nil) ⟨0, _, rfl, rfl, .inr rfl⟩
    | false =>
      rw [if_neg (by simp)]
      refine go ?_
      exact VRet.mk [(b, .box [.int .i64 (left - 1)])] (.cons 2 rfl .nil) ⟨0, _, rfl, rfl, .inl rfl⟩
  · rw [if_neg (by omega)]
    exact VRet.mk [(b, .box [.int .i64 (left - 1)])] (.cons 2 rfl .nil) ⟨0, _, rfl, rfl, .inl rfl⟩
theorem i_none (left nest : Int) (hb : 0 ≤ left ∧ left ≤ 1000000) : ItemC .nili none left nest := by
  intro b
  refine ACalls.of_W tb_ok (fn := Tryd.f55) (n := 47) (by kernel_rfl) rfl (by kernel_rfl) rfl rfl (by simp) (go ?_)
  refine VAll.mk (fun b2 => go ?_)
  refine VAll.mk (fun b3 => go ?_)
  exact VRet.mk [(b, .box [.int .i64 (left - 1)])] (.cons 2 rfl .nil) ⟨0, _, rfl, rfl, .inl rfl⟩
theorem i_push' {x : AV} {m : Option (Int × Int)} {left nest : Int} (h : MeasC x m left nest) (ho : x.one = true) : ItemC (.iface 59 (.agg [x])) m left nest := by
  intro b
  refine ACalls.of_W tb_ok (fn := Tryd.f55) (n := 47) (by kernel_rfl) rfl (by kernel_rfl) rfl rfl (by simp) (go ?_)
  refine VAll.mk (fun b2 => go ?_)
  refine ACalls.use (R := [(b2, .box [x])]) (h b) (.swap _ _ _) ?_
  rintro _ _ ⟨d, l', rfl, rfl, hm⟩
  refine go ?_
  exact VRet.mk [(b, .box [.int .i64 l'])] (.cons 0 rfl .nil) ⟨d, l', rfl, rfl, hm⟩
mutual
/-- No name of more than 2^62 bytes. -/
def Tree.nmS : Tree → Bool
  | .call s => decide (s.length ≤ 4611686018427387904)
  | .list l => nmSAll l
  | .quot l => nmSAll l
  | _ => true
def nmSAll : List Tree → Bool
  | [] => true
  | t :: r => t.nmS && nmSAll r
end
theorem nmSAll_at : ∀ {l : List Tree} {i : Nat} {t : Tree}, nmSAll l = true → l[i]? = some t → t.nmS = true
  | [], _, _, _, h => by simp at h
  | x :: l, 0, t, hc, h => by simp at h; subst h; simp [nmSAll] at hc; exact hc.1
  | x :: l, i + 1, t, hc, h => by simp [nmSAll] at hc; exact nmSAll_at hc.2 (by simpa using h)
theorem measT_less (it : Bool) {t : Tree} (h : t.isCall = false) {left nest : Int} (hl : left < 1 ∨ 32 < nest) : measT it t left nest = none := by
  cases t <;> first | (simp [Tree.isCall] at h; done) | (rw [measT, if_pos hl]; done) | (rw [measT]; done)
theorem measT_flag (it it' : Bool) {t : Tree} (h : t.isCall = false) (left nest : Int) : measT it t left nest = measT it' t left nest := by
  cases t <;> first | (simp [Tree.isCall] at h; done) | rw [measT, measT]
theorem f_meas (n : Nat) : ∀ t : Tree, t.depth ≤ n → t.clean = true → t.nmS = true → ∀ left nest, 0 ≤ left ∧ left ≤ 1000000 → 0 ≤ nest ∧ nest ≤ 33 →
    MeasC (valAV t) (measT false t left nest) left nest ∧ ItemC (itemAV t) (measT true t left nest) left nest := by
  have H : ∀ t : Tree, t.clean = true → t.nmS = true → ∀ left nest, 0 ≤ left ∧ left ≤ 1000000 → 0 ≤ nest ∧ nest ≤ 33 → MeasC (valAV t) (measT false t left nest) left nest → ItemC (itemAV t) (measT true t left nest) left nest := by
    intro t hc hs left nest hl hn h
    cases t with
    | none => rw [measT]; exact i_none left nest hl
    | call s =>
      rw [measT]
      simp only [true_and]
      exact i_call s (by simpa [Tree.nmS] using hs) left nest hl
    | odd u v => simp [Tree.clean] at hc
    | int m => rw [measT_flag true false rfl]; exact i_push' h rfl
    | str m => rw [measT_flag true false rfl]; exact i_push' h rfl
    | bool m => rw [measT_flag true false rfl]; exact i_push' h rfl
    | box m => rw [measT_flag true false rfl]; exact i_push' h rfl
    | list m => rw [measT_flag true false rfl]; exact i_push' h rfl
    | quot m => rw [measT_flag true false rfl]; exact i_push' h rfl
  suffices M : ∀ t : Tree, t.depth ≤ n → t.clean = true → t.nmS = true → ∀ left nest, 0 ≤ left ∧ left ≤ 1000000 → 0 ≤ nest ∧ nest ≤ 33 → MeasC (valAV t) (measT false t left nest) left nest from
    fun t hd hc hs left nest hl hn => ⟨M t hd hc hs left nest hl hn, H t hc hs left nest hl hn (M t hd hc hs left nest hl hn)⟩
  have L : ∀ t : Tree, t.clean = true → (∀ l, t ≠ .list l) → (∀ l, t ≠ .quot l) → ∀ left nest, 0 ≤ left ∧ left ≤ 1000000 → 0 ≤ nest ∧ nest ≤ 33 → ¬ (left < 1 ∨ 32 < nest) → MeasC (valAV t) (measT false t left nest) left nest := by
    intro t hc h4 h5 left nest hl hn h0
    cases t with
    | none => rw [measT]; exact m_none' left nest (by omega) (by omega)
    | call s => rw [measT, if_neg (by simp)]; exact m_none' left nest (by omega) (by omega)
    | odd u v => simp [Tree.clean] at hc
    | int m => rw [measT, if_neg h0]; exact m_int' m left nest (by omega) (by omega)
    | str m => rw [measT, if_neg h0]; exact m_str' m left nest (by omega) (by omega)
    | bool m => rw [measT, if_neg h0]; exact m_bool' m left nest (by omega) (by omega)
    | box m => rw [measT, if_neg h0]; exact m_box' m left nest (by omega) (by omega)
    | list l => exact absurd rfl (h4 l)
    | quot l => exact absurd rfl (h5 l)
  have B : ∀ t : Tree, ∀ left nest, 0 ≤ left ∧ left ≤ 1000000 → 0 ≤ nest ∧ nest ≤ 33 → (left < 1 ∨ 32 < nest) → MeasC (valAV t) (measT false t left nest) left nest := by
    intro t left nest hl hn h0
    have : measT false t left nest = none := by
      cases t with
      | call s => rw [measT, if_neg (by simp)]
      | _ => exact measT_less false rfl h0
    rw [this]; exact m_less h0 hl hn
  induction n with
  | zero =>
    intro t hd hc hs left nest hl hn
    by_cases h0 : left < 1 ∨ 32 < nest
    · exact B t left nest hl hn h0
    · refine L t hc ?_ ?_ left nest hl hn h0
      · rintro l rfl; rw [Tree.depth] at hd; omega
      · rintro l rfl; rw [Tree.depth] at hd; omega
  | succ n ih =>
    intro t hd hc hs left nest hl hn
    by_cases h0 : left < 1 ∨ 32 < nest
    · exact B t left nest hl hn h0
    cases t with
    | list l =>
      rw [Tree.depth] at hd
      simp only [Tree.clean, Bool.and_eq_true, decide_eq_true_eq] at hc
      rw [Tree.nmS] at hs
      rw [measT, if_neg h0]
      exact m_list l hc.1 left nest (by omega) (by omega) fun i t ht left nest hl hn => ih t (by have := depthAll_at ht; omega) (cleanAll_at hc.2 ht) (nmSAll_at hs ht) left nest hl hn
    | quot l =>
      rw [Tree.depth] at hd
      simp only [Tree.clean, Bool.and_eq_true, decide_eq_true_eq] at hc
      rw [Tree.nmS] at hs
      rw [measT, if_neg h0]
      exact m_quot l hc.1 left nest (by omega) (by omega) fun i t ht left nest hl hn => H t (cleanAll_at hc.2 ht) (nmSAll_at hs ht) left nest hl hn (ih t (by have := depthAll_at ht; omega) (cleanAll_at hc.2 ht) (nmSAll_at hs ht) left nest hl hn)
    | _ => exact L _ hc (by intro l e; cases e) (by intro l e; cases e) left nest hl hn h0
theorem f_tCheck {t : Tree} (hc : t.clean = true) (hs : t.nmS = true) : Av.Fn Tryd.prog 31 [valAV t] (.int .i64 (if (measT false t 1024 0).isSome = true then 0 else 1)) := by
  have h := (f_meas t.depth t (Nat.le_refl _) hc hs 1024 0 (by omega) (by omega)).1
  generalize measT false t 1024 0 = m at h
  refine ACalls.of_W tb_ok (fn := Tryd.f31) (n := 13) (by kernel_rfl) rfl (by kernel_rfl) rfl rfl (by simp) (go ?_)
  refine VAll.mk (fun b => go ?_)
  refine ACalls.use (R := []) (h b) (.refl _) ?_
  rintro _ _ ⟨d, l', rfl, rfl, hm⟩
  cases m with
  | some p =>
    refine go ?_
    refine VRet.mk [] .nil ?_
    exact ⟨rfl, rfl⟩
  | none =>
    refine go ?_
    refine VRet.mk [] .nil ?_
    exact ⟨rfl, rfl⟩
end Go.Proofs.YtliabblchkgclaaDoor

namespace Go.Proofs.YtliabblchkgclaaDoor
open Go Go.Av
theorem faultV_none (s : List UInt8) : decide (faultV s < 0) = decide (faultR s = none) := by
  unfold faultV
  cases faultR s with
  | none => simp
  | some i => simp
theorem valRV_kind (t : Tree) : (valRV t).kind ≠ 7 := by cases t <;> simp [valRV, RV.kind]
def refOf (it : Bool) (t : Tree) : RV := if it = true then itemRV t else valRV t
theorem refOf_call (s : List UInt8) : refOf true (.call s) = .mk 7 0 s [] := rfl
theorem refOf_val {it : Bool} {t : Tree} (h : t.isCall = false) : refOf it t = valRV t := by
  unfold refOf
  split
  · exact item_val h
  · rfl
def refsOf (it : Bool) (l : List Tree) : List RV := if it = true then itemRVs l else valRVs l
theorem refsOf_cons (it : Bool) (t : Tree) (r : List Tree) : refsOf it (t :: r) = refOf it t :: refsOf it r := by
  unfold refsOf refOf
  split
  · exact itemRVs_cons t r
  · rfl
theorem refsOf_nil (it : Bool) : refsOf it [] = [] := by cases it <;> simp [refsOf, itemRVs, valRVs]
theorem meas_step (vals it : Bool) (t : Tree) (hv : it = !vals) (r : List RV) (left nest size depth : Int) : measAll vals (refOf it t :: r) left nest size depth =
    if (measR (refOf it t) (left - size) (nest + 1)).2.2 = true then measAll vals r left nest (size + (measR (refOf it t) (left - size) (nest + 1)).1) (max depth (measR (refOf it t) (left - size) (nest + 1)).2.1) else (0, 0, false) := by
  rw [measAll, if_neg]
  subst hv
  cases vals with
  | false => simp
  | true => simp [refOf, valRV_kind]
mutual
theorem meas_fw : ∀ (it : Bool) (t : Tree) (left nest : Int), (measR (refOf it t) left nest).2.2 = true → measT it t left nest = some ((measR (refOf it t) left nest).2.1, left - (measR (refOf it t) left nest).1) := by
  intro it t left nest h
  cases t with
  | call s =>
    cases it with
    | false =>
      rw [show refOf false (.call s) = .mk 8 0 [] [] by simp [refOf, valRV]] at h
      rw [measR] at h
      simp at h
    | true =>
      rw [refOf_call, measR] at h ⊢
      simp only [show ¬ ((7 : Int) = 1) by decide, show ¬ ((7 : Int) = 2) by decide, show ¬ ((7 : Int) = 3) by decide, show ¬ ((7 : Int) = 6) by decide, if_false, if_true] at h ⊢
      split at h
      · simp at h
      · rename_i h0
        rw [if_neg h0, measT, if_pos ⟨rfl, by omega, h⟩]
  | none => rw [refOf_val rfl, valRV, measR] at h; simp at h
  | odd u v => rw [refOf_val rfl, valRV, measR] at h; simp at h
  | int n =>
    rw [refOf_val rfl, valRV, measR] at h ⊢
    simp only [if_true] at h ⊢
    split at h
    · simp at h
    · rename_i h0
      rw [if_neg h0, measT, if_neg h0, if_pos h]
  | str s =>
    rw [refOf_val rfl, valRV, measR] at h ⊢
    simp only [show ¬ ((2 : Int) = 1) by decide, if_false, if_true] at h ⊢
    split at h
    · simp at h
    · rename_i h0
      rw [faultV_none] at h
      simp only [Bool.and_eq_true, decide_eq_true_eq] at h
      rw [if_neg h0, measT, if_neg h0, if_pos h]
  | bool b =>
    rw [refOf_val rfl, valRV, measR] at h ⊢
    simp only [show ¬ ((3 : Int) = 1) by decide, show ¬ ((3 : Int) = 2) by decide, if_false, if_true] at h ⊢
    split at h
    · simp at h
    · rename_i h0
      rw [if_neg h0, measT, if_neg h0]
  | box n =>
    rw [refOf_val rfl, valRV, measR] at h ⊢
    simp only [show ¬ ((6 : Int) = 1) by decide, show ¬ ((6 : Int) = 2) by decide, show ¬ ((6 : Int) = 3) by decide, if_false, if_true] at h ⊢
    split at h
    · simp at h
    · rename_i h0
      simp only [Bool.and_eq_true, decide_eq_true_eq] at h
      rw [if_neg h0, measT, if_neg h0, if_pos h]
  | list l =>
    rw [refOf_val rfl, valRV, measR] at h ⊢
    simp only [show ¬ ((4 : Int) = 1) by decide, show ¬ ((4 : Int) = 2) by decide, show ¬ ((4 : Int) = 3) by decide, show ¬ ((4 : Int) = 6) by decide, show ¬ ((4 : Int) = 7) by decide, true_or, if_false, if_true, decide_true] at h ⊢
    split at h
    · simp at h
    · rename_i h0
      rw [if_neg h0, measT, if_neg h0]
      exact meass_fw true false rfl l left nest 1 0 (by omega) (by omega) h
  | quot l =>
    rw [refOf_val rfl, valRV, measR] at h ⊢
    simp only [show ¬ ((5 : Int) = 1) by decide, show ¬ ((5 : Int) = 2) by decide, show ¬ ((5 : Int) = 3) by decide, show ¬ ((5 : Int) = 6) by decide, show ¬ ((5 : Int) = 7) by decide, or_true, if_false, if_true, show decide ((5 : Int) = 4) = false by decide] at h ⊢
    split at h
    · simp at h
    · rename_i h0
      rw [if_neg h0, measT, if_neg h0]
      exact meass_fw false true rfl l left nest 1 0 (by omega) (by omega) h
theorem meass_fw : ∀ (vals it : Bool) (_ : it = !vals) (l : List Tree) (left nest size depth : Int), 0 ≤ size → 0 ≤ depth → (measAll vals (refsOf it l) left nest size depth).2.2 = true →
    measTs it l (left - size) nest depth = some ((measAll vals (refsOf it l) left nest size depth).2.1, left - (measAll vals (refsOf it l) left nest size depth).1)
  | vals, it, hv, [], left, nest, size, depth, hs, hd, h => by
    rw [refsOf_nil, measAll] at h ⊢
    simp only [decide_eq_true_eq] at h
    rw [measTs, if_pos h]
  | vals, it, hv, t :: r, left, nest, size, depth, hs, hd, h => by
    rw [refsOf_cons, meas_step vals it t hv] at h ⊢
    split at h
    · rename_i h2
      rw [if_pos h2, measTs, meas_fw it t (left - size) (nest + 1) h2]
      have hle := measR_le (refOf it t) (left - size) (nest + 1) h2
      dsimp only
      have := meass_fw vals it hv r left nest _ _ (by omega) (by omega) h
      rw [← this]
      congr 1; omega
    · simp at h
end
theorem measTs_depth : ∀ (it : Bool) (l : List Tree) (left nest depth d l' : Int), measTs it l left nest depth = some (d, l') → depth + 1 ≤ d
  | it, [], left, nest, depth, d, l', h => by
    rw [measTs] at h
    split at h
    · simp only [Option.some.injEq, Prod.mk.injEq] at h; omega
    · cases h
  | it, t :: r, left, nest, depth, d, l', h => by
    rw [measTs] at h
    split at h
    · have := measTs_depth it r _ nest _ d l' h
      omega
    · cases h
mutual
theorem meas_bw : ∀ (it : Bool) (t : Tree) (left nest d l' : Int), measT it t left nest = some (d, l') → d + nest ≤ 32 → measR (refOf it t) left nest = (left - l', d, true) := by
  intro it t left nest d l' h hd
  cases t with
  | call s =>
    rw [measT] at h
    split at h
    · rename_i h0
      obtain ⟨rfl, h1, h2⟩ := h0
      simp only [Option.some.injEq, Prod.mk.injEq] at h
      rw [refOf_call, measR, if_neg (by omega)]
      simp only [show ¬ ((7 : Int) = 1) by decide, show ¬ ((7 : Int) = 2) by decide, show ¬ ((7 : Int) = 3) by decide, show ¬ ((7 : Int) = 6) by decide, if_false, if_true]
      refine Prod.ext (by dsimp only; omega) (Prod.ext (by dsimp only; omega) h2)
    · cases h
  | none => rw [measT] at h; cases h
  | odd u v => rw [measT] at h; cases h
  | int n =>
    rw [measT] at h
    repeat' split at h
    · cases h
    · rename_i h0 h1
      simp only [Option.some.injEq, Prod.mk.injEq] at h
      rw [refOf_val rfl, valRV, measR, if_neg h0]
      simp only [if_true]
      refine Prod.ext (by dsimp only; omega) (Prod.ext (by dsimp only; omega) h1)
    · cases h
  | str s =>
    rw [measT] at h
    repeat' split at h
    · cases h
    · rename_i h0 h1
      simp only [Option.some.injEq, Prod.mk.injEq] at h
      rw [refOf_val rfl, valRV, measR, if_neg h0]
      simp only [show ¬ ((2 : Int) = 1) by decide, if_false, if_true]
      refine Prod.ext (by dsimp only; omega) (Prod.ext (by dsimp only; omega) ?_)
      rw [faultV_none]; simp [h1]
    · cases h
  | bool b =>
    rw [measT] at h
    repeat' split at h
    · cases h
    · rename_i h0
      simp only [Option.some.injEq, Prod.mk.injEq] at h
      rw [refOf_val rfl, valRV, measR, if_neg h0]
      simp only [show ¬ ((3 : Int) = 1) by decide, show ¬ ((3 : Int) = 2) by decide, if_false, if_true]
      refine Prod.ext (by dsimp only; omega) (Prod.ext (by dsimp only; omega) rfl)
  | box n =>
    rw [measT] at h
    repeat' split at h
    · cases h
    · rename_i h0 h1
      simp only [Option.some.injEq, Prod.mk.injEq] at h
      rw [refOf_val rfl, valRV, measR, if_neg h0]
      simp only [show ¬ ((6 : Int) = 1) by decide, show ¬ ((6 : Int) = 2) by decide, show ¬ ((6 : Int) = 3) by decide, if_false, if_true]
      refine Prod.ext (by dsimp only; omega) (Prod.ext (by dsimp only; omega) ?_)
      simp [h1]
    · cases h
  | list l =>
    rw [measT] at h
    split at h
    · cases h
    · rename_i h0
      rw [refOf_val rfl, valRV, measR, if_neg h0]
      simp only [show ¬ ((4 : Int) = 1) by decide, show ¬ ((4 : Int) = 2) by decide, show ¬ ((4 : Int) = 3) by decide, show ¬ ((4 : Int) = 6) by decide, show ¬ ((4 : Int) = 7) by decide, true_or, if_false, if_true, decide_true]
      exact meass_bw true false rfl l left nest 1 0 d l' (by omega) h hd
  | quot l =>
    rw [measT] at h
    split at h
    · cases h
    · rename_i h0
      rw [refOf_val rfl, valRV, measR, if_neg h0]
      simp only [show ¬ ((5 : Int) = 1) by decide, show ¬ ((5 : Int) = 2) by decide, show ¬ ((5 : Int) = 3) by decide, show ¬ ((5 : Int) = 6) by decide, show ¬ ((5 : Int) = 7) by decide, or_true, if_false, if_true, show decide ((5 : Int) = 4) = false by decide]
      exact meass_bw false true rfl l left nest 1 0 d l' (by omega) h hd
theorem meass_bw : ∀ (vals it : Bool) (_ : it = !vals) (l : List Tree) (left nest size depth d l' : Int), 0 ≤ depth → measTs it l (left - size) nest depth = some (d, l') → d + nest ≤ 32 →
    measAll vals (refsOf it l) left nest size depth = (left - l', d, true)
  | vals, it, hv, [], left, nest, size, depth, d, l', hp, h, hd => by
    rw [measTs] at h
    split at h
    · rename_i h1
      simp only [Option.some.injEq, Prod.mk.injEq] at h
      rw [refsOf_nil, measAll]
      refine Prod.ext (by dsimp only; omega) (Prod.ext (by dsimp only; omega) (decide_eq_true h1))
    · cases h
  | vals, it, hv, t :: r, left, nest, size, depth, d, l', hp, h, hd => by
    rw [measTs] at h
    split at h
    · rename_i d1 l1 e
      have hdp := measTs_depth it r _ nest _ d l' h
      have e1 := meas_bw it t (left - size) (nest + 1) d1 l1 e (by omega)
      rw [refsOf_cons, meas_step vals it t hv, e1, if_pos rfl]
      dsimp only
      exact meass_bw vals it hv r left nest _ _ d l' (by omega) (by rw [← h]; congr 1; omega) hd
    · cases h
end
/-- From the outside, both are the same. -/
theorem meas_top (t : Tree) : (measT false t 1024 0).isSome = (measR (valRV t) 1024 0).2.2 := by
  rw [Bool.eq_iff_iff]
  constructor
  · intro h
    obtain ⟨⟨d, l'⟩, e⟩ := Option.isSome_iff_exists.1 h
    have := measT_le false t 1024 0 d l' e
    have e2 := meas_bw false t 1024 0 d l' e (by omega)
    rw [show refOf false t = valRV t from rfl] at e2
    rw [e2]
  · intro h
    have := meas_fw false t 1024 0 (by rw [show refOf false t = valRV t from rfl]; exact h)
    rw [this]; rfl
end Go.Proofs.YtliabblchkgclaaDoor

namespace Go.Proofs.YtliabblchkgclaaDoor
open Go Go.Av
def fitsR (i u : Int) : Bool := decide (0 ≤ min i u) && decide (max i u ≤ 16)
theorem fitsR_iff {i u : Int} : fitsR i u = true ↔ 0 ≤ i ∧ i ≤ 16 ∧ 0 ≤ u ∧ u ≤ 16 := by
  simp only [fitsR, Bool.and_eq_true, decide_eq_true_eq]; omega
theorem f_fits (i u : Int) : Av.Fn Tryd.prog 19 [.agg [.int .i64 i, .int .i64 u]] (.bool (fitsR i u)) := by
  refine ACalls.of_W tb_ok (fn := Tryd.f19) (n := 17) (by kernel_rfl) rfl (by kernel_rfl) rfl rfl (by simp) (go ?_)
  refine VAll.mk (fun b => go ?_)
  unfold fitsR
  refine fork (fun h => go ?_) (fun h => go ?_)
  · refine VRet.mk [] .nil ?_
    have h : 0 ≤ min i u := by simpa using h
    exact ⟨by rw [decide_eq_true h, Bool.true_and], rfl⟩
  · refine VRet.mk [] .nil ?_
    have h : ¬ 0 ≤ min i u := by simpa using h
    exact ⟨by rw [decide_eq_false h, Bool.false_and], rfl⟩
theorem f_Of1_ok (b4 b5 : Nat) (st : St) {K : St → Prop} (k : K st) : DCalls Tryd.prog 20 [.ptr b4 0, .ptr b5 0] st none K := by
  refine DCalls.use (s := []) (R := st) (K := fun st' => st' = []) ?_ (.refl _) (fun s' h => by rw [h]; exact k)
  refine DCalls.of_Ws tb_ok (fn := Tryd.f20) (n := 19) (by kernel_rfl) rfl (by kernel_rfl) rfl rfl (by simp) (go ?_)
  refine VRet.mk [] .nil ?_
  rfl
theorem f_Of1_panic (b4 b5 : Nat) (x y z : AV) (e : Int) : DCalls Tryd.prog 20 [.ptr b4 0, .ptr b5 0] [(b4, .box [x, y]), (b5, .box [z])] (some (stopV e)) fun st' => st' = [(b4, .box [.int .i64 0, .int .i64 0]), (b5, .box [.int .i64 e])] := by
  refine DCalls.of_Ws tb_ok (fn := Tryd.f20) (n := 19) (by kernel_rfl) rfl (by kernel_rfl) rfl rfl (by simp) (go ?_)
  refine VAll.mk (fun b3 => go ?_)
  refine VDraw.all (go ?_)
  refine VAny.mk Unit [] (fun _ => []) (fun _ => [(b3, .box [.int .i64 e]), (b4, .box [.int .i64 0, .int .i64 0]), (b5, .box [.int .i64 e])]) ?_ fun _ => ?_
  · exact anyd
  refine go ?_
  exact VRet.mk [(b4, .box [.int .i64 0, .int .i64 0]), (b5, .box [.int .i64 e])] (.cons 1 rfl (.cons 1 rfl .nil)) rfl
/-- The first of each name. -/
def addK (kn : KnL) (x : List UInt8 × Int × Int) : KnL := if (knownR kn x.1).isSome then kn else kn ++ [x]
def firsts (kl : KnL) : KnL := kl.foldl addK []
theorem firsts_next {kl : KnL} {j : Nat} {x : List UInt8 × Int × Int} (h : kl[j]? = some x) : firsts (kl.take (j + 1)) = addK (firsts (kl.take j)) x := by
  rw [take_succ_at h, firsts, List.foldl_append]; rfl
def fitsK (kl : KnL) : Bool := kl.all fun x => fitsR x.2.1 x.2.2
theorem firsts_mem {kl : KnL} {x : List UInt8 × Int × Int} : x ∈ firsts kl → x ∈ kl := by
  have : ∀ (kl kn : KnL), x ∈ kl.foldl addK kn → x ∈ kn ∨ x ∈ kl := by
    intro kl
    induction kl with
    | nil => intro kn h; exact .inl h
    | cons y kl ih =>
      intro kn h
      rcases ih _ h with h | h
      · unfold addK at h
        split at h
        · exact .inl h
        · rcases List.mem_append.1 h with h | h
          · exact .inl h
          · rw [List.mem_singleton.1 h]; exact .inr (List.mem_cons_self ..)
      · exact .inr (List.mem_cons_of_mem _ h)
  intro h
  rcases this kl [] h with h | h
  · cases h
  · exact h
theorem firsts_fit {kl : KnL} (h : fitsK kl = true) : ∀ n i o, knownR (firsts kl) n = some (i, o) → 0 ≤ i ∧ i ≤ 16 ∧ 0 ≤ o ∧ o ≤ 16 := by
  intro n i o hk
  unfold knownR at hk
  simp only [Option.map_eq_some_iff] at hk
  obtain ⟨x, hx, he⟩ := hk
  have := List.all_eq_true.1 h x (firsts_mem (List.mem_of_find?_eq_some hx))
  rw [he] at this
  exact fitsR_iff.1 this
def checkR (l : List Tree) : Bool := (measT false (.quot l) 1024 0).isSome
noncomputable def ofR (l : List Tree) (kl : KnL) : Int × Int × Int :=
  if checkR l = false then (0, 0, 1) else if fitsK kl = false then (0, 0, 1) else match runL (knownR (firsts kl)) l ⟨4096, 0, []⟩ with
    | .error e => (0, 0, e)
    | .ok t => if fitsR t.inn t.stk.length = true then (t.inn, (t.stk.length : Int), 0) else (0, 0, 11)
def ofV (x : Int × Int × Int) : AV := .tup [.agg [.int .i64 x.1, .int .i64 x.2.1], .int .i64 x.2.2]
/-- Words whose effect is known, in memory. -/
def knC : KnL → List AV
  | [] => []
  | x :: r => .str x.1 :: .int .i64 x.2.1 :: .int .i64 x.2.2 :: knC r
theorem knC_at {kl : KnL} {i : Nat} {x : List UInt8 × Int × Int} (h : kl[i]? = some x) : (List.drop (mulN i 3) (knC kl)).take 3 = [.str x.1, .int .i64 x.2.1, .int .i64 x.2.2] := by
  rw [mulN_eq]
  induction kl generalizing i with
  | nil => simp at h
  | cons y r ih =>
    cases i with
    | zero => simp at h; subst h; rfl
    | succ i =>
      have h : r[i]? = some x := by simpa using h
      rw [show (i + 1) * 3 = i * 3 + 1 + 1 + 1 by omega]
      exact ih h
theorem f_CheckItems {l : List Tree} (hc : (Tree.quot l).clean = true) (hs : (Tree.quot l).nmS = true) : Av.Fn Tryd.prog 18 [.fz (itemAVs l) l.length false] (.int .i64 (if checkR l = true then 0 else 1)) := by
  have h := f_tCheck hc hs
  refine ACalls.of_W tb_ok (fn := Tryd.f18) (n := 7) (by kernel_rfl) rfl (by kernel_rfl) rfl rfl (by simp) (go ?_)
  refine Fn.use (h) (go ?_)
  refine VRet.mk [] .nil ?_
  exact ⟨rfl, rfl⟩
theorem nameR_nil : nameR [] = false := by decide +kernel
mutual
theorem good_of : ∀ (it : Bool) (t : Tree) (left nest : Int), t.clean = true → (measT it t left nest).isSome = true → goodI t = true
  | it, .none, left, nest, _, h => by rw [measT] at h; cases h
  | it, .odd u v, left, nest, _, h => by rw [measT] at h; cases h
  | it, .int m, left, nest, _, h => rfl
  | it, .str m, left, nest, _, h => rfl
  | it, .bool m, left, nest, _, h => rfl
  | it, .box m, left, nest, _, h => rfl
  | it, .list m, left, nest, _, h => rfl
  | it, .call s, left, nest, _, h => by
    rw [measT] at h
    split at h
    · rename_i hc
      cases s with
      | nil => simp [nmR, nameR_nil] at hc
      | cons c s => rfl
    · cases h
  | it, .quot l, left, nest, hc, h => by
    rw [measT] at h
    simp only [Tree.clean, Bool.and_eq_true, decide_eq_true_eq] at hc
    split at h
    · cases h
    · simp only [goodI, Bool.and_eq_true, decide_eq_true_eq]
      exact ⟨hc.1, goods_of true l _ _ _ hc.2 h⟩
theorem goods_of : ∀ (it : Bool) (l : List Tree) (left nest depth : Int), cleanAll l = true → (measTs it l left nest depth).isSome = true → goodIs l = true
  | it, [], left, nest, depth, _, h => rfl
  | it, t :: r, left, nest, depth, hc, h => by
    simp only [cleanAll, Bool.and_eq_true] at hc
    rw [measTs] at h
    simp only [goodIs, Bool.and_eq_true]
    cases hm : measT it t left (nest + 1) with
    | none => rw [hm] at h; cases h
    | some x =>
      obtain ⟨d, l'⟩ := x
      rw [hm] at h
      exact ⟨good_of it t _ _ hc.1 (by rw [hm]; rfl), goods_of it r _ _ _ hc.2 h⟩
end
theorem good_check {l : List Tree} (hc : (Tree.quot l).clean = true) (h : checkR l = true) : l.length ≤ 2513169434916 ∧ goodIs l = true := by
  have := good_of false (.quot l) 1024 0 hc h
  simpa only [goodI, Bool.and_eq_true, decide_eq_true_eq] using this

set_option maxHeartbeats 4000000 in
theorem f_Of (l : List Tree) (kl : KnL) (hc : (Tree.quot l).clean = true) (hs : (Tree.quot l).nmS = true) (hkl : kl.length ≤ 4398046511104) :
    Av.Fn Tryd.prog 8 [.fz (itemAVs l) l.length false, .fz (knC kl) kl.length false] (ofV (ofR l kl)) := by
  have hC := f_CheckItems hc hs
  have hgc := good_check hc
  unfold ofR
  generalize checkR l = c at hC hgc
  refine ACalls.of_Wd tb_ok (fn := Tryd.f8) (n := 70) (by kernel_rfl) rfl (by kernel_rfl) rfl rfl (by simp) (go ?_)
  refine VAll.mk (fun b4 => go ?_)
  refine VAll.mk (fun b5 => go ?_)
  refine Fn.use (hC) (go ?_)
  cases c with
  | false =>
    refine go ?_
    refine VRet.mk [] .nil ?_
    exact ⟨rfl, rfl⟩
  | true =>
    obtain ⟨hl, hg⟩ := hgc rfl
    refine go ?_
    refine VAll.mk (fun bm => go ?_)
    refine VAll.mk (fun bw => go ?_)
    refine VAll.mk (fun bf => go ?_)
    refine VLoop.mk [21] Nat (fun j => [.int .i64 j]) (fun j => [(bm, .map (entsOf (firsts (kl.take j)))), (bf, .box [.mapr bm, .ptr bw 0, .int .i64 0, .nils]), (b5, .box [.int .i64 0]), (b4, .box [.int .i64 0, .int .i64 0]), (bw, .box [.int .i64 0])])
      (fun j => j ≤ kl.length ∧ fitsK (kl.drop j) = fitsK kl) (fun j => kl.length - j) 0 ?_ ?_
    · exact ⟨⟨Nat.zero_le _, rfl⟩, rfl, .cons 2 rfl (.cons 0 rfl (.cons 1 rfl (.cons 1 rfl (.cons 0 rfl .nil))))⟩
    rintro j ⟨hj, hI⟩
    dsimp only at hj hI ⊢
    refine go ?_
    refine fork (fun hlt => go ?_) (fun hlt => go ?_)
    · have hlt : j < kl.length := by omega
      obtain ⟨x, hx⟩ : ∃ x, kl[j]? = some x := ⟨kl[j], by simp [hlt]⟩
      have hd : kl.drop j = x :: kl.drop (j + 1) := by
        rw [List.drop_eq_getElem_cons hlt]
        congr 1
        rw [List.getElem?_eq_getElem hlt] at hx
        exact Option.some.inj hx
      have hfk : fitsK kl = (fitsR x.2.1 x.2.2 && fitsK (kl.drop (j + 1))) := by rw [← hI, hd]; rfl
      have hF := f_fits x.2.1 x.2.2
      refine VTake.mk [.str x.1, .int .i64 x.2.1, .int .i64 x.2.2] (knC_at hx) (by simp) (go ?_)
      refine VAll.mk (fun b8 => go ?_)
      refine Fn.use (hF) (go ?_)
      generalize fitsR x.2.1 x.2.2 = fx at hfk
      cases fx with
      | false =>
        refine go ?_
        refine VRet.mk [] .nil ?_
        rw [hfk]
        exact ⟨rfl, rfl⟩
      | true =>
        rw [Bool.true_and] at hfk
        obtain ⟨r, hr1, hr2⟩ := mapFind_ents x.1 (firsts (kl.take j)) 0
        have hnx := firsts_next hx
        unfold addK at hnx
        refine go ?_
        have hI' : j + 1 ≤ kl.length ∧ fitsK (kl.drop (j + 1)) = fitsK kl := ⟨by omega, hfk.symm⟩
        cases hkn : knownR (firsts (kl.take j)) x.1 with
        | none =>
          rw [hkn] at hr2
          rw [hkn, Option.isSome_none, if_neg (by simp)] at hnx
          cases r with
          | some p => simp at hr2
          | none =>
            refine VDraw.chain [10, 11] (go ?_)
            apply VQ.mk
            focus (refine go ?_; refine VMap.mk none hr1 (go ?_); exact ⟨rfl, rfl⟩)
            refine go ?_
            refine VAll.mk (fun b9 => go ?_)
            refine VDraw.chain [8] (go ?_)
            refine VMap.mk none hr1 (go ?_)
            refine ⟨j + 1, hI', by omega, rfl, ?_⟩
            rw [hnx]
            exact .cons 2 (congrArg (fun c => some (bm, AObj.map c)) (by simp [entsOf])) (.cons 2 rfl (.cons 2 rfl (.cons 2 rfl (.cons 2 rfl .nil))))
        | some y =>
          rw [hkn] at hr2
          rw [hkn, Option.isSome_some, if_pos rfl] at hnx
          cases r with
          | none => simp at hr2
          | some p =>
            obtain ⟨pi, pv⟩ := p
            obtain rfl : pv = .agg [.int .i64 y.1, .int .i64 y.2] := by simpa using hr2
            refine VDraw.chain [10, 11] (go ?_)
            apply VQ.mk
            focus (refine go ?_; refine VMap.mk _ hr1 (go ?_); exact ⟨rfl, rfl⟩)
            refine go ?_
            refine VAll.mk (fun b9 => go ?_)
            refine ⟨j + 1, hI', by omega, rfl, ?_⟩
            rw [hnx]
            exact VSel.skip (VSel.skip (VSel.refl _) _) _
    · have hje : j = kl.length := by omega
      subst hje
      rw [List.drop_length] at hI
      have hfk : fitsK kl = true := hI.symm
      rw [List.take_length, hfk]
      have hk := firsts_fit hfk
      refine run_c (n := 4096) (l := 4096) (o := none) (s := ⟨4096, 0, []⟩) [(b5, .box [.int .i64 0]), (b4, .box [.int .i64 0, .int .i64 0])] (List.perm_append_comm (l₁ := [_, _, _]) (l₂ := [_, _])) rfl (f_run hk 4096) (Nat.le_refl _) (fun _ => rfl) ⟨by decide, by decide, by decide, by decide⟩ (fun x hx => by cases hx) hl hg
        (fun t o' e ho' hg' => ?_) (fun e he => ?_)
      · obtain ⟨Tl, Ti, Tk⟩ := t
        have hF := f_fits Ti (Tk.length : Int)
        cases o' with
        | none =>
          obtain rfl : Tk = [] := ho' rfl
          refine go ?_
          refine VDraw.chain [10] (go ?_)
          iterate 7 ((conv => whnf); (apply VQ.mk; focus (refine go ?_; exact ⟨rfl, rfl⟩)))
          refine go ?_
          refine Fn.use (hF) (go ?_)
          cases hf : fitsR Ti _ with
          | false =>
            refine go ?_
            refine f_Of1_ok b4 b5 _ (go ?_)
            refine VRet.mk [] .nil ?_
            rw [if_neg (by simp), if_neg (by simp), e]
            dsimp only
            rw [if_neg (by rw [hf]; simp)]
            exact ⟨rfl, rfl⟩
          | true =>
            refine go ?_
            refine f_Of1_ok b4 b5 _ (go ?_)
            refine VRet.mk [] .nil ?_
            rw [if_neg (by simp), if_neg (by simp), e]
            dsimp only
            rw [if_pos hf]
            exact ⟨rfl, rfl⟩
        | some y =>
          refine go ?_
          refine VDraw.chain [10] (go ?_)
          iterate 7 ((conv => whnf); (apply VQ.mk; focus (refine go ?_; exact ⟨rfl, rfl⟩)))
          refine go ?_
          refine Fn.use (hF) (go ?_)
          cases hf : fitsR Ti _ with
          | false =>
            refine go ?_
            refine f_Of1_ok b4 b5 _ (go ?_)
            refine VRet.mk [] .nil ?_
            rw [if_neg (by simp), if_neg (by simp), e]
            dsimp only
            rw [if_neg (by rw [hf]; simp)]
            exact ⟨rfl, rfl⟩
          | true =>
            refine go ?_
            refine f_Of1_ok b4 b5 _ (go ?_)
            refine VRet.mk [] .nil ?_
            rw [if_neg (by simp), if_neg (by simp), e]
            dsimp only
            rw [if_pos hf]
            exact ⟨rfl, rfl⟩
      · refine go ?_
        refine DCalls.use (R := []) (f_Of1_panic b4 b5 _ _ _ e) (.swap _ _ _) ?_
        intro s' hs'
        subst hs'
        refine go ?_
        refine VRet.mk [] .nil ?_
        rw [if_neg (by simp), if_neg (by simp), he]
        exact ⟨rfl, rfl⟩
end Go.Proofs.YtliabblchkgclaaDoor

namespace Go.Proofs.YtliabblchkgclaaDoor
open Go Go.Av
def atL (u L : Nat) (i : Int) (k : List Slot) : Except Int EfS := if u ≤ L then .ok ⟨L - u, i, k⟩ else .error 11
/-- What is known of a run that ends well tells of all runs of the same items from a like list. -/
def Sc (run : List Tree → EfS → Except Int EfS) (n : Nat) : Prop :=
  ∀ q s t, s.left ≤ n → run q s = .ok t → ∀ L c, run q ⟨L, s.inn + c, s.stk⟩ = atL (s.left - t.left) L (t.inn + c) t.stk
def mvS (L : Nat) (c : Int) (s : EfS) : EfS := ⟨L, s.inn + c, s.stk⟩
theorem popS_mv (L : Nat) (c : Int) (s : EfS) : popS (mvS L c s) = ((popS s).1, mvS L c (popS s).2) := by
  obtain ⟨l, i, k⟩ := s
  cases k with
  | nil => show (_, _) = (_, _); congr 1; show EfS.mk _ _ _ = EfS.mk _ _ _; congr 1; show i + c + 1 = i + 1 + c; omega
  | cons x r => rfl
theorem popsS_mv (L : Nat) (c : Int) : ∀ (n : Nat) (s : EfS), popsS n (mvS L c s) = ((popsS n s).1, mvS L c (popsS n s).2)
  | 0, s => rfl
  | n + 1, s => by
    have h := popsS_mv L c n (popS s).2
    unfold popsS
    rw [popS_mv]
    dsimp only
    rw [h]
theorem applyS_mv (L : Nat) (c : Int) (i o : Nat) (s : EfS) : applyS i o (mvS L c s) = mvS L c (applyS i o s) := by
  unfold applyS
  rw [popsS_mv]; rfl
theorem movesS_mv (L : Nat) (c : Int) (n : Nat) (ks : List Nat) (s : EfS) : movesS n ks (mvS L c s) = mvS L c (movesS n ks s) := by
  unfold movesS
  rw [popsS_mv]
  dsimp only
  generalize (popsS n s).2 = t
  generalize (popsS n s).1 = l
  induction ks generalizing t with
  | nil => rfl
  | cons k ks ih => rw [List.foldl_cons, List.foldl_cons, ← ih]; rfl
theorem quotS_mv (L : Nat) (c : Int) {s t : EfS} {q : List Tree} (h : quotS s = .ok (q, t)) : quotS (mvS L c s) = .ok (q, mvS L c t) := by
  unfold quotS at h ⊢
  rw [popS_mv]
  split at h
  · rename_i l u hp
    rw [hp]
    cases h; rfl
  · cases h
section
variable {run : List Tree → EfS → Except Int EfS} {known : List UInt8 → Option (Int × Int)} {n : Nat}
theorem ownS_at (hs : Sc run n) (hr : ∀ q s t, run q s = .ok t → Gr 0 0 s t) {q : List Tree} {s t : EfS} {i o : Int} (hn : s.left ≤ n) (h : ownS run q s = .ok (i, o, t)) (L : Nat) (c : Int) :
    ownS run q (mvS L c s) = (if s.left - t.left ≤ L then .ok (i, o, mvS (L - (s.left - t.left)) c t) else .error 11) := by
  obtain ⟨_, _, _, _, h5, h6⟩ := ownS_gr hr h
  unfold ownS at h ⊢
  split at h
  · rename_i u hu
    have e := hs q ⟨s.left, 0, []⟩ u hn hu L 0
    dsimp only at e
    rw [show (0 : Int) + 0 = 0 by rfl] at e
    show (match run q ⟨L, 0, []⟩ with
      | .ok t => Except.ok (t.inn, (t.stk.length : Int), { mvS L c s with left := t.left })
      | .error e => .error e) = _
    rw [e]
    cases h
    unfold atL
    dsimp only
    by_cases hc : s.left - u.left ≤ L
    · rw [if_pos hc, if_pos hc]
      dsimp only
      rw [show u.inn + 0 = u.inn by omega]; rfl
    · rw [if_neg hc, if_neg hc]
  · cases h
theorem controlS_at (hs : Sc run n) (hr : ∀ q s t, run q s = .ok t → Gr 0 0 s t) {name : List UInt8} {s t : EfS} (hn : s.left ≤ n) (h : controlS run name s = some (.ok t)) (L : Nat) (c : Int) :
    controlS run name (mvS L c s) = some (atL (s.left - t.left) L (t.inn + c) t.stk) := by
  have hrun : ∀ {q : List Tree} {s t : EfS}, s.left ≤ n → run q s = .ok t → ∀ L c, run q (mvS L c s) = atL (s.left - t.left) L (t.inn + c) t.stk := fun hn h L c => hs _ _ _ hn h L c
  unfold controlS at h ⊢
  by_cases h1 : name = [99, 97, 108, 108]
  · rw [if_pos h1] at h ⊢
    simp only [Option.some.injEq] at h ⊢
    split at h
    · cases h
    · rename_i q u hq
      have hl := (quotS_gr hq).2
      rw [quotS_mv L c hq]
      dsimp only
      rw [hrun (by omega) h, hl]
  rw [if_neg h1] at h ⊢
  by_cases h2 : name = [100, 105, 112]
  · rw [if_pos h2] at h ⊢
    simp only [Option.some.injEq] at h ⊢
    split at h
    · cases h
    · rename_i q u hq
      have hl := (quotS_gr hq).2
      have hp := popS_left u
      rw [quotS_mv L c hq]
      dsimp only
      rw [popS_mv]
      dsimp only
      split at h
      · cases h
      · rename_i w hw
        rw [hrun (by omega) hw]
        cases h
        unfold atL
        rw [hp, hl]
        show _ = if s.left - w.left ≤ L then _ else _
        by_cases hc : s.left - w.left ≤ L
        · rw [if_pos hc, if_pos hc]; rfl
        · rw [if_neg hc, if_neg hc]
  rw [if_neg h2] at h ⊢
  by_cases h3 : name = [107, 101, 101, 112]
  · rw [if_pos h3] at h ⊢
    simp only [Option.some.injEq] at h ⊢
    split at h
    · cases h
    · rename_i q u hq
      have hl := (quotS_gr hq).2
      have hp := popS_left u
      rw [quotS_mv L c hq]
      dsimp only
      rw [popS_mv]
      dsimp only
      split at h
      · cases h
      · rename_i w hw
        have e := hrun (q := q) (s := pushS (popS u).2 (popS u).1) (by show (popS u).2.left ≤ n; omega) hw L c
        rw [show pushS (mvS L c (popS u).2) (popS u).1 = mvS L c (pushS (popS u).2 (popS u).1) from rfl, e]
        cases h
        unfold atL
        rw [show (pushS (popS u).2 (popS u).1).left = (popS u).2.left from rfl, hp, hl]
        show _ = if s.left - w.left ≤ L then _ else _
        by_cases hc : s.left - w.left ≤ L
        · rw [if_pos hc, if_pos hc]; rfl
        · rw [if_neg hc, if_neg hc]
  rw [if_neg h3] at h ⊢
  by_cases h4 : name = [105, 102]
  · rw [if_pos h4] at h ⊢
    simp only [Option.some.injEq] at h ⊢
    split at h
    · cases h
    · rename_i b u hq
      have hl := (quotS_gr hq).2
      rw [quotS_mv L c hq]
      dsimp only
      split at h
      · cases h
      · rename_i a v hq2
        have hl2 := (quotS_gr hq2).2
        have hp := popS_left v
        rw [quotS_mv L c hq2]
        dsimp only
        rw [popS_mv]
        dsimp only
        split at h
        · cases h
        · rename_i ai ao w ha
          obtain ⟨_, _, _, _, a5, _⟩ := ownS_gr hr ha
          rw [ownS_at hs hr (by omega) ha]
          split at h
          · cases h
          · rename_i bi bo x hb
            obtain ⟨_, _, _, _, b5, _⟩ := ownS_gr hr hb
            have hx := applyS_left (max ai bi).toNat (max ai bi + ao - ai).toNat x
            by_cases hc : (popS v).2.left - w.left ≤ L
            · rw [if_pos hc]
              dsimp only
              rw [ownS_at hs hr (by omega) hb]
              split at h
              · rename_i he
                cases h
                by_cases hc2 : w.left - x.left ≤ L - ((popS v).2.left - w.left)
                · rw [if_pos hc2]
                  dsimp only
                  rw [if_pos he, applyS_mv]
                  unfold atL
                  rw [if_pos (by omega), hx]
                  show Except.ok (EfS.mk _ _ _) = _
                  congr 2; omega
                · rw [if_neg hc2]
                  unfold atL
                  rw [if_neg (by omega)]
              · cases h
            · rw [if_neg hc]
              split at h
              · cases h
                unfold atL
                rw [if_neg (by omega)]
              · cases h
  rw [if_neg h4] at h ⊢
  by_cases h5 : name = [119, 104, 101, 110] ∨ name = [116, 105, 109, 101, 115]
  · rw [if_pos h5] at h ⊢
    simp only [Option.some.injEq] at h ⊢
    split at h
    · cases h
    · rename_i q u hq
      have hl := (quotS_gr hq).2
      have hp := popS_left u
      rw [quotS_mv L c hq]
      dsimp only
      rw [popS_mv]
      dsimp only
      split at h
      · cases h
      · rename_i ai ao w ha
        rw [ownS_at hs hr (by omega) ha]
        split at h
        · rename_i he
          have hx := applyS_left ai.toNat ao.toNat w
          cases h
          unfold atL
          by_cases hc : (popS u).2.left - w.left ≤ L
          · rw [if_pos hc, if_pos (by omega)]
            dsimp only
            rw [if_pos he, applyS_mv, hx]
            show Except.ok (EfS.mk _ _ _) = _
            congr 2; omega
          · rw [if_neg hc, if_neg (by omega)]
        · cases h
  rw [if_neg h5] at h ⊢
  by_cases h6 : name = [108, 111, 111, 112]
  · rw [if_pos h6] at h ⊢
    simp only [Option.some.injEq] at h ⊢
    split at h
    · cases h
    · rename_i q u hq
      have hl := (quotS_gr hq).2
      rw [quotS_mv L c hq]
      dsimp only
      split at h
      · cases h
      · rename_i ai ao w ha
        rw [ownS_at hs hr (by omega) ha]
        split at h
        · rename_i he
          have hx := applyS_left ai.toNat ai.toNat w
          cases h
          unfold atL
          by_cases hc : u.left - w.left ≤ L
          · rw [if_pos hc, if_pos (by omega)]
            dsimp only
            rw [if_pos he, applyS_mv, hx]
            show Except.ok (EfS.mk _ _ _) = _
            congr 2; omega
          · rw [if_neg hc, if_neg (by omega)]
        · cases h
  rw [if_neg h6] at h ⊢
  by_cases h7 : name = [101, 97, 99, 104]
  · rw [if_pos h7] at h ⊢
    simp only [Option.some.injEq] at h ⊢
    split at h
    · cases h
    · rename_i q u hq
      have hl := (quotS_gr hq).2
      have hp := popS_left u
      rw [quotS_mv L c hq]
      dsimp only
      rw [popS_mv]
      dsimp only
      split at h
      · cases h
      · rename_i ai ao w ha
        rw [ownS_at hs hr (by omega) ha]
        split at h
        · rename_i he
          have hx := applyS_left ao.toNat ao.toNat w
          cases h
          unfold atL
          by_cases hc : (popS u).2.left - w.left ≤ L
          · rw [if_pos hc, if_pos (by omega)]
            dsimp only
            rw [if_pos he, applyS_mv, hx]
            show Except.ok (EfS.mk _ _ _) = _
            congr 2; omega
          · rw [if_neg hc, if_neg (by omega)]
        · cases h
  · rw [if_neg h7] at h
    cases h
theorem controlS_none (name : List UInt8) (s t : EfS) (h : controlS run name s = none) : controlS run name t = none := by
  unfold controlS at h ⊢
  by_cases h1 : name = [99, 97, 108, 108]
  · rw [if_pos h1] at h; cases h
  by_cases h2 : name = [100, 105, 112]
  · rw [if_neg h1, if_pos h2] at h; cases h
  by_cases h3 : name = [107, 101, 101, 112]
  · rw [if_neg h1, if_neg h2, if_pos h3] at h; cases h
  by_cases h4 : name = [105, 102]
  · rw [if_neg h1, if_neg h2, if_neg h3, if_pos h4] at h; cases h
  by_cases h5 : name = [119, 104, 101, 110] ∨ name = [116, 105, 109, 101, 115]
  · rw [if_neg h1, if_neg h2, if_neg h3, if_neg h4, if_pos h5] at h; cases h
  by_cases h6 : name = [108, 111, 111, 112]
  · rw [if_neg h1, if_neg h2, if_neg h3, if_neg h4, if_neg h5, if_pos h6] at h; cases h
  by_cases h7 : name = [101, 97, 99, 104]
  · rw [if_neg h1, if_neg h2, if_neg h3, if_neg h4, if_neg h5, if_neg h6, if_pos h7] at h; cases h
  rw [if_neg h1, if_neg h2, if_neg h3, if_neg h4, if_neg h5, if_neg h6, if_neg h7]
theorem stepS_at (hs : Sc run n) (hr : ∀ q s t, run q s = .ok t → Gr 0 0 s t) {y : Tree} {s t : EfS} (hn : s.left ≤ n) (h : stepS run known y s = .ok t) (L : Nat) (c : Int) :
    stepS run known y (mvS L c s) = atL (s.left - t.left) L (t.inn + c) t.stk := by
  have same : ∀ u : EfS, u.left = s.left → Except.ok (mvS L c u) = atL (s.left - u.left) L (u.inn + c) u.stk := by
    intro u hu
    unfold atL
    rw [hu, Nat.sub_self, if_pos (Nat.zero_le _), Nat.sub_zero]; rfl
  have push : ∀ x : Slot, Except.ok (pushS s x) = Except.ok (ε := Int) t → Except.ok (pushS (mvS L c s) x) = atL (s.left - t.left) L (t.inn + c) t.stk := by
    intro x hx
    cases hx
    exact same (pushS s x) rfl
  unfold stepS at h ⊢
  cases y with
  | call name =>
    dsimp only at h ⊢
    cases hm : moveR name with
    | some x =>
      obtain ⟨k, ks⟩ := x
      rw [hm] at h
      dsimp only at h ⊢
      cases h
      rw [movesS_mv]
      exact same _ (movesS_left k ks s)
    | none =>
      rw [hm] at h
      dsimp only at h ⊢
      cases hc : controlS run name s with
      | some r =>
        rw [hc] at h
        dsimp only at h
        subst h
        rw [controlS_at hs hr hn hc]
      | none =>
        rw [hc] at h
        rw [controlS_none name s _ hc]
        dsimp only at h ⊢
        cases hp : primR name with
        | some x =>
          obtain ⟨i, o⟩ := x
          rw [hp] at h
          dsimp only at h ⊢
          cases h
          rw [applyS_mv]
          exact same _ (applyS_left i o s)
        | none =>
          rw [hp] at h
          dsimp only at h ⊢
          cases hk : known name with
          | some x =>
            obtain ⟨i, o⟩ := x
            rw [hk] at h
            dsimp only at h ⊢
            cases h
            rw [applyS_mv]
            exact same _ (applyS_left _ _ s)
          | none => rw [hk] at h; cases h
  | none => exact push none h
  | int m => exact push none h
  | str m => exact push none h
  | bool m => exact push none h
  | box m => exact push none h
  | list m => exact push none h
  | odd u v => exact push none h
  | quot m => exact push (some m) h
theorem runL_sc (hk : ∀ n i o, known n = some (i, o) → 0 ≤ i ∧ i ≤ 16 ∧ 0 ≤ o ∧ o ≤ 16) : ∀ n, Sc (runL known) n := by
  have hr : ∀ q s t, runL known q s = .ok t → Gr 0 0 s t := fun q s t h => runL_gr hk h
  intro n
  induction n with
  | zero =>
    intro q s t hn h L c
    cases q with
    | nil =>
      rw [runL_nil] at h; cases h
      rw [runL_nil]; unfold atL
      rw [Nat.sub_self, if_pos (Nat.zero_le _)]; rfl
    | cons y r =>
      rw [runL_cons hk, if_pos (by omega)] at h; cases h
  | succ n ih =>
    intro q
    have rest : ∀ (r : List Tree) (s t : EfS), s.left ≤ n → runL known r s = .ok t → ∀ L c, runL known r ⟨L, s.inn + c, s.stk⟩ = atL (s.left - t.left) L (t.inn + c) t.stk := fun r s t => ih r s t
    intro s t hn h L c
    cases q with
    | nil =>
      rw [runL_nil] at h; cases h
      rw [runL_nil]; unfold atL
      rw [Nat.sub_self, if_pos (Nat.zero_le _)]; rfl
    | cons y r =>
      rw [runL_cons hk] at h ⊢
      by_cases hl : s.left = 0
      · rw [if_pos hl] at h; cases h
      rw [if_neg hl] at h
      split at h
      · cases h
      · rename_i u hu
        have g1 := (stepS_gr hk hr hu).left
        have g2 := (hr _ _ _ h).left
        dsimp only at g1
        dsimp only
        by_cases hL : L = 0
        · rw [if_pos hL]
          unfold atL
          rw [if_neg (by omega)]
        rw [if_neg hL]
        have e := stepS_at ih hr (s := { s with left := s.left - 1 }) (by dsimp only; omega) hu (L - 1) c
        rw [show mvS (L - 1) c { s with left := s.left - 1 } = ⟨L - 1, s.inn + c, s.stk⟩ from rfl] at e
        rw [e]
        unfold atL
        dsimp only
        by_cases hc : s.left - 1 - u.left ≤ L - 1
        · rw [if_pos hc]
          dsimp only
          rw [rest r u t (by omega) h]
          unfold atL
          by_cases hc2 : u.left - t.left ≤ L - 1 - (s.left - 1 - u.left)
          · rw [if_pos hc2, if_pos (by omega)]
            congr 2; omega
          · rw [if_neg hc2, if_neg (by omega)]
        · rw [if_neg hc, if_neg (by omega)]
theorem runL_at (hk : ∀ n i o, known n = some (i, o) → 0 ≤ i ∧ i ≤ 16 ∧ 0 ≤ o ∧ o ≤ 16) {q : List Tree} {s t : EfS} (h : runL known q s = .ok t) (L : Nat) (c : Int) :
    runL known q ⟨L, s.inn + c, s.stk⟩ = atL (s.left - t.left) L (t.inn + c) t.stk := runL_sc hk s.left q s t (Nat.le_refl _) h L c
end
end Go.Proofs.YtliabblchkgclaaDoor

namespace Go.Proofs.YtliabblchkgclaaDoor
open Go Go.Av
section
variable {run : List Tree → EfS → Except Int EfS} {known : List UInt8 → Option (Int × Int)}
def ErrE (e : Int) : Prop := e = 10 ∨ e = 11 ∨ e = 12
theorem quotS_err {s : EfS} {e : Int} (h : quotS s = .error e) : ErrE e := by
  unfold quotS at h
  split at h
  · cases h
  · cases h; exact .inr (.inr rfl)
theorem ownS_err (hr : ∀ q s e, run q s = .error e → ErrE e) {q : List Tree} {s : EfS} {e : Int} (h : ownS run q s = .error e) : ErrE e := by
  unfold ownS at h
  split at h
  · cases h
  · rename_i e' he
    cases h; exact hr _ _ _ he
theorem controlS_err (hr : ∀ q s e, run q s = .error e → ErrE e) {name : List UInt8} {s : EfS} {e : Int} (h : controlS run name s = some (.error e)) : ErrE e := by
  unfold controlS at h
  repeat' (split at h)
  all_goals first
    | (cases h; done)
    | (simp only [Option.some.injEq] at h
       repeat' (split at h)
       all_goals first
         | (cases h; done)
         | exact hr _ _ _ h
         | (rename_i e' he; cases h; first | exact quotS_err he | exact hr _ _ _ he | exact ownS_err hr he)
         | (cases h; exact .inr (.inr rfl)))
theorem stepS_err (hr : ∀ q s e, run q s = .error e → ErrE e) {y : Tree} {s : EfS} {e : Int} (h : stepS run known y s = .error e) : ErrE e := by
  unfold stepS at h
  split at h
  · split at h
    · cases h
    · split at h
      · rename_i r hc
        subst h
        exact controlS_err hr hc
      · split at h
        · cases h
        · split at h
          · cases h
          · cases h; exact .inl rfl
  · cases h
theorem runS_err : ∀ (n : Nat) (l : List Tree) (s : EfS) (e : Int), runS known n l s = .error e → ErrE e
  | n, [], s, e, h => by unfold runS at h; cases h
  | 0, _ :: _, s, e, h => by unfold runS at h; cases h; exact .inr (.inl rfl)
  | n + 1, y :: r, s, e, h => by
    unfold runS at h
    split at h
    · cases h; exact .inr (.inl rfl)
    · split at h
      · rename_i e' he
        cases h
        exact stepS_err (fun q s e h => runS_err n q s e h) he
      · exact runS_err n _ _ _ h
theorem runL_err {l : List Tree} {s : EfS} {e : Int} (h : runL known l s = .error e) : ErrE e := runS_err _ _ _ _ h
theorem step_call (s : EfS) : stepS run known (.call [99, 97, 108, 108]) s = match quotS s with
    | .error e => .error e
    | .ok (q, s) => run q s := by
  unfold stepS; dsimp only
  rw [show moveR [99, 97, 108, 108] = none from rfl]
  unfold controlS
  rw [if_pos rfl]
  rfl
theorem step_dip (s : EfS) : stepS run known (.call [100, 105, 112]) s = match quotS s with
    | .error e => .error e
    | .ok (q, s) => match run q (popS s).2 with
      | .error e => .error e
      | .ok t => .ok (pushS t (popS s).1) := by
  unfold stepS; dsimp only
  rw [show moveR [100, 105, 112] = none from rfl]
  unfold controlS
  rw [if_neg (by decide), if_pos rfl]
  rfl
theorem step_if (s : EfS) : stepS run known (.call [105, 102]) s = match quotS s with
    | .error e => .error e
    | .ok (b, s) => match quotS s with
      | .error e => .error e
      | .ok (a, s) => match ownS run a (popS s).2 with
        | .error e => .error e
        | .ok (ai, ao, s) => match ownS run b s with
          | .error e => .error e
          | .ok (bi, bo, s) => if ao - ai = bo - bi then .ok (applyS (max ai bi).toNat (max ai bi + ao - ai).toNat s) else .error 12 := by
  unfold stepS; dsimp only
  rw [show moveR [105, 102] = none from rfl]
  unfold controlS
  rw [if_neg (by decide), if_neg (by decide), if_neg (by decide), if_pos rfl]
  rfl
end
mutual
theorem measT_at : ∀ (it : Bool) (t : Tree) (left nest d l' : Int), measT it t left nest = some (d, l') → ∀ left' nest' : Int, nest' ≤ nest → 0 ≤ l' + (left' - left) → measT it t left' nest' = some (d, l' + (left' - left)) := by
  intro it t left nest d l' h left' nest' hn hl
  have hle := measT_le it t left nest d l' h
  cases t with
  | none => rw [measT] at h; cases h
  | odd u v => rw [measT] at h; cases h
  | list l =>
    rw [measT] at h ⊢
    split at h
    · cases h
    · rw [if_neg (by omega)]
      have := measTs_at false l (left - 1) nest 0 d l' h (left' - 1) nest' hn (by omega)
      rw [this]; congr 2; omega
  | quot l =>
    rw [measT] at h ⊢
    split at h
    · cases h
    · rw [if_neg (by omega)]
      have := measTs_at true l (left - 1) nest 0 d l' h (left' - 1) nest' hn (by omega)
      rw [this]; congr 2; omega
  | call s =>
    rw [measT] at h ⊢
    split at h
    · rename_i hc
      simp only [Option.some.injEq, Prod.mk.injEq] at h
      rw [if_pos ⟨hc.1, by omega, hc.2.2⟩]
      simp only [Option.some.injEq, Prod.mk.injEq]; omega
    · cases h
  | int n =>
    rw [measT] at h ⊢
    split at h
    · cases h
    · split at h
      · rename_i hc
        simp only [Option.some.injEq, Prod.mk.injEq] at h
        rw [if_neg (by omega), if_pos hc]
        simp only [Option.some.injEq, Prod.mk.injEq]; omega
      · cases h
  | str s =>
    rw [measT] at h ⊢
    split at h
    · cases h
    · split at h
      · rename_i hc
        simp only [Option.some.injEq, Prod.mk.injEq] at h
        rw [if_neg (by omega), if_pos hc]
        simp only [Option.some.injEq, Prod.mk.injEq]; omega
      · cases h
  | bool b =>
    rw [measT] at h ⊢
    split at h
    · cases h
    · simp only [Option.some.injEq, Prod.mk.injEq] at h
      rw [if_neg (by omega)]
      simp only [Option.some.injEq, Prod.mk.injEq]; omega
  | box n =>
    rw [measT] at h ⊢
    split at h
    · cases h
    · split at h
      · rename_i hc
        simp only [Option.some.injEq, Prod.mk.injEq] at h
        rw [if_neg (by omega), if_pos hc]
        simp only [Option.some.injEq, Prod.mk.injEq]; omega
      · cases h
theorem measTs_at : ∀ (it : Bool) (l : List Tree) (left nest depth d l' : Int), measTs it l left nest depth = some (d, l') → ∀ left' nest' : Int, nest' ≤ nest → 0 ≤ l' + (left' - left) → measTs it l left' nest' depth = some (d, l' + (left' - left))
  | it, [], left, nest, depth, d, l', h, left', nest', hn, hl => by
    rw [measTs] at h ⊢
    split at h
    · rename_i hc
      simp only [Option.some.injEq, Prod.mk.injEq] at h
      rw [if_pos hc]
      simp only [Option.some.injEq, Prod.mk.injEq]; omega
    · cases h
  | it, t :: r, left, nest, depth, d, l', h, left', nest', hn, hl => by
    rw [measTs] at h ⊢
    cases hm : measT it t left (nest + 1) with
    | none => rw [hm] at h; cases h
    | some x =>
      obtain ⟨d1, l1⟩ := x
      rw [hm] at h
      dsimp only at h
      have hle := measT_le it t left (nest + 1) d1 l1 hm
      have h3 := measTs_mono it r l1 nest (max depth d1) d l' h
      rw [measT_at it t left (nest + 1) d1 l1 hm left' (nest' + 1) (by omega) (by omega)]
      dsimp only
      have := measTs_at it r l1 nest (max depth d1) d l' h (l1 + (left' - left)) nest' hn (by omega)
      rw [this]; congr 2; omega
theorem measTs_mono : ∀ (it : Bool) (l : List Tree) (left nest depth d l' : Int), measTs it l left nest depth = some (d, l') → l' ≤ left
  | it, [], left, nest, depth, d, l', h => by
    rw [measTs] at h
    split at h
    · simp only [Option.some.injEq, Prod.mk.injEq] at h; omega
    · cases h
  | it, t :: r, left, nest, depth, d, l', h => by
    rw [measTs] at h
    cases hm : measT it t left (nest + 1) with
    | none => rw [hm] at h; cases h
    | some x =>
      obtain ⟨d1, l1⟩ := x
      rw [hm] at h
      have hle := measT_le it t left (nest + 1) d1 l1 hm
      have := measTs_mono it r l1 nest (max depth d1) d l' h
      omega
end
/-- No word is known. -/
def K0 : List UInt8 → Option (Int × Int) := knownR (firsts [])
theorem hk0 : ∀ n i o, K0 n = some (i, o) → 0 ≤ i ∧ i ≤ 16 ∧ 0 ≤ o ∧ o ≤ 16 := firsts_fit (kl := []) rfl
noncomputable def fin0 : Except Int EfS → Int × Int × Int
  | .error e => (0, 0, e)
  | .ok t => if fitsR t.inn t.stk.length = true then (t.inn, (t.stk.length : Int), 0) else (0, 0, 11)
noncomputable def of0 (l : List Tree) : Int × Int × Int := if checkR l = false then (0, 0, 1) else fin0 (runL K0 l ⟨4096, 0, []⟩)
theorem ofR_nil (l : List Tree) : ofR l [] = of0 l := by
  unfold ofR of0 fin0
  rw [show fitsK [] = true from rfl]
  by_cases hc : checkR l = false
  · rw [if_pos hc, if_pos hc]
  · rw [if_neg hc, if_neg hc, if_neg (by simp)]
    rfl
theorem run_push (L : List Tree) (r : List Tree) (l : Nat) (i : Int) (k : List Slot) : runL K0 (.quot L :: r) ⟨l + 1, i, k⟩ = runL K0 r ⟨l, i, some L :: k⟩ := by
  rw [runL_cons hk0, if_neg (by dsimp only; omega)]
  rfl
theorem run_call (L : List Tree) : runL K0 [.quot L, .call [99, 97, 108, 108]] ⟨4096, 0, []⟩ = runL K0 L ⟨4094, 0, []⟩ := by
  rw [run_push, runL_cons hk0, if_neg (by dsimp only; omega), step_call]
  show (match runL K0 L ⟨4094, 0, []⟩ with
    | .error e => Except.error e
    | .ok t => runL K0 [] t) = _
  cases runL K0 L ⟨4094, 0, []⟩ with
  | error e => rfl
  | ok t => dsimp only; rw [runL_nil]
theorem run_dip (L : List Tree) : runL K0 [.quot L, .call [100, 105, 112]] ⟨4096, 0, []⟩ = match runL K0 L ⟨4094, 1, []⟩ with
    | .error e => .error e
    | .ok t => .ok (pushS t none) := by
  rw [run_push, runL_cons hk0, if_neg (by dsimp only; omega), step_dip]
  show (match (match runL K0 L ⟨4094, 0 + 1, []⟩ with
    | .error e => .error e
    | .ok t => .ok (pushS t none) : Except Int EfS) with
    | .error e => Except.error e
    | .ok t => runL K0 [] t) = _
  rw [show (0 : Int) + 1 = 1 by rfl]
  cases runL K0 L ⟨4094, 1, []⟩ with
  | error e => rfl
  | ok t => dsimp only; rw [runL_nil]
noncomputable def ifE (A B : List Tree) : Except Int EfS := match ownS (runL K0) A ⟨4093, 1, []⟩ with
  | .error e => .error e
  | .ok (ai, ao, s) => match ownS (runL K0) B s with
    | .error e => .error e
    | .ok (bi, bo, s) => if ao - ai = bo - bi then .ok (applyS (max ai bi).toNat (max ai bi + ao - ai).toNat s) else .error 12
theorem run_if (A B : List Tree) : runL K0 [.quot A, .quot B, .call [105, 102]] ⟨4096, 0, []⟩ = ifE A B := by
  rw [run_push, run_push, runL_cons hk0, if_neg (by dsimp only; omega), step_if]
  show (match ifE A B with
    | .error e => Except.error e
    | .ok t => runL K0 [] t) = _
  cases ifE A B with
  | error e => rfl
  | ok t => dsimp only; rw [runL_nil]
theorem fin0_code {r : Except Int EfS} (hr : ∀ e, r = .error e → ErrE e) : (fin0 r).2.2 = 0 ↔ ∃ t, r = .ok t ∧ fitsR t.inn t.stk.length = true := by
  cases r with
  | error e =>
    constructor
    · intro h
      have h : e = 0 := h
      rcases hr e rfl with h1 | h1 | h1 <;> omega
    · rintro ⟨t, ht, _⟩; cases ht
  | ok t =>
    unfold fin0
    by_cases hf : fitsR t.inn t.stk.length = true
    · dsimp only; rw [if_pos hf]; exact ⟨fun _ => ⟨t, rfl, hf⟩, fun _ => rfl⟩
    · dsimp only; rw [if_neg hf]
      constructor
      · intro h; cases h
      · rintro ⟨t', ht, h⟩; cases ht; exact absurd h hf
theorem of0_code (l : List Tree) : (of0 l).2.2 = 0 ↔ checkR l = true ∧ ∃ t, runL K0 l ⟨4096, 0, []⟩ = .ok t ∧ fitsR t.inn t.stk.length = true := by
  unfold of0
  cases hc : checkR l with
  | false =>
    rw [if_pos rfl]
    constructor
    · intro h; cases h
    · rintro ⟨h, _⟩; cases h
  | true =>
    rw [if_neg (by simp), fin0_code fun e he => runL_err he]
    exact ⟨fun h => ⟨rfl, h⟩, fun h => h.2⟩
theorem of0_ok {l : List Tree} {t : EfS} (hc : checkR l = true) (h : runL K0 l ⟨4096, 0, []⟩ = .ok t) (hf : fitsR t.inn t.stk.length = true) : of0 l = (t.inn, (t.stk.length : Int), 0) := by
  unfold of0
  rw [if_neg (by rw [hc]; simp), h]
  unfold fin0
  dsimp only
  rw [if_pos hf]
theorem of0_bad {l : List Tree} (h : (of0 l).2.2 ≠ 0) : (of0 l).1 = 0 ∧ (of0 l).2.1 = 0 := by
  unfold of0 at h ⊢
  cases hc : checkR l with
  | false => rw [if_pos rfl]; exact ⟨rfl, rfl⟩
  | true =>
    rw [hc] at h
    rw [if_neg (by simp)] at h ⊢
    cases hr : runL K0 l ⟨4096, 0, []⟩ with
    | error e => exact ⟨rfl, rfl⟩
    | ok t =>
      rw [hr] at h
      unfold fin0 at h ⊢
      dsimp only at h ⊢
      by_cases hf : fitsR t.inn t.stk.length = true
      · rw [if_pos hf] at h; exact absurd rfl h
      · rw [if_neg hf]; exact ⟨rfl, rfl⟩
def callW : Tree := .call [99, 97, 108, 108]
def dipW : Tree := .call [100, 105, 112]
def ifW : Tree := .call [105, 102]
theorem nm_call : nmR [99, 97, 108, 108] = true := by decide +kernel
theorem nm_dip : nmR [100, 105, 112] = true := by decide +kernel
theorem nm_if : nmR [105, 102] = true := by decide +kernel
theorem check_eq (l : List Tree) : checkR l = (measTs true l 1023 0 0).isSome := by
  unfold checkR
  rw [measT, if_neg (by omega)]; rfl
theorem meas_word {s : List UInt8} (h : nmR s = true) (left nest : Int) : measT true (.call s) left nest = if 1 ≤ left then some (0, left - 1) else none := by
  rw [measT]
  by_cases hl : 1 ≤ left
  · rw [if_pos ⟨rfl, hl, h⟩, if_pos hl]
  · rw [if_neg (fun h => hl h.2.1), if_neg hl]
theorem check_own {L : List Tree} {s : List UInt8} (h : checkR [.quot L, .call s] = true) : checkR L = true := by
  rw [check_eq] at h ⊢
  rw [measTs] at h
  rw [measT, if_neg (by omega)] at h
  cases hm : measTs true L (1023 - 1) (0 + 1) 0 with
  | none => rw [hm] at h; cases h
  | some x =>
    obtain ⟨d, l1⟩ := x
    have hle := measTs_le true L (1023 - 1) (0 + 1) 0 d l1 (by omega) (by omega) hm
    rw [measTs_at true L _ _ 0 d l1 hm 1023 0 (by omega) (by omega)]; rfl
theorem check_word {L : List Tree} {s u : List UInt8} (hs : nmR s = true) (hu : nmR u = true) : checkR [.quot L, .call s] = checkR [.quot L, .call u] := by
  rw [check_eq, check_eq, measTs, measTs]
  cases measT true (.quot L) 1023 (0 + 1) with
  | none => rfl
  | some x =>
    obtain ⟨d, l1⟩ := x
    dsimp only
    rw [measTs, measTs, meas_word hs, meas_word hu]
theorem check_swap1 {A B : List Tree} (h : checkR [.quot A, .quot B, ifW] = true) : checkR [.quot B, .quot A, ifW] = true := by
  unfold ifW at h ⊢
  rw [check_eq] at h ⊢
  rw [measTs] at h ⊢
  cases ha : measT true (.quot A) 1023 (0 + 1) with
  | none => rw [ha] at h; cases h
  | some x =>
    obtain ⟨d1, l1⟩ := x
    rw [ha] at h
    dsimp only at h
    rw [measTs] at h
    cases hb : measT true (.quot B) l1 (0 + 1) with
    | none => rw [hb] at h; cases h
    | some y =>
      obtain ⟨d2, l2⟩ := y
      rw [hb] at h
      dsimp only at h
      have la := measT_le _ _ _ _ _ _ ha
      have lb := measT_le _ _ _ _ _ _ hb
      rw [measT_at _ _ _ _ _ _ hb 1023 (0 + 1) (Int.le_refl _) (by omega)]
      dsimp only
      rw [measTs, measT_at _ _ _ _ _ _ ha (l2 + (1023 - l1)) (0 + 1) (Int.le_refl _) (by omega)]
      dsimp only
      rw [show l1 + (l2 + (1023 - l1) - 1023) = l2 by omega, show max (max 0 d2) d1 = max (max 0 d1) d2 by omega]
      exact h
theorem check_swap (A B : List Tree) : checkR [.quot A, .quot B, ifW] = checkR [.quot B, .quot A, ifW] := by
  cases h : checkR [.quot A, .quot B, ifW] with
  | true => exact (check_swap1 h).symm
  | false =>
    cases h2 : checkR [.quot B, .quot A, ifW] with
    | false => rfl
    | true => rw [check_swap1 h2] at h; cases h
/-- With the work of one moved behind the other's. -/
theorem ifE_swap {A B : List Tree} {t : EfS} (h : ifE A B = .ok t) : ifE B A = .ok t := by
  unfold ifE at h ⊢
  have hr : ∀ q s t, runL K0 q s = .ok t → Gr 0 0 s t := fun q s t h => runL_gr hk0 h
  have hs := runL_sc hk0 4096
  split at h
  · cases h
  · rename_i ai ao w ha
    obtain ⟨_, _, _, _, a5, a6⟩ := ownS_gr hr ha
    split at h
    · cases h
    · rename_i bi bo x hb
      obtain ⟨_, _, _, _, b5, b6⟩ := ownS_gr hr hb
      dsimp only at a5
      split at h
      · rename_i he
        cases h
        have e1 := ownS_at hs hr (by omega) hb 4093 0
        rw [if_pos (by omega)] at e1
        rw [show mvS 4093 0 w = ⟨4093, 1, []⟩ by rw [a6]; rfl] at e1
        rw [e1]
        dsimp only
        have e2 := ownS_at hs hr (by dsimp only; omega) ha (4093 - (w.left - x.left)) 0
        dsimp only at e2
        rw [if_pos (by omega)] at e2
        have e3 : mvS (4093 - (w.left - x.left)) 0 x = mvS (4093 - (w.left - x.left)) 0 ⟨4093, 1, []⟩ := by rw [b6, a6]; rfl
        rw [e3, e2]
        dsimp only
        rw [if_pos he.symm]
        have e4 : mvS (4093 - (w.left - x.left) - (4093 - w.left)) 0 w = x := by
          rw [b6, show 4093 - (w.left - x.left) - (4093 - w.left) = x.left by omega]
          unfold mvS
          rw [show w.inn + 0 = w.inn by omega]
        rw [e4, show max bi ai = max ai bi by omega, show max ai bi + bo - bi = max ai bi + ao - ai by omega]
      · cases h
end Go.Proofs.YtliabblchkgclaaDoor

namespace Go.Proofs.YtliabblchkgclaaDoor
open Go Go.Av
def RV.knd : RV → Int
  | .mk k _ _ _ => k
def RV.txt : RV → List UInt8
  | .mk _ _ s _ => s
mutual
/-- The value of a tree. -/
def valT : RV → Tree
  | .mk k n s l => if k = 1 then .int n else if k = 2 then .str s else if k = 3 then .bool (decide (n ≠ 0)) else if k = 4 then .list (valTs l) else if k = 5 then .quot (itemTs l) else if k = 6 then .box n else .none
def valTs : List RV → List Tree
  | [] => []
  | v :: r => valT v :: valTs r
def itemTs : List RV → List Tree
  | [] => []
  | v :: r => (if v.knd = 7 then .call v.txt else valT v) :: itemTs r
end
/-- The item of a tree. -/
def itemT (v : RV) : Tree := if v.knd = 7 then .call v.txt else valT v
theorem itemTs_cons (v : RV) (r : List RV) : itemTs (v :: r) = itemT v :: itemTs r := by simp [itemTs, itemT]
theorem valTs_map : ∀ l : List RV, valTs l = l.map valT
  | [] => by simp [valTs]
  | v :: r => by rw [valTs, valTs_map r]; rfl
theorem itemTs_map : ∀ l : List RV, itemTs l = l.map itemT
  | [] => by simp [itemTs]
  | v :: r => by rw [itemTs_cons, itemTs_map r]; rfl
@[simp] theorem valTs_length (l : List RV) : (valTs l).length = l.length := by simp [valTs_map]
@[simp] theorem itemTs_length (l : List RV) : (itemTs l).length = l.length := by simp [itemTs_map]
mutual
/-- What comes in: numbers that fit, no list of more than 2^47 bytes. -/
def RV.inp : RV → Bool
  | .mk k n s l => (decide (-9223372036854775808 ≤ k) && decide (k ≤ 9223372036854775807)) && (decide (-9223372036854775808 ≤ n) && decide (n ≤ 9223372036854775807)) && decide (s.length ≤ 140737488351232) && decide (l.length ≤ 2513169434916) && inpAll l
def inpAll : List RV → Bool
  | [] => true
  | v :: r => v.inp && inpAll r
end
theorem inpAll_at : ∀ {l : List RV} {i : Nat} {t : RV}, inpAll l = true → l[i]? = some t → t.inp = true
  | [], _, _, _, h => by simp at h
  | x :: l, 0, t, hc, h => by simp at h; subst h; simp [inpAll] at hc; exact hc.1
  | x :: l, i + 1, t, hc, h => by simp [inpAll] at hc; exact inpAll_at hc.2 (by simpa using h)
mutual
theorem inp_clean : ∀ v : RV, v.inp = true → (valT v).clean = true
  | .mk k n s l, h => by
    simp only [RV.inp, Bool.and_eq_true, decide_eq_true_eq] at h
    rw [valT]
    repeat' split
    all_goals first
    | rfl
    | (simp only [Tree.clean, Bool.and_eq_true, decide_eq_true_eq, valTs_length, itemTs_length]; exact ⟨h.1.2, by first | exact inp_cleanV l h.2 | exact inp_cleanI l h.2⟩)
theorem inp_cleanV : ∀ l : List RV, inpAll l = true → cleanAll (valTs l) = true
  | [], _ => by simp [valTs, cleanAll]
  | v :: r, h => by
    simp only [inpAll, Bool.and_eq_true] at h
    simp only [valTs, cleanAll, Bool.and_eq_true]
    exact ⟨inp_clean v h.1, inp_cleanV r h.2⟩
theorem inp_cleanI : ∀ l : List RV, inpAll l = true → cleanAll (itemTs l) = true
  | [], _ => by simp [itemTs, cleanAll]
  | v :: r, h => by
    simp only [inpAll, Bool.and_eq_true] at h
    rw [itemTs]
    simp only [cleanAll, Bool.and_eq_true]
    refine ⟨?_, inp_cleanI r h.2⟩
    split
    · rfl
    · exact inp_clean v h.1
end
theorem inp_cleanT {v : RV} (h : v.inp = true) : (itemT v).clean = true := by
  unfold itemT
  split
  · rfl
  · exact inp_clean v h
mutual
theorem inp_small : ∀ v : RV, v.inp = true → v.small = true
  | .mk k n s l, h => by
    simp only [RV.inp, Bool.and_eq_true, decide_eq_true_eq] at h
    simp only [RV.small, Bool.and_eq_true, decide_eq_true_eq]
    exact ⟨h.1.2, inp_smallA l h.2⟩
theorem inp_smallA : ∀ l : List RV, inpAll l = true → smallAll l = true
  | [], _ => by simp [smallAll]
  | v :: r, h => by
    simp only [inpAll, Bool.and_eq_true] at h
    simp only [smallAll, Bool.and_eq_true]
    exact ⟨inp_small v h.1, inp_smallA r h.2⟩
end

theorem f_Values' (l : List RV) (h : ∀ (i : Nat) v, l[i]? = some v → Av.Fn Tryd.prog 17 [.agg (rvAV v)] (valAV (valT v))) (hl : l.length ≤ 2513169434916) :
    Av.Fn Tryd.prog 30 [.fz (rvsC l) l.length false] (.fz (valAVs (valTs l)) l.length false) := by
  have hcell : ∀ {i : Nat} {v : RV}, l[i]? = some v → (List.drop (mulN i 4) (rvsC l)).take 4 = rvAV v := fun h => by
    have := rvsC_at (r := []) h
    rwa [List.append_nil, ← mulN_eq] at this
  have hmap : ∀ q : List RV, valAVs (valTs q) = q.map fun v => valAV (valT v) := fun q => by rw [valAVs_map, valTs_map, List.map_map]; rfl
  rw [hmap]
  refine ACalls.of_W tb_ok (fn := Tryd.f30) (n := 20) (by kernel_rfl) rfl (by kernel_rfl) rfl rfl (by simp) (go ?_)
  refine VLoop.mk [3, 4] AccI (fun i => [accV i.o i.k, .int .i64 i.k]) (fun i => accS i.o 1 ((List.map fun v => valAV (valT v)) (l.take i.k))) (fun i => i.k ≤ l.length ∧ (i.o = none → i.k = 0)) (fun i => l.length - i.k) ⟨0, none⟩ ?_ ?_
  · exact ⟨⟨by simp, by simp⟩, rfl, .nil⟩
  rintro ⟨k, o⟩ ⟨hk, ho⟩
  dsimp only at hk ho ⊢
  refine go ?_
  refine fork (fun hlt => go ?_) (fun hlt => ?_)
  · have hlt : k < l.length := by omega
    obtain ⟨t, ht⟩ : ∃ t, l[k]? = some t := ⟨l[k], by simp [hlt]⟩
    have hv := h k t ht
    have hacc : (List.map fun v => valAV (valT v)) (l.take (k + 1)) = (List.map fun v => valAV (valT v)) (l.take k) ++ [(fun v => valAV (valT v)) t] := by
      rw [take_succ_at ht]; simp [hmap]
    have hlen : ((List.map fun v => valAV (valT v)) (l.take k)).length = k := by simp; omega
    refine VTake.mk (rvAV t) (hcell ht) (by simp) (go ?_)
    refine Fn.use (hv) (go ?_)
    cases o with
    | none =>
      obtain rfl : k = 0 := ho rfl
      refine go ?_
      refine VOne.mk (by first | exact valAV_one' _ | exact itemAV_one _) (go ?_)
      refine VAll.mk (fun b2 => go ?_)
      refine ⟨⟨1, some b2⟩, ⟨by dsimp only; omega, by simp⟩, by dsimp only; omega, rfl, .cons 0 ?_ .nil⟩
      dsimp only
      rw [hacc]; simp [hmap]
    | some bo =>
      refine go ?_
      refine VOne.mk (by first | exact valAV_one' _ | exact itemAV_one _) (go ?_)
      refine VGd.mk ⟨rfl, by omega, by rw [mulN_eq, hlen]; simp, by simp; omega⟩ (go ?_)
      refine VAll.mk (fun b2 => go ?_)
      refine ⟨⟨k + 1, some b2⟩, ⟨by dsimp only; omega, by simp⟩, by dsimp only; omega, rfl, .cons 0 ?_ .nil⟩
      dsimp only
      rw [hacc, mulN_eq, List.take_of_length_le (by rw [hlen]; simp)]; rfl
  · obtain rfl : k = l.length := by omega
    rw [List.take_length]
    cases o with
    | none =>
      have := ho rfl
      obtain rfl : l = [] := List.length_eq_zero_iff.1 this
      refine go ?_
      refine VRet.mk [] .nil ?_
      exact ⟨by simp [hmap], rfl⟩
    | some bo =>
      refine go ?_
      refine VRet.mk [] .nil ?_
      exact ⟨by simp [mulN_eq, List.take_of_length_le], rfl⟩
theorem f_ItemsOf' (l : List RV) (h : ∀ (i : Nat) v, l[i]? = some v → Av.Fn Tryd.prog 7 [.agg (rvAV v)] (itemAV (itemT v))) (hl : l.length ≤ 2513169434916) :
    Av.Fn Tryd.prog 9 [.fz (rvsC l) l.length false] (.fz (itemAVs (itemTs l)) l.length false) := by
  have hcell : ∀ {i : Nat} {v : RV}, l[i]? = some v → (List.drop (mulN i 4) (rvsC l)).take 4 = rvAV v := fun h => by
    have := rvsC_at (r := []) h
    rwa [List.append_nil, ← mulN_eq] at this
  have hmap : ∀ q : List RV, itemAVs (itemTs q) = q.map fun v => itemAV (itemT v) := fun q => by rw [itemAVs_map, itemTs_map, List.map_map]; rfl
  rw [hmap]
  refine ACalls.of_W tb_ok (fn := Tryd.f9) (n := 20) (by kernel_rfl) rfl (by kernel_rfl) rfl rfl (by simp) (go ?_)
  refine VLoop.mk [3, 4] AccI (fun i => [accV i.o i.k, .int .i64 i.k]) (fun i => accS i.o 1 ((List.map fun v => itemAV (itemT v)) (l.take i.k))) (fun i => i.k ≤ l.length ∧ (i.o = none → i.k = 0)) (fun i => l.length - i.k) ⟨0, none⟩ ?_ ?_
  · exact ⟨⟨by simp, by simp⟩, rfl, .nil⟩
  rintro ⟨k, o⟩ ⟨hk, ho⟩
  dsimp only at hk ho ⊢
  refine go ?_
  refine fork (fun hlt => go ?_) (fun hlt => ?_)
  · have hlt : k < l.length := by omega
    obtain ⟨t, ht⟩ : ∃ t, l[k]? = some t := ⟨l[k], by simp [hlt]⟩
    have hv := h k t ht
    have hacc : (List.map fun v => itemAV (itemT v)) (l.take (k + 1)) = (List.map fun v => itemAV (itemT v)) (l.take k) ++ [(fun v => itemAV (itemT v)) t] := by
      rw [take_succ_at ht]; simp [hmap]
    have hlen : ((List.map fun v => itemAV (itemT v)) (l.take k)).length = k := by simp; omega
    refine VTake.mk (rvAV t) (hcell ht) (by simp) (go ?_)
    refine Fn.use (hv) (go ?_)
    cases o with
    | none =>
      obtain rfl : k = 0 := ho rfl
      refine go ?_
      refine VOne.mk (by first | exact valAV_one' _ | exact itemAV_one _) (go ?_)
      refine VAll.mk (fun b2 => go ?_)
      refine ⟨⟨1, some b2⟩, ⟨by dsimp only; omega, by simp⟩, by dsimp only; omega, rfl, .cons 0 ?_ .nil⟩
      dsimp only
      rw [hacc]; simp [hmap]
    | some bo =>
      refine go ?_
      refine VOne.mk (by first | exact valAV_one' _ | exact itemAV_one _) (go ?_)
      refine VGd.mk ⟨rfl, by omega, by rw [mulN_eq, hlen]; simp, by simp; omega⟩ (go ?_)
      refine VAll.mk (fun b2 => go ?_)
      refine ⟨⟨k + 1, some b2⟩, ⟨by dsimp only; omega, by simp⟩, by dsimp only; omega, rfl, .cons 0 ?_ .nil⟩
      dsimp only
      rw [hacc, mulN_eq, List.take_of_length_le (by rw [hlen]; simp)]; rfl
  · obtain rfl : k = l.length := by omega
    rw [List.take_length]
    cases o with
    | none =>
      have := ho rfl
      obtain rfl : l = [] := List.length_eq_zero_iff.1 this
      refine go ?_
      refine VRet.mk [] .nil ?_
      exact ⟨by simp [hmap], rfl⟩
    | some bo =>
      refine go ?_
      refine VRet.mk [] .nil ?_
      exact ⟨by simp [mulN_eq, List.take_of_length_le], rfl⟩
theorem f_Value' (v : RV) (hv : v.inp = true) (h4 : Av.Fn Tryd.prog 30 [.fz (rvsC (match v with | .mk _ _ _ l => l)) (match v with | .mk _ _ _ l => l).length false] (.fz (valAVs (valTs (match v with | .mk _ _ _ l => l))) (match v with | .mk _ _ _ l => l).length false))
    (h5 : Av.Fn Tryd.prog 9 [.fz (rvsC (match v with | .mk _ _ _ l => l)) (match v with | .mk _ _ _ l => l).length false] (.fz (itemAVs (itemTs (match v with | .mk _ _ _ l => l))) (match v with | .mk _ _ _ l => l).length false)) :
    Av.Fn Tryd.prog 17 [.agg (rvAV v)] (valAV (valT v)) := by
  obtain ⟨k, n, s, l⟩ := v
  dsimp only at h4 h5
  simp only [RV.inp, Bool.and_eq_true, decide_eq_true_eq] at hv
  rw [rvAV, valT]
  refine ACalls.of_W tb_ok (fn := Tryd.f17) (n := 44) (by kernel_rfl) rfl (by kernel_rfl) rfl rfl (by simp) (go ?_)
  refine VAll.mk (fun b => go ?_)
  refine fork (fun k1 => go ?_) (fun k1 => go ?_)
  · rw [if_pos k1]
    refine VRet.mk [] .nil ?_
    exact ⟨by simp [valAV], rfl⟩
  rw [if_neg k1]
  refine fork (fun k2 => go ?_) (fun k2 => go ?_)
  · rw [if_pos k2]
    refine VRet.mk [] .nil ?_
    exact ⟨by simp [valAV], rfl⟩
  rw [if_neg k2]
  refine fork (fun k3 => go ?_) (fun k3 => go ?_)
  · rw [if_pos k3]
    refine VRet.mk [] .nil ?_
    exact ⟨by simp [valAV], rfl⟩
  rw [if_neg k3]
  refine fork (fun k4 => go ?_) (fun k4 => go ?_)
  · rw [if_pos k4]
    refine Fn.use (h4) (go ?_)
    refine VRet.mk [] .nil ?_
    exact ⟨by simp [valAV], rfl⟩
  rw [if_neg k4]
  refine fork (fun k5 => go ?_) (fun k5 => go ?_)
  · rw [if_pos k5]
    refine Fn.use (h5) (go ?_)
    refine VRet.mk [] .nil ?_
    exact ⟨by simp [valAV], rfl⟩
  rw [if_neg k5]
  refine fork (fun k6 => go ?_) (fun k6 => go ?_)
  · rw [if_pos k6]
    refine VRet.mk [] .nil ?_
    exact ⟨by simp [valAV], rfl⟩
  rw [if_neg k6]
  refine VRet.mk [] .nil ?_
  exact ⟨by simp [valAV], rfl⟩
theorem itemAV_push {t : Tree} (h1 : ∀ s, t ≠ .call s) (h2 : t ≠ .none) (h3 : ∀ u v, t ≠ .odd u v) : itemAV t = .iface 59 (.agg [valAV t]) := by
  cases t <;> first | rfl | (exact absurd rfl (h1 _)) | (exact absurd rfl h2) | (exact absurd rfl (h3 _ _))
theorem f_ItemOf' (v : RV) (h : Av.Fn Tryd.prog 17 [.agg (rvAV v)] (valAV (valT v))) : Av.Fn Tryd.prog 7 [.agg (rvAV v)] (itemAV (itemT v)) := by
  obtain ⟨k, n, s, l⟩ := v
  unfold itemT
  rw [rvAV] at h ⊢
  rw [show (RV.mk k n s l).knd = k from rfl, show (RV.mk k n s l).txt = s from rfl]
  refine ACalls.of_W tb_ok (fn := Tryd.f7) (n := 22) (by kernel_rfl) rfl (by kernel_rfl) rfl rfl (by simp) (go ?_)
  refine VAll.mk (fun b => go ?_)
  refine fork (fun k7 => go ?_) (fun k7 => go ?_)
  · rw [if_pos k7]
    refine VRet.mk [] .nil ?_
    exact ⟨rfl, rfl⟩
  rw [if_neg k7]
  refine fork (fun k1 => go ?_) (fun k1 => go ?_)
  · rw [valT, if_neg (by omega), if_neg (by omega), if_neg (by omega), if_neg (by omega), if_neg (by omega), if_neg (by omega)]
    refine VRet.mk [] .nil ?_
    exact ⟨rfl, rfl⟩
  refine fork (fun k6 => go ?_) (fun k6 => go ?_)
  · rw [valT, if_neg (by omega), if_neg (by omega), if_neg (by omega), if_neg (by omega), if_neg (by omega), if_neg (by omega)]
    refine VRet.mk [] .nil ?_
    exact ⟨rfl, rfl⟩
  have hp : itemAV (valT (.mk k n s l)) = .iface 59 (.agg [valAV (valT (.mk k n s l))]) := by
    refine itemAV_push ?_ ?_ ?_
    · intro s; rw [valT]; repeat' split
      all_goals (intro e; cases e)
    · rw [valT]; repeat' split
      all_goals first | (intro e; cases e; done) | (exfalso; omega)
    · intro u v; rw [valT]; repeat' split
      all_goals (intro e; cases e)
  rw [hp]
  have ho := valAV_one' (valT (.mk k n s l))
  generalize valAV (valT (.mk k n s l)) = w at h ho ⊢
  refine Fn.use (h) (go ?_)
  refine VOne.mk ho (go ?_)
  refine VRet.mk [] .nil ?_
  exact ⟨rfl, rfl⟩
theorem f_vals (n : Nat) :
    (∀ v : RV, v.inp = true → v.deep ≤ n → Av.Fn Tryd.prog 17 [.agg (rvAV v)] (valAV (valT v))) ∧
    (∀ l : List RV, inpAll l = true → l.length ≤ 2513169434916 → deepAll l ≤ n → Av.Fn Tryd.prog 30 [.fz (rvsC l) l.length false] (.fz (valAVs (valTs l)) l.length false) ∧
      Av.Fn Tryd.prog 9 [.fz (rvsC l) l.length false] (.fz (itemAVs (itemTs l)) l.length false)) := by
  suffices H : ∀ v : RV, v.inp = true → v.deep ≤ n → Av.Fn Tryd.prog 17 [.agg (rvAV v)] (valAV (valT v)) from
    ⟨H, fun l hi hl hd => ⟨f_Values' l (fun i v hv => H v (inpAll_at hi hv) (Nat.le_trans (deepAll_at hv) hd)) hl,
      f_ItemsOf' l (fun i v hv => f_ItemOf' v (H v (inpAll_at hi hv) (Nat.le_trans (deepAll_at hv) hd))) hl⟩⟩
  induction n with
  | zero =>
    intro v _ hd
    obtain ⟨k, n, s, l⟩ := v
    rw [RV.deep] at hd; omega
  | succ n ih =>
    intro v hi hd
    obtain ⟨k, n', s, l⟩ := v
    rw [RV.deep] at hd
    have hi' := hi
    simp only [RV.inp, Bool.and_eq_true, decide_eq_true_eq] at hi'
    refine f_Value' _ hi ?_ ?_
    · exact f_Values' l (fun i v hv => ih v (inpAll_at hi'.2 hv) (by have := deepAll_at hv; omega)) hi'.1.2
    · exact f_ItemsOf' l (fun i v hv => f_ItemOf' v (ih v (inpAll_at hi'.2 hv) (by have := deepAll_at hv; omega))) hi'.1.2
theorem f_Value {v : RV} (h : v.inp = true) : Av.Fn Tryd.prog 17 [.agg (rvAV v)] (valAV (valT v)) := (f_vals v.deep).1 v h (Nat.le_refl _)
theorem f_ItemOf {v : RV} (h : v.inp = true) : Av.Fn Tryd.prog 7 [.agg (rvAV v)] (itemAV (itemT v)) := f_ItemOf' v (f_Value h)
theorem f_Values {l : List RV} (h : inpAll l = true) (hl : l.length ≤ 2513169434916) : Av.Fn Tryd.prog 30 [.fz (rvsC l) l.length false] (.fz (valAVs (valTs l)) l.length false) := ((f_vals (deepAll l)).2 l h hl (Nat.le_refl _)).1
theorem f_ItemsOf {l : List RV} (h : inpAll l = true) (hl : l.length ≤ 2513169434916) : Av.Fn Tryd.prog 9 [.fz (rvsC l) l.length false] (.fz (itemAVs (itemTs l)) l.length false) := ((f_vals (deepAll l)).2 l h hl (Nat.le_refl _)).2
end Go.Proofs.YtliabblchkgclaaDoor

namespace Go.Proofs.YtliabblchkgclaaDoor
open Go Go.Av
def movesV (x : Option (Nat × List Nat)) : AV := match x with
  | some x => .tup [.int .i64 (x.1 : Nat), .fz (x.2.map fun k : Nat => .int .i64 (k : Int)) x.2.length false, .bool true]
  | none => .tup [.int .i64 0, .fz [] 0 false, .bool false]
theorem f_moves (s : List UInt8) : Av.Fn Tryd.prog 40 [.str s] (movesV (moveR s)) := by
  unfold moveR
  refine ACalls.of_W tb_ok (fn := Tryd.f40) (n := 26) (by kernel_rfl) rfl (by kernel_rfl) rfl rfl (by simp) (go ?_)
  refine fork (fun h0 => go ?_) (fun h0 => go ?_)
  · have h0 : s = [100, 117, 112] := by simpa using h0
    rw [if_pos h0]
    refine VRet.mk [] .nil ?_
    exact ⟨rfl, rfl⟩
  have h0 : ¬ s = [100, 117, 112] := by simpa using h0
  rw [if_neg h0]
  refine fork (fun h1 => go ?_) (fun h1 => go ?_)
  · have h1 : s = [100, 114, 111, 112] := by simpa using h1
    rw [if_pos h1]
    refine VRet.mk [] .nil ?_
    exact ⟨rfl, rfl⟩
  have h1 : ¬ s = [100, 114, 111, 112] := by simpa using h1
  rw [if_neg h1]
  refine fork (fun h2 => go ?_) (fun h2 => go ?_)
  · have h2 : s = [115, 119, 97, 112] := by simpa using h2
    rw [if_pos h2]
    refine VRet.mk [] .nil ?_
    exact ⟨rfl, rfl⟩
  have h2 : ¬ s = [115, 119, 97, 112] := by simpa using h2
  rw [if_neg h2]
  refine fork (fun h3 => go ?_) (fun h3 => go ?_)
  · have h3 : s = [111, 118, 101, 114] := by simpa using h3
    rw [if_pos h3]
    refine VRet.mk [] .nil ?_
    exact ⟨rfl, rfl⟩
  have h3 : ¬ s = [111, 118, 101, 114] := by simpa using h3
  rw [if_neg h3]
  refine fork (fun h4 => go ?_) (fun h4 => go ?_)
  · have h4 : s = [114, 111, 116] := by simpa using h4
    rw [if_pos h4]
    refine VRet.mk [] .nil ?_
    exact ⟨rfl, rfl⟩
  have h4 : ¬ s = [114, 111, 116] := by simpa using h4
  rw [if_neg h4]
  refine fork (fun h5 => go ?_) (fun h5 => go ?_)
  · have h5 : s = [110, 105, 112] := by simpa using h5
    rw [if_pos h5]
    refine VRet.mk [] .nil ?_
    exact ⟨rfl, rfl⟩
  have h5 : ¬ s = [110, 105, 112] := by simpa using h5
  rw [if_neg h5]
  refine fork (fun h6 => go ?_) (fun h6 => go ?_)
  · have h6 : s = [116, 117, 99, 107] := by simpa using h6
    rw [if_pos h6]
    refine VRet.mk [] .nil ?_
    exact ⟨rfl, rfl⟩
  have h6 : ¬ s = [116, 117, 99, 107] := by simpa using h6
  rw [if_neg h6]
  refine VRet.mk [] .nil ?_
  exact ⟨rfl, rfl⟩
def primW (x : Option (Nat × Nat)) : AV := match x with
  | some x => .tup [.int .i64 (x.1 : Nat), .int .i64 (x.2 : Nat), .bool true]
  | none => .tup [.int .i64 0, .int .i64 0, .bool false]
theorem move_prim {s : List UInt8} {k : Nat} {ks : List Nat} (h : moveR s = some (k, ks)) : primR s = some (k, ks.length) := by
  unfold moveR at h
  repeat' (split at h)
  all_goals first
    | (rename_i e; cases h; subst e; decide)
    | cases h
def prims2 : List (List UInt8) := [[110, 101, 103], [97, 98, 115], [110, 111, 116], [105, 110, 116, 63], [115, 116, 114, 63], [98, 111, 111, 108, 63], [108, 105, 115, 116, 63], [113, 117, 111, 116, 63], [98, 111, 120, 63], [108, 101, 110, 103, 116, 104], [119, 114, 97, 112], [114, 101, 118, 101, 114, 115, 101], [62, 115, 116, 114], [62, 105, 110, 116], [98, 111, 120], [103, 101, 116], [43], [45], [42], [47], [109, 111, 100], [109, 105, 110], [109, 97, 120], [60], [62], [61], [97, 110, 100], [111, 114], [97, 112, 112, 101, 110, 100], [110, 116, 104], [112, 97, 105, 114], [99, 117, 114, 114, 121], [99, 111, 109, 112, 111, 115, 101], [115, 108, 105, 99, 101], [117, 110, 112, 97, 105, 114], [112, 117, 116], [46]]
theorem prim_mem {s : List UInt8} {x : Nat × Nat} (h : primR s = some x) (hm : moveR s = none) : s ∈ prims2 := by
  unfold primR at h
  cases hf : primsL.find? fun p => p.eff.isSome && decide (p.name = s) with
  | none => rw [hf] at h; cases h
  | some p =>
    have h1 := List.mem_of_find?_eq_some hf
    have h2 := List.find?_some hf
    simp only [Bool.and_eq_true, decide_eq_true_eq] at h2
    have key : (primsL.all fun p => !p.eff.isSome || (moveR p.name).isSome || decide (p.name ∈ prims2)) = true := by decide +kernel
    have := List.all_eq_true.1 key p h1
    rw [h2.1, h2.2, hm] at this
    simpa using this
set_option maxHeartbeats 4000000 in
theorem f_refPrim (s : List UInt8) : Av.Fn Tryd.prog 27 [.str s] (primW (primR s)) := by
  have hm := f_moves s
  cases hmv : moveR s with
  | some x =>
    obtain ⟨k, ks⟩ := x
    rw [hmv] at hm
    rw [move_prim hmv]
    refine ACalls.of_W tb_ok (fn := Tryd.f27) (n := 62) (by kernel_rfl) rfl (by kernel_rfl) rfl rfl (by simp) (go ?_)
    refine Fn.use (hm) (go ?_)
    refine VRet.mk [] .nil ?_
    exact ⟨rfl, rfl⟩
  | none =>
  rw [hmv] at hm
  refine ACalls.of_W tb_ok (fn := Tryd.f27) (n := 62) (by kernel_rfl) rfl (by kernel_rfl) rfl rfl (by simp) (go ?_)
  refine Fn.use (hm) (go ?_)
  refine fork (fun h0 => go ?_) (fun h0 => go ?_)
  · have h0 : s = [110, 101, 103] := by simpa using h0
    subst h0
    refine go ?_
    refine VRet.mk [] .nil ?_
    exact ⟨rfl, rfl⟩
  have h0 : ¬ s = [110, 101, 103] := by simpa using h0
  refine fork (fun h1 => go ?_) (fun h1 => go ?_)
  · have h1 : s = [97, 98, 115] := by simpa using h1
    subst h1
    refine go ?_
    refine VRet.mk [] .nil ?_
    exact ⟨rfl, rfl⟩
  have h1 : ¬ s = [97, 98, 115] := by simpa using h1
  refine fork (fun h2 => go ?_) (fun h2 => go ?_)
  · have h2 : s = [110, 111, 116] := by simpa using h2
    subst h2
    refine go ?_
    refine VRet.mk [] .nil ?_
    exact ⟨rfl, rfl⟩
  have h2 : ¬ s = [110, 111, 116] := by simpa using h2
  refine fork (fun h3 => go ?_) (fun h3 => go ?_)
  · have h3 : s = [105, 110, 116, 63] := by simpa using h3
    subst h3
    refine go ?_
    refine VRet.mk [] .nil ?_
    exact ⟨rfl, rfl⟩
  have h3 : ¬ s = [105, 110, 116, 63] := by simpa using h3
  refine fork (fun h4 => go ?_) (fun h4 => go ?_)
  · have h4 : s = [115, 116, 114, 63] := by simpa using h4
    subst h4
    refine go ?_
    refine VRet.mk [] .nil ?_
    exact ⟨rfl, rfl⟩
  have h4 : ¬ s = [115, 116, 114, 63] := by simpa using h4
  refine fork (fun h5 => go ?_) (fun h5 => go ?_)
  · have h5 : s = [98, 111, 111, 108, 63] := by simpa using h5
    subst h5
    refine go ?_
    refine VRet.mk [] .nil ?_
    exact ⟨rfl, rfl⟩
  have h5 : ¬ s = [98, 111, 111, 108, 63] := by simpa using h5
  refine fork (fun h6 => go ?_) (fun h6 => go ?_)
  · have h6 : s = [108, 105, 115, 116, 63] := by simpa using h6
    subst h6
    refine go ?_
    refine VRet.mk [] .nil ?_
    exact ⟨rfl, rfl⟩
  have h6 : ¬ s = [108, 105, 115, 116, 63] := by simpa using h6
  refine fork (fun h7 => go ?_) (fun h7 => go ?_)
  · have h7 : s = [113, 117, 111, 116, 63] := by simpa using h7
    subst h7
    refine go ?_
    refine VRet.mk [] .nil ?_
    exact ⟨rfl, rfl⟩
  have h7 : ¬ s = [113, 117, 111, 116, 63] := by simpa using h7
  refine fork (fun h8 => go ?_) (fun h8 => go ?_)
  · have h8 : s = [98, 111, 120, 63] := by simpa using h8
    subst h8
    refine go ?_
    refine VRet.mk [] .nil ?_
    exact ⟨rfl, rfl⟩
  have h8 : ¬ s = [98, 111, 120, 63] := by simpa using h8
  refine fork (fun h9 => go ?_) (fun h9 => go ?_)
  · have h9 : s = [108, 101, 110, 103, 116, 104] := by simpa using h9
    subst h9
    refine go ?_
    refine VRet.mk [] .nil ?_
    exact ⟨rfl, rfl⟩
  have h9 : ¬ s = [108, 101, 110, 103, 116, 104] := by simpa using h9
  refine fork (fun h10 => go ?_) (fun h10 => go ?_)
  · have h10 : s = [119, 114, 97, 112] := by simpa using h10
    subst h10
    refine go ?_
    refine VRet.mk [] .nil ?_
    exact ⟨rfl, rfl⟩
  have h10 : ¬ s = [119, 114, 97, 112] := by simpa using h10
  refine fork (fun h11 => go ?_) (fun h11 => go ?_)
  · have h11 : s = [114, 101, 118, 101, 114, 115, 101] := by simpa using h11
    subst h11
    refine go ?_
    refine VRet.mk [] .nil ?_
    exact ⟨rfl, rfl⟩
  have h11 : ¬ s = [114, 101, 118, 101, 114, 115, 101] := by simpa using h11
  refine fork (fun h12 => go ?_) (fun h12 => go ?_)
  · have h12 : s = [62, 115, 116, 114] := by simpa using h12
    subst h12
    refine go ?_
    refine VRet.mk [] .nil ?_
    exact ⟨rfl, rfl⟩
  have h12 : ¬ s = [62, 115, 116, 114] := by simpa using h12
  refine fork (fun h13 => go ?_) (fun h13 => go ?_)
  · have h13 : s = [62, 105, 110, 116] := by simpa using h13
    subst h13
    refine go ?_
    refine VRet.mk [] .nil ?_
    exact ⟨rfl, rfl⟩
  have h13 : ¬ s = [62, 105, 110, 116] := by simpa using h13
  refine fork (fun h14 => go ?_) (fun h14 => go ?_)
  · have h14 : s = [98, 111, 120] := by simpa using h14
    subst h14
    refine go ?_
    refine VRet.mk [] .nil ?_
    exact ⟨rfl, rfl⟩
  have h14 : ¬ s = [98, 111, 120] := by simpa using h14
  refine fork (fun h15 => go ?_) (fun h15 => go ?_)
  · have h15 : s = [103, 101, 116] := by simpa using h15
    subst h15
    refine go ?_
    refine VRet.mk [] .nil ?_
    exact ⟨rfl, rfl⟩
  have h15 : ¬ s = [103, 101, 116] := by simpa using h15
  refine fork (fun h16 => go ?_) (fun h16 => go ?_)
  · have h16 : s = [43] := by simpa using h16
    subst h16
    refine go ?_
    refine VRet.mk [] .nil ?_
    exact ⟨rfl, rfl⟩
  have h16 : ¬ s = [43] := by simpa using h16
  refine fork (fun h17 => go ?_) (fun h17 => go ?_)
  · have h17 : s = [45] := by simpa using h17
    subst h17
    refine go ?_
    refine VRet.mk [] .nil ?_
    exact ⟨rfl, rfl⟩
  have h17 : ¬ s = [45] := by simpa using h17
  refine fork (fun h18 => go ?_) (fun h18 => go ?_)
  · have h18 : s = [42] := by simpa using h18
    subst h18
    refine go ?_
    refine VRet.mk [] .nil ?_
    exact ⟨rfl, rfl⟩
  have h18 : ¬ s = [42] := by simpa using h18
  refine fork (fun h19 => go ?_) (fun h19 => go ?_)
  · have h19 : s = [47] := by simpa using h19
    subst h19
    refine go ?_
    refine VRet.mk [] .nil ?_
    exact ⟨rfl, rfl⟩
  have h19 : ¬ s = [47] := by simpa using h19
  refine fork (fun h20 => go ?_) (fun h20 => go ?_)
  · have h20 : s = [109, 111, 100] := by simpa using h20
    subst h20
    refine go ?_
    refine VRet.mk [] .nil ?_
    exact ⟨rfl, rfl⟩
  have h20 : ¬ s = [109, 111, 100] := by simpa using h20
  refine fork (fun h21 => go ?_) (fun h21 => go ?_)
  · have h21 : s = [109, 105, 110] := by simpa using h21
    subst h21
    refine go ?_
    refine VRet.mk [] .nil ?_
    exact ⟨rfl, rfl⟩
  have h21 : ¬ s = [109, 105, 110] := by simpa using h21
  refine fork (fun h22 => go ?_) (fun h22 => go ?_)
  · have h22 : s = [109, 97, 120] := by simpa using h22
    subst h22
    refine go ?_
    refine VRet.mk [] .nil ?_
    exact ⟨rfl, rfl⟩
  have h22 : ¬ s = [109, 97, 120] := by simpa using h22
  refine fork (fun h23 => go ?_) (fun h23 => go ?_)
  · have h23 : s = [60] := by simpa using h23
    subst h23
    refine go ?_
    refine VRet.mk [] .nil ?_
    exact ⟨rfl, rfl⟩
  have h23 : ¬ s = [60] := by simpa using h23
  refine fork (fun h24 => go ?_) (fun h24 => go ?_)
  · have h24 : s = [62] := by simpa using h24
    subst h24
    refine go ?_
    refine VRet.mk [] .nil ?_
    exact ⟨rfl, rfl⟩
  have h24 : ¬ s = [62] := by simpa using h24
  refine fork (fun h25 => go ?_) (fun h25 => go ?_)
  · have h25 : s = [61] := by simpa using h25
    subst h25
    refine go ?_
    refine VRet.mk [] .nil ?_
    exact ⟨rfl, rfl⟩
  have h25 : ¬ s = [61] := by simpa using h25
  refine fork (fun h26 => go ?_) (fun h26 => go ?_)
  · have h26 : s = [97, 110, 100] := by simpa using h26
    subst h26
    refine go ?_
    refine VRet.mk [] .nil ?_
    exact ⟨rfl, rfl⟩
  have h26 : ¬ s = [97, 110, 100] := by simpa using h26
  refine fork (fun h27 => go ?_) (fun h27 => go ?_)
  · have h27 : s = [111, 114] := by simpa using h27
    subst h27
    refine go ?_
    refine VRet.mk [] .nil ?_
    exact ⟨rfl, rfl⟩
  have h27 : ¬ s = [111, 114] := by simpa using h27
  refine fork (fun h28 => go ?_) (fun h28 => go ?_)
  · have h28 : s = [97, 112, 112, 101, 110, 100] := by simpa using h28
    subst h28
    refine go ?_
    refine VRet.mk [] .nil ?_
    exact ⟨rfl, rfl⟩
  have h28 : ¬ s = [97, 112, 112, 101, 110, 100] := by simpa using h28
  refine fork (fun h29 => go ?_) (fun h29 => go ?_)
  · have h29 : s = [110, 116, 104] := by simpa using h29
    subst h29
    refine go ?_
    refine VRet.mk [] .nil ?_
    exact ⟨rfl, rfl⟩
  have h29 : ¬ s = [110, 116, 104] := by simpa using h29
  refine fork (fun h30 => go ?_) (fun h30 => go ?_)
  · have h30 : s = [112, 97, 105, 114] := by simpa using h30
    subst h30
    refine go ?_
    refine VRet.mk [] .nil ?_
    exact ⟨rfl, rfl⟩
  have h30 : ¬ s = [112, 97, 105, 114] := by simpa using h30
  refine fork (fun h31 => go ?_) (fun h31 => go ?_)
  · have h31 : s = [99, 117, 114, 114, 121] := by simpa using h31
    subst h31
    refine go ?_
    refine VRet.mk [] .nil ?_
    exact ⟨rfl, rfl⟩
  have h31 : ¬ s = [99, 117, 114, 114, 121] := by simpa using h31
  refine fork (fun h32 => go ?_) (fun h32 => go ?_)
  · have h32 : s = [99, 111, 109, 112, 111, 115, 101] := by simpa using h32
    subst h32
    refine go ?_
    refine VRet.mk [] .nil ?_
    exact ⟨rfl, rfl⟩
  have h32 : ¬ s = [99, 111, 109, 112, 111, 115, 101] := by simpa using h32
  refine fork (fun h33 => go ?_) (fun h33 => go ?_)
  · have h33 : s = [115, 108, 105, 99, 101] := by simpa using h33
    subst h33
    refine go ?_
    refine VRet.mk [] .nil ?_
    exact ⟨rfl, rfl⟩
  have h33 : ¬ s = [115, 108, 105, 99, 101] := by simpa using h33
  refine fork (fun h34 => go ?_) (fun h34 => go ?_)
  · have h34 : s = [117, 110, 112, 97, 105, 114] := by simpa using h34
    subst h34
    refine go ?_
    refine VRet.mk [] .nil ?_
    exact ⟨rfl, rfl⟩
  have h34 : ¬ s = [117, 110, 112, 97, 105, 114] := by simpa using h34
  refine fork (fun h35 => go ?_) (fun h35 => go ?_)
  · have h35 : s = [112, 117, 116] := by simpa using h35
    subst h35
    refine go ?_
    refine VRet.mk [] .nil ?_
    exact ⟨rfl, rfl⟩
  have h35 : ¬ s = [112, 117, 116] := by simpa using h35
  refine fork (fun h36 => go ?_) (fun h36 => go ?_)
  · have h36 : s = [46] := by simpa using h36
    subst h36
    refine go ?_
    refine VRet.mk [] .nil ?_
    exact ⟨rfl, rfl⟩
  have h36 : ¬ s = [46] := by simpa using h36
  have hn : primR s = none := by
    cases hp : primR s with
    | none => rfl
    | some x =>
      have := prim_mem hp hmv
      simp only [prims2, List.mem_cons, List.not_mem_nil, or_false] at this
      exfalso
      rcases this with h | h | h | h | h | h | h | h | h | h | h | h | h | h | h | h | h | h | h | h | h | h | h | h | h | h | h | h | h | h | h | h | h | h | h | h | h <;> contradiction
  rw [hn]
  refine VRet.mk [] .nil ?_
  exact ⟨rfl, rfl⟩
def simpleR (v : RV) : Bool := if v.kind = 7 then (primR v.txt).isSome else decide (v.kind ≠ 5)
theorem f_simple (v : RV) : Av.Fn Tryd.prog 14 [.agg (rvAV v)] (.bool (simpleR v)) := by
  obtain ⟨k, n, s, l⟩ := v
  have hp := f_refPrim s
  unfold simpleR
  rw [rvAV]
  show Av.Fn _ _ _ (.bool (if k = 7 then (primR s).isSome else decide (k ≠ 5)))
  refine ACalls.of_W tb_ok (fn := Tryd.f14) (n := 20) (by kernel_rfl) rfl (by kernel_rfl) rfl rfl (by simp) (go ?_)
  refine VAll.mk (fun b => go ?_)
  refine fork (fun h => go ?_) (fun h => go ?_)
  · have h : k = 7 := by simpa using h
    rw [if_pos h]
    cases hps : primR s with
    | none =>
      rw [hps] at hp
      refine Fn.use (hp) (go ?_)
      refine VRet.mk [] .nil ?_
      exact ⟨rfl, rfl⟩
    | some x =>
      rw [hps] at hp
      refine Fn.use (hp) (go ?_)
      refine VRet.mk [] .nil ?_
      exact ⟨rfl, rfl⟩
  · have h : ¬ k = 7 := by simpa using h
    rw [if_neg h]
    refine VRet.mk [] .nil ?_
    exact ⟨by simp, rfl⟩
end Go.Proofs.YtliabblchkgclaaDoor

namespace Go.Proofs.YtliabblchkgclaaDoor
open Go Go.Av
mutual
/-- Neither nil nor another dynamic type; calls among items alone. -/
def Tree.full (it : Bool) : Tree → Bool
  | .none => false
  | .odd _ _ => false
  | .call _ => it
  | .list l => fullAll false l
  | .quot l => fullAll true l
  | .int _ => true
  | .str _ => true
  | .bool _ => true
  | .box _ => true
def fullAll (it : Bool) : List Tree → Bool
  | [] => true
  | t :: r => t.full it && fullAll it r
end
theorem fullAll_at : ∀ {it : Bool} {l : List Tree} {i : Nat} {t : Tree}, fullAll it l = true → l[i]? = some t → t.full it = true
  | _, [], _, _, _, h => by simp at h
  | _, x :: l, 0, t, hc, h => by simp at h; subst h; simp [fullAll] at hc; exact hc.1
  | _, x :: l, i + 1, t, hc, h => by simp [fullAll] at hc; exact fullAll_at hc.2 (by simpa using h)
mutual
theorem meas_full : ∀ (it : Bool) (t : Tree) (left nest : Int), (measT it t left nest).isSome = true → t.full it = true := by
  intro it t left nest h
  cases t with
  | none => rw [measT] at h; cases h
  | odd u v => rw [measT] at h; cases h
  | call s =>
    rw [measT] at h
    split at h
    · rename_i h0; rw [Tree.full]; exact h0.1
    · cases h
  | list l =>
    rw [measT] at h
    split at h
    · cases h
    · rw [Tree.full]; exact meass_full false l _ _ _ h
  | quot l =>
    rw [measT] at h
    split at h
    · cases h
    · rw [Tree.full]; exact meass_full true l _ _ _ h
  | _ => rw [Tree.full]
theorem meass_full : ∀ (it : Bool) (l : List Tree) (left nest depth : Int), (measTs it l left nest depth).isSome = true → fullAll it l = true
  | it, [], _, _, _, _ => by rw [fullAll]
  | it, t :: r, left, nest, depth, h => by
    rw [measTs] at h
    split at h
    · rename_i d l' e
      rw [fullAll, meas_full it t left (nest + 1) (by rw [e]; rfl), meass_full it r _ _ _ h]; rfl
    · cases h
end

theorem sameV_leaf (k n : Int) (s : List UInt8) (k' n' : Int) (s' : List UInt8) (l' : List RV) (h : k ≠ k') : sameV (.mk k n s []) (.mk k' n' s' l') = false := by
  rw [sameV, decide_eq_false h]; rfl
/-- A leaf and what it is compared with. -/
def Tree.leaf : Tree → Bool
  | .int _ => true
  | .str _ => true
  | .bool _ => true
  | .box _ => true
  | _ => false
theorem item_push {t : Tree} (hc : t.isCall = false) (hf : t.full true = true) : itemAV t = .iface 59 (.agg [valAV t]) := by
  cases t <;> first | rfl | (simp [Tree.isCall] at hc; done) | (simp [Tree.full] at hf; done)
theorem full_val {t : Tree} (hc : t.isCall = false) (hf : t.full true = true) : t.full false = true := by
  cases t <;> first | exact hf | (simp [Tree.isCall] at hc; done) | (simp [Tree.full] at hf; done)
end Go.Proofs.YtliabblchkgclaaDoor

namespace Go.Proofs.YtliabblchkgclaaDoor
open Go Go.Av
mutual
theorem inp_nmS : ∀ v : RV, v.inp = true → (valT v).nmS = true
  | .mk k n s l, h => by
    simp only [RV.inp, Bool.and_eq_true, decide_eq_true_eq] at h
    rw [valT]
    repeat' split
    all_goals first
    | rfl
    | (rw [Tree.nmS]; first | exact inp_nmSV l h.2 | exact inp_nmSI l h.2)
theorem inp_nmSV : ∀ l : List RV, inpAll l = true → nmSAll (valTs l) = true
  | [], _ => by simp [valTs, nmSAll]
  | v :: r, h => by
    simp only [inpAll, Bool.and_eq_true] at h
    simp only [valTs, nmSAll, Bool.and_eq_true]
    exact ⟨inp_nmS v h.1, inp_nmSV r h.2⟩
theorem inp_nmSI : ∀ l : List RV, inpAll l = true → nmSAll (itemTs l) = true
  | [], _ => by simp [itemTs, nmSAll]
  | v :: r, h => by
    simp only [inpAll, Bool.and_eq_true] at h
    rw [itemTs]
    simp only [nmSAll, Bool.and_eq_true]
    refine ⟨?_, inp_nmSI r h.2⟩
    split
    · obtain ⟨k, n, s, l⟩ := v
      simp only [RV.inp, Bool.and_eq_true, decide_eq_true_eq] at h
      rw [Tree.nmS]
      exact decide_eq_true (by show s.length ≤ _; omega)
    · exact inp_nmS v h.1
end
end Go.Proofs.YtliabblchkgclaaDoor

namespace Go.Proofs.YtliabblchkgclaaDoor
open Go Go.Av
theorem f_awake09 : Av.Fn Tryd.prog 6 [] (.bool true) := by
  have hP := f_Prim [100, 117, 112]
  rw [show primR [100, 117, 112] = some (1, 2) by decide] at hP
  have hP : Av.Fn Tryd.prog 16 [.str [100, 117, 112]] (.tup [.agg [.int .i64 1, .int .i64 2], .bool true]) := hP
  refine ACalls.of_W tb_ok (fn := Tryd.f6) (n := 13) (by kernel_rfl) rfl (by kernel_rfl) rfl rfl (by simp) (go ?_)
  refine Fn.use (hP) (go ?_)
  refine VAll.mk (fun b => go ?_)
  refine VRet.mk [] .nil ?_
  exact ⟨rfl, rfl⟩
@[simp] theorem knC_len (kl : KnL) : (knC kl).length = kl.length * 3 := by
  induction kl with
  | nil => rfl
  | cons x r ih => simp only [knC, List.length_cons, ih]; omega
theorem knC_get {kl : KnL} {j : Nat} {x : List UInt8 × Int × Int} (h : kl[j]? = some x) : (knC kl)[j * 3]? = some (.str x.1) ∧ (knC kl)[j * 3 + 1]? = some (.int .i64 x.2.1) ∧ (knC kl)[j * 3 + 2]? = some (.int .i64 x.2.2) := by
  induction kl generalizing j with
  | nil => simp at h
  | cons y r ih =>
    cases j with
    | zero => simp at h; subst h; exact ⟨rfl, rfl, rfl⟩
    | succ j =>
      have h : r[j]? = some x := by simpa using h
      obtain ⟨h1, h2, h3⟩ := ih h
      rw [show (j + 1) * 3 = j * 3 + 3 by omega]
      exact ⟨h1, h2, h3⟩
theorem knC_append (a b : KnL) : knC (a ++ b) = knC a ++ knC b := by
  induction a with
  | nil => rfl
  | cons x r ih => simp only [List.cons_append, knC, ih]
theorem f_known (kl : KnL) (hkl : kl.length ≤ 4398046510976) : Av.Fn Tryd.prog 11 [.fz (knC kl) kl.length false] (.fz (knC kl) kl.length false) := by
  refine ACalls.of_W tb_ok (fn := Tryd.f11) (n := 32) (by kernel_rfl) rfl (by kernel_rfl) rfl rfl (by simp) (go ?_)
  refine VLoop.mk [3, 4] AccI (fun i => [accV i.o i.k, .int .i64 i.k]) (fun i => accS i.o 3 (knC (kl.take i.k))) (fun i => i.k ≤ kl.length ∧ (i.o = none → i.k = 0)) (fun i => kl.length - i.k) ⟨0, none⟩ ?_ ?_
  · exact ⟨⟨by simp, by simp⟩, rfl, .nil⟩
  rintro ⟨k, o⟩ ⟨hk, ho⟩
  dsimp only at hk ho ⊢
  refine go ?_
  refine fork (fun hlt => go ?_) (fun hlt => ?_)
  · have hlt : k < kl.length := by omega
    obtain ⟨x, hx⟩ : ∃ x, kl[k]? = some x := ⟨kl[k], by simp [hlt]⟩
    obtain ⟨g1, g2, g3⟩ := knC_get hx
    have d1 : (List.drop (k * 3) (knC kl))[0]? = some (.str x.1) := by rw [List.getElem?_drop]; exact g1
    have d2 : (List.drop 1 (List.drop (k * 3) (knC kl)))[0]? = some (.int .i64 x.2.1) := by rw [List.drop_drop, List.getElem?_drop]; exact g2
    have d3 : (List.drop 2 (List.drop (k * 3) (knC kl)))[0]? = some (.int .i64 x.2.2) := by rw [List.drop_drop, List.getElem?_drop]; exact g3
    rw [← mulN_eq] at d1 d2 d3
    have hacc : knC (kl.take (k + 1)) = knC (kl.take k) ++ [.str x.1, .int .i64 x.2.1, .int .i64 x.2.2] := by
      rw [take_succ_at hx, knC_append]; rfl
    have hlen : (knC (kl.take k)).length = k * 3 := by rw [knC_len, List.length_take]; congr 1; omega
    refine VDraw.chain [19, 20] (go ?_)
    apply VQ.mk
    focus (refine go ?_; refine VNth.mk _ d1 (go ?_); exact ⟨rfl, rfl⟩)
    refine go ?_
    apply VQ.mk
    focus (refine go ?_; refine VNth.mk _ d2 (go ?_); exact ⟨rfl, rfl⟩)
    refine go ?_
    apply VQ.mk
    focus (refine go ?_; refine VNth.mk _ d3 (go ?_); exact ⟨rfl, rfl⟩)
    refine go ?_
    cases o with
    | none =>
      obtain rfl : k = 0 := ho rfl
      refine go ?_
      refine VAll.mk (fun b2 => go ?_)
      refine ⟨⟨1, some b2⟩, ⟨by dsimp only; omega, by simp⟩, by dsimp only; omega, rfl, .cons 0 ?_ .nil⟩
      dsimp only
      rw [hacc]; rfl
    | some bo =>
      refine go ?_
      refine VGd.mk ⟨rfl, Nat.zero_le _, by rw [mulN_eq, hlen]; exact Nat.le_refl _, by dsimp only; omega⟩ (go ?_)
      refine VAll.mk (fun b2 => go ?_)
      refine ⟨⟨k + 1, some b2⟩, ⟨by dsimp only; omega, by simp⟩, by dsimp only; omega, rfl, .cons 0 ?_ .nil⟩
      dsimp only
      rw [hacc, mulN_eq, List.take_of_length_le (by rw [hlen]; exact Nat.le_refl _)]; rfl
  · obtain rfl : k = kl.length := by omega
    rw [List.take_length]
    cases o with
    | none =>
      have := ho rfl
      obtain rfl : kl = [] := List.length_eq_zero_iff.1 this
      refine go ?_
      refine VRet.mk [] .nil ?_
      exact ⟨rfl, rfl⟩
    | some bo =>
      have htk : (knC kl).take (kl.length * 3) = knC kl := List.take_of_length_le (by rw [knC_len]; exact Nat.le_refl _)
      refine go ?_
      refine VRet.mk [] .nil ?_
      refine ⟨?_, rfl⟩
      show AOut.ret (.fz ((knC kl).take (kl.length * 3)) kl.length false) = _
      rw [htk]
theorem f_EffectKeeps (l : List RV) (kl : KnL) (hl : l.length ≤ 2513169434916) (hi : inpAll l = true) (hkl : kl.length ≤ 4398046510976) :
    Av.Fn Tryd.prog 4 [.fz (rvsC l) l.length false, .fz (knC kl) kl.length false] (.bool true) := by
  have hI := f_ItemsOf hi hl
  have hK := f_known kl hkl
  have hcl : cleanAll (itemTs l) = true := inp_cleanI l hi
  have hT := f_ItemTrees hcl (by rw [itemTs_length]; exact hl)
  have hS := f_SameAll (a := itemRVs (itemTs l)) (b := itemRVs (itemTs l)) (clean_smallI _ hcl) (clean_smallI _ hcl) (by simp; omega) (by simp; omega) [] [] false false
  rw [sameVs_refl] at hS
  have hO := f_Of (itemTs l) kl (by simp only [Tree.clean, Bool.and_eq_true, decide_eq_true_eq]; exact ⟨by rw [itemTs_length]; exact hl, hcl⟩) (inp_nmSI l hi) (by omega)
  generalize ofR (itemTs l) kl = r at hO
  obtain ⟨ri, ru, re⟩ := r
  have hO : Av.Fn Tryd.prog 8 [.fz (itemAVs (itemTs l)) (itemTs l).length false, .fz (knC kl) kl.length false] (.tup [.agg [.int .i64 ri, .int .i64 ru], .int .i64 re]) := hO
  rw [itemTs_length] at hO hT
  refine ACalls.of_W tb_ok (fn := Tryd.f4) (n := 96) (by kernel_rfl) rfl (by kernel_rfl) rfl rfl (by simp) (go ?_)
  refine Fn.use (f_awake09) (go ?_)
  refine Fn.use (hI) (go ?_)
  refine Fn.use (hK) (go ?_)
  refine Fn.use (hO) (go ?_)
  refine VAll.mk (fun b7 => go ?_)
  refine Fn.use (hO) (go ?_)
  refine VAll.mk (fun b9 => go ?_)
  repeat (refine VIf.no (by simp) (go ?_))
  refine VLoop.mk [11] Nat (fun k => [.int .i64 k]) (fun _ => []) (fun k => k ≤ kl.length) (fun k => kl.length - k) 0 ?_ ?_
  · exact ⟨Nat.zero_le _, rfl, .nil⟩
  intro k hk
  dsimp only at hk ⊢
  refine go ?_
  refine fork (fun hlt => go ?_) (fun hlt => go ?_)
  · have hlt : k < kl.length := by omega
    obtain ⟨x, hx⟩ : ∃ x, kl[k]? = some x := ⟨kl[k], by simp [hlt]⟩
    obtain ⟨g1, g2, g3⟩ := knC_get hx
    have d1 : (List.drop (k * 3) (knC kl))[0]? = some (.str x.1) := by rw [List.getElem?_drop]; exact g1
    have d2 : (List.drop 1 (List.drop (k * 3) (knC kl)))[0]? = some (.int .i64 x.2.1) := by rw [List.drop_drop, List.getElem?_drop]; exact g2
    have d3 : (List.drop 2 (List.drop (k * 3) (knC kl)))[0]? = some (.int .i64 x.2.2) := by rw [List.drop_drop, List.getElem?_drop]; exact g3
    have d4 : (List.drop 1 (List.drop 1 (List.drop (k * 3) (knC kl))))[0]? = some (.int .i64 x.2.2) := by rw [List.drop_drop, List.drop_drop, List.getElem?_drop]; exact g3
    rw [← mulN_eq] at d1 d2 d3 d4
    apply VQ.mk
    focus (refine go ?_; refine VNth.mk _ d1 (go ?_); exact ⟨rfl, rfl⟩)
    refine go ?_
    apply VQ.mk
    focus (refine go ?_; refine VNth.mk _ d1 (go ?_); exact ⟨rfl, rfl⟩)
    refine go ?_
    refine VIf.no (by simp) (go ?_)
    apply VQ.mk
    focus (refine go ?_; refine VNth.mk _ d2 (go ?_); exact ⟨rfl, rfl⟩)
    refine go ?_
    apply VQ.mk
    focus (refine go ?_; refine VNth.mk _ d2 (go ?_); exact ⟨rfl, rfl⟩)
    refine go ?_
    refine VIf.no (by simp) (go ?_)
    apply VQ.mk
    focus (refine go ?_; refine VNth.mk _ d4 (go ?_); exact ⟨rfl, rfl⟩)
    refine go ?_
    apply VQ.mk
    focus (refine go ?_; refine VNth.mk _ d3 (go ?_); exact ⟨rfl, rfl⟩)
    refine go ?_
    refine VIf.no (by simp) (go ?_)
    exact ⟨k + 1, by omega, by omega, rfl, .nil⟩
  · refine Fn.use (hT) (go ?_)
    refine Fn.use (hI) (go ?_)
    refine Fn.use (hT) (go ?_)
    rw [itemRVs_length, itemTs_length, List.append_nil] at hS
    refine Fn.use (hS) (go ?_)
    refine VRet.mk [] .nil ?_
    exact ⟨rfl, rfl⟩
end Go.Proofs.YtliabblchkgclaaDoor
