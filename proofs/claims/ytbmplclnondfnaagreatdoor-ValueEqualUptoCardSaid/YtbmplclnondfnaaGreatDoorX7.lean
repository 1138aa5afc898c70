/- The reference's Measure, Sound, Bare, Name. Conditions: as each says. term.Name, term.measure, term.item, term.Check: the walks. Conditions: as each says. measure and the reference's Measure: plain Lean. Conditions: as each says. term.Same, term.SameItems: the walks. Conditions: as each says. Trees of the reference as values and items: plain Lean and the walks. Conditions: as each says. The reference's trees as a row's arguments. Conditions: as each says. Copies of values and items: the walks. Conditions: as each says. ValueMusts: the walk. Conditions: as each says. ValueEqual: the walk. Conditions: as each says. The second form's bound, and how much a reading holds. Conditions: none. -/
import Derived.Test.YtbmplclnondfnaaGreatDoorX6
import Derived.Test.YtbmplclnondfnaaGreatDoorX5
import Derived.Test.YtbmplclnondfnaaGreatDoorX4
import Derived.Test.YtbmplclnondfnaaGreatDoorX3
import Derived.Test.YtbmplclnondfnaaGreatDoorRows
set_option linter.all false
set_option maxRecDepth 20000
namespace Go.Proofs.YtbmplclnondfnaaGreatDoor
open Go Go.Av
def RV.kind : RV → Int
  | .mk k _ _ _ => k
def inR (n : Int) : Bool := decide (-1152921504606846976 ≤ n) && decide (n ≤ 1152921504606846975)
mutual
/-- What Measure says: the size, the depth, is it sound? -/
def measR : RV → Int → Int → Int × Int × Bool
  | .mk k n s l, left, nest =>
    if left < 1 ∨ 32 < nest then (0, 0, false)
    else if k = 1 then (1, 0, inR n)
    else if k = 2 then (1, 0, decide (s.length ≤ 4096) && decide (faultV s < 0))
    else if k = 3 then (1, 0, true)
    else if k = 6 then (1, 0, decide (1 ≤ n) && decide (n ≤ 1048576))
    else if k = 7 then (1, 0, nameR s && !reservedR s)
    else if k = 4 ∨ k = 5 then measAll (decide (k = 4)) l left nest 1 0
    else (0, 0, false)
def measAll (vals : Bool) : List RV → Int → Int → Int → Int → Int × Int × Bool
  | [], _, _, size, depth => (size, depth + 1, decide (depth < 32))
  | v :: r, left, nest, size, depth =>
    if (vals && decide (v.kind = 7)) = true then (0, 0, false)
    else if (measR v (left - size) (nest + 1)).2.2 = true then measAll vals r left nest (size + (measR v (left - size) (nest + 1)).1) (max depth (measR v (left - size) (nest + 1)).2.1)
    else (0, 0, false)
end
mutual
/-- No list of more than 2^40, no name of more than 10^9 bytes. -/
def RV.fit : RV → Bool
  | .mk k _ s l => decide (l.length ≤ 2513169434916) && decide (k = 7 → s.length ≤ 1000000000) && fitAll l
def fitAll : List RV → Bool
  | [] => true
  | v :: r => v.fit && fitAll r
end
theorem fitAll_at : ∀ {l : List RV} {i : Nat} {t : RV}, fitAll l = true → l[i]? = some t → t.fit = true
  | [], _, _, _, h => by simp at h
  | x :: l, 0, t, hc, h => by simp at h; subst h; simp [fitAll] at hc; exact hc.1
  | x :: l, i + 1, t, hc, h => by simp [fitAll] at hc; exact fitAll_at hc.2 (by simpa using h)
mutual
theorem measR_le : ∀ (v : RV) (left nest : Int), (measR v left nest).2.2 = true → 1 ≤ (measR v left nest).1 ∧ (measR v left nest).1 ≤ left ∧ 0 ≤ (measR v left nest).2.1 ∧ (measR v left nest).2.1 ≤ 32
  | .mk k n s l, left, nest, h => by
    rw [measR] at h ⊢
    split at h
    · simp at h
    · rename_i h0
      rw [if_neg h0]
      repeat' split
      all_goals first
      | (dsimp only; omega)
      | skip
      · rename_i h1 h2 h3 h4 h5 h6
        rw [if_neg h1, if_neg h2, if_neg h3, if_neg h4, if_neg h5, if_pos h6] at h
        exact measAll_le _ l left nest 1 0 (by omega) (by omega) h
      · rename_i h1 h2 h3 h4 h5 h6
        rw [if_neg h1, if_neg h2, if_neg h3, if_neg h4, if_neg h5, if_neg h6] at h
        simp at h
theorem measAll_le : ∀ (vals : Bool) (l : List RV) (left nest size depth : Int), 1 ≤ size ∧ size ≤ left → 0 ≤ depth → (measAll vals l left nest size depth).2.2 = true →
    1 ≤ (measAll vals l left nest size depth).1 ∧ (measAll vals l left nest size depth).1 ≤ left ∧ 0 ≤ (measAll vals l left nest size depth).2.1 ∧ (measAll vals l left nest size depth).2.1 ≤ 32
  | vals, [], left, nest, size, depth, hs, hd, h => by
    rw [measAll] at h ⊢
    simp at h
    dsimp only
    omega
  | vals, v :: r, left, nest, size, depth, hs, hd, h => by
    rw [measAll] at h ⊢
    split at h
    · simp at h
    · rename_i h1
      rw [if_neg h1]
      split at h
      · rename_i h2
        rw [if_pos h2]
        have := measR_le v (left - size) (nest + 1) h2
        exact measAll_le vals r left nest _ _ (by omega) (by omega) h
      · simp at h
end
theorem f_refReserved (s : List UInt8) : Av.Fn Tryz.prog 93 [.str s] (.bool (reservedR s)) := by
  have e : reservedR s = decide (s = [58] ∨ s = [59] ∨ s = [40] ∨ s = [41] ∨ s = [45, 45] ∨ s = [91] ∨ s = [93] ∨ s = [123] ∨ s = [125] ∨ s = [116] ∨ s = [102]) := by
    rw [Bool.eq_iff_iff]
    simp [reservedR, reservedL]
  rw [e]
  refine ACalls.of_W tb_ok (fn := Tryz.f93) (n := 45) (by kernel_rfl) rfl (by kernel_rfl) rfl rfl (by simp) (go ?_)
  repeat' (refine fork (fun _ => go ?_) (fun _ => go ?_))
  all_goals
    refine VRet.mk [] .nil ?_
    refine ⟨congrArg (fun b => AOut.ret (.bool b)) ?_, rfl⟩
    simp_all
theorem f_ref07Name (s : List UInt8) (hl : s.length ≤ 1000000000) : Av.Fn Tryz.prog 59 [.str s] (.bool (nameR s && !reservedR s)) := by
  have h1 := f_refName' s hl
  have h2 := f_refReserved s
  refine ACalls.of_W tb_ok (fn := Tryz.f59) (n := 10) (by kernel_rfl) rfl (by kernel_rfl) rfl rfl (by simp) (go ?_)
  refine Fn.use (h1) (go ?_)
  cases nameR s with
  | true =>
    refine go ?_
    refine Fn.use (h2) (go ?_)
    refine VRet.mk [] .nil ?_
    exact ⟨rfl, rfl⟩
  | false =>
    refine go ?_
    refine VRet.mk [] .nil ?_
    exact ⟨rfl, rfl⟩
theorem f_In (n : Int) : Av.Fn Tryz.prog 57 [.int .i64 n] (.bool (inR n)) := by
  refine ACalls.of_W tb_ok (fn := Tryz.f57) (n := 9) (by kernel_rfl) rfl (by kernel_rfl) rfl rfl (by simp) (go ?_)
  refine fork (fun h => go ?_) (fun h => go ?_)
  · refine VRet.mk [] .nil ?_
    simp [inR, h]
  · refine VRet.mk [] .nil ?_
    simp [inR, h]
structure MeI where
  i : Nat
  size : Int
  depth : Int

theorem rvs_n {l : List RV} {i : Nat} {x : RV} (h : l[i]? = some x) : ((rvsC l).drop (i * 4))[0]? = some (.int .i64 x.kind) := by
  have e1 := rvsC_at (r := []) h
  rw [List.append_nil] at e1
  obtain ⟨k, n, s, l'⟩ := x
  have := congrArg (·[0]?) e1
  simpa [List.getElem?_take, rvAV, RV.kind] using this


theorem f_Measure (d : Nat) : ∀ (v : RV) (left nest : Int), v.deep ≤ d → v.fit = true → -1000000000 ≤ left ∧ left ≤ 1000000000 → 0 ≤ nest ∧ nest ≤ 1000000000 →
    Av.Fn Tryz.prog 31 [.agg (rvAV v), .int .i64 left, .int .i64 nest] (.tup [.int .i64 (measR v left nest).1, .int .i64 (measR v left nest).2.1, .bool (measR v left nest).2.2]) := by
  induction d with
  | zero =>
    intro v left nest hd
    obtain ⟨k, n, s, l⟩ := v
    rw [RV.deep] at hd; omega
  | succ d ih =>
    intro v left nest hd hf hl hn
    obtain ⟨k, n, s, l⟩ := v
    rw [RV.deep] at hd
    simp only [RV.fit, Bool.and_eq_true, decide_eq_true_eq] at hf
    obtain ⟨⟨hf1, hf2⟩, hf3⟩ := hf
    rw [rvAV]
    refine ACalls.of_W tb_ok (fn := Tryz.f31) (n := 105) (by kernel_rfl) rfl (by kernel_rfl) rfl rfl (by simp) (go ?_)
    refine VAll.mk (fun b => go ?_)
    refine fork (fun h1 => go ?_) (fun h1 => go ?_)
    · refine VRet.mk [] .nil ?_
      rw [measR, if_pos (by omega)]; exact ⟨rfl, rfl⟩
    refine fork (fun h2 => go ?_) (fun h2 => go ?_)
    · refine VRet.mk [] .nil ?_
      rw [measR, if_pos (by omega)]; exact ⟨rfl, rfl⟩
    rw [measR, if_neg (by omega)]
    refine fork (fun k1 => go ?_) (fun k1 => go ?_)
    · rw [if_pos k1]
      refine Fn.use (f_In n) (go ?_)
      refine VRet.mk [] .nil ?_
      exact ⟨rfl, rfl⟩
    rw [if_neg k1]
    refine fork (fun k2 => go ?_) (fun k2 => go ?_)
    · rw [if_pos k2]
      refine fork (fun h3 => go ?_) (fun h3 => go ?_)
      · refine Fn.use (f_Bad s (by omega)) (go ?_)
        refine VRet.mk [] .nil ?_
        rw [show decide (s.length ≤ 4096) = true from decide_eq_true (by omega)]; exact ⟨rfl, rfl⟩
      · refine VRet.mk [] .nil ?_
        rw [show decide (s.length ≤ 4096) = false from decide_eq_false (by omega)]; exact ⟨rfl, rfl⟩
    rw [if_neg k2]
    refine fork (fun k3 => go ?_) (fun k3 => go ?_)
    · rw [if_pos k3]
      refine VRet.mk [] .nil ?_
      exact ⟨rfl, rfl⟩
    rw [if_neg k3]
    refine fork (fun k6 => go ?_) (fun k6 => go ?_)
    · rw [if_pos k6]
      refine fork (fun h3 => go ?_) (fun h3 => go ?_)
      · refine VRet.mk [] .nil ?_
        rw [decide_eq_true h3]; exact ⟨rfl, rfl⟩
      · refine VRet.mk [] .nil ?_
        rw [decide_eq_false h3]; exact ⟨rfl, rfl⟩
    rw [if_neg k6]
    refine fork (fun k7 => go ?_) (fun k7 => go ?_)
    · rw [if_pos k7]
      refine Fn.use (f_ref07Name s (hf2 k7)) (go ?_)
      refine VRet.mk [] .nil ?_
      exact ⟨rfl, rfl⟩
    rw [if_neg k7]
    refine fork (fun k4 => go ?_) (fun k4 => go ?_)
    · rw [if_pos (.inl k4), decide_eq_true k4]
      subst k4
      refine go ?_
      refine VLoop.mk [6, 7, 9] MeI (fun i => [.int .i64 i.size, .int .i64 i.depth, .int .i64 i.i]) (fun _ => [(b, .box [.int .i64 4, .int .i64 n, .str s, .fz (rvsC l) l.length false])])
        (fun i => i.i ≤ l.length ∧ (1 ≤ i.size ∧ i.size ≤ left) ∧ (0 ≤ i.depth ∧ i.depth ≤ 32) ∧ measAll true (l.drop i.i) left nest i.size i.depth = measAll true l left nest 1 0) (fun i => l.length - i.i) ⟨0, 1, 0⟩ ?_ ?_
      · exact ⟨⟨by simp, by dsimp only; omega, by simp, by simp⟩, rfl, .cons 0 rfl .nil⟩
      rintro ⟨i, size, depth⟩ ⟨hi, hsz, hdp, hI⟩
      dsimp only at hi hsz hdp hI ⊢
      refine go ?_
      refine fork (fun hlt => go ?_) (fun hlt => go ?_)
      · have hlt : i < l.length := by omega
        obtain ⟨x, hx⟩ : ∃ x, l[i]? = some x := ⟨l[i], by simp [hlt]⟩
        have hda : l.drop i = x :: l.drop (i + 1) := by rw [List.drop_eq_getElem_cons hlt]; congr 1; rw [List.getElem?_eq_getElem hlt] at hx; exact Option.some.inj hx
        have hfx := ih x (left - size) (nest + 1) (by have := deepAll_at hx; omega) (fitAll_at hf3 hx) (by omega) (by omega)
        have hle := measR_le x (left - size) (nest + 1)
        have hk := rvs_n hx
        have ht := rvsC_at (r := []) hx
        rw [List.append_nil] at ht
        rw [hda, measAll] at hI
        refine VNth.mk _ (by simpa using hk) (go ?_)
        refine fork (fun h7 => go ?_) (fun h7 => go ?_)
        · rw [if_pos (by simp; omega)] at hI
          refine VRet.mk [] .nil ?_
          rw [← hI]; exact ⟨rfl, rfl⟩
        rw [if_neg (by simp; omega)] at hI
        refine VTake.mk (rvAV x) (by simpa using ht) (by simp) (go ?_)
        refine Fn.use (hfx) (go ?_)
        generalize measR x (left - size) (nest + 1) = m at hI hle
        obtain ⟨a, dd, c⟩ := m
        dsimp only at hI hle
        cases c with
        | false =>
          refine go ?_
          refine VRet.mk [] .nil ?_
          rw [← hI]; exact ⟨rfl, rfl⟩
        | true =>
          have hle := hle rfl
          rw [if_pos rfl] at hI
          refine go ?_
          refine ⟨⟨i + 1, size + a, max depth dd⟩, ⟨?_, ?_, ?_, hI⟩, ?_, rfl, .cons 0 rfl .nil⟩
          · dsimp only; omega
          · dsimp only; omega
          · dsimp only; omega
          · dsimp only; omega
      · rw [List.drop_eq_nil_of_le (by omega), measAll] at hI
        refine VRet.mk [] .nil ?_
        rw [← hI]; exact ⟨rfl, rfl⟩
    · refine fork (fun k5 => go ?_) (fun k5 => go ?_)
      · rw [if_pos (.inr k5), decide_eq_false k4]
        subst k5
        refine go ?_
        refine VLoop.mk [6, 7, 9] MeI (fun i => [.int .i64 i.size, .int .i64 i.depth, .int .i64 i.i]) (fun _ => [(b, .box [.int .i64 5, .int .i64 n, .str s, .fz (rvsC l) l.length false])])
          (fun i => i.i ≤ l.length ∧ (1 ≤ i.size ∧ i.size ≤ left) ∧ (0 ≤ i.depth ∧ i.depth ≤ 32) ∧ measAll false (l.drop i.i) left nest i.size i.depth = measAll false l left nest 1 0) (fun i => l.length - i.i) ⟨0, 1, 0⟩ ?_ ?_
        · exact ⟨⟨by simp, by dsimp only; omega, by simp, by simp⟩, rfl, .cons 0 rfl .nil⟩
        rintro ⟨i, size, depth⟩ ⟨hi, hsz, hdp, hI⟩
        dsimp only at hi hsz hdp hI ⊢
        refine go ?_
        refine fork (fun hlt => go ?_) (fun hlt => go ?_)
        · have hlt : i < l.length := by omega
          obtain ⟨x, hx⟩ : ∃ x, l[i]? = some x := ⟨l[i], by simp [hlt]⟩
          have hda : l.drop i = x :: l.drop (i + 1) := by rw [List.drop_eq_getElem_cons hlt]; congr 1; rw [List.getElem?_eq_getElem hlt] at hx; exact Option.some.inj hx
          have hfx := ih x (left - size) (nest + 1) (by have := deepAll_at hx; omega) (fitAll_at hf3 hx) (by omega) (by omega)
          have hle := measR_le x (left - size) (nest + 1)
          have hk := rvs_n hx
          have ht := rvsC_at (r := []) hx
          rw [List.append_nil] at ht
          rw [hda, measAll] at hI
          rw [if_neg (by simp)] at hI
          refine VTake.mk (rvAV x) (by simpa using ht) (by simp) (go ?_)
          refine Fn.use (hfx) (go ?_)
          generalize measR x (left - size) (nest + 1) = m at hI hle
          obtain ⟨a, dd, c⟩ := m
          dsimp only at hI hle
          cases c with
          | false =>
            refine go ?_
            refine VRet.mk [] .nil ?_
            rw [← hI]; exact ⟨rfl, rfl⟩
          | true =>
            have hle := hle rfl
            rw [if_pos rfl] at hI
            refine go ?_
            refine ⟨⟨i + 1, size + a, max depth dd⟩, ⟨?_, ?_, ?_, hI⟩, ?_, rfl, .cons 0 rfl .nil⟩
            · dsimp only; omega
            · dsimp only; omega
            · dsimp only; omega
            · dsimp only; omega
        · rw [List.drop_eq_nil_of_le (by omega), measAll] at hI
          refine VRet.mk [] .nil ?_
          rw [← hI]; exact ⟨rfl, rfl⟩
      · rw [if_neg (by omega)]
        refine VRet.mk [] .nil ?_
        exact ⟨rfl, rfl⟩
theorem f_Sound (v : RV) (hf : v.fit = true) : Av.Fn Tryz.prog 21 [.agg (rvAV v)] (.bool ((measR v 1024 0).2.2 && decide (v.kind ≠ 7))) := by
  have h := f_Measure v.deep v 1024 0 (Nat.le_refl _) hf (by omega) (by omega)
  obtain ⟨k, n, s, l⟩ := v
  rw [rvAV] at h ⊢
  rw [show (RV.mk k n s l).kind = k from rfl]
  generalize measR (.mk k n s l) 1024 0 = m at h ⊢
  obtain ⟨a, dd, c⟩ := m
  dsimp only at h ⊢
  refine ACalls.of_W tb_ok (fn := Tryz.f21) (n := 18) (by kernel_rfl) rfl (by kernel_rfl) rfl rfl (by simp) (go ?_)
  refine VAll.mk (fun b => go ?_)
  refine Fn.use (h) (go ?_)
  cases c with
  | true =>
    refine go ?_
    refine VRet.mk [] .nil ?_
    simp
  | false =>
    refine go ?_
    refine VRet.mk [] .nil ?_
    simp
theorem f_SoundItems (l : List RV) (hl : l.length ≤ 2513169434916) (hf : fitAll l = true) : Av.Fn Tryz.prog 29 [.fz (rvsC l) l.length false] (.bool (measR (.mk 5 0 [] l) 1024 0).2.2) := by
  have h := f_Sound (.mk 5 0 [] l) (by simp [RV.fit, hf, hl])
  rw [rvAV, show (RV.mk 5 0 [] l).kind = 5 from rfl, show decide ((5 : Int) ≠ 7) = true from rfl, Bool.and_true] at h
  refine ACalls.of_W tb_ok (fn := Tryz.f29) (n := 6) (by kernel_rfl) rfl (by kernel_rfl) rfl rfl (by simp) (go ?_)
  refine Fn.use (h) (go ?_)
  refine VRet.mk [] .nil ?_
  exact ⟨rfl, rfl⟩
mutual
/-- Does no box stand in a tree? -/
def bareR : RV → Bool
  | .mk k _ _ l => decide (k ≠ 6) && bareAll l
def bareAll : List RV → Bool
  | [] => true
  | v :: r => bareR v && bareAll r
end
def soundDefR (d : RDef) : Bool := nameR d.name && !reservedR d.name && (decide (0 ≤ d.inn) && decide (d.inn ≤ 16)) && (decide (0 ≤ d.out) && decide (d.out ≤ 16)) && (measR (.mk 5 0 [] d.body) 1024 0).2.2 && bareAll d.body
end Go.Proofs.YtbmplclnondfnaaGreatDoor

namespace Go.Proofs.YtbmplclnondfnaaGreatDoor
open Go Go.Av
def nmR (s : List UInt8) : Bool := nameR s && !reservedR s
theorem f_tName (s : List UInt8) (hs : s.length ≤ 4611686018427387904) : Av.Fn Tryz.prog 99 [.str s] (.bool (nmR s)) := by
  have h1 := f11_of s hs
  have h2 := f_Reserved s
  unfold nmR
  refine ACalls.of_W tb_ok (fn := Tryz.f99) (n := 10) (by kernel_rfl) rfl (by kernel_rfl) rfl rfl (by simp) (go ?_)
  refine Fn.use (h1) (go ?_)
  cases nameR s with
  | true =>
    refine go ?_
    refine Fn.use (h2) (go ?_)
    refine VRet.mk [] .nil ?_
    exact ⟨rfl, rfl⟩
  | false =>
    refine go ?_
    refine VRet.mk [] .nil ?_
    exact ⟨rfl, rfl⟩
mutual
/-- What measure says of a value (or item says of an item): its depth, and how many may still come. -/
def measT (it : Bool) : Tree → Int → Int → Option (Int × Int)
  | .none, _, _ => none
  | .odd _ _, _, _ => none
  | .call s, left, _ => if it = true ∧ 1 ≤ left ∧ nmR s = true then some (0, left - 1) else none
  | .int n, left, nest => if left < 1 ∨ 32 < nest then none else if inR n = true then some (0, left - 1) else none
  | .str s, left, nest => if left < 1 ∨ 32 < nest then none else if s.length ≤ 4096 ∧ faultR s = none then some (0, left - 1) else none
  | .bool _, left, nest => if left < 1 ∨ 32 < nest then none else some (0, left - 1)
  | .box n, left, nest => if left < 1 ∨ 32 < nest then none else if 1 ≤ n ∧ n ≤ 1048576 then some (0, left - 1) else none
  | .list l, left, nest => if left < 1 ∨ 32 < nest then none else measTs false l (left - 1) nest 0
  | .quot l, left, nest => if left < 1 ∨ 32 < nest then none else measTs true l (left - 1) nest 0
def measTs (it : Bool) : List Tree → Int → Int → Int → Option (Int × Int)
  | [], left, _, depth => if depth < 32 then some (depth + 1, left) else none
  | t :: r, left, nest, depth => match measT it t left (nest + 1) with
    | some (d, left) => measTs it r left nest (max depth d)
    | none => none
end
mutual
theorem measT_le : ∀ (it : Bool) (t : Tree) (left nest d l' : Int), measT it t left nest = some (d, l') → (0 ≤ d ∧ d ≤ 32) ∧ 0 ≤ l' ∧ l' < left := by
  intro it t left nest d l' h
  cases t with
  | none => rw [measT] at h; cases h
  | odd t v => rw [measT] at h; cases h
  | list l =>
    rw [measT] at h
    split at h
    · cases h
    · have := measTs_le _ l (left - 1) nest 0 d l' (by omega) (by omega) h; omega
  | quot l =>
    rw [measT] at h
    split at h
    · cases h
    · have := measTs_le _ l (left - 1) nest 0 d l' (by omega) (by omega) h; omega
  | _ =>
    rw [measT] at h
    repeat' split at h
    all_goals first
    | (cases h; done)
    | (simp only [Option.some.injEq, Prod.mk.injEq] at h; omega)
theorem measTs_le : ∀ (it : Bool) (l : List Tree) (left nest depth d l' : Int), 0 ≤ left → 0 ≤ depth → measTs it l left nest depth = some (d, l') → (0 ≤ d ∧ d ≤ 32) ∧ 0 ≤ l' ∧ l' ≤ left
  | it, [], left, nest, depth, d, l', hl, hd, h => by
    rw [measTs] at h
    split at h
    · simp only [Option.some.injEq, Prod.mk.injEq] at h; omega
    · cases h
  | it, t :: r, left, nest, depth, d, l', hl, hd, h => by
    rw [measTs] at h
    split at h
    · rename_i d1 l1 e
      have h1 := measT_le it t left (nest + 1) d1 l1 e
      have h2 := measTs_le it r l1 nest _ d l' (by omega) (by omega) h
      omega
    · cases h
end
/-- What measure does: the answer, and how many may still come. -/
def MeasC (x : AV) (m : Option (Int × Int)) (left nest : Int) : Prop := ∀ b, ACalls Tryz.prog 82 [x, .ptr b 0, .int .i64 nest] [(b, .box [.int .i64 left])] (fun out st => ∃ d l', out = .ret (.tup [.int .i64 d, .bool m.isSome]) ∧ st = [(b, .box [.int .i64 l'])] ∧ (m = none ∨ m = some (d, l')))
def ItemC (x : AV) (m : Option (Int × Int)) (left nest : Int) : Prop := ∀ b, ACalls Tryz.prog 114 [x, .ptr b 0, .int .i64 nest] [(b, .box [.int .i64 left])] (fun out st => ∃ d l', out = .ret (.tup [.int .i64 d, .bool m.isSome]) ∧ st = [(b, .box [.int .i64 l'])] ∧ (m = none ∨ m = some (d, l')))
structure MeT where
  i : Nat
  depth : Int
  left : Int

theorem m_list (l : List Tree) (hl : l.length ≤ 2513169434916) (left nest : Int) (hb : 1 ≤ left ∧ left ≤ 1000000) (hn : 0 ≤ nest ∧ nest ≤ 32)
    (ih : ∀ (i : Nat) t, l[i]? = some t → ∀ left nest, 0 ≤ left ∧ left ≤ 1000000 → 0 ≤ nest ∧ nest ≤ 33 → MeasC (valAV t) (measT false t left nest) left nest) :
    MeasC (valAV (.list l)) (measTs false l (left - 1) nest 0) left nest := by
  intro b
  rw [valAV]
  refine ACalls.of_W tb_ok (fn := Tryz.f82) (n := 129) (by kernel_rfl) rfl (by kernel_rfl) rfl rfl (by simp) (go ?_)
  refine VIf.no (by simp; omega) (go ?_)
  refine VIf.no (by simp; omega) (go ?_)
  refine VAll.mk (fun b2 => go ?_)
  refine VLoop.mk [79, 6] MeT (fun i => [.int .i64 i.i, .int .i64 i.depth]) (fun i => [(b, .box [.int .i64 i.left]), (b2, .box [.fz (valAVs l) l.length false])])
    (fun i => i.i ≤ l.length ∧ (0 ≤ i.left ∧ i.left ≤ 1000000) ∧ (0 ≤ i.depth ∧ i.depth ≤ 32) ∧ measTs false (l.drop i.i) i.left nest i.depth = measTs false l (left - 1) nest 0) (fun i => l.length - i.i) ⟨0, 0, left - 1⟩ ?_ ?_
  · exact ⟨⟨by simp, by dsimp only; omega, by simp, by simp⟩, rfl, .cons 1 rfl (.cons 0 rfl .nil)⟩
  rintro ⟨i, depth, lf⟩ ⟨hi, hlf, hdp, hI⟩
  dsimp only at hi hlf hdp hI ⊢
  refine go ?_
  refine fork (fun hlt => go ?_) (fun hlt => go ?_)
  · have hlt : i < l.length := by omega
    obtain ⟨x, hx⟩ : ∃ x, l[i]? = some x := ⟨l[i], by simp [hlt]⟩
    have hda : l.drop i = x :: l.drop (i + 1) := by rw [List.drop_eq_getElem_cons hlt]; congr 1; rw [List.getElem?_eq_getElem hlt] at hx; exact Option.some.inj hx
    rw [hda, measTs] at hI
    have hfx := ih i x hx lf (nest + 1) (by omega) (by omega) b
    have hle := measT_le false x lf (nest + 1)
    refine VNth.mk (valAV x) (by simp [mulN_eq, valAVs_map, hx]) (go ?_)
    generalize measT false x lf (nest + 1) = m at hI hfx hle
    refine ACalls.use (R := [(b2, .box [.fz (valAVs l) l.length false])]) hfx (.refl _) ?_
    rintro _ _ ⟨d, l', rfl, rfl, hm⟩
    cases m with
    | none =>
      rw [← hI]
      refine go ?_
      exact VRet.mk [(b, .box [.int .i64 l'])] (.cons 0 rfl .nil) ⟨0, l', rfl, rfl, .inl rfl⟩
    | some p =>
      obtain rfl : p = (d, l') := by simpa using hm
      have hle := hle d l' rfl
      dsimp only at hI
      refine go ?_
      refine ⟨⟨i + 1, max depth d, l'⟩, ⟨?_, ?_, ?_, hI⟩, ?_, rfl, .cons 0 rfl (.cons 0 rfl .nil)⟩
      · dsimp only; omega
      · dsimp only; omega
      · dsimp only; omega
      · dsimp only; omega
  · rw [List.drop_eq_nil_of_le (by omega), measTs] at hI
    rw [← hI]
    refine VRet.mk [(b, .box [.int .i64 lf])] (.cons 0 rfl .nil) ⟨depth + 1, lf, ?_, rfl, ?_⟩
    · by_cases h : depth < 32 <;> simp [h]
    · by_cases h : depth < 32 <;> simp [h]
theorem m_quot (l : List Tree) (hl : l.length ≤ 2513169434916) (left nest : Int) (hb : 1 ≤ left ∧ left ≤ 1000000) (hn : 0 ≤ nest ∧ nest ≤ 32)
    (ih : ∀ (i : Nat) t, l[i]? = some t → ∀ left nest, 0 ≤ left ∧ left ≤ 1000000 → 0 ≤ nest ∧ nest ≤ 33 → ItemC (itemAV t) (measT true t left nest) left nest) :
    MeasC (valAV (.quot l)) (measTs true l (left - 1) nest 0) left nest := by
  intro b
  rw [valAV]
  refine ACalls.of_W tb_ok (fn := Tryz.f82) (n := 129) (by kernel_rfl) rfl (by kernel_rfl) rfl rfl (by simp) (go ?_)
  refine VIf.no (by simp; omega) (go ?_)
  refine VIf.no (by simp; omega) (go ?_)
  refine VAll.mk (fun b2 => go ?_)
  refine VLoop.mk [107, 6] MeT (fun i => [.int .i64 i.i, .int .i64 i.depth]) (fun i => [(b, .box [.int .i64 i.left]), (b2, .box [.fz (itemAVs l) l.length false])])
    (fun i => i.i ≤ l.length ∧ (0 ≤ i.left ∧ i.left ≤ 1000000) ∧ (0 ≤ i.depth ∧ i.depth ≤ 32) ∧ measTs true (l.drop i.i) i.left nest i.depth = measTs true l (left - 1) nest 0) (fun i => l.length - i.i) ⟨0, 0, left - 1⟩ ?_ ?_
  · exact ⟨⟨by simp, by dsimp only; omega, by simp, by simp⟩, rfl, .cons 1 rfl (.cons 0 rfl .nil)⟩
  rintro ⟨i, depth, lf⟩ ⟨hi, hlf, hdp, hI⟩
  dsimp only at hi hlf hdp hI ⊢
  refine go ?_
  refine fork (fun hlt => go ?_) (fun hlt => go ?_)
  · have hlt : i < l.length := by omega
    obtain ⟨x, hx⟩ : ∃ x, l[i]? = some x := ⟨l[i], by simp [hlt]⟩
    have hda : l.drop i = x :: l.drop (i + 1) := by rw [List.drop_eq_getElem_cons hlt]; congr 1; rw [List.getElem?_eq_getElem hlt] at hx; exact Option.some.inj hx
    rw [hda, measTs] at hI
    have hfx := ih i x hx lf (nest + 1) (by omega) (by omega) b
    have hle := measT_le true x lf (nest + 1)
    refine VNth.mk (itemAV x) (by simp [mulN_eq, itemAVs_map, hx]) (go ?_)
    generalize measT true x lf (nest + 1) = m at hI hfx hle
    refine ACalls.use (R := [(b2, .box [.fz (itemAVs l) l.length false])]) hfx (.refl _) ?_
    rintro _ _ ⟨d, l', rfl, rfl, hm⟩
    cases m with
    | none =>
      rw [← hI]
      refine go ?_
      exact VRet.mk [(b, .box [.int .i64 l'])] (.cons 0 rfl .nil) ⟨0, l', rfl, rfl, .inl rfl⟩
    | some p =>
      obtain rfl : p = (d, l') := by simpa using hm
      have hle := hle d l' rfl
      dsimp only at hI
      refine go ?_
      refine ⟨⟨i + 1, max depth d, l'⟩, ⟨?_, ?_, ?_, hI⟩, ?_, rfl, .cons 0 rfl (.cons 0 rfl .nil)⟩
      · dsimp only; omega
      · dsimp only; omega
      · dsimp only; omega
      · dsimp only; omega
  · rw [List.drop_eq_nil_of_le (by omega), measTs] at hI
    rw [← hI]
    refine VRet.mk [(b, .box [.int .i64 lf])] (.cons 0 rfl .nil) ⟨depth + 1, lf, ?_, rfl, ?_⟩
    · by_cases h : depth < 32 <;> simp [h]
    · by_cases h : depth < 32 <;> simp [h]
theorem m_less {x : AV} {left nest : Int} (hl : left < 1 ∨ 32 < nest) (hb : 0 ≤ left ∧ left ≤ 1000000) (hn : 0 ≤ nest ∧ nest ≤ 33) : MeasC x none left nest := by
  intro b
  refine ACalls.of_W tb_ok (fn := Tryz.f82) (n := 129) (by kernel_rfl) rfl (by kernel_rfl) rfl rfl (by simp) (go ?_)
  refine fork (fun h1 => go ?_) (fun h1 => go ?_)
  · exact VRet.mk [(b, .box [.int .i64 (left - 1)])] (.cons 0 rfl .nil) ⟨0, _, rfl, rfl, .inl rfl⟩
  · refine VIf.yes (by simp; omega) (go ?_)
    exact VRet.mk [(b, .box [.int .i64 (left - 1)])] (.cons 0 rfl .nil) ⟨0, _, rfl, rfl, .inl rfl⟩

theorem m_int' (n left nest : Int) (hb : 1 ≤ left ∧ left ≤ 1000000) (hn : 0 ≤ nest ∧ nest ≤ 32) : MeasC (valAV (.int n)) (if inR n = true then some (0, left - 1) else none) left nest := by
  intro b
  rw [valAV]
  refine ACalls.of_W tb_ok (fn := Tryz.f82) (n := 129) (by kernel_rfl) rfl (by kernel_rfl) rfl rfl (by simp) (go ?_)
  refine VIf.no (by simp; omega) (go ?_)
  refine VIf.no (by simp; omega) (go ?_)
  refine VAll.mk (fun b2 => go ?_)
  refine fork (fun h1 => go ?_) (fun h1 => go ?_)
  · by_cases h2 : n ≤ 1152921504606846975
    · rw [if_pos (by simp [inR, h1, h2]), decide_eq_true h2]
      exact VRet.mk [(b, .box [.int .i64 (left - 1)])] (.cons 1 rfl .nil) ⟨0, _, rfl, rfl, .inr rfl⟩
    · rw [if_neg (by simp [inR, h2]), decide_eq_false h2]
      exact VRet.mk [(b, .box [.int .i64 (left - 1)])] (.cons 1 rfl .nil) ⟨0, _, rfl, rfl, .inl rfl⟩
  · rw [if_neg (by simp [inR, h1])]
    exact VRet.mk [(b, .box [.int .i64 (left - 1)])] (.cons 1 rfl .nil) ⟨0, _, rfl, rfl, .inl rfl⟩
theorem m_box' (n left nest : Int) (hb : 1 ≤ left ∧ left ≤ 1000000) (hn : 0 ≤ nest ∧ nest ≤ 32) : MeasC (valAV (.box n)) (if 1 ≤ n ∧ n ≤ 1048576 then some (0, left - 1) else none) left nest := by
  intro b
  rw [valAV]
  refine ACalls.of_W tb_ok (fn := Tryz.f82) (n := 129) (by kernel_rfl) rfl (by kernel_rfl) rfl rfl (by simp) (go ?_)
  refine VIf.no (by simp; omega) (go ?_)
  refine VIf.no (by simp; omega) (go ?_)
  refine VAll.mk (fun b2 => go ?_)
  refine fork (fun h1 => go ?_) (fun h1 => go ?_)
  · by_cases h2 : n ≤ 1048576
    · rw [if_pos (by omega), decide_eq_true h2]
      exact VRet.mk [(b, .box [.int .i64 (left - 1)])] (.cons 1 rfl .nil) ⟨0, _, rfl, rfl, .inr rfl⟩
    · rw [if_neg (by omega), decide_eq_false h2]
      exact VRet.mk [(b, .box [.int .i64 (left - 1)])] (.cons 1 rfl .nil) ⟨0, _, rfl, rfl, .inl rfl⟩
  · rw [if_neg (by omega)]
    exact VRet.mk [(b, .box [.int .i64 (left - 1)])] (.cons 1 rfl .nil) ⟨0, _, rfl, rfl, .inl rfl⟩
theorem m_bool' (n : Bool) (left nest : Int) (hb : 1 ≤ left ∧ left ≤ 1000000) (hn : 0 ≤ nest ∧ nest ≤ 32) : MeasC (valAV (.bool n)) (some (0, left - 1)) left nest := by
  intro b
  rw [valAV]
  refine ACalls.of_W tb_ok (fn := Tryz.f82) (n := 129) (by kernel_rfl) rfl (by kernel_rfl) rfl rfl (by simp) (go ?_)
  refine VIf.no (by simp; omega) (go ?_)
  refine VIf.no (by simp; omega) (go ?_)
  refine VAll.mk (fun b2 => go ?_)
  exact VRet.mk [(b, .box [.int .i64 (left - 1)])] (.cons 1 rfl .nil) ⟨0, _, rfl, rfl, .inr rfl⟩
theorem m_none' (left nest : Int) (hb : 1 ≤ left ∧ left ≤ 1000000) (hn : 0 ≤ nest ∧ nest ≤ 32) : MeasC .nili none left nest := by
  intro b
  refine ACalls.of_W tb_ok (fn := Tryz.f82) (n := 129) (by kernel_rfl) rfl (by kernel_rfl) rfl rfl (by simp) (go ?_)
  refine VIf.no (by simp; omega) (go ?_)
  refine VIf.no (by simp; omega) (go ?_)
  exact VRet.mk [(b, .box [.int .i64 (left - 1)])] (.cons 0 rfl .nil) ⟨0, _, rfl, rfl, .inl rfl⟩
theorem m_str' (s : List UInt8) (left nest : Int) (hb : 1 ≤ left ∧ left ≤ 1000000) (hn : 0 ≤ nest ∧ nest ≤ 32) : MeasC (valAV (.str s)) (if s.length ≤ 4096 ∧ faultR s = none then some (0, left - 1) else none) left nest := by
  have hv := f_Valid s
  intro b
  rw [valAV]
  refine ACalls.of_W tb_ok (fn := Tryz.f82) (n := 129) (by kernel_rfl) rfl (by kernel_rfl) rfl rfl (by simp) (go ?_)
  refine VIf.no (by simp; omega) (go ?_)
  refine VIf.no (by simp; omega) (go ?_)
  refine VAll.mk (fun b2 => go ?_)
  refine fork (fun h1 => go ?_) (fun h1 => go ?_)
  · refine Fn.use (hv) (go ?_)
    by_cases h2 : faultR s = none
    · rw [if_pos ⟨by omega, h2⟩, decide_eq_true h2]
      exact VRet.mk [(b, .box [.int .i64 (left - 1)])] (.cons 1 rfl .nil) ⟨0, _, rfl, rfl, .inr rfl⟩
    · rw [if_neg (fun h => h2 h.2), decide_eq_false h2]
      exact VRet.mk [(b, .box [.int .i64 (left - 1)])] (.cons 1 rfl .nil) ⟨0, _, rfl, rfl, .inl rfl⟩
  · rw [if_neg (by omega)]
    exact VRet.mk [(b, .box [.int .i64 (left - 1)])] (.cons 1 rfl .nil) ⟨0, _, rfl, rfl, .inl rfl⟩
theorem i_call (s : List UInt8) (hs : s.length ≤ 4611686018427387904) (left nest : Int) (hb : 0 ≤ left ∧ left ≤ 1000000) : ItemC (itemAV (.call s)) (if 1 ≤ left ∧ nmR s = true then some (0, left - 1) else none) left nest := by
  have h := f_tName s hs
  intro b
  rw [itemAV]
  refine ACalls.of_W tb_ok (fn := Tryz.f114) (n := 47) (by kernel_rfl) rfl (by kernel_rfl) rfl rfl (by simp) (go ?_)
  refine VAll.mk (fun b2 => go ?_)
  refine VAll.mk (fun b3 => go ?_)
  refine fork (fun h1 => go ?_) (fun h1 => go ?_)
  · refine Fn.use (h) (go ?_)
    cases hn : nmR s with
    | true =>
      rw [if_pos ⟨by omega, rfl⟩]
      refine go ?_
      exact VRet.mk [(b, .box [.int .i64 (left - 1)])] (.cons 2 rfl .nil) ⟨0, _, rfl, rfl, .inr rfl⟩
    | false =>
      rw [if_neg (by simp)]
      refine go ?_
      exact VRet.mk [(b, .box [.int .i64 (left - 1)])] (.cons 2 rfl .nil) ⟨0, _, rfl, rfl, .inl rfl⟩
  · rw [if_neg (by omega)]
    exact VRet.mk [(b, .box [.int .i64 (left - 1)])] (.cons 2 rfl .nil) ⟨0, _, rfl, rfl, .inl rfl⟩
theorem i_none (left nest : Int) (hb : 0 ≤ left ∧ left ≤ 1000000) : ItemC .nili none left nest := by
  intro b
  refine ACalls.of_W tb_ok (fn := Tryz.f114) (n := 47) (by kernel_rfl) rfl (by kernel_rfl) rfl rfl (by simp) (go ?_)
  refine VAll.mk (fun b2 => go ?_)
  refine VAll.mk (fun b3 => go ?_)
  exact VRet.mk [(b, .box [.int .i64 (left - 1)])] (.cons 2 rfl .nil) ⟨0, _, rfl, rfl, .inl rfl⟩
theorem i_push' {x : AV} {m : Option (Int × Int)} {left nest : Int} (h : MeasC x m left nest) (ho : x.one = true) : ItemC (.iface 45 (.agg [x])) m left nest := by
  intro b
  refine ACalls.of_W tb_ok (fn := Tryz.f114) (n := 47) (by kernel_rfl) rfl (by kernel_rfl) rfl rfl (by simp) (go ?_)
  refine VAll.mk (fun b2 => go ?_)
  refine ACalls.use (R := [(b2, .box [x])]) (h b) (.swap _ _ _) ?_
  rintro _ _ ⟨d, l', rfl, rfl, hm⟩
  refine go ?_
  exact VRet.mk [(b, .box [.int .i64 l'])] (.cons 0 rfl .nil) ⟨d, l', rfl, rfl, hm⟩
mutual
/-- No name of more than 2^62 bytes. -/
def Tree.nmS : Tree → Bool
  | .call s => decide (s.length ≤ 4611686018427387904)
  | .list l => nmSAll l
  | .quot l => nmSAll l
  | _ => true
def nmSAll : List Tree → Bool
  | [] => true
  | t :: r => t.nmS && nmSAll r
end
theorem nmSAll_at : ∀ {l : List Tree} {i : Nat} {t : Tree}, nmSAll l = true → l[i]? = some t → t.nmS = true
  | [], _, _, _, h => by simp at h
  | x :: l, 0, t, hc, h => by simp at h; subst h; simp [nmSAll] at hc; exact hc.1
  | x :: l, i + 1, t, hc, h => by simp [nmSAll] at hc; exact nmSAll_at hc.2 (by simpa using h)
theorem measT_less (it : Bool) {t : Tree} (h : t.isCall = false) {left nest : Int} (hl : left < 1 ∨ 32 < nest) : measT it t left nest = none := by
  cases t <;> first | (simp [Tree.isCall] at h; done) | (rw [measT, if_pos hl]; done) | (rw [measT]; done)
theorem measT_flag (it it' : Bool) {t : Tree} (h : t.isCall = false) (left nest : Int) : measT it t left nest = measT it' t left nest := by
  cases t <;> first | (simp [Tree.isCall] at h; done) | rw [measT, measT]
theorem f_meas (n : Nat) : ∀ t : Tree, t.depth ≤ n → t.clean = true → t.nmS = true → ∀ left nest, 0 ≤ left ∧ left ≤ 1000000 → 0 ≤ nest ∧ nest ≤ 33 →
    MeasC (valAV t) (measT false t left nest) left nest ∧ ItemC (itemAV t) (measT true t left nest) left nest := by
  have H : ∀ t : Tree, t.clean = true → t.nmS = true → ∀ left nest, 0 ≤ left ∧ left ≤ 1000000 → 0 ≤ nest ∧ nest ≤ 33 → MeasC (valAV t) (measT false t left nest) left nest → ItemC (itemAV t) (measT true t left nest) left nest := by
    intro t hc hs left nest hl hn h
    cases t with
    | none => rw [measT]; exact i_none left nest hl
    | call s =>
      rw [measT]
      simp only [true_and]
      exact i_call s (by simpa [Tree.nmS] using hs) left nest hl
    | odd u v => simp [Tree.clean] at hc
    | int m => rw [measT_flag true false rfl]; exact i_push' h rfl
    | str m => rw [measT_flag true false rfl]; exact i_push' h rfl
    | bool m => rw [measT_flag true false rfl]; exact i_push' h rfl
    | box m => rw [measT_flag true false rfl]; exact i_push' h rfl
    | list m => rw [measT_flag true false rfl]; exact i_push' h rfl
    | quot m => rw [measT_flag true false rfl]; exact i_push' h rfl
  suffices M : ∀ t : Tree, t.depth ≤ n → t.clean = true → t.nmS = true → ∀ left nest, 0 ≤ left ∧ left ≤ 1000000 → 0 ≤ nest ∧ nest ≤ 33 → MeasC (valAV t) (measT false t left nest) left nest from
    fun t hd hc hs left nest hl hn => ⟨M t hd hc hs left nest hl hn, H t hc hs left nest hl hn (M t hd hc hs left nest hl hn)⟩
  have L : ∀ t : Tree, t.clean = true → (∀ l, t ≠ .list l) → (∀ l, t ≠ .quot l) → ∀ left nest, 0 ≤ left ∧ left ≤ 1000000 → 0 ≤ nest ∧ nest ≤ 33 → ¬ (left < 1 ∨ 32 < nest) → MeasC (valAV t) (measT false t left nest) left nest := by
    intro t hc h4 h5 left nest hl hn h0
    cases t with
    | none => rw [measT]; exact m_none' left nest (by omega) (by omega)
    | call s => rw [measT, if_neg (by simp)]; exact m_none' left nest (by omega) (by omega)
    | odd u v => simp [Tree.clean] at hc
    | int m => rw [measT, if_neg h0]; exact m_int' m left nest (by omega) (by omega)
    | str m => rw [measT, if_neg h0]; exact m_str' m left nest (by omega) (by omega)
    | bool m => rw [measT, if_neg h0]; exact m_bool' m left nest (by omega) (by omega)
    | box m => rw [measT, if_neg h0]; exact m_box' m left nest (by omega) (by omega)
    | list l => exact absurd rfl (h4 l)
    | quot l => exact absurd rfl (h5 l)
  have B : ∀ t : Tree, ∀ left nest, 0 ≤ left ∧ left ≤ 1000000 → 0 ≤ nest ∧ nest ≤ 33 → (left < 1 ∨ 32 < nest) → MeasC (valAV t) (measT false t left nest) left nest := by
    intro t left nest hl hn h0
    have : measT false t left nest = none := by
      cases t with
      | call s => rw [measT, if_neg (by simp)]
      | _ => exact measT_less false rfl h0
    rw [this]; exact m_less h0 hl hn
  induction n with
  | zero =>
    intro t hd hc hs left nest hl hn
    by_cases h0 : left < 1 ∨ 32 < nest
    · exact B t left nest hl hn h0
    · refine L t hc ?_ ?_ left nest hl hn h0
      · rintro l rfl; rw [Tree.depth] at hd; omega
      · rintro l rfl; rw [Tree.depth] at hd; omega
  | succ n ih =>
    intro t hd hc hs left nest hl hn
    by_cases h0 : left < 1 ∨ 32 < nest
    · exact B t left nest hl hn h0
    cases t with
    | list l =>
      rw [Tree.depth] at hd
      simp only [Tree.clean, Bool.and_eq_true, decide_eq_true_eq] at hc
      rw [Tree.nmS] at hs
      rw [measT, if_neg h0]
      exact m_list l hc.1 left nest (by omega) (by omega) fun i t ht left nest hl hn => ih t (by have := depthAll_at ht; omega) (cleanAll_at hc.2 ht) (nmSAll_at hs ht) left nest hl hn
    | quot l =>
      rw [Tree.depth] at hd
      simp only [Tree.clean, Bool.and_eq_true, decide_eq_true_eq] at hc
      rw [Tree.nmS] at hs
      rw [measT, if_neg h0]
      exact m_quot l hc.1 left nest (by omega) (by omega) fun i t ht left nest hl hn => H t (cleanAll_at hc.2 ht) (nmSAll_at hs ht) left nest hl hn (ih t (by have := depthAll_at ht; omega) (cleanAll_at hc.2 ht) (nmSAll_at hs ht) left nest hl hn)
    | _ => exact L _ hc (by intro l e; cases e) (by intro l e; cases e) left nest hl hn h0
theorem f_tCheck {t : Tree} (hc : t.clean = true) (hs : t.nmS = true) : Av.Fn Tryz.prog 44 [valAV t] (.int .i64 (if (measT false t 1024 0).isSome = true then 0 else 1)) := by
  have h := (f_meas t.depth t (Nat.le_refl _) hc hs 1024 0 (by omega) (by omega)).1
  generalize measT false t 1024 0 = m at h
  refine ACalls.of_W tb_ok (fn := Tryz.f44) (n := 13) (by kernel_rfl) rfl (by kernel_rfl) rfl rfl (by simp) (go ?_)
  refine VAll.mk (fun b => go ?_)
  refine ACalls.use (R := []) (h b) (.refl _) ?_
  rintro _ _ ⟨d, l', rfl, rfl, hm⟩
  cases m with
  | some p =>
    refine go ?_
    refine VRet.mk [] .nil ?_
    exact ⟨rfl, rfl⟩
  | none =>
    refine go ?_
    refine VRet.mk [] .nil ?_
    exact ⟨rfl, rfl⟩
end Go.Proofs.YtbmplclnondfnaaGreatDoor

namespace Go.Proofs.YtbmplclnondfnaaGreatDoor
open Go Go.Av
theorem faultV_none (s : List UInt8) : decide (faultV s < 0) = decide (faultR s = none) := by
  unfold faultV
  cases faultR s with
  | none => simp
  | some i => simp
theorem valRV_kind (t : Tree) : (valRV t).kind ≠ 7 := by cases t <;> simp [valRV, RV.kind]
def refOf (it : Bool) (t : Tree) : RV := if it = true then itemRV t else valRV t
theorem refOf_call (s : List UInt8) : refOf true (.call s) = .mk 7 0 s [] := rfl
theorem refOf_val {it : Bool} {t : Tree} (h : t.isCall = false) : refOf it t = valRV t := by
  unfold refOf
  split
  · exact item_val h
  · rfl
def refsOf (it : Bool) (l : List Tree) : List RV := if it = true then itemRVs l else valRVs l
theorem refsOf_cons (it : Bool) (t : Tree) (r : List Tree) : refsOf it (t :: r) = refOf it t :: refsOf it r := by
  unfold refsOf refOf
  split
  · exact itemRVs_cons t r
  · rfl
theorem refsOf_nil (it : Bool) : refsOf it [] = [] := by cases it <;> simp [refsOf, itemRVs, valRVs]
theorem meas_step (vals it : Bool) (t : Tree) (hv : it = !vals) (r : List RV) (left nest size depth : Int) : measAll vals (refOf it t :: r) left nest size depth =
    if (measR (refOf it t) (left - size) (nest + 1)).2.2 = true then measAll vals r left nest (size + (measR (refOf it t) (left - size) (nest + 1)).1) (max depth (measR (refOf it t) (left - size) (nest + 1)).2.1) else (0, 0, false) := by
  rw [measAll, if_neg]
  subst hv
  cases vals with
  | false => simp
  | true => simp [refOf, valRV_kind]
mutual
theorem meas_fw : ∀ (it : Bool) (t : Tree) (left nest : Int), (measR (refOf it t) left nest).2.2 = true → measT it t left nest = some ((measR (refOf it t) left nest).2.1, left - (measR (refOf it t) left nest).1) := by
  intro it t left nest h
  cases t with
  | call s =>
    cases it with
    | false =>
      rw [show refOf false (.call s) = .mk 8 0 [] [] by simp [refOf, valRV]] at h
      rw [measR] at h
      simp at h
    | true =>
      rw [refOf_call, measR] at h ⊢
      simp only [show ¬ ((7 : Int) = 1) by decide, show ¬ ((7 : Int) = 2) by decide, show ¬ ((7 : Int) = 3) by decide, show ¬ ((7 : Int) = 6) by decide, if_false, if_true] at h ⊢
      split at h
      · simp at h
      · rename_i h0
        rw [if_neg h0, measT, if_pos ⟨rfl, by omega, h⟩]
  | none => rw [refOf_val rfl, valRV, measR] at h; simp at h
  | odd u v => rw [refOf_val rfl, valRV, measR] at h; simp at h
  | int n =>
    rw [refOf_val rfl, valRV, measR] at h ⊢
    simp only [if_true] at h ⊢
    split at h
    · simp at h
    · rename_i h0
      rw [if_neg h0, measT, if_neg h0, if_pos h]
  | str s =>
    rw [refOf_val rfl, valRV, measR] at h ⊢
    simp only [show ¬ ((2 : Int) = 1) by decide, if_false, if_true] at h ⊢
    split at h
    · simp at h
    · rename_i h0
      rw [faultV_none] at h
      simp only [Bool.and_eq_true, decide_eq_true_eq] at h
      rw [if_neg h0, measT, if_neg h0, if_pos h]
  | bool b =>
    rw [refOf_val rfl, valRV, measR] at h ⊢
    simp only [show ¬ ((3 : Int) = 1) by decide, show ¬ ((3 : Int) = 2) by decide, if_false, if_true] at h ⊢
    split at h
    · simp at h
    · rename_i h0
      rw [if_neg h0, measT, if_neg h0]
  | box n =>
    rw [refOf_val rfl, valRV, measR] at h ⊢
    simp only [show ¬ ((6 : Int) = 1) by decide, show ¬ ((6 : Int) = 2) by decide, show ¬ ((6 : Int) = 3) by decide, if_false, if_true] at h ⊢
    split at h
    · simp at h
    · rename_i h0
      simp only [Bool.and_eq_true, decide_eq_true_eq] at h
      rw [if_neg h0, measT, if_neg h0, if_pos h]
  | list l =>
    rw [refOf_val rfl, valRV, measR] at h ⊢
    simp only [show ¬ ((4 : Int) = 1) by decide, show ¬ ((4 : Int) = 2) by decide, show ¬ ((4 : Int) = 3) by decide, show ¬ ((4 : Int) = 6) by decide, show ¬ ((4 : Int) = 7) by decide, true_or, if_false, if_true, decide_true] at h ⊢
    split at h
    · simp at h
    · rename_i h0
      rw [if_neg h0, measT, if_neg h0]
      exact meass_fw true false rfl l left nest 1 0 (by omega) (by omega) h
  | quot l =>
    rw [refOf_val rfl, valRV, measR] at h ⊢
    simp only [show ¬ ((5 : Int) = 1) by decide, show ¬ ((5 : Int) = 2) by decide, show ¬ ((5 : Int) = 3) by decide, show ¬ ((5 : Int) = 6) by decide, show ¬ ((5 : Int) = 7) by decide, or_true, if_false, if_true, show decide ((5 : Int) = 4) = false by decide] at h ⊢
    split at h
    · simp at h
    · rename_i h0
      rw [if_neg h0, measT, if_neg h0]
      exact meass_fw false true rfl l left nest 1 0 (by omega) (by omega) h
theorem meass_fw : ∀ (vals it : Bool) (_ : it = !vals) (l : List Tree) (left nest size depth : Int), 0 ≤ size → 0 ≤ depth → (measAll vals (refsOf it l) left nest size depth).2.2 = true →
    measTs it l (left - size) nest depth = some ((measAll vals (refsOf it l) left nest size depth).2.1, left - (measAll vals (refsOf it l) left nest size depth).1)
  | vals, it, hv, [], left, nest, size, depth, hs, hd, h => by
    rw [refsOf_nil, measAll] at h ⊢
    simp only [decide_eq_true_eq] at h
    rw [measTs, if_pos h]
  | vals, it, hv, t :: r, left, nest, size, depth, hs, hd, h => by
    rw [refsOf_cons, meas_step vals it t hv] at h ⊢
    split at h
    · rename_i h2
      rw [if_pos h2, measTs, meas_fw it t (left - size) (nest + 1) h2]
      have hle := measR_le (refOf it t) (left - size) (nest + 1) h2
      dsimp only
      have := meass_fw vals it hv r left nest _ _ (by omega) (by omega) h
      rw [← this]
      congr 1; omega
    · simp at h
end
theorem measTs_depth : ∀ (it : Bool) (l : List Tree) (left nest depth d l' : Int), measTs it l left nest depth = some (d, l') → depth + 1 ≤ d
  | it, [], left, nest, depth, d, l', h => by
    rw [measTs] at h
    split at h
    · simp only [Option.some.injEq, Prod.mk.injEq] at h; omega
    · cases h
  | it, t :: r, left, nest, depth, d, l', h => by
    rw [measTs] at h
    split at h
    · have := measTs_depth it r _ nest _ d l' h
      omega
    · cases h
mutual
theorem meas_bw : ∀ (it : Bool) (t : Tree) (left nest d l' : Int), measT it t left nest = some (d, l') → d + nest ≤ 32 → measR (refOf it t) left nest = (left - l', d, true) := by
  intro it t left nest d l' h hd
  cases t with
  | call s =>
    rw [measT] at h
    split at h
    · rename_i h0
      obtain ⟨rfl, h1, h2⟩ := h0
      simp only [Option.some.injEq, Prod.mk.injEq] at h
      rw [refOf_call, measR, if_neg (by omega)]
      simp only [show ¬ ((7 : Int) = 1) by decide, show ¬ ((7 : Int) = 2) by decide, show ¬ ((7 : Int) = 3) by decide, show ¬ ((7 : Int) = 6) by decide, if_false, if_true]
      refine Prod.ext (by dsimp only; omega) (Prod.ext (by dsimp only; omega) h2)
    · cases h
  | none => rw [measT] at h; cases h
  | odd u v => rw [measT] at h; cases h
  | int n =>
    rw [measT] at h
    repeat' split at h
    · cases h
    · rename_i h0 h1
      simp only [Option.some.injEq, Prod.mk.injEq] at h
      rw [refOf_val rfl, valRV, measR, if_neg h0]
      simp only [if_true]
      refine Prod.ext (by dsimp only; omega) (Prod.ext (by dsimp only; omega) h1)
    · cases h
  | str s =>
    rw [measT] at h
    repeat' split at h
    · cases h
    · rename_i h0 h1
      simp only [Option.some.injEq, Prod.mk.injEq] at h
      rw [refOf_val rfl, valRV, measR, if_neg h0]
      simp only [show ¬ ((2 : Int) = 1) by decide, if_false, if_true]
      refine Prod.ext (by dsimp only; omega) (Prod.ext (by dsimp only; omega) ?_)
      rw [faultV_none]; simp [h1]
    · cases h
  | bool b =>
    rw [measT] at h
    repeat' split at h
    · cases h
    · rename_i h0
      simp only [Option.some.injEq, Prod.mk.injEq] at h
      rw [refOf_val rfl, valRV, measR, if_neg h0]
      simp only [show ¬ ((3 : Int) = 1) by decide, show ¬ ((3 : Int) = 2) by decide, if_false, if_true]
      refine Prod.ext (by dsimp only; omega) (Prod.ext (by dsimp only; omega) rfl)
  | box n =>
    rw [measT] at h
    repeat' split at h
    · cases h
    · rename_i h0 h1
      simp only [Option.some.injEq, Prod.mk.injEq] at h
      rw [refOf_val rfl, valRV, measR, if_neg h0]
      simp only [show ¬ ((6 : Int) = 1) by decide, show ¬ ((6 : Int) = 2) by decide, show ¬ ((6 : Int) = 3) by decide, if_false, if_true]
      refine Prod.ext (by dsimp only; omega) (Prod.ext (by dsimp only; omega) ?_)
      simp [h1]
    · cases h
  | list l =>
    rw [measT] at h
    split at h
    · cases h
    · rename_i h0
      rw [refOf_val rfl, valRV, measR, if_neg h0]
      simp only [show ¬ ((4 : Int) = 1) by decide, show ¬ ((4 : Int) = 2) by decide, show ¬ ((4 : Int) = 3) by decide, show ¬ ((4 : Int) = 6) by decide, show ¬ ((4 : Int) = 7) by decide, true_or, if_false, if_true, decide_true]
      exact meass_bw true false rfl l left nest 1 0 d l' (by omega) h hd
  | quot l =>
    rw [measT] at h
    split at h
    · cases h
    · rename_i h0
      rw [refOf_val rfl, valRV, measR, if_neg h0]
      simp only [show ¬ ((5 : Int) = 1) by decide, show ¬ ((5 : Int) = 2) by decide, show ¬ ((5 : Int) = 3) by decide, show ¬ ((5 : Int) = 6) by decide, show ¬ ((5 : Int) = 7) by decide, or_true, if_false, if_true, show decide ((5 : Int) = 4) = false by decide]
      exact meass_bw false true rfl l left nest 1 0 d l' (by omega) h hd
theorem meass_bw : ∀ (vals it : Bool) (_ : it = !vals) (l : List Tree) (left nest size depth d l' : Int), 0 ≤ depth → measTs it l (left - size) nest depth = some (d, l') → d + nest ≤ 32 →
    measAll vals (refsOf it l) left nest size depth = (left - l', d, true)
  | vals, it, hv, [], left, nest, size, depth, d, l', hp, h, hd => by
    rw [measTs] at h
    split at h
    · rename_i h1
      simp only [Option.some.injEq, Prod.mk.injEq] at h
      rw [refsOf_nil, measAll]
      refine Prod.ext (by dsimp only; omega) (Prod.ext (by dsimp only; omega) (decide_eq_true h1))
    · cases h
  | vals, it, hv, t :: r, left, nest, size, depth, d, l', hp, h, hd => by
    rw [measTs] at h
    split at h
    · rename_i d1 l1 e
      have hdp := measTs_depth it r _ nest _ d l' h
      have e1 := meas_bw it t (left - size) (nest + 1) d1 l1 e (by omega)
      rw [refsOf_cons, meas_step vals it t hv, e1, if_pos rfl]
      dsimp only
      exact meass_bw vals it hv r left nest _ _ d l' (by omega) (by rw [← h]; congr 1; omega) hd
    · cases h
end
/-- From the outside, both are the same. -/
theorem meas_top (t : Tree) : (measT false t 1024 0).isSome = (measR (valRV t) 1024 0).2.2 := by
  rw [Bool.eq_iff_iff]
  constructor
  · intro h
    obtain ⟨⟨d, l'⟩, e⟩ := Option.isSome_iff_exists.1 h
    have := measT_le false t 1024 0 d l' e
    have e2 := meas_bw false t 1024 0 d l' e (by omega)
    rw [show refOf false t = valRV t from rfl] at e2
    rw [e2]
  · intro h
    have := meas_fw false t 1024 0 (by rw [show refOf false t = valRV t from rfl]; exact h)
    rw [this]; rfl
end Go.Proofs.YtbmplclnondfnaaGreatDoor

namespace Go.Proofs.YtbmplclnondfnaaGreatDoor
open Go Go.Av
mutual
/-- Neither nil nor another dynamic type; calls among items alone. -/
def Tree.full (it : Bool) : Tree → Bool
  | .none => false
  | .odd _ _ => false
  | .call _ => it
  | .list l => fullAll false l
  | .quot l => fullAll true l
  | .int _ => true
  | .str _ => true
  | .bool _ => true
  | .box _ => true
def fullAll (it : Bool) : List Tree → Bool
  | [] => true
  | t :: r => t.full it && fullAll it r
end
theorem fullAll_at : ∀ {it : Bool} {l : List Tree} {i : Nat} {t : Tree}, fullAll it l = true → l[i]? = some t → t.full it = true
  | _, [], _, _, _, h => by simp at h
  | _, x :: l, 0, t, hc, h => by simp at h; subst h; simp [fullAll] at hc; exact hc.1
  | _, x :: l, i + 1, t, hc, h => by simp [fullAll] at hc; exact fullAll_at hc.2 (by simpa using h)
mutual
theorem meas_full : ∀ (it : Bool) (t : Tree) (left nest : Int), (measT it t left nest).isSome = true → t.full it = true := by
  intro it t left nest h
  cases t with
  | none => rw [measT] at h; cases h
  | odd u v => rw [measT] at h; cases h
  | call s =>
    rw [measT] at h
    split at h
    · rename_i h0; rw [Tree.full]; exact h0.1
    · cases h
  | list l =>
    rw [measT] at h
    split at h
    · cases h
    · rw [Tree.full]; exact meass_full false l _ _ _ h
  | quot l =>
    rw [measT] at h
    split at h
    · cases h
    · rw [Tree.full]; exact meass_full true l _ _ _ h
  | _ => rw [Tree.full]
theorem meass_full : ∀ (it : Bool) (l : List Tree) (left nest depth : Int), (measTs it l left nest depth).isSome = true → fullAll it l = true
  | it, [], _, _, _, _ => by rw [fullAll]
  | it, t :: r, left, nest, depth, h => by
    rw [measTs] at h
    split at h
    · rename_i d l' e
      rw [fullAll, meas_full it t left (nest + 1) (by rw [e]; rfl), meass_full it r _ _ _ h]; rfl
    · cases h
end

theorem f_EqFuncV (a b : List Tree) (h : ∀ (i : Nat) t u, a[i]? = some t → b[i]? = some u → Av.Fn Tryz.prog 50 [valAV t, valAV u] (.bool (sameV (valRV t) (valRV u)))) (ha : a.length ≤ 2513169434916) (hb : b.length ≤ 2513169434916) :
    Av.Fn Tryz.prog 83 [.fz (valAVs a) a.length false, .fz (valAVs b) b.length false, .fn (.func 50) [] []] (.bool (sameVs (valRVs a) (valRVs b))) := by
  refine ACalls.of_W tb_ok (fn := Tryz.f83) (n := 32) (by kernel_rfl) rfl (by kernel_rfl) rfl rfl (by simp) (go ?_)
  refine fork (fun hne => go ?_) (fun hne => go ?_)
  · refine VRet.mk [] .nil ?_
    refine ⟨?_, rfl⟩
    cases e : sameVs (valRVs a) (valRVs b) with
    | true => exact absurd (by have := sameVs_length e; simp at this; rw [this]) hne
    | false => rfl
  · have hne : a.length = b.length := by omega
    refine VLoop.mk [17] Nat (fun i => [.int .i64 i]) (fun _ => []) (fun i => i ≤ a.length ∧ sameVs (valRVs a) (valRVs b) = sameVs (valRVs (a.drop i)) (valRVs (b.drop i))) (fun i => a.length - i) 0 ?_ ?_
    · exact ⟨⟨by omega, by simp⟩, rfl, .nil⟩
    intro i ⟨hi, hI⟩
    refine go ?_
    refine fork (fun hlt => go ?_) (fun hlt => go ?_)
    · have hlt : i < a.length := by omega
      obtain ⟨x, hx⟩ : ∃ x, a[i]? = some x := ⟨a[i], by simp [hlt]⟩
      obtain ⟨y, hy⟩ : ∃ y, b[i]? = some y := ⟨b[i]'(by omega), by simp [hne ▸ hlt]⟩
      have hda : a.drop i = x :: a.drop (i + 1) := by rw [List.drop_eq_getElem_cons hlt]; congr 1; rw [List.getElem?_eq_getElem hlt] at hx; exact Option.some.inj hx
      have hdb : b.drop i = y :: b.drop (i + 1) := by rw [List.drop_eq_getElem_cons (hne ▸ hlt)]; congr 1; rw [List.getElem?_eq_getElem (hne ▸ hlt)] at hy; exact Option.some.inj hy
      rw [hda, hdb, valRVs, valRVs, sameVs] at hI
      have hxy := h i x y hx hy
      refine VNth.mk (valAV x) (by simp [mulN_eq, valAVs_map, hx]) (go ?_)
      refine VNth.mk (valAV y) (by simp [mulN_eq, valAVs_map, hy]) (go ?_)
      refine Fn.use (hxy) (go ?_)
      generalize sameV (valRV x) (valRV y) = q at hI
      cases q with
      | true =>
        refine go ?_
        exact ⟨i + 1, ⟨by omega, by rw [hI, Bool.true_and]⟩, by omega, rfl, .nil⟩
      | false =>
        refine go ?_
        refine VRet.mk [] .nil ?_
        rw [hI]; exact ⟨rfl, rfl⟩
    · rw [List.drop_eq_nil_of_le (by omega), List.drop_eq_nil_of_le (by omega)] at hI
      refine VRet.mk [] .nil ?_
      rw [hI]; exact ⟨by simp [valRVs, sameVs], rfl⟩
theorem f_EqFuncI (a b : List Tree) (h : ∀ (i : Nat) t u, a[i]? = some t → b[i]? = some u → Av.Fn Tryz.prog 116 [itemAV t, itemAV u] (.bool (sameV (itemRV t) (itemRV u)))) (ha : a.length ≤ 2513169434916) (hb : b.length ≤ 2513169434916) :
    Av.Fn Tryz.prog 115 [.fz (itemAVs a) a.length false, .fz (itemAVs b) b.length false, .fn (.func 116) [] []] (.bool (sameVs (itemRVs a) (itemRVs b))) := by
  refine ACalls.of_W tb_ok (fn := Tryz.f115) (n := 32) (by kernel_rfl) rfl (by kernel_rfl) rfl rfl (by simp) (go ?_)
  refine fork (fun hne => go ?_) (fun hne => go ?_)
  · refine VRet.mk [] .nil ?_
    refine ⟨?_, rfl⟩
    cases e : sameVs (itemRVs a) (itemRVs b) with
    | true => exact absurd (by have := sameVs_length e; simp at this; rw [this]) hne
    | false => rfl
  · have hne : a.length = b.length := by omega
    refine VLoop.mk [17] Nat (fun i => [.int .i64 i]) (fun _ => []) (fun i => i ≤ a.length ∧ sameVs (itemRVs a) (itemRVs b) = sameVs (itemRVs (a.drop i)) (itemRVs (b.drop i))) (fun i => a.length - i) 0 ?_ ?_
    · exact ⟨⟨by omega, by simp⟩, rfl, .nil⟩
    intro i ⟨hi, hI⟩
    refine go ?_
    refine fork (fun hlt => go ?_) (fun hlt => go ?_)
    · have hlt : i < a.length := by omega
      obtain ⟨x, hx⟩ : ∃ x, a[i]? = some x := ⟨a[i], by simp [hlt]⟩
      obtain ⟨y, hy⟩ : ∃ y, b[i]? = some y := ⟨b[i]'(by omega), by simp [hne ▸ hlt]⟩
      have hda : a.drop i = x :: a.drop (i + 1) := by rw [List.drop_eq_getElem_cons hlt]; congr 1; rw [List.getElem?_eq_getElem hlt] at hx; exact Option.some.inj hx
      have hdb : b.drop i = y :: b.drop (i + 1) := by rw [List.drop_eq_getElem_cons (hne ▸ hlt)]; congr 1; rw [List.getElem?_eq_getElem (hne ▸ hlt)] at hy; exact Option.some.inj hy
      rw [hda, hdb, itemRVs_cons, itemRVs_cons, sameVs] at hI
      have hxy := h i x y hx hy
      refine VNth.mk (itemAV x) (by simp [mulN_eq, itemAVs_map, hx]) (go ?_)
      refine VNth.mk (itemAV y) (by simp [mulN_eq, itemAVs_map, hy]) (go ?_)
      refine Fn.use (hxy) (go ?_)
      generalize sameV (itemRV x) (itemRV y) = q at hI
      cases q with
      | true =>
        refine go ?_
        exact ⟨i + 1, ⟨by omega, by rw [hI, Bool.true_and]⟩, by omega, rfl, .nil⟩
      | false =>
        refine go ?_
        refine VRet.mk [] .nil ?_
        rw [hI]; exact ⟨rfl, rfl⟩
    · rw [List.drop_eq_nil_of_le (by omega), List.drop_eq_nil_of_le (by omega)] at hI
      refine VRet.mk [] .nil ?_
      rw [hI]; exact ⟨by simp [itemRVs, sameVs], rfl⟩
theorem sameV_leaf (k n : Int) (s : List UInt8) (k' n' : Int) (s' : List UInt8) (l' : List RV) (h : k ≠ k') : sameV (.mk k n s []) (.mk k' n' s' l') = false := by
  rw [sameV, decide_eq_false h]; rfl
/-- A leaf and what it is compared with. -/
def Tree.leaf : Tree → Bool
  | .int _ => true
  | .str _ => true
  | .bool _ => true
  | .box _ => true
  | _ => false
set_option maxHeartbeats 2000000 in
theorem f_SameLeaf (t u : Tree) (ht : t.leaf = true) (hu : u.full false = true) : Av.Fn Tryz.prog 50 [valAV t, valAV u] (.bool (sameV (valRV t) (valRV u))) := by
  cases t <;> first | (simp [Tree.leaf] at ht; done) | skip
  all_goals cases u <;> first | (simp [Tree.full] at hu; done) | skip
  all_goals
    rw [valAV, valAV]
    refine ACalls.of_W tb_ok (fn := Tryz.f50) (n := 55) (by kernel_rfl) rfl (by kernel_rfl) rfl rfl (by simp) (go ?_)
    refine VRet.mk [] .nil ⟨congrArg (fun b => AOut.ret (.bool b)) ?_, rfl⟩
    first
    | (simp [valRV, sameV, leafSame, sameVs]; done)
    | (rename_i b1 b2; cases b1 <;> cases b2 <;> rfl)
theorem f_SameList (a b : List Tree) (h : Av.Fn Tryz.prog 83 [.fz (valAVs a) a.length false, .fz (valAVs b) b.length false, .fn (.func 50) [] []] (.bool (sameVs (valRVs a) (valRVs b)))) :
    Av.Fn Tryz.prog 50 [valAV (.list a), valAV (.list b)] (.bool (sameV (valRV (.list a)) (valRV (.list b)))) := by
  rw [valAV, valAV]
  refine ACalls.of_W tb_ok (fn := Tryz.f50) (n := 55) (by kernel_rfl) rfl (by kernel_rfl) rfl rfl (by simp) (go ?_)
  refine VAll.mk (fun b1 => go ?_)
  refine VAll.mk (fun b2 => go ?_)
  refine Fn.use (h) (go ?_)
  refine VRet.mk [] .nil ⟨congrArg (fun b => AOut.ret (.bool b)) ?_, rfl⟩
  simp only [valRV, sameV, leafSame, decide_true, Bool.true_and]
  cases e : sameVs (valRVs a) (valRVs b) with
  | true => have := sameVs_length e; simp at this; simp [this]
  | false => simp
theorem f_SameQuot (a b : List Tree) (h : Av.Fn Tryz.prog 84 [.fz (itemAVs a) a.length false, .fz (itemAVs b) b.length false] (.bool (sameVs (itemRVs a) (itemRVs b)))) :
    Av.Fn Tryz.prog 50 [valAV (.quot a), valAV (.quot b)] (.bool (sameV (valRV (.quot a)) (valRV (.quot b)))) := by
  rw [valAV, valAV]
  refine ACalls.of_W tb_ok (fn := Tryz.f50) (n := 55) (by kernel_rfl) rfl (by kernel_rfl) rfl rfl (by simp) (go ?_)
  refine VAll.mk (fun b1 => go ?_)
  refine VAll.mk (fun b2 => go ?_)
  refine Fn.use (h) (go ?_)
  refine VRet.mk [] .nil ⟨congrArg (fun b => AOut.ret (.bool b)) ?_, rfl⟩
  simp only [valRV, sameV, leafSame, decide_true, Bool.true_and]
  cases e : sameVs (itemRVs a) (itemRVs b) with
  | true => have := sameVs_length e; simp at this; simp [this]
  | false => simp
theorem f_SameOdd (t u : Tree) (ht : t.leaf = false) (hft : t.full false = true) (hu : u.full false = true) (h4 : ∀ a b, t = .list a → u = .list b → False) (h5 : ∀ a b, t = .quot a → u = .quot b → False) : Av.Fn Tryz.prog 50 [valAV t, valAV u] (.bool (sameV (valRV t) (valRV u))) := by
  cases t <;> first | (simp [Tree.leaf] at ht; done) | (simp [Tree.full] at hft; done) | skip
  all_goals cases u <;> first | (simp [Tree.full] at hu; done) | exact (h4 _ _ rfl rfl).elim | exact (h5 _ _ rfl rfl).elim | skip
  all_goals
    rw [valAV, valAV]
    refine ACalls.of_W tb_ok (fn := Tryz.f50) (n := 55) (by kernel_rfl) rfl (by kernel_rfl) rfl rfl (by simp) (go ?_)
    refine VAll.mk (fun b1 => go ?_)
    refine VAll.mk (fun b2 => go ?_)
    refine VRet.mk [] .nil ⟨congrArg (fun b => AOut.ret (.bool b)) ?_, rfl⟩
    simp [valRV, sameV]
theorem f_SameItems (a b : List Tree) (h : Av.Fn Tryz.prog 115 [.fz (itemAVs a) a.length false, .fz (itemAVs b) b.length false, .fn (.func 116) [] []] (.bool (sameVs (itemRVs a) (itemRVs b)))) :
    Av.Fn Tryz.prog 84 [.fz (itemAVs a) a.length false, .fz (itemAVs b) b.length false] (.bool (sameVs (itemRVs a) (itemRVs b))) := by
  refine ACalls.of_W tb_ok (fn := Tryz.f84) (n := 8) (by kernel_rfl) rfl (by kernel_rfl) rfl rfl (by simp) (go ?_)
  refine Fn.use (h) (go ?_)
  refine VRet.mk [] .nil ?_
  exact ⟨rfl, rfl⟩
theorem item_push {t : Tree} (hc : t.isCall = false) (hf : t.full true = true) : itemAV t = .iface 45 (.agg [valAV t]) := by
  cases t <;> first | rfl | (simp [Tree.isCall] at hc; done) | (simp [Tree.full] at hf; done)
theorem full_val {t : Tree} (hc : t.isCall = false) (hf : t.full true = true) : t.full false = true := by
  cases t <;> first | exact hf | (simp [Tree.isCall] at hc; done) | (simp [Tree.full] at hf; done)
theorem f_SameItem (t u : Tree) (ht : t.full true = true) (hu : u.full true = true) (h : t.isCall = false → u.isCall = false → Av.Fn Tryz.prog 50 [valAV t, valAV u] (.bool (sameV (valRV t) (valRV u)))) :
    Av.Fn Tryz.prog 116 [itemAV t, itemAV u] (.bool (sameV (itemRV t) (itemRV u))) := by
  cases hct : t.isCall with
  | true =>
    obtain ⟨s, rfl⟩ : ∃ s, t = .call s := by cases t <;> first | exact ⟨_, rfl⟩ | (simp [Tree.isCall] at hct; done)
    cases hcu : u.isCall with
    | true =>
      obtain ⟨s', rfl⟩ : ∃ s, u = .call s := by cases u <;> first | exact ⟨_, rfl⟩ | (simp [Tree.isCall] at hcu; done)
      rw [itemAV, itemAV]
      refine ACalls.of_W tb_ok (fn := Tryz.f116) (n := 31) (by kernel_rfl) rfl (by kernel_rfl) rfl rfl (by simp) (go ?_)
      refine VAll.mk (fun b1 => go ?_)
      refine VAll.mk (fun b2 => go ?_)
      refine VRet.mk [] .nil ⟨congrArg (fun b => AOut.ret (.bool b)) ?_, rfl⟩
      simp [itemRV, sameV, leafSame, sameVs]
    | false =>
      rw [item_push hcu hu, itemAV]
      have ho := valAV_one' u
      have hk := valRV_kind u
      rw [item_val hcu]
      generalize valAV u = y at ho ⊢
      refine ACalls.of_W tb_ok (fn := Tryz.f116) (n := 31) (by kernel_rfl) rfl (by kernel_rfl) rfl rfl (by simp) (go ?_)
      refine VAll.mk (fun b1 => go ?_)
      refine VAll.mk (fun b2 => go ?_)
      refine VRet.mk [] .nil ⟨congrArg (fun b => AOut.ret (.bool b)) ?_, rfl⟩
      generalize valRV u = z at hk ⊢
      obtain ⟨k, n, s', l⟩ := z
      exact (sameV_leaf _ _ _ _ _ _ _ (fun e => hk e.symm)).symm
  | false =>
    rw [item_push hct ht]
    have ho := valAV_one' t
    cases hcu : u.isCall with
    | true =>
      obtain ⟨s', rfl⟩ : ∃ s, u = .call s := by cases u <;> first | exact ⟨_, rfl⟩ | (simp [Tree.isCall] at hcu; done)
      rw [itemAV]
      have hk := valRV_kind t
      rw [item_val hct]
      generalize valAV t = y at ho ⊢
      refine ACalls.of_W tb_ok (fn := Tryz.f116) (n := 31) (by kernel_rfl) rfl (by kernel_rfl) rfl rfl (by simp) (go ?_)
      refine VAll.mk (fun b1 => go ?_)
      refine VAll.mk (fun b2 => go ?_)
      refine VRet.mk [] .nil ⟨congrArg (fun b => AOut.ret (.bool b)) ?_, rfl⟩
      generalize valRV t = z at hk ⊢
      obtain ⟨k, n, s, l⟩ := z
      show false = sameV (.mk k n s l) (.mk 7 0 s' [])
      have hk : k ≠ 7 := hk
      rw [sameV, decide_eq_false hk]; rfl
    | false =>
      rw [item_push hcu hu, item_val hct, item_val hcu]
      have hh := h hct hcu
      have ho' := valAV_one' u
      generalize valAV t = x at ho hh ⊢
      generalize valAV u = y at ho' hh ⊢
      refine ACalls.of_W tb_ok (fn := Tryz.f116) (n := 31) (by kernel_rfl) rfl (by kernel_rfl) rfl rfl (by simp) (go ?_)
      refine VAll.mk (fun b1 => go ?_)
      refine VAll.mk (fun b2 => go ?_)
      refine Fn.use (hh) (go ?_)
      refine VRet.mk [] .nil ?_
      exact ⟨rfl, rfl⟩
theorem f_tSame' (n : Nat) : ∀ t u : Tree, t.depth ≤ n → t.clean = true → u.clean = true → t.full false = true → u.full false = true → Av.Fn Tryz.prog 50 [valAV t, valAV u] (.bool (sameV (valRV t) (valRV u))) := by
  induction n with
  | zero =>
    intro t u hd hct hcu ht hu
    cases hl : t.leaf with
    | true => exact f_SameLeaf t u hl hu
    | false => refine f_SameOdd t u hl ht hu ?_ ?_ <;> (rintro a b rfl _; rw [Tree.depth] at hd; omega)
  | succ n ih =>
    intro t u hd hct hcu ht hu
    cases hl : t.leaf with
    | true => exact f_SameLeaf t u hl hu
    | false =>
      by_cases h4 : ∃ a b, t = .list a ∧ u = .list b
      · obtain ⟨a, b, rfl, rfl⟩ := h4
        rw [Tree.depth] at hd
        simp only [Tree.clean, Bool.and_eq_true, decide_eq_true_eq] at hct hcu
        rw [Tree.full] at ht hu
        exact f_SameList a b (f_EqFuncV a b (fun i x y hx hy => ih x y (by have := depthAll_at hx; omega) (cleanAll_at hct.2 hx) (cleanAll_at hcu.2 hy) (fullAll_at ht hx) (fullAll_at hu hy)) hct.1 hcu.1)
      by_cases h5 : ∃ a b, t = .quot a ∧ u = .quot b
      · obtain ⟨a, b, rfl, rfl⟩ := h5
        rw [Tree.depth] at hd
        simp only [Tree.clean, Bool.and_eq_true, decide_eq_true_eq] at hct hcu
        rw [Tree.full] at ht hu
        exact f_SameQuot a b (f_SameItems a b (f_EqFuncI a b (fun i x y hx hy => f_SameItem x y (fullAll_at ht hx) (fullAll_at hu hy) fun c1 c2 =>
          ih x y (by have := depthAll_at hx; omega) (cleanAll_at hct.2 hx) (cleanAll_at hcu.2 hy) (full_val c1 (fullAll_at ht hx)) (full_val c2 (fullAll_at hu hy))) hct.1 hcu.1))
      exact f_SameOdd t u hl ht hu (fun a b e1 e2 => h4 ⟨a, b, e1, e2⟩) (fun a b e1 e2 => h5 ⟨a, b, e1, e2⟩)
theorem f_tSame {t u : Tree} (hct : t.clean = true) (hcu : u.clean = true) (ht : t.full false = true) (hu : u.full false = true) : Av.Fn Tryz.prog 50 [valAV t, valAV u] (.bool (sameV (valRV t) (valRV u))) := f_tSame' t.depth t u (Nat.le_refl _) hct hcu ht hu
end Go.Proofs.YtbmplclnondfnaaGreatDoor

namespace Go.Proofs.YtbmplclnondfnaaGreatDoor
open Go Go.Av
def RV.knd : RV → Int
  | .mk k _ _ _ => k
def RV.txt : RV → List UInt8
  | .mk _ _ s _ => s
mutual
/-- The value of a tree. -/
def valT : RV → Tree
  | .mk k n s l => if k = 1 then .int n else if k = 2 then .str s else if k = 3 then .bool (decide (n ≠ 0)) else if k = 4 then .list (valTs l) else if k = 5 then .quot (itemTs l) else if k = 6 then .box n else .none
def valTs : List RV → List Tree
  | [] => []
  | v :: r => valT v :: valTs r
def itemTs : List RV → List Tree
  | [] => []
  | v :: r => (if v.knd = 7 then .call v.txt else valT v) :: itemTs r
end
/-- The item of a tree. -/
def itemT (v : RV) : Tree := if v.knd = 7 then .call v.txt else valT v
theorem itemTs_cons (v : RV) (r : List RV) : itemTs (v :: r) = itemT v :: itemTs r := by simp [itemTs, itemT]
theorem valTs_map : ∀ l : List RV, valTs l = l.map valT
  | [] => by simp [valTs]
  | v :: r => by rw [valTs, valTs_map r]; rfl
theorem itemTs_map : ∀ l : List RV, itemTs l = l.map itemT
  | [] => by simp [itemTs]
  | v :: r => by rw [itemTs_cons, itemTs_map r]; rfl
@[simp] theorem valTs_length (l : List RV) : (valTs l).length = l.length := by simp [valTs_map]
@[simp] theorem itemTs_length (l : List RV) : (itemTs l).length = l.length := by simp [itemTs_map]
mutual
/-- What comes in: numbers that fit, no list of more than 2^47 bytes. -/
def RV.inp : RV → Bool
  | .mk k n s l => (decide (-9223372036854775808 ≤ k) && decide (k ≤ 9223372036854775807)) && (decide (-9223372036854775808 ≤ n) && decide (n ≤ 9223372036854775807)) && decide (s.length ≤ 140737488351232) && decide (l.length ≤ 2513169434916) && inpAll l
def inpAll : List RV → Bool
  | [] => true
  | v :: r => v.inp && inpAll r
end
theorem inpAll_at : ∀ {l : List RV} {i : Nat} {t : RV}, inpAll l = true → l[i]? = some t → t.inp = true
  | [], _, _, _, h => by simp at h
  | x :: l, 0, t, hc, h => by simp at h; subst h; simp [inpAll] at hc; exact hc.1
  | x :: l, i + 1, t, hc, h => by simp [inpAll] at hc; exact inpAll_at hc.2 (by simpa using h)
mutual
theorem inp_clean : ∀ v : RV, v.inp = true → (valT v).clean = true
  | .mk k n s l, h => by
    simp only [RV.inp, Bool.and_eq_true, decide_eq_true_eq] at h
    rw [valT]
    repeat' split
    all_goals first
    | rfl
    | (simp only [Tree.clean, Bool.and_eq_true, decide_eq_true_eq, valTs_length, itemTs_length]; exact ⟨h.1.2, by first | exact inp_cleanV l h.2 | exact inp_cleanI l h.2⟩)
theorem inp_cleanV : ∀ l : List RV, inpAll l = true → cleanAll (valTs l) = true
  | [], _ => by simp [valTs, cleanAll]
  | v :: r, h => by
    simp only [inpAll, Bool.and_eq_true] at h
    simp only [valTs, cleanAll, Bool.and_eq_true]
    exact ⟨inp_clean v h.1, inp_cleanV r h.2⟩
theorem inp_cleanI : ∀ l : List RV, inpAll l = true → cleanAll (itemTs l) = true
  | [], _ => by simp [itemTs, cleanAll]
  | v :: r, h => by
    simp only [inpAll, Bool.and_eq_true] at h
    rw [itemTs]
    simp only [cleanAll, Bool.and_eq_true]
    refine ⟨?_, inp_cleanI r h.2⟩
    split
    · rfl
    · exact inp_clean v h.1
end
theorem inp_cleanT {v : RV} (h : v.inp = true) : (itemT v).clean = true := by
  unfold itemT
  split
  · rfl
  · exact inp_clean v h
mutual
theorem inp_small : ∀ v : RV, v.inp = true → v.small = true
  | .mk k n s l, h => by
    simp only [RV.inp, Bool.and_eq_true, decide_eq_true_eq] at h
    simp only [RV.small, Bool.and_eq_true, decide_eq_true_eq]
    exact ⟨h.1.2, inp_smallA l h.2⟩
theorem inp_smallA : ∀ l : List RV, inpAll l = true → smallAll l = true
  | [], _ => by simp [smallAll]
  | v :: r, h => by
    simp only [inpAll, Bool.and_eq_true] at h
    simp only [smallAll, Bool.and_eq_true]
    exact ⟨inp_small v h.1, inp_smallA r h.2⟩
end

theorem f_Values' (l : List RV) (h : ∀ (i : Nat) v, l[i]? = some v → Av.Fn Tryz.prog 13 [.agg (rvAV v)] (valAV (valT v))) (hl : l.length ≤ 2513169434916) :
    Av.Fn Tryz.prog 18 [.fz (rvsC l) l.length false] (.fz (valAVs (valTs l)) l.length false) := by
  have hcell : ∀ {i : Nat} {v : RV}, l[i]? = some v → (List.drop (mulN i 4) (rvsC l)).take 4 = rvAV v := fun h => by
    have := rvsC_at (r := []) h
    rwa [List.append_nil, ← mulN_eq] at this
  have hmap : ∀ q : List RV, valAVs (valTs q) = q.map fun v => valAV (valT v) := fun q => by rw [valAVs_map, valTs_map, List.map_map]; rfl
  rw [hmap]
  refine ACalls.of_W tb_ok (fn := Tryz.f18) (n := 20) (by kernel_rfl) rfl (by kernel_rfl) rfl rfl (by simp) (go ?_)
  refine VLoop.mk [3, 4] AccI (fun i => [accV i.o i.k, .int .i64 i.k]) (fun i => accS i.o 1 ((List.map fun v => valAV (valT v)) (l.take i.k))) (fun i => i.k ≤ l.length ∧ (i.o = none → i.k = 0)) (fun i => l.length - i.k) ⟨0, none⟩ ?_ ?_
  · exact ⟨⟨by simp, by simp⟩, rfl, .nil⟩
  rintro ⟨k, o⟩ ⟨hk, ho⟩
  dsimp only at hk ho ⊢
  refine go ?_
  refine fork (fun hlt => go ?_) (fun hlt => ?_)
  · have hlt : k < l.length := by omega
    obtain ⟨t, ht⟩ : ∃ t, l[k]? = some t := ⟨l[k], by simp [hlt]⟩
    have hv := h k t ht
    have hacc : (List.map fun v => valAV (valT v)) (l.take (k + 1)) = (List.map fun v => valAV (valT v)) (l.take k) ++ [(fun v => valAV (valT v)) t] := by
      rw [take_succ_at ht]; simp [hmap]
    have hlen : ((List.map fun v => valAV (valT v)) (l.take k)).length = k := by simp; omega
    refine VTake.mk (rvAV t) (hcell ht) (by simp) (go ?_)
    refine Fn.use (hv) (go ?_)
    cases o with
    | none =>
      obtain rfl : k = 0 := ho rfl
      refine go ?_
      refine VOne.mk (by first | exact valAV_one' _ | exact itemAV_one _) (go ?_)
      refine VAll.mk (fun b2 => go ?_)
      refine ⟨⟨1, some b2⟩, ⟨by dsimp only; omega, by simp⟩, by dsimp only; omega, rfl, .cons 0 ?_ .nil⟩
      dsimp only
      rw [hacc]; simp [hmap]
    | some bo =>
      refine go ?_
      refine VOne.mk (by first | exact valAV_one' _ | exact itemAV_one _) (go ?_)
      refine VGd.mk ⟨rfl, by omega, by rw [mulN_eq, hlen]; simp, by simp; omega⟩ (go ?_)
      refine VAll.mk (fun b2 => go ?_)
      refine ⟨⟨k + 1, some b2⟩, ⟨by dsimp only; omega, by simp⟩, by dsimp only; omega, rfl, .cons 0 ?_ .nil⟩
      dsimp only
      rw [hacc, mulN_eq, List.take_of_length_le (by rw [hlen]; simp)]; rfl
  · obtain rfl : k = l.length := by omega
    rw [List.take_length]
    cases o with
    | none =>
      have := ho rfl
      obtain rfl : l = [] := List.length_eq_zero_iff.1 this
      refine go ?_
      refine VRet.mk [] .nil ?_
      exact ⟨by simp [hmap], rfl⟩
    | some bo =>
      refine go ?_
      refine VRet.mk [] .nil ?_
      exact ⟨by simp [mulN_eq, List.take_of_length_le], rfl⟩
theorem f_ItemsOf' (l : List RV) (h : ∀ (i : Nat) v, l[i]? = some v → Av.Fn Tryz.prog 55 [.agg (rvAV v)] (itemAV (itemT v))) (hl : l.length ≤ 2513169434916) :
    Av.Fn Tryz.prog 28 [.fz (rvsC l) l.length false] (.fz (itemAVs (itemTs l)) l.length false) := by
  have hcell : ∀ {i : Nat} {v : RV}, l[i]? = some v → (List.drop (mulN i 4) (rvsC l)).take 4 = rvAV v := fun h => by
    have := rvsC_at (r := []) h
    rwa [List.append_nil, ← mulN_eq] at this
  have hmap : ∀ q : List RV, itemAVs (itemTs q) = q.map fun v => itemAV (itemT v) := fun q => by rw [itemAVs_map, itemTs_map, List.map_map]; rfl
  rw [hmap]
  refine ACalls.of_W tb_ok (fn := Tryz.f28) (n := 20) (by kernel_rfl) rfl (by kernel_rfl) rfl rfl (by simp) (go ?_)
  refine VLoop.mk [3, 4] AccI (fun i => [accV i.o i.k, .int .i64 i.k]) (fun i => accS i.o 1 ((List.map fun v => itemAV (itemT v)) (l.take i.k))) (fun i => i.k ≤ l.length ∧ (i.o = none → i.k = 0)) (fun i => l.length - i.k) ⟨0, none⟩ ?_ ?_
  · exact ⟨⟨by simp, by simp⟩, rfl, .nil⟩
  rintro ⟨k, o⟩ ⟨hk, ho⟩
  dsimp only at hk ho ⊢
  refine go ?_
  refine fork (fun hlt => go ?_) (fun hlt => ?_)
  · have hlt : k < l.length := by omega
    obtain ⟨t, ht⟩ : ∃ t, l[k]? = some t := ⟨l[k], by simp [hlt]⟩
    have hv := h k t ht
    have hacc : (List.map fun v => itemAV (itemT v)) (l.take (k + 1)) = (List.map fun v => itemAV (itemT v)) (l.take k) ++ [(fun v => itemAV (itemT v)) t] := by
      rw [take_succ_at ht]; simp [hmap]
    have hlen : ((List.map fun v => itemAV (itemT v)) (l.take k)).length = k := by simp; omega
    refine VTake.mk (rvAV t) (hcell ht) (by simp) (go ?_)
    refine Fn.use (hv) (go ?_)
    cases o with
    | none =>
      obtain rfl : k = 0 := ho rfl
      refine go ?_
      refine VOne.mk (by first | exact valAV_one' _ | exact itemAV_one _) (go ?_)
      refine VAll.mk (fun b2 => go ?_)
      refine ⟨⟨1, some b2⟩, ⟨by dsimp only; omega, by simp⟩, by dsimp only; omega, rfl, .cons 0 ?_ .nil⟩
      dsimp only
      rw [hacc]; simp [hmap]
    | some bo =>
      refine go ?_
      refine VOne.mk (by first | exact valAV_one' _ | exact itemAV_one _) (go ?_)
      refine VGd.mk ⟨rfl, by omega, by rw [mulN_eq, hlen]; simp, by simp; omega⟩ (go ?_)
      refine VAll.mk (fun b2 => go ?_)
      refine ⟨⟨k + 1, some b2⟩, ⟨by dsimp only; omega, by simp⟩, by dsimp only; omega, rfl, .cons 0 ?_ .nil⟩
      dsimp only
      rw [hacc, mulN_eq, List.take_of_length_le (by rw [hlen]; simp)]; rfl
  · obtain rfl : k = l.length := by omega
    rw [List.take_length]
    cases o with
    | none =>
      have := ho rfl
      obtain rfl : l = [] := List.length_eq_zero_iff.1 this
      refine go ?_
      refine VRet.mk [] .nil ?_
      exact ⟨by simp [hmap], rfl⟩
    | some bo =>
      refine go ?_
      refine VRet.mk [] .nil ?_
      exact ⟨by simp [mulN_eq, List.take_of_length_le], rfl⟩
theorem f_Value' (v : RV) (hv : v.inp = true) (h4 : Av.Fn Tryz.prog 18 [.fz (rvsC (match v with | .mk _ _ _ l => l)) (match v with | .mk _ _ _ l => l).length false] (.fz (valAVs (valTs (match v with | .mk _ _ _ l => l))) (match v with | .mk _ _ _ l => l).length false))
    (h5 : Av.Fn Tryz.prog 28 [.fz (rvsC (match v with | .mk _ _ _ l => l)) (match v with | .mk _ _ _ l => l).length false] (.fz (itemAVs (itemTs (match v with | .mk _ _ _ l => l))) (match v with | .mk _ _ _ l => l).length false)) :
    Av.Fn Tryz.prog 13 [.agg (rvAV v)] (valAV (valT v)) := by
  obtain ⟨k, n, s, l⟩ := v
  dsimp only at h4 h5
  simp only [RV.inp, Bool.and_eq_true, decide_eq_true_eq] at hv
  rw [rvAV, valT]
  refine ACalls.of_W tb_ok (fn := Tryz.f13) (n := 44) (by kernel_rfl) rfl (by kernel_rfl) rfl rfl (by simp) (go ?_)
  refine VAll.mk (fun b => go ?_)
  refine fork (fun k1 => go ?_) (fun k1 => go ?_)
  · rw [if_pos k1]
    refine VRet.mk [] .nil ?_
    exact ⟨by simp [valAV], rfl⟩
  rw [if_neg k1]
  refine fork (fun k2 => go ?_) (fun k2 => go ?_)
  · rw [if_pos k2]
    refine VRet.mk [] .nil ?_
    exact ⟨by simp [valAV], rfl⟩
  rw [if_neg k2]
  refine fork (fun k3 => go ?_) (fun k3 => go ?_)
  · rw [if_pos k3]
    refine VRet.mk [] .nil ?_
    exact ⟨by simp [valAV], rfl⟩
  rw [if_neg k3]
  refine fork (fun k4 => go ?_) (fun k4 => go ?_)
  · rw [if_pos k4]
    refine Fn.use (h4) (go ?_)
    refine VRet.mk [] .nil ?_
    exact ⟨by simp [valAV], rfl⟩
  rw [if_neg k4]
  refine fork (fun k5 => go ?_) (fun k5 => go ?_)
  · rw [if_pos k5]
    refine Fn.use (h5) (go ?_)
    refine VRet.mk [] .nil ?_
    exact ⟨by simp [valAV], rfl⟩
  rw [if_neg k5]
  refine fork (fun k6 => go ?_) (fun k6 => go ?_)
  · rw [if_pos k6]
    refine VRet.mk [] .nil ?_
    exact ⟨by simp [valAV], rfl⟩
  rw [if_neg k6]
  refine VRet.mk [] .nil ?_
  exact ⟨by simp [valAV], rfl⟩
theorem itemAV_push {t : Tree} (h1 : ∀ s, t ≠ .call s) (h2 : t ≠ .none) (h3 : ∀ u v, t ≠ .odd u v) : itemAV t = .iface 45 (.agg [valAV t]) := by
  cases t <;> first | rfl | (exact absurd rfl (h1 _)) | (exact absurd rfl h2) | (exact absurd rfl (h3 _ _))
theorem f_ItemOf' (v : RV) (h : Av.Fn Tryz.prog 13 [.agg (rvAV v)] (valAV (valT v))) : Av.Fn Tryz.prog 55 [.agg (rvAV v)] (itemAV (itemT v)) := by
  obtain ⟨k, n, s, l⟩ := v
  unfold itemT
  rw [rvAV] at h ⊢
  rw [show (RV.mk k n s l).knd = k from rfl, show (RV.mk k n s l).txt = s from rfl]
  refine ACalls.of_W tb_ok (fn := Tryz.f55) (n := 22) (by kernel_rfl) rfl (by kernel_rfl) rfl rfl (by simp) (go ?_)
  refine VAll.mk (fun b => go ?_)
  refine fork (fun k7 => go ?_) (fun k7 => go ?_)
  · rw [if_pos k7]
    refine VRet.mk [] .nil ?_
    exact ⟨rfl, rfl⟩
  rw [if_neg k7]
  refine fork (fun k1 => go ?_) (fun k1 => go ?_)
  · rw [valT, if_neg (by omega), if_neg (by omega), if_neg (by omega), if_neg (by omega), if_neg (by omega), if_neg (by omega)]
    refine VRet.mk [] .nil ?_
    exact ⟨rfl, rfl⟩
  refine fork (fun k6 => go ?_) (fun k6 => go ?_)
  · rw [valT, if_neg (by omega), if_neg (by omega), if_neg (by omega), if_neg (by omega), if_neg (by omega), if_neg (by omega)]
    refine VRet.mk [] .nil ?_
    exact ⟨rfl, rfl⟩
  have hp : itemAV (valT (.mk k n s l)) = .iface 45 (.agg [valAV (valT (.mk k n s l))]) := by
    refine itemAV_push ?_ ?_ ?_
    · intro s; rw [valT]; repeat' split
      all_goals (intro e; cases e)
    · rw [valT]; repeat' split
      all_goals first | (intro e; cases e; done) | (exfalso; omega)
    · intro u v; rw [valT]; repeat' split
      all_goals (intro e; cases e)
  rw [hp]
  have ho := valAV_one' (valT (.mk k n s l))
  generalize valAV (valT (.mk k n s l)) = w at h ho ⊢
  refine Fn.use (h) (go ?_)
  refine VOne.mk ho (go ?_)
  refine VRet.mk [] .nil ?_
  exact ⟨rfl, rfl⟩
theorem f_vals (n : Nat) :
    (∀ v : RV, v.inp = true → v.deep ≤ n → Av.Fn Tryz.prog 13 [.agg (rvAV v)] (valAV (valT v))) ∧
    (∀ l : List RV, inpAll l = true → l.length ≤ 2513169434916 → deepAll l ≤ n → Av.Fn Tryz.prog 18 [.fz (rvsC l) l.length false] (.fz (valAVs (valTs l)) l.length false) ∧
      Av.Fn Tryz.prog 28 [.fz (rvsC l) l.length false] (.fz (itemAVs (itemTs l)) l.length false)) := by
  suffices H : ∀ v : RV, v.inp = true → v.deep ≤ n → Av.Fn Tryz.prog 13 [.agg (rvAV v)] (valAV (valT v)) from
    ⟨H, fun l hi hl hd => ⟨f_Values' l (fun i v hv => H v (inpAll_at hi hv) (Nat.le_trans (deepAll_at hv) hd)) hl,
      f_ItemsOf' l (fun i v hv => f_ItemOf' v (H v (inpAll_at hi hv) (Nat.le_trans (deepAll_at hv) hd))) hl⟩⟩
  induction n with
  | zero =>
    intro v _ hd
    obtain ⟨k, n, s, l⟩ := v
    rw [RV.deep] at hd; omega
  | succ n ih =>
    intro v hi hd
    obtain ⟨k, n', s, l⟩ := v
    rw [RV.deep] at hd
    have hi' := hi
    simp only [RV.inp, Bool.and_eq_true, decide_eq_true_eq] at hi'
    refine f_Value' _ hi ?_ ?_
    · exact f_Values' l (fun i v hv => ih v (inpAll_at hi'.2 hv) (by have := deepAll_at hv; omega)) hi'.1.2
    · exact f_ItemsOf' l (fun i v hv => f_ItemOf' v (ih v (inpAll_at hi'.2 hv) (by have := deepAll_at hv; omega))) hi'.1.2
theorem f_Value {v : RV} (h : v.inp = true) : Av.Fn Tryz.prog 13 [.agg (rvAV v)] (valAV (valT v)) := (f_vals v.deep).1 v h (Nat.le_refl _)
theorem f_ItemOf {v : RV} (h : v.inp = true) : Av.Fn Tryz.prog 55 [.agg (rvAV v)] (itemAV (itemT v)) := f_ItemOf' v (f_Value h)
theorem f_Values {l : List RV} (h : inpAll l = true) (hl : l.length ≤ 2513169434916) : Av.Fn Tryz.prog 18 [.fz (rvsC l) l.length false] (.fz (valAVs (valTs l)) l.length false) := ((f_vals (deepAll l)).2 l h hl (Nat.le_refl _)).1
theorem f_ItemsOf {l : List RV} (h : inpAll l = true) (hl : l.length ≤ 2513169434916) : Av.Fn Tryz.prog 28 [.fz (rvsC l) l.length false] (.fz (itemAVs (itemTs l)) l.length false) := ((f_vals (deepAll l)).2 l h hl (Nat.le_refl _)).2
end Go.Proofs.YtbmplclnondfnaaGreatDoor

namespace Go.Proofs.YtbmplclnondfnaaGreatDoor
open Go Go.Av
mutual
def RV.bulk : RV → Nat
  | .mk _ _ s l => s.length + bulkAll l + 1
def bulkAll : List RV → Nat
  | [] => 0
  | v :: r => v.bulk + bulkAll r
end
theorem bulkAll_sum : ∀ l : List RV, bulkAll l = (l.map RV.bulk).sum
  | [] => rfl
  | v :: r => by rw [bulkAll, bulkAll_sum r]; rfl
theorem rvsC_flat : ∀ l : List RV, rvsC l = l.flatMap rvAV
  | [] => by simp [rvsC]
  | v :: r => by rw [rvsC, rvsC_flat r]; rfl
theorem inpAll_all {l : List RV} : (∀ v ∈ l, v.inp = true) → inpAll l = true := by
  intro h
  induction l with
  | nil => simp [inpAll]
  | cons v l ih => simp only [inpAll, Bool.and_eq_true]; exact ⟨h v (List.mem_cons_self), ih fun w hw => h w (List.mem_cons_of_mem _ hw)⟩
theorem wf_i64 {n : Int} (h : (Lit.int .i64 n).wf = true) : -9223372036854775808 ≤ n ∧ n ≤ 9223372036854775807 := by
  simp only [Lit.wf, Bool.and_eq_true, decide_eq_true_eq] at h
  rw [show IntKind.i64.min = -9223372036854775808 by decide, show IntKind.i64.max = 9223372036854775807 by decide] at h
  exact h
section
variable {H : Type} {enc : TypeId × Value → H} {W : World}
theorem reads_VL (fuel : Nat) : Reads enc Tryz.prog W 56 fuel rvAV (fun v => v.inp = true) RV.bulk ∧
    Reads enc Tryz.prog W 54 fuel (fun l => [.fz (rvsC l) l.length false]) (fun l => l.length ≤ 2513169434916 ∧ inpAll l = true) (fun l => bulkAll l + 1) := by
  induction fuel with
  | zero => exact ⟨.zero, .zero⟩
  | succ fuel ih =>
    refine ⟨?_, ?_⟩
    · have hf : ReadsF enc Tryz.prog W fuel 0 [⟨"K", 3, 0, false, "", "", 0⟩, ⟨"N", 2, 1, false, "", "", 8⟩, ⟨"S", 9, 2, false, "", "", 16⟩, ⟨"L", 54, 3, false, "", "", 32⟩] (1 + (1 + (1 + (1 + 0)))) _ _ _ :=
        .cons rfl (by kernel_rfl) (reads_int (Tryz.underlying3) fuel) (.cons rfl (by kernel_rfl) (reads_int (Tryz.underlying2) fuel) (.cons rfl (by kernel_rfl) (reads_str (Tryz.underlying9) fuel) (.cons rfl (by kernel_rfl) ih.2 .nil)))
      have h := reads_struct (Tryz.underlying56) (by kernel_rfl) hf
      refine h.map (fun x => .mk x.1 x.2.1 x.2.2.1 x.2.2.2.1) (fun x => ?_) (fun x hx => ?_) (fun x => ?_)
      · simp [rvAV]
      · obtain ⟨h1, h2, h3, ⟨h4, h5⟩, _⟩ := hx
        have h1 := wf_i64 h1
        have h2 := wf_i64 h2
        have h3 : x.2.2.1.length ≤ 140737488351232 := h3
        simp only [RV.inp, h5, Bool.and_true, Bool.and_eq_true, decide_eq_true_eq]
        exact ⟨⟨⟨h1, h2⟩, h3⟩, h4⟩
      · simp only [RV.bulk]; omega
    · have h := reads_slice (Tryz.underlying54) (esz := 4) (by kernel_rfl) (by omega) ih.1 (enc := enc) (W := W)
      refine h.map (fun l => l) (fun l => by rw [rvsC_flat]) (fun l hl => ?_) (fun l => by rw [bulkAll_sum]; exact Nat.le_refl _)
      refine ⟨?_, inpAll_all hl.2⟩
      have h1 := hl.1
      rw [show Tryz.prog.bytesOf 56 = 56 by kernel_rfl, show reachBytes = 140737488351232 by decide] at h1
      omega
theorem arg_struct {P : Program} {W : World} {r : Reach} {base : Nat} {t : TypeId} {fs : Array Field} {v : Value} (hu : P.underlying t = some (.struct fs)) (h : Value.okWide P W r base t v) : ∃ cs, v = .agg cs := by
  unfold Value.okWide at h
  rw [hu] at h
  obtain ⟨cs, e, _⟩ := h
  exact ⟨cs, e⟩
theorem arg_slice {P : Program} {W : World} {r : Reach} {base : Nat} {t e : TypeId} {v : Value} (hu : P.underlying t = some (.slice e)) (h : Value.okWide P W r base t v) : v.cells.toList = [v] ∧ v.oneCell' = true := by
  unfold Value.okWide at h
  rw [hu] at h
  have h : Cell.okWide P W r base t v := h
  unfold Cell.okWide Cell.ok at h
  rw [hu] at h
  cases v <;> first | exact ⟨rfl, rfl⟩ | (exact h.elim)
theorem rel1_of {g : Gh} {c : AV} {v : Value} (h : RelL g true [c] [v]) : Rel g c v := by
  obtain ⟨u, ws, e, ⟨h1, _⟩, _⟩ := h
  injection e with e1 _
  subst e1
  exact h1
theorem relA_of {g : Gh} {C : List AV} {cs : Array Value} (h : RelL g true C (Value.agg cs).cells.toList) : Rel g (.agg C) (.agg cs) := ⟨cs.toList, rfl, h⟩
theorem laid_ok : laidOutB Tryz.prog = true := by kernel_rfl
end
end Go.Proofs.YtbmplclnondfnaaGreatDoor

namespace Go.Proofs.YtbmplclnondfnaaGreatDoor
open Go Go.Av



theorem f_CloneL (l : List Tree) (h : ∀ (i : Nat) t, l[i]? = some t → Av.Fn Tryz.prog 54 [valAV t] (valAV t)) (hl : l.length ≤ 2513169434916) :
    Av.Fn Tryz.prog 54 [.iface 34 (.agg [.fz (valAVs l) l.length false])] (.iface 34 (.agg [.fz (valAVs l) l.length false])) := by
  refine ACalls.thaw (ACalls.of_W tb_ok (fn := Tryz.f54) (n := 37) (by kernel_rfl) rfl (by kernel_rfl) rfl rfl (by simp) (go ?_))
  refine VAll.mk (fun b => go ?_)
  refine VLoop.mk [4, 15] AccI (fun i => [accV i.o i.k, .int .i64 i.k]) (fun i => accS i.o 1 (valAVs (l.take i.k))) (fun i => i.k ≤ l.length ∧ (i.o = none → i.k = 0)) (fun i => l.length - i.k) ⟨0, none⟩ ?_ ?_
  · exact ⟨⟨by simp, by simp⟩, rfl, .nil⟩
  rintro ⟨k, o⟩ ⟨hk, ho⟩
  dsimp only at hk ho ⊢
  refine go ?_
  refine fork (fun hlt => go ?_) (fun hlt => ?_)
  · have hlt : k < l.length := by omega
    obtain ⟨t, ht⟩ : ∃ t, l[k]? = some t := ⟨l[k], by simp [hlt]⟩
    have hacc : valAVs (l.take (k + 1)) = valAVs (l.take k) ++ [valAV t] := by
      rw [take_succ_at ht]; simp [valAVs_map]
    have hlen : (valAVs (l.take k)).length = k := by simp; omega
    refine VNth.mk (valAV t) (by simp [mulN_eq, valAVs_map, ht]) (go ?_)
    refine Fn.use (h k t ht) (go ?_)
    cases o with
    | none =>
      obtain rfl : k = 0 := ho rfl
      refine go ?_
      refine VOne.mk (valAV_one' _) (go ?_)
      refine VAll.mk (fun b2 => go ?_)
      refine ⟨⟨1, some b2⟩, ⟨by dsimp only; omega, by simp⟩, by dsimp only; omega, rfl, .cons 0 ?_ .nil⟩
      dsimp only
      rw [hacc]; simp [valAVs_map]
    | some bo =>
      refine go ?_
      refine VOne.mk (valAV_one' _) (go ?_)
      refine VGd.mk ⟨rfl, by omega, by rw [mulN_eq, hlen]; simp, by simp; omega⟩ (go ?_)
      refine VAll.mk (fun b2 => go ?_)
      refine ⟨⟨k + 1, some b2⟩, ⟨by dsimp only; omega, by simp⟩, by dsimp only; omega, rfl, .cons 0 ?_ .nil⟩
      dsimp only
      rw [hacc, mulN_eq, List.take_of_length_le (by rw [hlen]; simp)]; rfl
  · obtain rfl : k = l.length := by omega
    rw [List.take_length]
    cases o with
    | none =>
      have := ho rfl
      obtain rfl : l = [] := List.length_eq_zero_iff.1 this
      refine go ?_
      refine VRet.mk [] .nil ?_
      exact ⟨_, _, .same _ _, by simp [valAVs], rfl⟩
    | some bo =>
      refine go ?_
      refine VRet.mk [] .nil ?_
      exact ⟨_, _, .same _ _, by simp [List.take_of_length_le], rfl⟩


theorem f_CloneItems' (l : List Tree) (hodd : ∀ t ∈ l, ∀ u v, t ≠ .odd u v) (h : ∀ (i : Nat) t, l[i]? = some t → Av.Fn Tryz.prog 54 [valAV t] (valAV t)) (hl : l.length ≤ 2513169434916) :
    Av.Fn Tryz.prog 90 [.fz (itemAVs l) l.length false] (.fz (itemAVs l) l.length false) := by
  refine ACalls.of_W tb_ok (fn := Tryz.f90) (n := 31) (by kernel_rfl) rfl (by kernel_rfl) rfl rfl (by simp) (go ?_)
  refine VLoop.mk [3, 10] AccI (fun i => [accV i.o i.k, .int .i64 i.k]) (fun i => accS i.o 1 (itemAVs (l.take i.k))) (fun i => i.k ≤ l.length ∧ (i.o = none → i.k = 0)) (fun i => l.length - i.k) ⟨0, none⟩ ?_ ?_
  · exact ⟨⟨by simp, by simp⟩, rfl, .nil⟩
  rintro ⟨k, o⟩ ⟨hk, ho⟩
  dsimp only at hk ho ⊢
  refine go ?_
  refine fork (fun hlt => go ?_) (fun hlt => ?_)
  · have hlt : k < l.length := by omega
    obtain ⟨t, ht⟩ : ∃ t, l[k]? = some t := ⟨l[k], by simp [hlt]⟩
    have hacc : itemAVs (l.take (k + 1)) = itemAVs (l.take k) ++ [itemAV t] := by
      rw [take_succ_at ht]; simp [itemAVs_map]
    have hlen : (itemAVs (l.take k)).length = k := by simp; omega
    refine VNth.mk (itemAV t) (by simp [mulN_eq, itemAVs_map, ht]) (go ?_)
    have hc := h k t ht
    cases t with
    | none =>
      refine go ?_
      refine VAll.mk (fun b1 => go ?_)
      cases o with
      | none =>
        obtain rfl : k = 0 := ho rfl
        refine go ?_
        skip
        refine VAll.mk (fun b2 => go ?_)
        refine ⟨⟨1, some b2⟩, ⟨by dsimp only; omega, by simp⟩, by dsimp only; omega, rfl, .cons 0 ?_ .nil⟩
        dsimp only
        rw [hacc]; simp [itemAVs_map]
      | some bo =>
        refine go ?_
        skip
        refine VGd.mk ⟨rfl, by omega, by rw [mulN_eq, hlen]; simp, by simp; omega⟩ (go ?_)
        refine VAll.mk (fun b2 => go ?_)
        refine ⟨⟨k + 1, some b2⟩, ⟨by dsimp only; omega, by simp⟩, by dsimp only; omega, rfl, .cons 0 ?_ .nil⟩
        dsimp only
        rw [hacc, mulN_eq, List.take_of_length_le (by rw [hlen]; simp)]; rfl
    | call s =>
      refine go ?_
      refine VAll.mk (fun b1 => go ?_)
      cases o with
      | none =>
        obtain rfl : k = 0 := ho rfl
        refine go ?_
        skip
        refine VAll.mk (fun b2 => go ?_)
        refine ⟨⟨1, some b2⟩, ⟨by dsimp only; omega, by simp⟩, by dsimp only; omega, rfl, .cons 0 ?_ .nil⟩
        dsimp only
        rw [hacc]; simp [itemAVs_map]
      | some bo =>
        refine go ?_
        skip
        refine VGd.mk ⟨rfl, by omega, by rw [mulN_eq, hlen]; simp, by simp; omega⟩ (go ?_)
        refine VAll.mk (fun b2 => go ?_)
        refine ⟨⟨k + 1, some b2⟩, ⟨by dsimp only; omega, by simp⟩, by dsimp only; omega, rfl, .cons 0 ?_ .nil⟩
        dsimp only
        rw [hacc, mulN_eq, List.take_of_length_le (by rw [hlen]; simp)]; rfl
    | odd u v => exact (hodd _ (List.mem_of_getElem? ht) u v rfl).elim
    | int n =>
      rw [show itemAV (.int n) = .iface 45 (.agg [valAV (.int n)]) from rfl] at hacc ⊢
      have hone := valAV_one' (.int n)
      generalize valAV (.int n) = w at hc hacc hone ⊢
      refine go ?_
      refine VAll.mk (fun b1 => go ?_)
      refine Fn.use (hc) (go ?_)
      refine VOne.mk hone (go ?_)
      cases o with
      | none =>
        obtain rfl : k = 0 := ho rfl
        refine go ?_
        skip
        refine VAll.mk (fun b2 => go ?_)
        refine ⟨⟨1, some b2⟩, ⟨by dsimp only; omega, by simp⟩, by dsimp only; omega, rfl, .cons 0 ?_ .nil⟩
        dsimp only
        rw [hacc]; simp [itemAVs_map]
      | some bo =>
        refine go ?_
        skip
        refine VGd.mk ⟨rfl, by omega, by rw [mulN_eq, hlen]; simp, by simp; omega⟩ (go ?_)
        refine VAll.mk (fun b2 => go ?_)
        refine ⟨⟨k + 1, some b2⟩, ⟨by dsimp only; omega, by simp⟩, by dsimp only; omega, rfl, .cons 0 ?_ .nil⟩
        dsimp only
        rw [hacc, mulN_eq, List.take_of_length_le (by rw [hlen]; simp)]; rfl
    | str n =>
      rw [show itemAV (.str n) = .iface 45 (.agg [valAV (.str n)]) from rfl] at hacc ⊢
      have hone := valAV_one' (.str n)
      generalize valAV (.str n) = w at hc hacc hone ⊢
      refine go ?_
      refine VAll.mk (fun b1 => go ?_)
      refine Fn.use (hc) (go ?_)
      refine VOne.mk hone (go ?_)
      cases o with
      | none =>
        obtain rfl : k = 0 := ho rfl
        refine go ?_
        skip
        refine VAll.mk (fun b2 => go ?_)
        refine ⟨⟨1, some b2⟩, ⟨by dsimp only; omega, by simp⟩, by dsimp only; omega, rfl, .cons 0 ?_ .nil⟩
        dsimp only
        rw [hacc]; simp [itemAVs_map]
      | some bo =>
        refine go ?_
        skip
        refine VGd.mk ⟨rfl, by omega, by rw [mulN_eq, hlen]; simp, by simp; omega⟩ (go ?_)
        refine VAll.mk (fun b2 => go ?_)
        refine ⟨⟨k + 1, some b2⟩, ⟨by dsimp only; omega, by simp⟩, by dsimp only; omega, rfl, .cons 0 ?_ .nil⟩
        dsimp only
        rw [hacc, mulN_eq, List.take_of_length_le (by rw [hlen]; simp)]; rfl
    | bool n =>
      rw [show itemAV (.bool n) = .iface 45 (.agg [valAV (.bool n)]) from rfl] at hacc ⊢
      have hone := valAV_one' (.bool n)
      generalize valAV (.bool n) = w at hc hacc hone ⊢
      refine go ?_
      refine VAll.mk (fun b1 => go ?_)
      refine Fn.use (hc) (go ?_)
      refine VOne.mk hone (go ?_)
      cases o with
      | none =>
        obtain rfl : k = 0 := ho rfl
        refine go ?_
        skip
        refine VAll.mk (fun b2 => go ?_)
        refine ⟨⟨1, some b2⟩, ⟨by dsimp only; omega, by simp⟩, by dsimp only; omega, rfl, .cons 0 ?_ .nil⟩
        dsimp only
        rw [hacc]; simp [itemAVs_map]
      | some bo =>
        refine go ?_
        skip
        refine VGd.mk ⟨rfl, by omega, by rw [mulN_eq, hlen]; simp, by simp; omega⟩ (go ?_)
        refine VAll.mk (fun b2 => go ?_)
        refine ⟨⟨k + 1, some b2⟩, ⟨by dsimp only; omega, by simp⟩, by dsimp only; omega, rfl, .cons 0 ?_ .nil⟩
        dsimp only
        rw [hacc, mulN_eq, List.take_of_length_le (by rw [hlen]; simp)]; rfl
    | list n =>
      rw [show itemAV (.list n) = .iface 45 (.agg [valAV (.list n)]) from rfl] at hacc ⊢
      have hone := valAV_one' (.list n)
      generalize valAV (.list n) = w at hc hacc hone ⊢
      refine go ?_
      refine VAll.mk (fun b1 => go ?_)
      refine Fn.use (hc) (go ?_)
      refine VOne.mk hone (go ?_)
      cases o with
      | none =>
        obtain rfl : k = 0 := ho rfl
        refine go ?_
        skip
        refine VAll.mk (fun b2 => go ?_)
        refine ⟨⟨1, some b2⟩, ⟨by dsimp only; omega, by simp⟩, by dsimp only; omega, rfl, .cons 0 ?_ .nil⟩
        dsimp only
        rw [hacc]; simp [itemAVs_map]
      | some bo =>
        refine go ?_
        skip
        refine VGd.mk ⟨rfl, by omega, by rw [mulN_eq, hlen]; simp, by simp; omega⟩ (go ?_)
        refine VAll.mk (fun b2 => go ?_)
        refine ⟨⟨k + 1, some b2⟩, ⟨by dsimp only; omega, by simp⟩, by dsimp only; omega, rfl, .cons 0 ?_ .nil⟩
        dsimp only
        rw [hacc, mulN_eq, List.take_of_length_le (by rw [hlen]; simp)]; rfl
    | quot n =>
      rw [show itemAV (.quot n) = .iface 45 (.agg [valAV (.quot n)]) from rfl] at hacc ⊢
      have hone := valAV_one' (.quot n)
      generalize valAV (.quot n) = w at hc hacc hone ⊢
      refine go ?_
      refine VAll.mk (fun b1 => go ?_)
      refine Fn.use (hc) (go ?_)
      refine VOne.mk hone (go ?_)
      cases o with
      | none =>
        obtain rfl : k = 0 := ho rfl
        refine go ?_
        skip
        refine VAll.mk (fun b2 => go ?_)
        refine ⟨⟨1, some b2⟩, ⟨by dsimp only; omega, by simp⟩, by dsimp only; omega, rfl, .cons 0 ?_ .nil⟩
        dsimp only
        rw [hacc]; simp [itemAVs_map]
      | some bo =>
        refine go ?_
        skip
        refine VGd.mk ⟨rfl, by omega, by rw [mulN_eq, hlen]; simp, by simp; omega⟩ (go ?_)
        refine VAll.mk (fun b2 => go ?_)
        refine ⟨⟨k + 1, some b2⟩, ⟨by dsimp only; omega, by simp⟩, by dsimp only; omega, rfl, .cons 0 ?_ .nil⟩
        dsimp only
        rw [hacc, mulN_eq, List.take_of_length_le (by rw [hlen]; simp)]; rfl
    | box n =>
      rw [show itemAV (.box n) = .iface 45 (.agg [valAV (.box n)]) from rfl] at hacc ⊢
      have hone := valAV_one' (.box n)
      generalize valAV (.box n) = w at hc hacc hone ⊢
      refine go ?_
      refine VAll.mk (fun b1 => go ?_)
      refine Fn.use (hc) (go ?_)
      refine VOne.mk hone (go ?_)
      cases o with
      | none =>
        obtain rfl : k = 0 := ho rfl
        refine go ?_
        skip
        refine VAll.mk (fun b2 => go ?_)
        refine ⟨⟨1, some b2⟩, ⟨by dsimp only; omega, by simp⟩, by dsimp only; omega, rfl, .cons 0 ?_ .nil⟩
        dsimp only
        rw [hacc]; simp [itemAVs_map]
      | some bo =>
        refine go ?_
        skip
        refine VGd.mk ⟨rfl, by omega, by rw [mulN_eq, hlen]; simp, by simp; omega⟩ (go ?_)
        refine VAll.mk (fun b2 => go ?_)
        refine ⟨⟨k + 1, some b2⟩, ⟨by dsimp only; omega, by simp⟩, by dsimp only; omega, rfl, .cons 0 ?_ .nil⟩
        dsimp only
        rw [hacc, mulN_eq, List.take_of_length_le (by rw [hlen]; simp)]; rfl
  · obtain rfl : k = l.length := by omega
    rw [List.take_length]
    cases o with
    | none =>
      have := ho rfl
      obtain rfl : l = [] := List.length_eq_zero_iff.1 this
      refine go ?_
      refine VRet.mk [] .nil ?_
      exact ⟨by simp [itemAVs], rfl⟩
    | some bo =>
      refine go ?_
      refine VRet.mk [] .nil ?_
      exact ⟨by simp [List.take_of_length_le], rfl⟩
theorem clean_odd {l : List Tree} (h : cleanAll l = true) : ∀ t ∈ l, ∀ u v, t ≠ .odd u v := by
  intro t ht u v e
  obtain ⟨i, hi⟩ := List.getElem?_of_mem ht
  have := cleanAll_at h hi
  subst e
  simp [Tree.clean] at this
theorem f_Clone' (n : Nat) : ∀ t : Tree, t.clean = true → t.depth ≤ n → Av.Fn Tryz.prog 54 [valAV t] (valAV t) := by
  induction n with
  | zero =>
    intro t hc hd
    cases t with
    | odd => simp [Tree.clean] at hc
    | list l => simp [Tree.depth] at hd
    | quot l => simp [Tree.depth] at hd
    | _ =>
      simp only [valAV]
      refine ACalls.of_W tb_ok (fn := Tryz.f54) (n := 37) (by kernel_rfl) rfl (by kernel_rfl) rfl rfl (by simp) (go ?_)
      refine VRet.mk [] .nil ?_
      exact ⟨rfl, rfl⟩
  | succ n ih =>
    intro t hc hd
    cases t with
    | odd => simp [Tree.clean] at hc
    | list l =>
      simp only [Tree.clean, Bool.and_eq_true, decide_eq_true_eq] at hc
      rw [Tree.depth] at hd
      simp only [valAV]
      exact f_CloneL l (fun i t ht => ih t (cleanAll_at hc.2 ht) (by have := depthAll_at ht; omega)) hc.1
    | quot l =>
      simp only [Tree.clean, Bool.and_eq_true, decide_eq_true_eq] at hc
      rw [Tree.depth] at hd
      simp only [valAV]
      have hi := f_CloneItems' l (clean_odd hc.2) (fun i t ht => ih t (cleanAll_at hc.2 ht) (by have := depthAll_at ht; omega)) hc.1
      refine ACalls.of_W tb_ok (fn := Tryz.f54) (n := 37) (by kernel_rfl) rfl (by kernel_rfl) rfl rfl (by simp) (go ?_)
      refine VAll.mk (fun b => go ?_)
      refine Fn.use (hi) (go ?_)
      refine VRet.mk [] .nil ?_
      exact ⟨rfl, rfl⟩
    | _ =>
      simp only [valAV]
      refine ACalls.of_W tb_ok (fn := Tryz.f54) (n := 37) (by kernel_rfl) rfl (by kernel_rfl) rfl rfl (by simp) (go ?_)
      refine VRet.mk [] .nil ?_
      exact ⟨rfl, rfl⟩
theorem f_Clone {t : Tree} (h : t.clean = true) : Av.Fn Tryz.prog 54 [valAV t] (valAV t) := f_Clone' t.depth t h (Nat.le_refl _)
theorem f_CloneItems {l : List Tree} (h : cleanAll l = true) (hl : l.length ≤ 2513169434916) : Av.Fn Tryz.prog 90 [.fz (itemAVs l) l.length false] (.fz (itemAVs l) l.length false) :=
  f_CloneItems' l (clean_odd h) (fun i t ht => f_Clone (cleanAll_at h ht)) hl
end Go.Proofs.YtbmplclnondfnaaGreatDoor

namespace Go.Proofs.YtbmplclnondfnaaGreatDoor
open Go Go.Av
theorem fn_Format (i : Nat) (hi : i < 100) : Av.Fn Tryz.prog 117 [.int .i64 i, .int .i64 10] (.str (Lib.decDigits i)) := by
  refine Fn.of_calls (fn := Tryz.f117) (by kernel_rfl) rfl (by kernel_rfl) ?_
  intro W w g us hl hr hb
  obtain ⟨u1, _, rfl, ⟨h1, _⟩, u2, _, rfl, ⟨h2, _⟩, h3⟩ := hr
  have h1 : u1 = _ := h1; have h2 : u2 = _ := h2; have h3 : _ = [] := h3
  subst h1; subst h2; subst h3
  refine (Tryz.internal_strconv_FormatInt_10_small i hi w).mono fun e w' ⟨h1, h2⟩ => ?_
  subst h2
  exact ⟨_, h1, rfl, RowKit.Below.refl _ _⟩
theorem f_Format7 : Av.Fn Tryz.prog 85 [.int .i64 7, .int .i64 10] (.str [55]) := by
  have h := fn_Format 7 (by omega)
  rw [show Lib.decDigits 7 = [55] by decide +kernel] at h
  refine ACalls.of_W tb_ok (fn := Tryz.f85) (n := 8) (by kernel_rfl) rfl (by kernel_rfl) rfl rfl (by simp) (go ?_)
  refine Fn.use (h) (go ?_)
  refine VRet.mk [] .nil ?_
  exact ⟨rfl, rfl⟩
theorem f_measInt (b : Nat) (n left : Int) (hn : inR n = true) (hl : 1 ≤ left ∧ left ≤ 1000000) : ACalls Tryz.prog 82 [.iface 24 (.agg [.int .i64 n]), .ptr b 0, .int .i64 0] [(b, .box [.int .i64 left])] (fun out st => out = .ret (.tup [.int .i64 0, .bool true]) ∧ st = [(b, .box [.int .i64 (left - 1)])]) := by
  simp only [inR, Bool.and_eq_true, decide_eq_true_eq] at hn
  refine ACalls.of_W tb_ok (fn := Tryz.f82) (n := 129) (by kernel_rfl) rfl (by kernel_rfl) rfl rfl (by simp) (go ?_)
  refine VIf.no (by simp; omega) (go ?_)
  refine VAll.mk (fun b2 => go ?_)
  refine VIf.yes (by simp; omega) (go ?_)
  refine VRet.mk [(b, .box [.int .i64 (left - 1)])] (.cons 1 rfl .nil) ?_
  simp; omega
theorem f_Check7 : Av.Fn Tryz.prog 44 [.iface 24 (.agg [.int .i64 7])] (.int .i64 0) := by
  refine ACalls.of_W tb_ok (fn := Tryz.f44) (n := 13) (by kernel_rfl) rfl (by kernel_rfl) rfl rfl (by simp) (go ?_)
  refine VAll.mk (fun b => go ?_)
  refine ACalls.use (R := []) (f_measInt b 7 1024 (by decide) (by omega)) (.refl _) ?_
  rintro _ _ ⟨rfl, rfl⟩
  refine go ?_
  refine VRet.mk [] .nil ?_
  exact ⟨rfl, rfl⟩
theorem f_Text7 : Av.Fn Tryz.prog 53 [.iface 24 (.agg [.int .i64 7])] (.str [55]) := by
  refine ACalls.of_W tb_ok (fn := Tryz.f53) (n := 48) (by kernel_rfl) rfl (by kernel_rfl) rfl rfl (by simp) (go ?_)
  refine VAll.mk (fun b => go ?_)
  refine Fn.use (f_Format7) (go ?_)
  refine VRet.mk [] .nil ?_
  exact ⟨rfl, rfl⟩
theorem f_awake08 : Av.Fn Tryz.prog 11 [] (.bool true) := by
  have h1 : Av.Fn Tryz.prog 10 [.iface 24 (.agg [.int .i64 7])] (.int .i64 0) := by
    refine ACalls.of_W tb_ok (fn := Tryz.f10) (n := 5) (by kernel_rfl) rfl (by kernel_rfl) rfl rfl (by simp) (go ?_)
    refine Fn.use (f_Check7) (go ?_)
    refine VRet.mk [] .nil ?_
    exact ⟨rfl, rfl⟩
  have h2 : Av.Fn Tryz.prog 25 [.iface 24 (.agg [.int .i64 7])] (.tup [.str [55], .int .i64 0]) := by
    refine ACalls.of_W tb_ok (fn := Tryz.f25) (n := 12) (by kernel_rfl) rfl (by kernel_rfl) rfl rfl (by simp) (go ?_)
    refine Fn.use (h1) (go ?_)
    refine Fn.use (f_Text7) (go ?_)
    refine VRet.mk [] .nil ?_
    exact ⟨rfl, rfl⟩
  refine ACalls.of_W tb_ok (fn := Tryz.f11) (n := 15) (by kernel_rfl) rfl (by kernel_rfl) rfl rfl (by simp) (go ?_)
  refine Fn.use (h2) (go ?_)
  refine VRet.mk [] .nil ?_
  exact ⟨rfl, rfl⟩
noncomputable def taeAV (b : Nat) : AV := .iface Tryz.prog.rt.typeAssertionError (.ptr b 0)
theorem f_mi1_ok (b2 b3 : Nat) (st : St) {K : St → Prop} (k : K st) : DCalls Tryz.prog 46 [.ptr b2 0, .ptr b3 0] st none K := by
  refine DCalls.use (s := []) (R := st) (K := fun st' => st' = []) ?_ (.refl _) (fun s' h => by rw [h]; exact k)
  refine DCalls.of_Ws tb_ok (fn := Tryz.f46) (n := 4) (by kernel_rfl) rfl (by kernel_rfl) rfl rfl (by simp) (go ?_)
  refine VRet.mk [] .nil ?_
  rfl
theorem f_mi1_panic (b2 b3 b : Nat) (x y : AV) : DCalls Tryz.prog 46 [.ptr b2 0, .ptr b3 0] [(b2, .box [x]), (b3, .box [y])] (some (taeAV b)) fun st' => st' = [(b2, .box [.int .i64 0]), (b3, .box [.bool false])] := by
  refine DCalls.of_Ws tb_ok (fn := Tryz.f46) (n := 4) (by kernel_rfl) rfl (by kernel_rfl) rfl rfl (by simp) (go ?_)
  exact VRet.mk _ (VSel.refl _) rfl
theorem f_ml1_ok (b2 b3 : Nat) (st : St) {K : St → Prop} (k : K st) : DCalls Tryz.prog 48 [.ptr b2 0, .ptr b3 0] st none K := by
  refine DCalls.use (s := []) (R := st) (K := fun st' => st' = []) ?_ (.refl _) (fun s' h => by rw [h]; exact k)
  refine DCalls.of_Ws tb_ok (fn := Tryz.f48) (n := 4) (by kernel_rfl) rfl (by kernel_rfl) rfl rfl (by simp) (go ?_)
  refine VRet.mk [] .nil ?_
  rfl
theorem f_ml1_panic (b2 b3 b : Nat) (x y : AV) : DCalls Tryz.prog 48 [.ptr b2 0, .ptr b3 0] [(b2, .box [x]), (b3, .box [y])] (some (taeAV b)) fun st' => st' = [(b2, .box [.nils]), (b3, .box [.bool false])] := by
  refine DCalls.of_Ws tb_ok (fn := Tryz.f48) (n := 4) (by kernel_rfl) rfl (by kernel_rfl) rfl rfl (by simp) (go ?_)
  exact VRet.mk _ (VSel.refl _) rfl
theorem f_MustIntOk (n : Int) : Av.Fn Tryz.prog 47 [.iface 24 (.agg [.int .i64 n])] (.int .i64 n) := by
  refine ACalls.of_W tb_ok (fn := Tryz.f47) (n := 6) (by kernel_rfl) rfl (by kernel_rfl) rfl rfl (by simp) (go ?_)
  refine VRet.mk [] .nil ?_
  exact ⟨rfl, rfl⟩
theorem f_mustIntOk (n : Int) : Av.Fn Tryz.prog 14 [.iface 24 (.agg [.int .i64 n])] (.tup [.int .i64 n, .bool true]) := by
  refine ACalls.of_Wd tb_ok (fn := Tryz.f14) (n := 7) (by kernel_rfl) rfl (by kernel_rfl) rfl rfl (by simp) (go ?_)
  refine VAll.mk (fun b2 => go ?_)
  refine VAll.mk (fun b3 => go ?_)
  refine Fn.use (f_MustIntOk n) (go ?_)
  refine f_mi1_ok b2 b3 _ (go ?_)
  refine VRet.mk [] .nil ?_
  exact ⟨rfl, rfl⟩
theorem f_mustIntBad {x : AV} (h : ACalls Tryz.prog 47 [x] [] (fun out st => ∃ b, out = .panic (taeAV b) ∧ st = [])) : Av.Fn Tryz.prog 14 [x] (.tup [.int .i64 0, .bool false]) := by
  refine ACalls.of_Wd tb_ok (fn := Tryz.f14) (n := 7) (by kernel_rfl) rfl (by kernel_rfl) rfl rfl (by simp) (go ?_)
  refine VAll.mk (fun b2 => go ?_)
  refine VAll.mk (fun b3 => go ?_)
  refine ACalls.use (R := [(b3, .box [.bool false]), (b2, .box [.int .i64 0])]) h (.refl _) ?_
  rintro _ _ ⟨b, rfl, rfl⟩
  refine go ?_
  refine DCalls.use (R := []) (f_mi1_panic b2 b3 b (.int .i64 0) (.bool false)) (.swap _ _ _) ?_
  rintro _ rfl
  refine go ?_
  refine VRet.mk [] .nil ?_
  exact ⟨rfl, rfl⟩
theorem f_mustListBad {x : AV} (h : ACalls Tryz.prog 49 [x] [] (fun out st => ∃ b, out = .panic (taeAV b) ∧ st = [])) : Av.Fn Tryz.prog 15 [x] (.tup [.fz [] 0 false, .bool false]) := by
  refine ACalls.of_Wd tb_ok (fn := Tryz.f15) (n := 7) (by kernel_rfl) rfl (by kernel_rfl) rfl rfl (by simp) (go ?_)
  refine VAll.mk (fun b2 => go ?_)
  refine VAll.mk (fun b3 => go ?_)
  refine ACalls.use (R := [(b3, .box [.bool false]), (b2, .box [.nils])]) h (.refl _) ?_
  rintro _ _ ⟨b, rfl, rfl⟩
  refine go ?_
  refine DCalls.use (R := []) (f_ml1_panic b2 b3 b (.nils) (.bool false)) (.swap _ _ _) ?_
  rintro _ rfl
  refine go ?_
  refine VRet.mk [] .nil ?_
  exact ⟨rfl, rfl⟩
theorem f_MustListOk {l : List Tree} (hc : (Tree.list l).clean = true) : Av.Fn Tryz.prog 49 [valAV (.list l)] (.fz (valAVs l) l.length false) := by
  have h := f_Clone hc
  simp only [valAV] at h ⊢
  refine ACalls.of_W tb_ok (fn := Tryz.f49) (n := 9) (by kernel_rfl) rfl (by kernel_rfl) rfl rfl (by simp) (go ?_)
  refine Fn.use (h) (go ?_)
  refine VRet.mk [] .nil ?_
  exact ⟨rfl, rfl⟩
theorem f_mustListOk {l : List Tree} (hc : (Tree.list l).clean = true) : Av.Fn Tryz.prog 15 [valAV (.list l)] (.tup [.fz (valAVs l) l.length false, .bool true]) := by
  have h := f_MustListOk hc
  simp only [valAV] at h ⊢
  refine ACalls.of_Wd tb_ok (fn := Tryz.f15) (n := 7) (by kernel_rfl) rfl (by kernel_rfl) rfl rfl (by simp) (go ?_)
  refine VAll.mk (fun b2 => go ?_)
  refine VAll.mk (fun b3 => go ?_)
  refine Fn.use (h) (go ?_)
  refine f_ml1_ok b2 b3 _ (go ?_)
  refine VRet.mk [] .nil ?_
  exact ⟨rfl, rfl⟩

def miR : Tree → AV
  | .int n => .tup [.int .i64 n, .bool true]
  | _ => .tup [.int .i64 0, .bool false]
def mlR : Tree → AV
  | .list l => .tup [.fz (valAVs l) l.length false, .bool true]
  | _ => .tup [.fz [] 0 false, .bool false]
theorem f_mi {t : Tree} (hc : t.clean = true) : Av.Fn Tryz.prog 14 [valAV t] (miR t) := by
  cases t with
  | int n => exact f_mustIntOk n
  | odd u v => simp [Tree.clean] at hc
  | _ =>
    simp only [valAV]
    refine f_mustIntBad ?_
    refine ACalls.of_W tb_ok (fn := Tryz.f47) (n := 6) (by kernel_rfl) rfl (by kernel_rfl) rfl rfl (by simp) (go ?_)
    refine VAll.mk (fun b => go ?_)
    exact VRet.mk [] .nil ⟨b, rfl, rfl⟩
theorem f_ml {t : Tree} (hc : t.clean = true) : Av.Fn Tryz.prog 15 [valAV t] (mlR t) := by
  cases t with
  | list l => exact f_mustListOk hc
  | odd u v => simp [Tree.clean] at hc
  | _ =>
    simp only [valAV]
    refine f_mustListBad ?_
    refine ACalls.of_W tb_ok (fn := Tryz.f49) (n := 9) (by kernel_rfl) rfl (by kernel_rfl) rfl rfl (by simp) (go ?_)
    refine VAll.mk (fun b => go ?_)
    exact VRet.mk [] .nil ⟨b, rfl, rfl⟩
theorem f_miP (b0 : Nat) : Av.Fn Tryz.prog 14 [.iface 22 (.ptr b0 0)] (.tup [.int .i64 0, .bool false]) := by
  refine f_mustIntBad ?_
  refine ACalls.of_W tb_ok (fn := Tryz.f47) (n := 6) (by kernel_rfl) rfl (by kernel_rfl) rfl rfl (by simp) (go ?_)
  refine VAll.mk (fun b => go ?_)
  exact VRet.mk [] .nil ⟨b, rfl, rfl⟩
theorem f_mlP (b0 : Nat) : Av.Fn Tryz.prog 15 [.iface 22 (.ptr b0 0)] (.tup [.fz [] 0 false, .bool false]) := by
  refine f_mustListBad ?_
  refine ACalls.of_W tb_ok (fn := Tryz.f49) (n := 9) (by kernel_rfl) rfl (by kernel_rfl) rfl rfl (by simp) (go ?_)
  refine VAll.mk (fun b => go ?_)
  exact VRet.mk [] .nil ⟨b, rfl, rfl⟩
theorem f_ValueMusts (v : RV) (p : Bool) (hv : v.inp = true) : Av.Fn Tryz.prog 4 [.agg (rvAV v), .bool p] (.bool true) := by
  have hc := inp_clean v hv
  have h1 := f_Value hv
  have h2 := f_mi hc
  have h3 := f_ml hc
  obtain ⟨k, n, s, l⟩ := v
  have hv' := hv
  simp only [RV.inp, Bool.and_eq_true, decide_eq_true_eq] at hv'
  rw [rvAV] at h1 ⊢
  have hval : valT (.mk k n s l) = if k = 1 then .int n else if k = 2 then .str s else if k = 3 then .bool (decide (n ≠ 0)) else if k = 4 then .list (valTs l) else if k = 5 then .quot (itemTs l) else if k = 6 then .box n else .none := by rw [valT]
  generalize valT (.mk k n s l) = t at h1 h2 h3 hc hval
  refine ACalls.of_W tb_ok (fn := Tryz.f4) (n := 79) (by kernel_rfl) rfl (by kernel_rfl) rfl rfl (by simp) (go ?_)
  refine VAll.mk (fun b => go ?_)
  refine Fn.use (f_awake08) (go ?_)
  refine Fn.use (h1) (go ?_)
  cases p with
  | true =>
    refine go ?_
    refine VAll.mk (fun b4 => go ?_)
    refine Fn.use (f_miP b4) (go ?_)
    refine Fn.use (f_mlP b4) (go ?_)
    refine VRet.mk [] .nil ?_
    exact ⟨rfl, rfl⟩
  | false =>
    refine go ?_
    refine Fn.use (h2) (go ?_)
    by_cases k1 : k = 1
    · rw [if_pos k1] at hval
      subst hval k1
      refine go ?_
      refine Fn.use (h3) (go ?_)
      refine VIf.no (by simp) (go ?_)
      refine VRet.mk [] .nil ?_
      exact ⟨rfl, rfl⟩
    rw [if_neg k1] at hval
    have hmi : miR t = .tup [.int .i64 0, .bool false] := by
      rw [hval]
      repeat' split
      all_goals rfl
    rw [hmi]
    by_cases k4 : k = 4
    · subst k4
      simp only [show ¬ (4 : Int) = 2 by omega, show ¬ (4 : Int) = 3 by omega, if_false, if_true] at hval
      subst hval
      have hc4 := hc
      simp only [Tree.clean, Bool.and_eq_true, decide_eq_true_eq] at hc4
      have g1 := f_Trees hc4.2 hc4.1
      have g2 := f_Values hv'.2 hv'.1.2
      have hsm := clean_smallV (valTs l) hc4.2
      have g3 := f_SameAll hsm hsm (by simpa using hc4.1) (by simpa using hc4.1) [] [] false false
      rw [List.append_nil, sameVs_refl, valRVs_length] at g3
      rw [valTs_length] at g1 g3
      rw [show mlR (.list (valTs l)) = .tup [.fz (valAVs (valTs l)) l.length false, .bool true] by simp [mlR]] at h3
      refine go ?_
      refine Fn.use (h3) (go ?_)
      refine VQ.mk (.fz (rvsC (valRVs (valTs l))) l.length false) (by refine go ?_; refine Fn.use (g1) (go ?_); exact ⟨congrArg _ (rfl), rfl⟩) (go ?_)
      refine VQ.mk (.fz (valAVs (valTs l)) l.length false) (by refine go ?_; refine Fn.use (g2) (go ?_); exact ⟨congrArg _ (rfl), rfl⟩) (go ?_)
      refine VQ.mk (.fz (rvsC (valRVs (valTs l))) l.length false) (by refine go ?_; refine Fn.use (g1) (go ?_); exact ⟨congrArg _ (rfl), rfl⟩) (go ?_)
      refine VQ.mk (.bool true) (by refine go ?_; refine Fn.use (g3) (go ?_); exact ⟨congrArg _ (rfl), rfl⟩) (go ?_)
      refine VRet.mk [] .nil ?_
      exact ⟨rfl, rfl⟩
    · have hml : mlR t = .tup [.fz [] 0 false, .bool false] := by
        rw [hval, if_neg k4]
        repeat' split
        all_goals rfl
      rw [hml] at h3
      refine go ?_
      refine Fn.use (h3) (go ?_)
      refine VIf.yes (by simp [k1]) (go ?_)
      refine VIf.no (by simp [k1]) (go ?_)
      refine VIf.no (by simp [k4]) (go ?_)
      refine VRet.mk [] .nil ?_
      exact ⟨rfl, rfl⟩
end Go.Proofs.YtbmplclnondfnaaGreatDoor

namespace Go.Proofs.YtbmplclnondfnaaGreatDoor
open Go Go.Av
mutual
theorem bulk_fitV : ∀ v : RV, v.inp = true → v.bulk ≤ 1000000000 → (valRV (valT v)).fit = true
  | .mk k n s l, h, hb => by
    simp only [RV.inp, Bool.and_eq_true, decide_eq_true_eq] at h
    rw [RV.bulk] at hb
    rw [valT]
    repeat' split
    all_goals first
    | rfl
    | (simp [valRV, RV.fit, fitAll]; done)
    | (simp only [valRV, RV.fit, Bool.and_eq_true, decide_eq_true_eq, valRVs_length, itemRVs_length, valTs_length, itemTs_length]
       exact ⟨⟨h.1.2, fun _ => by simp⟩, by first | exact bulk_fitVs l h.2 (by omega) | exact bulk_fitIs l h.2 (by omega)⟩)
theorem bulk_fitVs : ∀ l : List RV, inpAll l = true → bulkAll l ≤ 1000000000 → fitAll (valRVs (valTs l)) = true
  | [], _, _ => by simp [valTs, valRVs, fitAll]
  | v :: r, h, hb => by
    simp only [inpAll, Bool.and_eq_true] at h
    rw [bulkAll] at hb
    simp only [valTs, valRVs, fitAll, Bool.and_eq_true]
    exact ⟨bulk_fitV v h.1 (by omega), bulk_fitVs r h.2 (by omega)⟩
theorem bulk_fitIs : ∀ l : List RV, inpAll l = true → bulkAll l ≤ 1000000000 → fitAll (itemRVs (itemTs l)) = true
  | [], _, _ => by simp [itemTs, itemRVs, fitAll]
  | v :: r, h, hb => by
    simp only [inpAll, Bool.and_eq_true] at h
    rw [bulkAll] at hb
    rw [itemTs_cons, itemRVs_cons]
    simp only [fitAll, Bool.and_eq_true]
    refine ⟨?_, bulk_fitIs r h.2 (by omega)⟩
    unfold itemT
    split
    · rename_i h7
      obtain ⟨k, n, s, l⟩ := v
      rw [RV.bulk] at hb
      show RV.fit (.mk 7 0 s []) = true
      simp only [RV.fit, fitAll, Bool.and_true, Bool.and_eq_true, decide_eq_true_eq]
      exact ⟨by simp, fun _ => by omega⟩
    · rename_i h7
      have := bulk_fitV v h.1 (by omega)
      have hk : (valT v).isCall = false := by
        obtain ⟨k, n, s, l⟩ := v
        rw [valT]; repeat' split
        all_goals rfl
      rw [item_val hk]; exact this
end
mutual
theorem inp_nmS : ∀ v : RV, v.inp = true → (valT v).nmS = true
  | .mk k n s l, h => by
    simp only [RV.inp, Bool.and_eq_true, decide_eq_true_eq] at h
    rw [valT]
    repeat' split
    all_goals first
    | rfl
    | (rw [Tree.nmS]; first | exact inp_nmSV l h.2 | exact inp_nmSI l h.2)
theorem inp_nmSV : ∀ l : List RV, inpAll l = true → nmSAll (valTs l) = true
  | [], _ => by simp [valTs, nmSAll]
  | v :: r, h => by
    simp only [inpAll, Bool.and_eq_true] at h
    simp only [valTs, nmSAll, Bool.and_eq_true]
    exact ⟨inp_nmS v h.1, inp_nmSV r h.2⟩
theorem inp_nmSI : ∀ l : List RV, inpAll l = true → nmSAll (itemTs l) = true
  | [], _ => by simp [itemTs, nmSAll]
  | v :: r, h => by
    simp only [inpAll, Bool.and_eq_true] at h
    rw [itemTs]
    simp only [nmSAll, Bool.and_eq_true]
    refine ⟨?_, inp_nmSI r h.2⟩
    split
    · obtain ⟨k, n, s, l⟩ := v
      simp only [RV.inp, Bool.and_eq_true, decide_eq_true_eq] at h
      rw [Tree.nmS]
      exact decide_eq_true (by show s.length ≤ _; omega)
    · exact inp_nmS v h.1
end
theorem f_vCheck {t : Tree} (hc : t.clean = true) (hs : t.nmS = true) : Av.Fn Tryz.prog 10 [valAV t] (.int .i64 (if (measT false t 1024 0).isSome = true then 0 else 1)) := by
  have h := f_tCheck hc hs
  refine ACalls.of_W tb_ok (fn := Tryz.f10) (n := 5) (by kernel_rfl) rfl (by kernel_rfl) rfl rfl (by simp) (go ?_)
  refine Fn.use (h) (go ?_)
  refine VRet.mk [] .nil ?_
  exact ⟨rfl, rfl⟩
def equalV (t u : Tree) : AV := if (measT false t 1024 0).isSome = true ∧ (measT false u 1024 0).isSome = true then .tup [.bool (sameV (valRV t) (valRV u)), .int .i64 0] else .tup [.bool false, .int .i64 1]
theorem f_Equal {t u : Tree} (hct : t.clean = true) (hcu : u.clean = true) (hst : t.nmS = true) (hsu : u.nmS = true) : Av.Fn Tryz.prog 20 [valAV t, valAV u] (equalV t u) := by
  have h1 := f_vCheck hct hst
  have h2 := f_vCheck hcu hsu
  have h3 := fun ht hu => f_tSame hct hcu (meas_full false t 1024 0 ht) (meas_full false u 1024 0 hu)
  unfold equalV
  generalize (measT false t 1024 0).isSome = p at h1 h3 ⊢
  generalize (measT false u 1024 0).isSome = q at h2 h3 ⊢
  refine ACalls.of_W tb_ok (fn := Tryz.f20) (n := 17) (by kernel_rfl) rfl (by kernel_rfl) rfl rfl (by simp) (go ?_)
  refine Fn.use (h1) (go ?_)
  cases p with
  | false =>
    refine go ?_
    refine VRet.mk [] .nil ?_
    exact ⟨rfl, rfl⟩
  | true =>
    refine go ?_
    refine Fn.use (h2) (go ?_)
    cases q with
    | false =>
      refine go ?_
      refine VRet.mk [] .nil ?_
      exact ⟨rfl, rfl⟩
    | true =>
      refine go ?_
      refine Fn.use (h3 rfl rfl) (go ?_)
      refine VRet.mk [] .nil ?_
      exact ⟨rfl, rfl⟩
theorem f_ValueEqual (v w : RV) (hv : v.inp = true) (hw : w.inp = true) (bv : v.bulk ≤ 1048576) (bw : w.bulk ≤ 1048576) : Av.Fn Tryz.prog 5 [.agg (rvAV v), .agg (rvAV w)] (.bool true) := by
  have hct := inp_clean v hv
  have hcu := inp_clean w hw
  have g1 := f_Value hv
  have g2 := f_Value hw
  have g3 := f_Tree hct
  have g4 := f_Tree hcu
  have g5 := f_Equal hct hcu (inp_nmS v hv) (inp_nmS w hw)
  have g6 := f_Sound _ (bulk_fitV v hv (by omega))
  have g7 := f_Sound _ (bulk_fitV w hw (by omega))
  have g8 := f_Same (clean_small _ hct) (clean_small _ hcu)
  rw [decide_eq_true (valRV_kind _), Bool.and_true, ← meas_top] at g6 g7
  unfold equalV at g5
  obtain ⟨k, n, s, l⟩ := v
  obtain ⟨k', n', s', l'⟩ := w
  rw [rvAV] at g1 g2 ⊢
  rw [rvAV]
  generalize (measT false (valT (.mk k n s l)) 1024 0).isSome = p at g5 g6
  generalize (measT false (valT (.mk k' n' s' l')) 1024 0).isSome = q at g5 g7
  generalize valT (.mk k n s l) = t at *
  generalize valT (.mk k' n' s' l') = u at *
  generalize sameV (valRV t) (valRV u) = r at *
  generalize valRV t = x at *
  generalize valRV u = y at *
  obtain ⟨kx, nx, sx, lx⟩ := x
  obtain ⟨ky, ny, sy, ly⟩ := y
  rw [rvAV] at g3 g4 g6 g7
  rw [rvAV, rvAV] at g8
  refine ACalls.of_W tb_ok (fn := Tryz.f5) (n := 48) (by kernel_rfl) rfl (by kernel_rfl) rfl rfl (by simp) (go ?_)
  refine VAll.mk (fun b1 => go ?_)
  refine VAll.mk (fun b2 => go ?_)
  refine Fn.use (f_awake08) (go ?_)
  refine VQ.mk ((valAV t)) (by refine go ?_; refine Fn.use (g1) (go ?_); exact ⟨congrArg _ (rfl), rfl⟩) (go ?_)
  refine VQ.mk ((valAV u)) (by refine go ?_; refine Fn.use (g2) (go ?_); exact ⟨congrArg _ (rfl), rfl⟩) (go ?_)
  refine Fn.use (g3) (go ?_)
  refine Fn.use (g4) (go ?_)
  cases p with
  | false =>
    refine go ?_
    refine Fn.use (g5) (go ?_)
    refine Fn.use (g6) (go ?_)
    refine VRet.mk [] .nil ?_
    exact ⟨rfl, rfl⟩
  | true =>
    cases q with
    | false =>
      refine go ?_
      refine Fn.use (g5) (go ?_)
      refine Fn.use (g6) (go ?_)
      refine Fn.use (g7) (go ?_)
      refine VRet.mk [] .nil ?_
      exact ⟨rfl, rfl⟩
    | true =>
      refine go ?_
      refine Fn.use (g5) (go ?_)
      refine Fn.use (g6) (go ?_)
      refine Fn.use (g7) (go ?_)
      refine Fn.use (g8) (go ?_)
      refine VRet.mk [] .nil ⟨congrArg (fun b => AOut.ret (.bool b)) ?_, rfl⟩
      simp
end Go.Proofs.YtbmplclnondfnaaGreatDoor

namespace Go.Proofs.YtbmplclnondfnaaGreatDoor
open Go Go.Av
mutual
theorem bk_upto {H : Type} : ∀ d : DataW H, bk d ≤ Rows.uptoBulk d
  | .lit l => by cases l <;> simp [bk, Rows.uptoBulk]
  | .nil => by simp [bk, Rows.uptoBulk]
  | .ptr d => by have := bk_upto d; simp only [bk, Rows.uptoBulk]; omega
  | .slice es sp => by have := bkAll_upto es; have := bkAll_upto sp; simp only [bk, Rows.uptoBulk]; omega
  | .agg ps => by have := bkAll_upto ps; simp only [bk, Rows.uptoBulk]; omega
  | .iface t d => by have := bk_upto d; simp only [bk, Rows.uptoBulk]; omega
  | .map es => by have := bkEnts_upto es; simp only [bk, Rows.uptoBulk]; omega
  | .held h => by simp [bk, Rows.uptoBulk]
theorem bkAll_upto {H : Type} : ∀ l : List (DataW H), bkAll l ≤ Rows.uptoBulkAll l
  | [] => by simp [bkAll, Rows.uptoBulkAll]
  | d :: r => by have := bk_upto d; have := bkAll_upto r; simp only [bkAll, Rows.uptoBulkAll]; omega
theorem bkEnts_upto {H : Type} : ∀ l : List (Lit × DataW H), bkEnts l ≤ Rows.uptoBulkEntries l
  | [] => by simp [bkEnts, Rows.uptoBulkEntries]
  | (k, d) :: r => by
    have := bk_upto d; have := bkEnts_upto r
    simp only [bkEnts, Rows.uptoBulkEntries]
    cases k <;> simp only [Rows.uptoBulkEntry] <;> omega
end
end Go.Proofs.YtbmplclnondfnaaGreatDoor
