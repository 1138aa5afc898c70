/- The reference's trees as a row's arguments. Conditions: as each says. Effects: the law EffectJoins. Conditions: the slice is no longer than memory can hold. -/
import Derived.Test.YtliabblchkgclaaDoorX4
import Derived.Test.YtliabblchkgclaaDoorX10
set_option linter.all false
set_option maxRecDepth 20000
namespace Go.Proofs.YtliabblchkgclaaDoor
open Go Go.Av
mutual
def RV.bulk : RV → Nat
  | .mk _ _ s l => s.length + bulkAll l + 1
def bulkAll : List RV → Nat
  | [] => 0
  | v :: r => v.bulk + bulkAll r
end
theorem bulkAll_sum : ∀ l : List RV, bulkAll l = (l.map RV.bulk).sum
  | [] => rfl
  | v :: r => by rw [bulkAll, bulkAll_sum r]; rfl
theorem rvsC_flat : ∀ l : List RV, rvsC l = l.flatMap rvAV
  | [] => by simp [rvsC]
  | v :: r => by rw [rvsC, rvsC_flat r]; rfl
theorem inpAll_all {l : List RV} : (∀ v ∈ l, v.inp = true) → inpAll l = true := by
  intro h
  induction l with
  | nil => simp [inpAll]
  | cons v l ih => simp only [inpAll, Bool.and_eq_true]; exact ⟨h v (List.mem_cons_self), ih fun w hw => h w (List.mem_cons_of_mem _ hw)⟩
theorem wf_i64 {n : Int} (h : (Lit.int .i64 n).wf = true) : -9223372036854775808 ≤ n ∧ n ≤ 9223372036854775807 := by
  simp only [Lit.wf, Bool.and_eq_true, decide_eq_true_eq] at h
  rw [show IntKind.i64.min = -9223372036854775808 by decide, show IntKind.i64.max = 9223372036854775807 by decide] at h
  exact h
section
variable {H : Type} {enc : TypeId × Value → H} {W : World}
theorem reads_VL (fuel : Nat) : Reads enc Tryd.prog W 28 fuel rvAV (fun v => v.inp = true) RV.bulk ∧
    Reads enc Tryd.prog W 22 fuel (fun l => [.fz (rvsC l) l.length false]) (fun l => l.length ≤ 2513169434916 ∧ inpAll l = true) (fun l => bulkAll l + 1) := by
  induction fuel with
  | zero => exact ⟨.zero, .zero⟩
  | succ fuel ih =>
    refine ⟨?_, ?_⟩
    · have hf : ReadsF enc Tryd.prog W fuel 0 [⟨"K", 3, 0, false, "", "", 0⟩, ⟨"N", 2, 1, false, "", "", 8⟩, ⟨"S", 9, 2, false, "", "", 16⟩, ⟨"L", 22, 3, false, "", "", 32⟩] (1 + (1 + (1 + (1 + 0)))) _ _ _ :=
        .cons rfl (by kernel_rfl) (reads_int (Tryd.underlying3) fuel) (.cons rfl (by kernel_rfl) (reads_int (Tryd.underlying2) fuel) (.cons rfl (by kernel_rfl) (reads_str (Tryd.underlying9) fuel) (.cons rfl (by kernel_rfl) ih.2 .nil)))
      have h := reads_struct (Tryd.underlying28) (by kernel_rfl) hf
      refine h.map (fun x => .mk x.1 x.2.1 x.2.2.1 x.2.2.2.1) (fun x => ?_) (fun x hx => ?_) (fun x => ?_)
      · simp [rvAV]
      · obtain ⟨h1, h2, h3, ⟨h4, h5⟩, _⟩ := hx
        have h1 := wf_i64 h1
        have h2 := wf_i64 h2
        have h3 : x.2.2.1.length ≤ 140737488351232 := h3
        simp only [RV.inp, h5, Bool.and_true, Bool.and_eq_true, decide_eq_true_eq]
        exact ⟨⟨⟨h1, h2⟩, h3⟩, h4⟩
      · simp only [RV.bulk]; omega
    · have h := reads_slice (Tryd.underlying22) (esz := 4) (by kernel_rfl) (by omega) ih.1 (enc := enc) (W := W)
      refine h.map (fun l => l) (fun l => by rw [rvsC_flat]) (fun l hl => ?_) (fun l => by rw [bulkAll_sum]; exact Nat.le_refl _)
      refine ⟨?_, inpAll_all hl.2⟩
      have h1 := hl.1
      rw [show Tryd.prog.bytesOf 28 = 56 by kernel_rfl, show reachBytes = 140737488351232 by decide] at h1
      omega
theorem arg_struct {P : Program} {W : World} {r : Reach} {base : Nat} {t : TypeId} {fs : Array Field} {v : Value} (hu : P.underlying t = some (.struct fs)) (h : Value.okWide P W r base t v) : ∃ cs, v = .agg cs := by
  unfold Value.okWide at h
  rw [hu] at h
  obtain ⟨cs, e, _⟩ := h
  exact ⟨cs, e⟩
theorem arg_slice {P : Program} {W : World} {r : Reach} {base : Nat} {t e : TypeId} {v : Value} (hu : P.underlying t = some (.slice e)) (h : Value.okWide P W r base t v) : v.cells.toList = [v] ∧ v.oneCell' = true := by
  unfold Value.okWide at h
  rw [hu] at h
  have h : Cell.okWide P W r base t v := h
  unfold Cell.okWide Cell.ok at h
  rw [hu] at h
  cases v <;> first | exact ⟨rfl, rfl⟩ | (exact h.elim)
theorem rel1_of {g : Gh} {c : AV} {v : Value} (h : RelL g true [c] [v]) : Rel g c v := by
  obtain ⟨u, ws, e, ⟨h1, _⟩, _⟩ := h
  injection e with e1 _
  subst e1
  exact h1
theorem relA_of {g : Gh} {C : List AV} {cs : Array Value} (h : RelL g true C (Value.agg cs).cells.toList) : Rel g (.agg C) (.agg cs) := ⟨cs.toList, rfl, h⟩
theorem laid_ok : laidOutB Tryd.prog = true := by kernel_rfl
end
end Go.Proofs.YtliabblchkgclaaDoor

namespace Go.Proofs.YtliabblchkgclaaDoor
open Go Go.Av
/-- A list of values that are not known. -/
def nS (l i m : Nat) : EfS := ⟨l, (i : Int), List.replicate m none⟩
theorem pop_n (l i m : Nat) : popS (nS l i m) = (none, nS l (i + (1 - m)) (m - 1)) := by
  cases m with
  | zero => rfl
  | succ m => rw [show 1 - (m + 1) = 0 by omega, Nat.add_sub_cancel]; rfl
theorem pops_n : ∀ (n l i m : Nat), popsS n (nS l i m) = (List.replicate n none, nS l (i + (n - m)) (m - n))
  | 0, l, i, m => by
    show ([], nS l i m) = _
    rw [Nat.zero_sub, Nat.add_zero, Nat.sub_zero]; rfl
  | n + 1, l, i, m => by
    have h := pops_n n l (i + (1 - m)) (m - 1)
    unfold popsS
    rw [pop_n]
    dsimp only
    rw [h]
    dsimp only
    rw [show List.replicate n (none : Slot) ++ [none] = List.replicate (n + 1) none from (List.replicate_succ' ..).symm, show i + (1 - m) + (n - (m - 1)) = i + (n + 1 - m) by omega, show m - 1 - n = m - (n + 1) by omega]
theorem apply_n (a b l i m : Nat) : applyS a b (nS l i m) = nS l (i + (a - m)) (b + (m - a)) := by
  unfold applyS
  rw [pops_n]
  show EfS.mk _ _ _ = EfS.mk _ _ _
  congr 1
  exact (List.replicate_append_replicate ..)
theorem moves_n (k : Nat) (ks : List Nat) (l i m : Nat) : movesS k ks (nS l i m) = nS l (i + (k - m)) (ks.length + (m - k)) := by
  unfold movesS
  rw [pops_n]
  dsimp only
  have : ∀ (ks : List Nat) (j q : Nat), ks.foldl (fun t x => pushS t ((List.replicate k (none : Slot)).getD x none)) (nS l j q) = nS l j (ks.length + q) := by
    intro ks
    induction ks with
    | nil => intro j q; simp
    | cons x ks ih =>
      intro j q
      rw [List.foldl_cons]
      have e : (List.replicate k (none : Slot)).getD x none = none := by
        rw [List.getD_eq_getElem?_getD]
        cases hq : (List.replicate k (none : Slot))[x]? with
        | none => rfl
        | some y => exact (List.mem_replicate.1 (List.mem_of_getElem? hq)).2
      rw [e, show pushS (nS l j q) none = nS l j (q + 1) from rfl, ih]
      congr 1
      rw [List.length_cons]; omega
  exact this ks _ _
/-- What a simple item takes and leaves. -/
def cntT : Tree → Nat × Nat
  | .call s => (primR s).getD (0, 0)
  | _ => (0, 1)
def simT : Tree → Bool
  | .call s => (primR s).isSome
  | .quot _ => false
  | _ => true
def foldC : List Tree → Nat × Nat → Nat × Nat
  | [], x => x
  | t :: r, x => foldC r (x.1 + ((cntT t).1 - x.2), (cntT t).2 + (x.2 - (cntT t).1))
theorem foldC_cons (t : Tree) (r : List Tree) (x : Nat × Nat) : foldC (t :: r) x = foldC r (x.1 + ((cntT t).1 - x.2), (cntT t).2 + (x.2 - (cntT t).1)) := rfl
theorem fold_shift : ∀ (ts : List Tree) (i m : Nat), foldC ts (i, m) = (i + ((foldC ts (0, 0)).1 - m), (foldC ts (0, 0)).2 + (m - (foldC ts (0, 0)).1))
  | [], i, m => by simp [foldC]
  | t :: r, i, m => by
    have h1 := fold_shift r (i + ((cntT t).1 - m)) ((cntT t).2 + (m - (cntT t).1))
    have h2 := fold_shift r (0 + ((cntT t).1 - 0)) ((cntT t).2 + (0 - (cntT t).1))
    unfold foldC
    dsimp only
    rw [h1, h2]
    generalize foldC r (0, 0) = w
    obtain ⟨p, q⟩ := w
    generalize cntT t = c
    obtain ⟨a, b⟩ := c
    dsimp only
    rw [Prod.mk.injEq]
    omega
theorem fold_append : ∀ (a b : List Tree) (x : Nat × Nat), foldC (a ++ b) x = foldC b (foldC a x)
  | [], b, x => rfl
  | t :: a, b, x => by rw [List.cons_append, foldC_cons, fold_append a b, foldC_cons]
theorem control_prim {run : List Tree → EfS → Except Int EfS} {s : List UInt8} (h : (primR s).isSome = true) (t : EfS) : controlS run s t = none := by
  unfold controlS
  have ne : ∀ w : List UInt8, primR w = none → s ≠ w := fun w hw e => by subst e; rw [hw] at h; cases h
  rw [if_neg (ne _ (by decide)), if_neg (ne _ (by decide)), if_neg (ne _ (by decide)), if_neg (ne _ (by decide)), if_neg (fun h => h.elim (ne _ (by decide)) (ne _ (by decide))), if_neg (ne _ (by decide)), if_neg (ne _ (by decide))]
theorem step_sim {t : Tree} (h : simT t = true) (l i m : Nat) : stepS (runL K0) K0 t (nS l i m) = .ok (nS l (i + ((cntT t).1 - m)) ((cntT t).2 + (m - (cntT t).1))) := by
  have push : Except.ok (pushS (nS l i m) none) = Except.ok (ε := Int) (nS l (i + (0 - m)) (1 + (m - 0))) := by
    rw [show pushS (nS l i m) none = nS l i (m + 1) from rfl]
    congr 2 <;> omega
  unfold stepS
  cases t with
  | call s =>
    dsimp only
    have h : (primR s).isSome = true := h
    cases hp : primR s with
    | none => rw [hp] at h; cases h
    | some x =>
      obtain ⟨a, b⟩ := x
      have hc : cntT (.call s) = (a, b) := by show (primR s).getD (0, 0) = _; rw [hp]; rfl
      rw [hc]
      cases hm : moveR s with
      | some y =>
        obtain ⟨k, ks⟩ := y
        have := move_prim hm
        rw [hp] at this
        obtain ⟨rfl, rfl⟩ := Prod.mk.inj (Option.some.inj this)
        dsimp only
        rw [moves_n]
      | none =>
        dsimp only
        rw [control_prim h]
        dsimp only
        rw [apply_n]
  | quot q => cases h
  | none => exact push
  | odd u v => exact push
  | int n => exact push
  | str n => exact push
  | bool n => exact push
  | list n => exact push
  | box n => exact push
theorem run_sim : ∀ (ts : List Tree) (l i m : Nat), (∀ t ∈ ts, simT t = true) → ts.length ≤ l → runL K0 ts (nS l i m) = .ok (nS (l - ts.length) (foldC ts (i, m)).1 (foldC ts (i, m)).2)
  | [], l, i, m, _, _ => by rw [runL_nil]; rfl
  | t :: r, l, i, m, h, hl => by
    rw [List.length_cons] at hl
    rw [runL_cons hk0, if_neg (by show ¬ l = 0; omega)]
    rw [show ({ nS l i m with left := (nS l i m).left - 1 } : EfS) = nS (l - 1) i m from rfl, step_sim (h t (List.mem_cons_self ..))]
    dsimp only
    rw [run_sim r _ _ _ (fun x hx => h x (List.mem_cons_of_mem _ hx)) (by omega)]
    rw [foldC_cons, List.length_cons, show l - 1 - r.length = l - (r.length + 1) by omega]
theorem of0_sim {ts : List Tree} (h : ∀ t ∈ ts, simT t = true) (hl : ts.length ≤ 4096) :
    of0 ts = if checkR ts = false then (0, 0, 1) else if fitsR (foldC ts (0, 0)).1 (foldC ts (0, 0)).2 = true then (((foldC ts (0, 0)).1 : Int), ((foldC ts (0, 0)).2 : Int), 0) else (0, 0, 11) := by
  unfold of0
  rw [show (⟨4096, 0, []⟩ : EfS) = nS 4096 0 0 from rfl, run_sim ts _ _ _ h hl]
  unfold fin0
  dsimp only [nS]
  rw [List.length_replicate]
theorem j_code {ts : List Tree} (h : ∀ t ∈ ts, simT t = true) (hl : ts.length ≤ 4096) : (of0 ts).2.2 = 0 ∨ (of0 ts).2.2 = 1 ∨ (of0 ts).2.2 = 11 := by
  rw [of0_sim h hl]
  repeat' split
  · exact .inr (.inl rfl)
  · exact .inl rfl
  · exact .inr (.inr rfl)
theorem j_ok {ts : List Tree} (h : ∀ t ∈ ts, simT t = true) (hl : ts.length ≤ 4096) (hc : (of0 ts).2.2 = 0) :
    (of0 ts).1 = ((foldC ts (0, 0)).1 : Int) ∧ (of0 ts).2.1 = ((foldC ts (0, 0)).2 : Int) ∧ fitsR (foldC ts (0, 0)).1 (foldC ts (0, 0)).2 = true := by
  rw [of0_sim h hl] at hc ⊢
  split at hc
  · cases hc
  · rename_i h1
    rw [if_neg h1]
    split at hc
    · rename_i h2
      rw [if_pos h2]
      exact ⟨rfl, rfl, h2⟩
    · cases hc
/-- A beginning, and the rest behind it. -/
theorem j_join {a b : List Tree} (ha : ∀ t ∈ a, simT t = true) (hb : ∀ t ∈ b, simT t = true) (hl : (a ++ b).length ≤ 4096) (h : (of0 (a ++ b)).2.2 = 0) (h1 : (of0 a).2.2 = 0) (h2 : (of0 b).2.2 = 0) :
    (of0 (a ++ b)).1 = (of0 a).1 + max 0 ((of0 b).1 - (of0 a).2.1) ∧ (of0 (a ++ b)).2.1 = (of0 b).2.1 + max 0 ((of0 a).2.1 - (of0 b).1) := by
  rw [List.length_append] at hl
  obtain ⟨e1, e2, _⟩ := j_ok ha (by omega) h1
  obtain ⟨e3, e4, _⟩ := j_ok hb (by omega) h2
  obtain ⟨e5, e6, _⟩ := j_ok (ts := a ++ b) (fun t ht => (List.mem_append.1 ht).elim (ha t) (hb t)) (by rw [List.length_append]; omega) h
  rw [e1, e2, e3, e4, e5, e6, fold_append]
  generalize foldC a (0, 0) = x
  obtain ⟨i, m⟩ := x
  rw [fold_shift b i m]
  generalize foldC b (0, 0) = y
  obtain ⟨p, q⟩ := y
  dsimp only
  omega
theorem f_Then (ai ao bi bo : Int) (ha : fitsR ai ao = true) (hb : fitsR bi bo = true) (h : fitsR (ai + max 0 (bi - ao)) (bo + max 0 (ao - bi)) = true) :
    Av.Fn Tryd.prog 15 [.agg [.int .i64 ai, .int .i64 ao], .agg [.int .i64 bi, .int .i64 bo]] (.tup [.agg [.int .i64 (ai + max 0 (bi - ao)), .int .i64 (bo + max 0 (ao - bi))], .int .i64 0]) := by
  have f1 := f_fits ai ao
  have f2 := f_fits bi bo
  have f3 := f_fits (ai + max 0 (bi - ao)) (bo + max 0 (ao - bi))
  have a1 := fitsR_iff.1 ha
  have a2 := fitsR_iff.1 hb
  rw [ha] at f1
  rw [hb] at f2
  rw [h] at f3
  refine ACalls.of_W tb_ok (fn := Tryd.f15) (n := 40) (by kernel_rfl) rfl (by kernel_rfl) rfl rfl (by simp) (go ?_)
  refine VAll.mk (fun b2 => go ?_)
  refine VAll.mk (fun b3 => go ?_)
  refine VAll.mk (fun b4 => go ?_)
  refine Fn.use (f1) (go ?_)
  refine Fn.use (f2) (go ?_)
  refine VAll.mk (fun b6 => go ?_)
  refine Fn.use (f3) (go ?_)
  refine VRet.mk [] .nil ?_
  exact ⟨rfl, rfl⟩
theorem sim_of {v : RV} (h : simpleR v = true) : simT (itemT v) = true := by
  obtain ⟨k, n, s, l⟩ := v
  unfold simpleR at h
  have h : (if k = 7 then (primR s).isSome else decide (k ≠ 5)) = true := h
  by_cases h7 : k = 7
  · subst h7
    rw [if_pos rfl] at h
    exact h
  · rw [if_neg h7] at h
    have h5 : k ≠ 5 := by simpa using h
    rw [itemT, if_neg (show ¬ (RV.mk k n s l).knd = 7 from h7), valT]
    repeat' split
    all_goals first
      | rfl
      | contradiction
theorem fits_join {a b : List Tree} (ha : ∀ t ∈ a, simT t = true) (hb : ∀ t ∈ b, simT t = true) (hl : (a ++ b).length ≤ 4096) (h : (of0 (a ++ b)).2.2 = 0) (h1 : (of0 a).2.2 = 0) (h2 : (of0 b).2.2 = 0) :
    fitsR (of0 a).1 (of0 a).2.1 = true ∧ fitsR (of0 b).1 (of0 b).2.1 = true ∧ fitsR ((of0 a).1 + max 0 ((of0 b).1 - (of0 a).2.1)) ((of0 b).2.1 + max 0 ((of0 a).2.1 - (of0 b).1)) = true := by
  obtain ⟨j1, j2⟩ := j_join ha hb hl h h1 h2
  rw [← j1, ← j2]
  rw [List.length_append] at hl
  obtain ⟨e1, e2, e7⟩ := j_ok ha (by omega) h1
  obtain ⟨e3, e4, e8⟩ := j_ok hb (by omega) h2
  obtain ⟨e5, e6, e9⟩ := j_ok (ts := a ++ b) (fun t ht => (List.mem_append.1 ht).elim (ha t) (hb t)) (by rw [List.length_append]; omega) h
  rw [e1, e2, e3, e4, e5, e6]
  exact ⟨e7, e8, e9⟩
theorem clean_take {l : List Tree} (h : cleanAll l = true) (k : Nat) : cleanAll (l.take k) = true := by
  induction l generalizing k with
  | nil => simp [cleanAll]
  | cons t r ih =>
    simp only [cleanAll, Bool.and_eq_true] at h
    cases k with
    | zero => rfl
    | succ k => simp only [List.take_succ_cons, cleanAll, Bool.and_eq_true]; exact ⟨h.1, ih h.2 k⟩
theorem clean_drop {l : List Tree} (h : cleanAll l = true) (k : Nat) : cleanAll (l.drop k) = true := by
  induction l generalizing k with
  | nil => simp [cleanAll]
  | cons t r ih =>
    cases k with
    | zero => exact h
    | succ k =>
      simp only [cleanAll, Bool.and_eq_true] at h
      exact ih h.2 k
theorem nmS_take {l : List Tree} (h : nmSAll l = true) (k : Nat) : nmSAll (l.take k) = true := by
  induction l generalizing k with
  | nil => simp [nmSAll]
  | cons t r ih =>
    simp only [nmSAll, Bool.and_eq_true] at h
    cases k with
    | zero => rfl
    | succ k => simp only [List.take_succ_cons, nmSAll, Bool.and_eq_true]; exact ⟨h.1, ih h.2 k⟩
theorem nmS_drop {l : List Tree} (h : nmSAll l = true) (k : Nat) : nmSAll (l.drop k) = true := by
  induction l generalizing k with
  | nil => simp [nmSAll]
  | cons t r ih =>
    cases k with
    | zero => exact h
    | succ k =>
      simp only [nmSAll, Bool.and_eq_true] at h
      exact ih h.2 k
structure KeptI where
  i : Nat
  o : Option Nat
  K : List RV
theorem inp_append {a b : List RV} (ha : inpAll a = true) (hb : inpAll b = true) : inpAll (a ++ b) = true := by
  induction a with
  | nil => exact hb
  | cons x r ih =>
    simp only [inpAll, Bool.and_eq_true] at ha
    simp only [List.cons_append, inpAll, Bool.and_eq_true]
    exact ⟨ha.1, ih ha.2⟩
theorem rvsC_append (a b : List RV) : rvsC (a ++ b) = rvsC a ++ rvsC b := by simp [rvsC_flat]
@[simp] theorem rvsC_len (a : List RV) : (rvsC a).length = a.length * 4 := by
  induction a with
  | nil => rfl
  | cons v r ih =>
    rw [rvsC, List.length_append, ih, List.length_cons]
    obtain ⟨k, n, s, l⟩ := v
    rw [rvAV]
    simp only [List.length_cons, List.length_nil]; omega

set_option maxHeartbeats 4000000 in
theorem f_EffectJoins (l : List RV) (c : Int) (hl : l.length ≤ 2513169434916 ∧ inpAll l = true) (hc : 0 ≤ c ∧ c ≤ 255) :
    Av.Fn Tryd.prog 5 [.fz (rvsC l) l.length false, .int .u8 c] (.bool true) := by
  obtain ⟨hl1, hl2⟩ := hl
  refine ACalls.of_W tb_ok (fn := Tryd.f5) (n := 102) (by kernel_rfl) rfl (by kernel_rfl) rfl rfl (by simp) (go ?_)
  refine Fn.use (f_awake09) (go ?_)
  refine VLoop.mk [5, 6] KeptI (fun i => [accV i.o i.K.length, .int .i64 i.i]) (fun i => accS i.o 4 (rvsC i.K))
    (fun i => i.i ≤ l.length ∧ (i.o = none → i.K = []) ∧ inpAll i.K = true ∧ (∀ v ∈ i.K, simpleR v = true) ∧ i.K.length ≤ 60) (fun i => l.length - i.i) ⟨0, none, []⟩ ?_ ?_
  · exact ⟨⟨Nat.zero_le _, fun _ => rfl, rfl, (fun v hv => by cases hv), Nat.zero_le _⟩, rfl, .nil⟩
  rintro ⟨i, o, K⟩ ⟨hi, ho, hK, hS, h60⟩
  dsimp only at hi ho hK hS h60 ⊢
  by_cases hgo : i < l.length ∧ K.length < 60
  · obtain ⟨hlt, hl60⟩ := hgo
    obtain ⟨v, hv⟩ : ∃ v, l[i]? = some v := ⟨l[i], by simp [hlt]⟩
    have hinp := inpAll_at hl2 hv
    have hcell : (List.drop (mulN i 4) (rvsC l)).take 4 = rvAV v := by
      have := rvsC_at (r := []) hv
      rwa [List.append_nil, ← mulN_eq] at this
    have hsim := f_simple v
    have hnew : simpleR v = true → inpAll (K ++ [v]) = true ∧ (∀ x ∈ K ++ [v], simpleR x = true) ∧ (K ++ [v]).length ≤ 60 := fun h =>
      ⟨inp_append hK (by simp [inpAll, hinp]), fun x hx => (List.mem_append.1 hx).elim (hS x) fun h1 => by rw [List.mem_singleton.1 h1]; exact h, by simp; omega⟩
    have hlK := rvsC_len K
    obtain ⟨k, n, s, lv⟩ := v
    have hacc : rvsC (K ++ [.mk k n s lv]) = rvsC K ++ [.int .i64 k, .int .i64 n, .str s, .fz (rvsC lv) lv.length false] := by
      rw [rvsC_append]; simp [rvsC, rvAV]
    rw [rvAV] at hcell hsim
    refine go ?_
    refine VIf.yes (by simp; omega) (go ?_)
    cases o with
    | none =>
      obtain rfl : K = [] := ho rfl
      refine go ?_
      refine VTake.mk _ hcell rfl (go ?_)
      refine Fn.use (hsim) (go ?_)
      cases hs : simpleR (.mk k n s lv) with
      | true =>
        refine go ?_
        refine VTake.mk _ hcell rfl (go ?_)
        refine VAll.mk (fun b2 => go ?_)
        exact ⟨⟨i + 1, some b2, [.mk k n s lv]⟩, ⟨by dsimp only; omega, (fun h => by cases h), (hnew hs).1, (hnew hs).2.1, by simp⟩, by dsimp only; omega, rfl, .cons 0 (by dsimp only; rw [show ([RV.mk k n s lv] : List RV) = [] ++ [RV.mk k n s lv] from rfl, hacc]; rfl) .nil⟩
      | false =>
        refine go ?_
        exact ⟨⟨i + 1, none, []⟩, ⟨by dsimp only; omega, fun _ => rfl, hK, hS, h60⟩, by dsimp only; omega, rfl, .nil⟩
    | some bo =>
      refine go ?_
      refine VIf.yes (by simp; omega) (go ?_)
      refine VTake.mk _ hcell rfl (go ?_)
      refine Fn.use (hsim) (go ?_)
      cases hs : simpleR (.mk k n s lv) with
      | true =>
        refine go ?_
        refine VTake.mk _ hcell rfl (go ?_)
        refine VGd.mk ⟨rfl, Nat.zero_le _, by rw [mulN_eq, hlK]; exact Nat.le_refl _, by dsimp only; omega⟩ (go ?_)
        refine VAll.mk (fun b2 => go ?_)
        refine ⟨⟨i + 1, some b2, K ++ [.mk k n s lv]⟩, ⟨by dsimp only; omega, (fun h => by cases h), (hnew hs).1, (hnew hs).2.1, (hnew hs).2.2⟩, by dsimp only; omega, ?_, .cons 0 ?_ .nil⟩
        · simp [accV]
        · dsimp only
          rw [hacc, mulN_eq, List.take_of_length_le (by rw [hlK]; exact Nat.le_refl _)]; rfl
      | false =>
        refine go ?_
        exact ⟨⟨i + 1, some bo, K⟩, ⟨by dsimp only; omega, (fun h => by cases h), hK, hS, h60⟩, by dsimp only; omega, rfl, .cons 0 rfl .nil⟩
  · have hcK : cleanAll (itemTs K) = true := inp_cleanI K hK
    have hnK : nmSAll (itemTs K) = true := inp_nmSI K hK
    have hKl : K.length ≤ 2513169434916 := by omega
    have hI := f_ItemsOf hK hKl
    have hlK := rvsC_len K
    have htk : (rvsC K).take (K.length * 4) = rvsC K := List.take_of_length_le (by omega)
    have hT : (itemTs K).length = K.length := itemTs_length K
    have hsT : ∀ t ∈ itemTs K, simT t = true := by
      intro t ht
      rw [itemTs_map] at ht
      obtain ⟨v, hv, rfl⟩ := List.mem_map.1 ht
      exact sim_of (hS v hv)
    have hkm : ∃ k : Nat, c.tmod ((K.length : Int) + 1) = (k : Int) ∧ k ≤ K.length := by
      have h1 := Int.tmod_nonneg ((K.length : Int) + 1) hc.1
      have h2 := Int.tmod_lt_of_pos c (show (0 : Int) < (K.length : Int) + 1 by omega)
      exact ⟨(c.tmod ((K.length : Int) + 1)).toNat, by omega, by omega⟩
    have hOf : ∀ t : List Tree, t.length ≤ 60 → cleanAll t = true → nmSAll t = true → Av.Fn Tryd.prog 8 [.fz (itemAVs t) t.length false, .fz [] 0 false] (ofV (of0 t)) := by
      intro t h1 h2 h3
      have := f_Of t [] (by simp only [Tree.clean, Bool.and_eq_true, decide_eq_true_eq]; exact ⟨by omega, h2⟩) (by simp only [Tree.nmS]; exact h3) (by simp)
      rw [ofR_nil] at this
      exact this
    have hO := hOf (itemTs K) (by omega) hcK hnK
    rw [hT] at hO
    by_cases hlt : i < l.length
    · have h60 : K.length = 60 := by omega
      cases o with
      | none =>
        have := ho rfl
        subst this
        simp at h60
      | some bo =>
        refine go ?_
        refine VIf.yes (by simp; omega) (go ?_)
        refine VIf.no (by simp; omega) (go ?_)
        rw [htk]
        obtain ⟨k, hk, hkl⟩ := hkm
        have hO1 := hOf ((itemTs K).take k) (by rw [List.length_take]; omega) (clean_take hcK k) (nmS_take hnK k)
        have hO2 := hOf ((itemTs K).drop k) (by rw [List.length_drop]; omega) (clean_drop hcK k) (nmS_drop hnK k)
        rw [itemAVs_map, List.map_take, ← itemAVs_map, List.length_take, show min k (itemTs K).length = k by rw [hT]; exact Nat.min_eq_left hkl, ← show mulN k 1 = k by rw [mulN_eq, Nat.mul_one]] at hO1
        rw [show mulN k 1 = k by rw [mulN_eq, Nat.mul_one]] at hO1
        rw [itemAVs_map, List.map_drop, ← itemAVs_map, List.length_drop, hT] at hO2
        have hO1 : Av.Fn Tryd.prog 8 [.fz (List.take (mulN k 1) (itemAVs (itemTs K))) k false, .fz [] 0 false] (ofV (of0 ((itemTs K).take k))) := by rw [mulN_eq, Nat.mul_one]; exact hO1
        have hO2 : Av.Fn Tryd.prog 8 [.fz (List.drop (mulN k 1) (List.take (mulN (K : List RV).length 1) (itemAVs (itemTs K)))) ((K : List RV).length - k) false, .fz [] 0 false] (ofV (of0 ((itemTs K).drop k))) := by rw [mulN_eq, mulN_eq, Nat.mul_one, Nat.mul_one, List.take_of_length_le (by rw [itemAVs_length, hT]; exact Nat.le_refl _)]; exact hO2
        have j0 := j_code hsT (by rw [hT]; omega)
        have j1 := j_join (a := (itemTs K).take k) (b := (itemTs K).drop k) (fun t ht => hsT t (List.mem_of_mem_take ht)) (fun t ht => hsT t (List.mem_of_mem_drop ht)) (by rw [List.take_append_drop, hT]; omega)
        have j2 := fits_join (a := (itemTs K).take k) (b := (itemTs K).drop k) (fun t ht => hsT t (List.mem_of_mem_take ht)) (fun t ht => hsT t (List.mem_of_mem_drop ht)) (by rw [List.take_append_drop, hT]; omega)
        rw [List.take_append_drop] at j1 j2
        refine Fn.use (hI) (go ?_)
        rw [hk]
        generalize of0 (itemTs K) = w0 at hO j0 j1 j2
        generalize of0 ((itemTs K).take k) = w1 at hO1 j1 j2
        generalize of0 ((itemTs K).drop k) = w2 at hO2 j1 j2
        obtain ⟨i0, u0, e0⟩ := w0
        obtain ⟨i1, u1, e1⟩ := w1
        obtain ⟨i2, u2, e2⟩ := w2
        dsimp only at j0 j1 j2
        refine Fn.use (hO) (go ?_)
        refine VAll.mk (fun b9 => go ?_)
        refine Fn.use (hO1) (go ?_)
        refine VAll.mk (fun b11 => go ?_)
        refine Fn.use (hO2) (go ?_)
        refine VAll.mk (fun b13 => go ?_)
        by_cases h0 : e0 = 0 ∧ e1 = 0 ∧ e2 = 0
        · obtain ⟨rfl, rfl, rfl⟩ := h0
          obtain ⟨z1, z2⟩ := j1 rfl rfl rfl
          obtain ⟨z3, z4, z5⟩ := j2 rfl rfl rfl
          have hTh := f_Then i1 u1 i2 u2 z3 z4 z5
          rw [← z1, ← z2] at hTh
          refine VIf.no (by simp) (go ?_)
          refine Fn.use (hTh) (go ?_)
          refine VAll.mk (fun b15 => go ?_)
          refine VRet.mk [] .nil ?_
          exact ⟨by simp, rfl⟩
        · rcases j0 with rfl | rfl | rfl
          · refine VIf.no (by simp) (go ?_)
            by_cases h1 : e1 = 0
            · subst h1
              have h2 : e2 ≠ 0 := fun h => h0 ⟨rfl, rfl, h⟩
              refine VIf.no (by simp) (go ?_)
              refine VIf.yes (by simpa using h2) (go ?_)
              refine VRet.mk [] .nil ?_
              exact ⟨rfl, rfl⟩
            · refine VIf.yes (by simpa using h1) (go ?_)
              refine VRet.mk [] .nil ?_
              exact ⟨rfl, rfl⟩
          · refine VIf.yes (by simp) (go ?_)
            refine VRet.mk [] .nil ?_
            exact ⟨rfl, rfl⟩
          · refine VIf.yes (by simp) (go ?_)
            refine VRet.mk [] .nil ?_
            exact ⟨by simp, rfl⟩
    · cases o with
      | none =>
        obtain rfl : K = [] := ho rfl
        refine go ?_
        refine VIf.no (by simp; omega) (go ?_)
        obtain ⟨k, hk, hkl⟩ := hkm
        have hO1 := hOf ((itemTs []).take k) (by rw [List.length_take]; omega) (clean_take hcK k) (nmS_take hnK k)
        have hO2 := hOf ((itemTs []).drop k) (by rw [List.length_drop]; omega) (clean_drop hcK k) (nmS_drop hnK k)
        rw [itemAVs_map, List.map_take, ← itemAVs_map, List.length_take, show min k (itemTs []).length = k by rw [hT]; exact Nat.min_eq_left hkl, ← show mulN k 1 = k by rw [mulN_eq, Nat.mul_one]] at hO1
        rw [show mulN k 1 = k by rw [mulN_eq, Nat.mul_one]] at hO1
        rw [itemAVs_map, List.map_drop, ← itemAVs_map, List.length_drop, hT] at hO2
        have hO1 : Av.Fn Tryd.prog 8 [.fz (List.take (mulN k 1) (itemAVs (itemTs []))) k false, .fz [] 0 false] (ofV (of0 ((itemTs []).take k))) := by rw [mulN_eq, Nat.mul_one]; exact hO1
        have hO2 : Av.Fn Tryd.prog 8 [.fz (List.drop (mulN k 1) (List.take (mulN ([] : List RV).length 1) (itemAVs (itemTs [])))) (([] : List RV).length - k) false, .fz [] 0 false] (ofV (of0 ((itemTs []).drop k))) := by rw [mulN_eq, mulN_eq, Nat.mul_one, Nat.mul_one, List.take_of_length_le (by rw [itemAVs_length, hT]; exact Nat.le_refl _)]; exact hO2
        have j0 := j_code hsT (by rw [hT]; omega)
        have j1 := j_join (a := (itemTs []).take k) (b := (itemTs []).drop k) (fun t ht => hsT t (List.mem_of_mem_take ht)) (fun t ht => hsT t (List.mem_of_mem_drop ht)) (by rw [List.take_append_drop, hT]; omega)
        have j2 := fits_join (a := (itemTs []).take k) (b := (itemTs []).drop k) (fun t ht => hsT t (List.mem_of_mem_take ht)) (fun t ht => hsT t (List.mem_of_mem_drop ht)) (by rw [List.take_append_drop, hT]; omega)
        rw [List.take_append_drop] at j1 j2
        refine Fn.use (hI) (go ?_)
        rw [hk]
        generalize of0 (itemTs []) = w0 at hO j0 j1 j2
        generalize of0 ((itemTs []).take k) = w1 at hO1 j1 j2
        generalize of0 ((itemTs []).drop k) = w2 at hO2 j1 j2
        obtain ⟨i0, u0, e0⟩ := w0
        obtain ⟨i1, u1, e1⟩ := w1
        obtain ⟨i2, u2, e2⟩ := w2
        dsimp only at j0 j1 j2
        refine Fn.use (hO) (go ?_)
        refine VAll.mk (fun b9 => go ?_)
        refine Fn.use (hO1) (go ?_)
        refine VAll.mk (fun b11 => go ?_)
        refine Fn.use (hO2) (go ?_)
        refine VAll.mk (fun b13 => go ?_)
        by_cases h0 : e0 = 0 ∧ e1 = 0 ∧ e2 = 0
        · obtain ⟨rfl, rfl, rfl⟩ := h0
          obtain ⟨z1, z2⟩ := j1 rfl rfl rfl
          obtain ⟨z3, z4, z5⟩ := j2 rfl rfl rfl
          have hTh := f_Then i1 u1 i2 u2 z3 z4 z5
          rw [← z1, ← z2] at hTh
          refine VIf.no (by simp) (go ?_)
          refine Fn.use (hTh) (go ?_)
          refine VAll.mk (fun b15 => go ?_)
          refine VRet.mk [] .nil ?_
          exact ⟨by simp, rfl⟩
        · rcases j0 with rfl | rfl | rfl
          · refine VIf.no (by simp) (go ?_)
            by_cases h1 : e1 = 0
            · subst h1
              have h2 : e2 ≠ 0 := fun h => h0 ⟨rfl, rfl, h⟩
              refine VIf.no (by simp) (go ?_)
              refine VIf.yes (by simpa using h2) (go ?_)
              refine VRet.mk [] .nil ?_
              exact ⟨rfl, rfl⟩
            · refine VIf.yes (by simpa using h1) (go ?_)
              refine VRet.mk [] .nil ?_
              exact ⟨rfl, rfl⟩
          · refine VIf.yes (by simp) (go ?_)
            refine VRet.mk [] .nil ?_
            exact ⟨rfl, rfl⟩
          · refine VIf.yes (by simp) (go ?_)
            refine VRet.mk [] .nil ?_
            exact ⟨by simp, rfl⟩
      | some bo =>
        refine go ?_
        refine VIf.no (by simp; omega) (go ?_)
        rw [htk]
        obtain ⟨k, hk, hkl⟩ := hkm
        have hO1 := hOf ((itemTs K).take k) (by rw [List.length_take]; omega) (clean_take hcK k) (nmS_take hnK k)
        have hO2 := hOf ((itemTs K).drop k) (by rw [List.length_drop]; omega) (clean_drop hcK k) (nmS_drop hnK k)
        rw [itemAVs_map, List.map_take, ← itemAVs_map, List.length_take, show min k (itemTs K).length = k by rw [hT]; exact Nat.min_eq_left hkl, ← show mulN k 1 = k by rw [mulN_eq, Nat.mul_one]] at hO1
        rw [show mulN k 1 = k by rw [mulN_eq, Nat.mul_one]] at hO1
        rw [itemAVs_map, List.map_drop, ← itemAVs_map, List.length_drop, hT] at hO2
        have hO1 : Av.Fn Tryd.prog 8 [.fz (List.take (mulN k 1) (itemAVs (itemTs K))) k false, .fz [] 0 false] (ofV (of0 ((itemTs K).take k))) := by rw [mulN_eq, Nat.mul_one]; exact hO1
        have hO2 : Av.Fn Tryd.prog 8 [.fz (List.drop (mulN k 1) (List.take (mulN (K : List RV).length 1) (itemAVs (itemTs K)))) ((K : List RV).length - k) false, .fz [] 0 false] (ofV (of0 ((itemTs K).drop k))) := by rw [mulN_eq, mulN_eq, Nat.mul_one, Nat.mul_one, List.take_of_length_le (by rw [itemAVs_length, hT]; exact Nat.le_refl _)]; exact hO2
        have j0 := j_code hsT (by rw [hT]; omega)
        have j1 := j_join (a := (itemTs K).take k) (b := (itemTs K).drop k) (fun t ht => hsT t (List.mem_of_mem_take ht)) (fun t ht => hsT t (List.mem_of_mem_drop ht)) (by rw [List.take_append_drop, hT]; omega)
        have j2 := fits_join (a := (itemTs K).take k) (b := (itemTs K).drop k) (fun t ht => hsT t (List.mem_of_mem_take ht)) (fun t ht => hsT t (List.mem_of_mem_drop ht)) (by rw [List.take_append_drop, hT]; omega)
        rw [List.take_append_drop] at j1 j2
        refine Fn.use (hI) (go ?_)
        rw [hk]
        generalize of0 (itemTs K) = w0 at hO j0 j1 j2
        generalize of0 ((itemTs K).take k) = w1 at hO1 j1 j2
        generalize of0 ((itemTs K).drop k) = w2 at hO2 j1 j2
        obtain ⟨i0, u0, e0⟩ := w0
        obtain ⟨i1, u1, e1⟩ := w1
        obtain ⟨i2, u2, e2⟩ := w2
        dsimp only at j0 j1 j2
        refine Fn.use (hO) (go ?_)
        refine VAll.mk (fun b9 => go ?_)
        refine Fn.use (hO1) (go ?_)
        refine VAll.mk (fun b11 => go ?_)
        refine Fn.use (hO2) (go ?_)
        refine VAll.mk (fun b13 => go ?_)
        by_cases h0 : e0 = 0 ∧ e1 = 0 ∧ e2 = 0
        · obtain ⟨rfl, rfl, rfl⟩ := h0
          obtain ⟨z1, z2⟩ := j1 rfl rfl rfl
          obtain ⟨z3, z4, z5⟩ := j2 rfl rfl rfl
          have hTh := f_Then i1 u1 i2 u2 z3 z4 z5
          rw [← z1, ← z2] at hTh
          refine VIf.no (by simp) (go ?_)
          refine Fn.use (hTh) (go ?_)
          refine VAll.mk (fun b15 => go ?_)
          refine VRet.mk [] .nil ?_
          exact ⟨by simp, rfl⟩
        · rcases j0 with rfl | rfl | rfl
          · refine VIf.no (by simp) (go ?_)
            by_cases h1 : e1 = 0
            · subst h1
              have h2 : e2 ≠ 0 := fun h => h0 ⟨rfl, rfl, h⟩
              refine VIf.no (by simp) (go ?_)
              refine VIf.yes (by simpa using h2) (go ?_)
              refine VRet.mk [] .nil ?_
              exact ⟨rfl, rfl⟩
            · refine VIf.yes (by simpa using h1) (go ?_)
              refine VRet.mk [] .nil ?_
              exact ⟨rfl, rfl⟩
          · refine VIf.yes (by simp) (go ?_)
            refine VRet.mk [] .nil ?_
            exact ⟨rfl, rfl⟩
          · refine VIf.yes (by simp) (go ?_)
            refine VRet.mk [] .nil ?_
            exact ⟨by simp, rfl⟩
end Go.Proofs.YtliabblchkgclaaDoor
