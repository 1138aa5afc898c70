/- Soundness of W: code, the end. Conditions: as each says. Soundness of W: functions; laws of calls. Conditions: as each says. Laws for the use of W. From contracts over the machine's calls to functions of abstract values. Conditions: as each says. From functions of abstract values to rows. Conditions: as each says. Steps in short: chains of W's laws, found by tactics that stand as defaults of arguments. Conditions: as each says. -/
import Derived.Test.YtfhkpcdccideeaaDoorX2
import Derived.Scope
set_option linter.all false
namespace Go.Av
open Go

section
variable {P : Program} {tb : Tab} {n : Nat} {W : World} {F : St} {g : Gh} {env : Env} {st : St} {a : Act} {w : World}

theorem W_sound (hp : ProgAt P tb W) : ∀ (c : Code) {Q : AExit → Env → St → Prop} {g : Gh} {env : Env} {st : St} {a : Act} {w : World}, Av.W P tb n c Q env st → EnvR n g env a → Inv W g (st ++ F) w →
    c.wp P (PostC W n F g (writes c) a Q) a w
  | .skip, Q, g, env, st, a, w, h, r, inv => wp_skip ⟨g, .normal, env, st, Gh.le_refl g, rfl, r, inv, .refl _ _, h⟩
  | .region id ops d, Q, g, env, st, a, w, h, r, inv => by
    cases d with
    | false => exact wp_region_list (Wops_sound hp (fun _ h => h) h r inv (Gh.le_refl g) (.refl _ _))
    | true => exact Wq_region hp h r inv
  | .seq x y, Q, g, env, st, a, w, h, r, inv => by
    refine wp_seq (wp_mono (W_sound hp x h r inv) ?_)
    intro e a' w' ⟨g', ae, env', st', le, he, r', inv', hs, hq⟩
    have hs1 : Same (writes (.seq x y)) a a' := hs.mono fun t ht => by rw [writes_seq]; exact List.mem_append_left _ ht
    cases ae with
    | normal =>
      cases he
      refine wp_mono (W_sound hp y hq r' inv') ?_
      intro e2 a2 w2 ⟨g2, ae2, env2, st2, le2, he2, r2, inv2, hs2, hq2⟩
      exact ⟨g2, ae2, env2, st2, Gh.le_trans le le2, he2, r2, inv2, hs1.trans (hs2.mono fun t ht => by rw [writes_seq]; exact List.mem_append_right _ ht), hq2⟩
    | exit id => cases he; exact ⟨g', .exit id, env', st', le, rfl, r', inv', hs1, hq⟩
    | goto id => cases he; exact ⟨g', .goto id, env', st', le, rfl, r', inv', hs1, hq⟩
    | ret => cases he; exact ⟨g', .ret, env', st', le, rfl, r', inv', hs1, hq⟩
    | panic v => obtain ⟨u, rfl, hr⟩ := he; exact ⟨g', .panic v, env', st', le, ⟨u, rfl, hr⟩, r', inv', hs1, hq⟩
  | .cond c x y, Q, g, env, st, a, w, h, r, inv => by
    obtain ⟨v, h1, h2⟩ := evalK_sound r h
    split at h2
    · rename_i b
      have h1 : a.eval c = .bool b := h1
      refine wp_cond h1 ?_
      cases b with
      | true =>
        refine wp_mono (W_sound hp x (h2.t rfl) r inv) ?_
        intro e a' w' ⟨g', ae, env', st', le, he, r', inv', hs, hq⟩
        exact ⟨g', ae, env', st', le, he, r', inv', hs.mono fun t ht => List.mem_append_left _ ht, hq⟩
      | false =>
        refine wp_mono (W_sound hp y (h2.f rfl) r inv) ?_
        intro e a' w' ⟨g', ae, env', st', le, he, r', inv', hs, hq⟩
        exact ⟨g', ae, env', st', le, he, r', inv', hs.mono fun t ht => List.mem_append_right _ ht, hq⟩
    · exact h2.elim
  | .block id x, Q, g, env, st, a, w, h, r, inv => by
    refine wp_block (wp_mono (W_sound hp x h r inv) ?_)
    intro e a' w' ⟨g', ae, env', st', le, he, r', inv', hs, hq⟩
    cases ae with
    | normal => cases he; exact ⟨g', .normal, env', st', le, rfl, r', inv', hs, hq⟩
    | exit i =>
      cases he
      by_cases e : i = id
      · subst e
        have hq : Q .normal env' st' := by simpa [Nat.beq_refl] using hq
        show (if i = i then _ else _)
        rw [if_pos rfl]
        exact ⟨g', .normal, env', st', le, rfl, r', inv', hs, hq⟩
      · have hb : Nat.beq i id = false := by rw [← Bool.not_eq_true]; exact fun h => e (Nat.eq_of_beq_eq_true h)
        have hq : Q (.exit i) env' st' := by simpa [hb] using hq
        show (if i = id then _ else _)
        rw [if_neg e]
        exact ⟨g', .exit i, env', st', le, rfl, r', inv', hs, hq⟩
    | goto id => cases he; exact ⟨g', .goto id, env', st', le, rfl, r', inv', hs, hq⟩
    | ret => cases he; exact ⟨g', .ret, env', st', le, rfl, r', inv', hs, hq⟩
    | panic v => obtain ⟨u, rfl, hr⟩ := he; exact ⟨g', .panic v, env', st', le, ⟨u, rfl, hr⟩, r', inv', hs, hq⟩
  | .loop x, Q, g, env, st, a, w, h, r, inv => by
    obtain ⟨env0, h1, h2⟩ := keepK_sound h
    have hkeep : ∀ {ss : List Nat} {g' : Gh} {a' : Act}, Gh.le g g' → a'.tmps.size = n → Same (writes x) a a' → ∀ {vs : List AV}, (∀ (i : Nat) t v, ss[i]? = some t → vs[i]? = some v → ∃ u, a'.tmps[t]? = some u ∧ Rel g' v u) → EnvR n g' (bindE ss vs env0) a' := by
      intro ss g' a' le hsz hs vs hvs
      refine ⟨hsz, fun t v hv => ?_⟩
      rcases bindE_look hv with ⟨i, e1, e2⟩ | hv
      · exact hvs i t v e1 e2
      · obtain ⟨e1, e2⟩ := h2 t v hv
        obtain ⟨u, e3, e4⟩ := r.look t v e2
        exact ⟨u, by rw [hs.tmps t e1]; exact e3, e4.mono le⟩
    cases h1 with
    | mk ss ι ev sv I m i0 h0 hround =>
      obtain ⟨hI, hg, hsel⟩ := h0
      refine wp_loop_ghost (fun k a' w' => ∃ i g', m i = k ∧ I i ∧ Gh.le g g' ∧ EnvR n g' (bindE ss (ev i) env0) a' ∧ Inv W g' (sv i ++ F) w' ∧ Same (writes x) a a') (m i0) ?_ ?_
      · obtain ⟨vs, e1, e2, e3⟩ := getsK_sound hg
        subst e1
        exact ⟨i0, g, rfl, hI, Gh.le_refl g, hkeep (Gh.le_refl g) r.size (.refl _ _) (fun i t v h4 h5 => r.look t v (e3 i t v h4 h5)), inv.sel hsel, .refl _ _⟩
      · rintro k a' w' ⟨i, g', rfl, hIi, le, r', inv', hs⟩
        refine wp_mono (W_sound hp x (hround i hIi) r' inv') ?_
        intro e a2 w2 ⟨g2, ae, env2, st2, le2, he, r2, inv2, hs2, hq⟩
        cases ae with
        | normal =>
          cases he
          obtain ⟨vs, ⟨j, hIj, hlt, e1, hsel'⟩, e2, e3⟩ := getsK_sound hq
          subst e1
          exact ⟨m j, hlt, j, g2, rfl, hIj, Gh.le_trans le le2, hkeep (Gh.le_trans le le2) r2.size (hs.trans hs2) (fun i t v h4 h5 => r2.look t v (e3 i t v h4 h5)), inv2.sel hsel', hs.trans hs2⟩
        | exit id => cases he; exact ⟨g2, .exit id, env2, st2, Gh.le_trans le le2, rfl, r2, inv2, hs.trans hs2, hq⟩
        | goto id => cases he; exact ⟨g2, .goto id, env2, st2, Gh.le_trans le le2, rfl, r2, inv2, hs.trans hs2, hq⟩
        | ret => cases he; exact ⟨g2, .ret, env2, st2, Gh.le_trans le le2, rfl, r2, inv2, hs.trans hs2, hq⟩
        | panic v => obtain ⟨u, rfl, hr⟩ := he; exact ⟨g2, .panic v, env2, st2, Gh.le_trans le le2, ⟨u, rfl, hr⟩, r2, inv2, hs.trans hs2, hq⟩
    | un k ss hu =>
      refine wp_loop_ghost (fun k a' w' => ∃ vs st' g', unrollK (fun env st Q => Av.W P tb n x Q env st) env0 Q ss k vs st' ∧ Gh.le g g' ∧ EnvR n g' (bindE ss vs env0) a' ∧ Inv W g' (st' ++ F) w' ∧ Same (writes x) a a') k ?_ ?_
      · obtain ⟨vs, e1, e2, e3⟩ := getsK_sound hu
        exact ⟨vs, st, g, e1, Gh.le_refl g, hkeep (Gh.le_refl g) r.size (.refl _ _) (fun i t v h4 h5 => r.look t v (e3 i t v h4 h5)), inv, .refl _ _⟩
      · rintro k a' w' ⟨vs, st', g', hun, le, r', inv', hs⟩
        cases k with
        | zero => exact hun.elim
        | succ k =>
          refine wp_mono (W_sound hp x hun r' inv') ?_
          intro e a2 w2 ⟨g2, ae, env2, st2, le2, he, r2, inv2, hs2, hq⟩
          cases ae with
          | normal =>
            cases he
            obtain ⟨vs', e1, e2, e3⟩ := getsK_sound hq
            exact ⟨k, Nat.lt_succ_self k, vs', st2, g2, e1, Gh.le_trans le le2, hkeep (Gh.le_trans le le2) r2.size (hs.trans hs2) (fun i t v h4 h5 => r2.look t v (e3 i t v h4 h5)), inv2, hs.trans hs2⟩
          | exit id => cases he; exact ⟨g2, .exit id, env2, st2, Gh.le_trans le le2, rfl, r2, inv2, hs.trans hs2, hq⟩
          | goto id => cases he; exact ⟨g2, .goto id, env2, st2, Gh.le_trans le le2, rfl, r2, inv2, hs.trans hs2, hq⟩
          | ret => cases he; exact ⟨g2, .ret, env2, st2, Gh.le_trans le le2, rfl, r2, inv2, hs.trans hs2, hq⟩
          | panic v => obtain ⟨u, rfl, hr⟩ := he; exact ⟨g2, .panic v, env2, st2, Gh.le_trans le le2, ⟨u, rfl, hr⟩, r2, inv2, hs.trans hs2, hq⟩
  | .rangeFunc f ps x y, Q, g, env, st, a, w, h, r, inv => h.elim
  | .exit id, Q, g, env, st, a, w, h, r, inv => wp_exit ⟨g, .exit id, env, st, Gh.le_refl g, rfl, r, inv, .refl _ _, h⟩
  | .scope x, Q, g, env, st, a, w, h, r, inv => h.sem W F g a w hp r inv
  | .label l, Q, g, env, st, a, w, h, r, inv => wp_label ⟨g, .normal, env, st, Gh.le_refl g, rfl, r, inv, .refl _ _, h⟩
  | .goto l, Q, g, env, st, a, w, h, r, inv => wp_goto ⟨g, .goto l, env, st, Gh.le_refl g, rfl, r, inv, .refl _ _, h⟩
  | .ret, Q, g, env, st, a, w, h, r, inv => wp_ret ⟨g, .ret, env, st, Gh.le_refl g, rfl, r, inv, .refl _ _, h⟩
  | .refuse why, Q, g, env, st, a, w, h, r, inv => h.elim

/-! ### Scopes with labels: so many jumps -/
inductive VGo (c : Code) (l : Nat) (A : Code → Prop) (B : Prop) : Prop
  | at (rest : Code) (h : findLabel c l = some rest) (k : A rest)
  | out (h : findLabel c l = none) (k : B)
def jmp (P : Program) (tb : Tab) (n : Nat) (c : Code) (Q : AExit → Env → St → Prop) : Nat → AExit → Env → St → Prop
  | 0, .goto l, env, st => VGo c l (fun _ => False) (Q (.goto l) env st)
  | k + 1, .goto l, env, st => VGo c l (fun rest => Av.W P tb n rest (jmp P tb n c Q k) env st) (Q (.goto l) env st)
  | _, e, env, st => Q e env st
theorem findLabel_writes {l : Nat} : ∀ {c rest : Code}, findLabel c l = some rest → ∀ t ∈ writes rest, t ∈ writes c
  | .seq x y, rest, h, t, ht => by
    unfold findLabel at h
    split at h
    · rename_i r hr
      cases h
      rw [writes_seq] at ht ⊢
      rcases List.mem_append.1 ht with ht | ht
      · exact List.mem_append_left _ (findLabel_writes hr t ht)
      · exact List.mem_append_right _ ht
    · rw [writes_seq]; exact List.mem_append_right _ (findLabel_writes h t ht)
  | .label l', rest, h, t, ht => by
    unfold findLabel at h
    split at h
    · cases h; simp [writes] at ht
    · cases h
  | .skip, _, h, _, _ | .region .., _, h, _, _ | .cond .., _, h, _, _ | .block .., _, h, _, _ | .loop .., _, h, _, _ | .rangeFunc .., _, h, _, _ | .exit .., _, h, _, _ | .scope .., _, h, _, _ | .goto .., _, h, _, _
  | .ret, _, h, _, _ | .refuse .., _, h, _, _ => by simp [findLabel] at h

theorem VSem.scope {c : Code} {Q : AExit → Env → St → Prop} (k : Nat) (h : Av.W P tb n c (jmp P tb n c Q k) env st) : VSem P tb n (writes c) (.scope c) Q env st := by
  refine ⟨fun W F g a w hp r inv => ?_⟩
  intro b kk cs
  have key : ∀ (k : Nat) (x : Code) (g' : Gh) (env : Env) (st : St) (a1 : Act) (w1 : World), (∀ t ∈ writes x, t ∈ writes c) → Av.W P tb n x (jmp P tb n c Q k) env st → EnvR n g' env a1 → Inv W g' (st ++ F) w1 → Gh.le g g' → Same (writes c) a a1 →
      ∃ e a' w', PostC W n F g (writes c) a Q e a' w' ∧ Arrives P (lone (b.at a1 (.code x :: .inScope c :: kk)) cs w1) b kk cs e a' w' := by
    intro k
    induction k with
    | zero =>
      intro x g' env st a1 w1 hsub h r inv le hs
      obtain ⟨e, a2, w2, ⟨g2, ae, env2, st2, le2, he, r2, inv2, hs2, hq⟩, harr⟩ := W_sound hp x h r inv b (.inScope c :: kk) cs
      have hs3 := hs.trans (hs2.mono hsub)
      have le3 := Gh.le_trans le le2
      cases ae with
      | normal => cases he; exact ⟨.normal, a2, w2, ⟨g2, .normal, env2, st2, le3, rfl, r2, inv2, hs3, hq⟩, Steps.trans harr (.one step_inScope)⟩
      | exit id => cases he; exact ⟨.exit id, a2, w2, ⟨g2, .exit id, env2, st2, le3, rfl, r2, inv2, hs3, hq⟩, fun k' hk => harr k' (by simp [exitTo, hk])⟩
      | goto l =>
        cases he
        unfold jmp at hq
        rcases hq with ⟨_, _, hq⟩ | ⟨hl, hq⟩
        · exact hq.elim
        · exact ⟨.goto l, a2, w2, ⟨g2, .goto l, env2, st2, le3, rfl, r2, inv2, hs3, hq⟩, fun k' hk => harr k' (by simp [gotoIn, hl, hk])⟩
      | ret => cases he; exact ⟨.ret, a2, w2, ⟨g2, .ret, env2, st2, le3, rfl, r2, inv2, hs3, hq⟩, harr⟩
      | panic v => obtain ⟨u, rfl, hr⟩ := he; exact ⟨_, a2, w2, ⟨g2, .panic v, env2, st2, le3, ⟨u, rfl, hr⟩, r2, inv2, hs3, hq⟩, harr⟩
    | succ k ih =>
      intro x g' env st a1 w1 hsub h r inv le hs
      obtain ⟨e, a2, w2, ⟨g2, ae, env2, st2, le2, he, r2, inv2, hs2, hq⟩, harr⟩ := W_sound hp x h r inv b (.inScope c :: kk) cs
      have hs3 := hs.trans (hs2.mono hsub)
      have le3 := Gh.le_trans le le2
      cases ae with
      | normal => cases he; exact ⟨.normal, a2, w2, ⟨g2, .normal, env2, st2, le3, rfl, r2, inv2, hs3, hq⟩, Steps.trans harr (.one step_inScope)⟩
      | exit id => cases he; exact ⟨.exit id, a2, w2, ⟨g2, .exit id, env2, st2, le3, rfl, r2, inv2, hs3, hq⟩, fun k' hk => harr k' (by simp [exitTo, hk])⟩
      | goto l =>
        cases he
        unfold jmp at hq
        rcases hq with ⟨rest, hl, hq⟩ | ⟨hl, hq⟩
        · obtain ⟨e, a3, w3, hpost, harr3⟩ := ih rest g2 env2 st2 a2 w2 (findLabel_writes hl) hq r2 inv2 le3 hs3
          exact ⟨e, a3, w3, hpost, .of_steps (harr _ (by simp [gotoIn, hl])) harr3⟩
        · exact ⟨.goto l, a2, w2, ⟨g2, .goto l, env2, st2, le3, rfl, r2, inv2, hs3, hq⟩, fun k' hk => harr k' (by simp [gotoIn, hl, hk])⟩
      | ret => cases he; exact ⟨.ret, a2, w2, ⟨g2, .ret, env2, st2, le3, rfl, r2, inv2, hs3, hq⟩, harr⟩
      | panic v => obtain ⟨u, rfl, hr⟩ := he; exact ⟨_, a2, w2, ⟨g2, .panic v, env2, st2, le3, ⟨u, rfl, hr⟩, r2, inv2, hs3, hq⟩, harr⟩
  obtain ⟨e, a', w', h1, h2⟩ := key k c g env st a w (fun _ h => h) h r inv (Gh.le_refl g) (.refl _ _)
  exact ⟨e, a', w', h1, .of_steps (.one step_scope) h2⟩
end
end Go.Av

namespace Go.Av
open Go

section
variable {P : Program} {tb : Tab} {n : Nat} {W : World} {F : St} {g : Gh} {env : Env} {st : St} {a : Act} {w : World}

def resOne (tmps : Array Value) : ResultVar → Sem Value
  | .tmp t => pure (tmps.getD t undef)
  | .cell a t => do loadVar t (← asAddr (tmps.getD a undef))
theorem resK_sound (hp : ProgOk P tb) : ∀ {rs : List ResultVar} {k : List AV → Prop}, resK tb rs env st k → EnvR n g env a → Inv W g (st ++ F) w →
    ∃ vs us, (rs.mapM (resOne a.tmps)).run P w = .ok us w ∧ RelL g false vs us ∧ k vs
  | [], k, h, _, _ => ⟨[], [], rfl, rfl, h⟩
  | .tmp t :: rs, k, h, r, inv => by
    obtain ⟨v, h1, h2⟩ := Env.get_look h
    obtain ⟨u, h3, h4⟩ := r.look t v h1
    obtain ⟨vs, us, h5, h6, h7⟩ := resK_sound hp h2 r inv
    refine ⟨v :: vs, u :: us, ?_, ⟨u, us, rfl, ⟨h4, by simp⟩, h6⟩, h7⟩
    simp [List.mapM_cons, resOne, Array.getD_eq_getD_getElem?, h3, h5]
  | .cell t ty :: rs, k, h, r, inv => by
    obtain ⟨v, h1, h2⟩ := Env.get_look h
    obtain ⟨u, h3, h4⟩ := r.look t v h1
    split at h2
    · rename_i b o
      have h4 : u = .pointer (some ⟨b, o, none⟩) := h4
      obtain ⟨m, ob, h5, h6⟩ := h2
      split at h6
      · rename_i cells
        obtain ⟨ti, hty, h7⟩ := Tab.get_ok hp.tab h6
        obtain ⟨us0, T, lo, hi, hh, hr, _, _⟩ := inv.objAt h5
        obtain ⟨x, y, h8, h9, h10⟩ := loadK_sound (w := w) hty h7 hr (b := b) (base := 0) (fun i u e => by rw [cell_of hh]; simpa using e)
        rw [Nat.zero_add] at h8
        obtain ⟨vs, us, h11, h12, h13⟩ := resK_sound hp h10 r inv
        refine ⟨y :: vs, x :: us, ?_, ⟨x, us, rfl, ⟨h9, by simp⟩, h12⟩, h13⟩
        have h8' : (loadVar ty ⟨b, o, none⟩).run P w = .ok x w := by simpa [Instr.loadAt, Instr.sureAddr] using h8
        simp [List.mapM_cons, resOne, Array.getD_eq_getD_getElem?, h3, h4, asAddr, h8', h11]
      · exact h6.elim
    · exact h2.elim
theorem results_eq (fn : Func) (tmps : Array Value) : results fn tmps = (do let vs ← fn.results.mapM (resOne tmps); pure (if h : vs.size = 1 then vs[0] else .tuple vs)) := by
  unfold results
  congr 1
theorem results_run {fn : Func} {rs : List ResultVar} (hr : fn.results = ⟨rs⟩) {tmps : Array Value} {us : List Value} (h : (rs.mapM (resOne tmps)).run P w = .ok us w) :
    (results fn tmps).run P w = .ok (match us with | [u] => u | us => .tuple ⟨us⟩) w := by
  rw [results_eq, hr]
  simp only [Sem.run_bind, Array.mapM_eq_mapM_toList, Sem.run_map, h, Result.andThen_ok, Sem.run_pure]
  cases us with
  | nil => rfl
  | cons u us => cases us with
    | nil => rfl
    | cons v us => rfl

theorem bindP_look : ∀ {vs : List AV} {k t : Nat} {v : AV}, (bindP k vs).look t = some v → k ≤ t ∧ vs[t - k]? = some v
  | [], _, _, _, h => by simp [bindP, Env.look] at h
  | x :: vs, k, t, v, h => by
    unfold bindP Env.look at h
    by_cases e : k = t
    · rw [if_pos e] at h; subst e; simpa using h
    · rw [if_neg e] at h
      obtain ⟨h1, h2⟩ := bindP_look h
      refine ⟨by omega, ?_⟩
      rw [show t - k = (t - (k + 1)) + 1 by omega]; simpa using h2
theorem EnvR.start {vs : List AV} {us : List Value} (h : RelL g false vs us) (hn : us.length ≤ n) : EnvR n g (bindP 0 vs) { tmps := (⟨us⟩ : Array Value) ++ Array.replicate (n - us.length) undef, defers := [] } := by
  refine ⟨by simp; omega, fun t v e => ?_⟩
  obtain ⟨_, h1⟩ := bindP_look e
  obtain ⟨u, h2, h3, _⟩ := h.nth (t - 0) h1
  refine ⟨u, ?_, h3⟩
  have hlt : t < us.length := by have := (List.getElem?_eq_some_iff.1 h2).1; omega
  show ((⟨us⟩ : Array Value) ++ Array.replicate (n - us.length) undef)[t]? = some u
  rw [Array.getElem?_append_left (by simpa using hlt)]; simpa using h2

/-- A function, out of its body. -/
theorem ACalls.of_W (hp : ProgOk P tb) {f : FuncId} {fn : Func} {c : Code} {rs : List ResultVar} {args : List AV} {Post : AOut → St → Prop} (hf : P.funcs[f]? = some fn) (hb : fn.body = some c)
    (hname : (fn.name == "runtime.NumGoroutine") = false) (hrs : fn.results = ⟨rs⟩) (hn : fn.ntmps = n) (hlen : args.length ≤ n)
    (h : Av.W P tb n c (endW tb rs Post) (bindP 0 args) st) : ACalls P f args st Post where
  ent := ⟨fn, hf, by simp [hb], hname⟩
  run W F g w us hl hr inv := by
    refine calls_of_wp hf hb ?_
    have hul : us.length = args.length := hr.length
    have r0 : EnvR n g (bindP 0 args) { tmps := (⟨us⟩ : Array Value) ++ Array.replicate (fn.ntmps - us.length) undef, defers := [] } := by
      rw [hn]; exact EnvR.start hr (by omega)
    refine wp_mono (W_sound { hp with lay := hl } c h r0 inv) ?_
    intro e a' w' ⟨g', ae, env', st', le, he, r', inv', hs, hq⟩
    have hd : a'.defers = [] := hs.defers
    have fin : resK tb rs env' st' (fun vs => VFz vs st' fun vs st => tupK vs fun v => VRet Post (.ret v) st) →
        ∃ v, (results fn a'.tmps).run P w' = .ok v w' ∧ ∃ g' out st'_1, Gh.le g g' ∧ OutR g' out (.returned v) ∧ Inv W g' (st'_1 ++ F) w' ∧ Post out st'_1 := by
      intro hq
      obtain ⟨vs, us', h1, h2, h3⟩ := resK_sound hp hq r' inv'
      obtain ⟨g2, vs2, st2, le2, h4, inv2, h5⟩ := VFz.sound h3 h2 inv'
      refine ⟨_, results_run hrs h1, ?_⟩
      unfold tupK at h5
      split at h5
      · rename_i v
        obtain ⟨u, rfl, hu, _⟩ := h4.one
        obtain ⟨st3, hsel, hpost⟩ := h5
        exact ⟨g2, .ret v, st3, Gh.le_trans le le2, ⟨u, rfl, hu⟩, inv2.sel hsel, hpost⟩
      · rename_i hne
        obtain ⟨st3, hsel, hpost⟩ := h5
        refine ⟨g2, .ret (.tup vs2), st3, Gh.le_trans le le2, ⟨.tuple ⟨us'⟩, ?_, us', rfl, h4⟩, inv2.sel hsel, hpost⟩
        have hl := h4.length
        split
        · rename_i u
          cases vs2 with
          | nil => simp at hl
          | cons v vs => cases vs with
            | nil => exact absurd rfl (hne v)
            | cons _ _ => simp at hl
        · rfl
    cases ae with
    | normal => cases he; exact ⟨hd, fin hq⟩
    | ret => cases he; exact ⟨hd, fin hq⟩
    | exit id => exact hq.elim
    | goto id => exact hq.elim
    | panic v =>
      obtain ⟨u, rfl, hu⟩ := he
      obtain ⟨st3, hsel, hpost⟩ := hq
      exact ⟨hd, g', .panic v, st3, le, ⟨u, rfl, hu⟩, inv'.sel hsel, hpost⟩

/-! ### Laws of calls -/
theorem ACalls.mono {f : FuncId} {args : List AV} {Post Post' : AOut → St → Prop} (h : ACalls P f args st Post) (hm : ∀ out st', Post out st' → Post' out st') : ACalls P f args st Post' :=
  ⟨h.ent, fun W F g w us hl hr inv => (h.run W F g w us hl hr inv).mono fun _ _ ⟨g', out, st', a, b, c, d⟩ => ⟨g', out, st', a, b, c, hm _ _ d⟩⟩
/-- Objects that a call knows nothing of. -/
theorem ACalls.frame {f : FuncId} {args : List AV} {s R : St} {Post : AOut → St → Prop} (h : ACalls P f args s Post) : ACalls P f args (s ++ R) fun out st' => ∃ s', st' = s' ++ R ∧ Post out s' :=
  ⟨h.ent, fun W F g w us hl hr inv => (h.run W (R ++ F) g w us hl hr (by rw [← List.append_assoc]; exact inv)).mono fun _ _ ⟨g', out, st', a, b, c, d⟩ => ⟨g', out, st' ++ R, a, b, by rw [List.append_assoc]; exact c, st', rfl, d⟩⟩
theorem ACalls.perm {f : FuncId} {args : List AV} {s t : St} {Post : AOut → St → Prop} (h : ACalls P f args s Post) (hp : s.Perm t) : ACalls P f args t Post :=
  ⟨h.ent, fun W F g w us hl hr inv => h.run W F g w us hl hr (inv.perm (List.Perm.append_right F hp))⟩
/-- A call that hands back a value and touches no object. -/
def Fn (P : Program) (f : FuncId) (args : List AV) (v : AV) : Prop := ACalls P f args [] fun out st' => out = .ret v ∧ st' = []
theorem Fn.use {f : FuncId} {args : List AV} {v : AV} (h : Fn P f args v) {Post : AOut → St → Prop} (k : Post (.ret v) st) : ACalls P f args st Post :=
  (ACalls.frame (R := st) h).mono fun out st' ⟨s', e, e1, e2⟩ => by subst e1; subst e2; subst e; exact k
end
end Go.Av

namespace Go.Av
open Go
theorem VIf.dec {p : Prop} [Decidable p] {A B : Prop} (t : p → A) (f : ¬p → B) : VIf (decide p) A B :=
  .mk (fun h => t (of_decide_eq_true h)) (fun h => f (of_decide_eq_false h))
theorem VIf.ndec {p : Prop} [Decidable p] {A B : Prop} (t : ¬p → A) (f : p → B) : VIf (!decide p) A B :=
  .mk (fun h => t (by simpa using h)) (fun h => f (by simpa using h))
/-- A choice that is known. -/
theorem VIf.yes {b : Bool} {A B : Prop} (e : b = true) (h : A) : VIf b A B := by subst e; exact .tt h
theorem VIf.no {b : Bool} {A B : Prop} (e : b = false) (h : B) : VIf b A B := by subst e; exact .ff h
theorem VInt.to {lo hi r wr : Int} {A : Int → Prop} (q : Int) (e : r = q) (h1 : lo ≤ q) (h2 : q ≤ hi) (h : A q) : VInt lo hi r wr A := by subst e; exact .fit h1 h2 h
theorem VIdx.to {i : Int} {n : Nat} {A : Nat → Prop} (j m : Nat) (h0 : i = (j : Int)) (hm : n = m) (h1 : j < m) (h : A j) : VIdx i n A := by subst hm; exact .at j h0 h1 h
attribute [simp] mulN_eq
end Go.Av

namespace Go.Av
open Go

section
variable {P : Program} {g : Gh} {st : St} {W w w' : World}
theorem Inv.below' (h : Inv W g st w) (k : RowKit.Below w.heap.size w w') : Inv W g st w' := by
  have hb : ∀ {b : Nat}, b < w.heap.size → w'.heap[b]? = w.heap[b]? := fun h => k.block _ h
  have ho : ∀ {b : Nat} {o : Obj}, w.heap[b]? = some o → w'.heap[b]? = some o := fun {b o} e => by
    rw [hb (Array.getElem?_eq_some_iff.1 e).1]; exact e
  refine ⟨fun b o u e => ?_, fun x hx => ?_, h.nodup, h.low, fun b n e => Nat.lt_of_lt_of_le (h.cap b n e) k.size, h.below.trans (k.mono ?_)⟩
  · have := h.mem b o u e
    unfold World.cell? at this ⊢
    cases hq : w.heap[b]? with
    | none => rw [hq] at this; simp at this
    | some ob => rw [ho hq]; rw [hq] at this; exact this
  · have := h.obj x hx
    unfold ObjR at this ⊢
    split at this
    · obtain ⟨us, T, lo, hi, h1, h2⟩ := this; exact ⟨us, T, lo, hi, ho h1, h2⟩
    · obtain ⟨us, vs, T, lo, hi, cap, h1, h2⟩ := this; exact ⟨us, vs, T, lo, hi, cap, ho h1, h2⟩
    · obtain ⟨es, clock, h1, h2⟩ := this; exact ⟨es, clock, ho h1, h2⟩
    · exact ho this
  · exact h.below.size
/-- A contract of the machine's: the old memory is as it was. -/
theorem Fn.of_calls {f : FuncId} {args : List AV} {v : AV} {fn : Func} (hf : P.funcs[f]? = some fn) (hb : fn.body.isSome = true) (hn : (fn.name == "runtime.NumGoroutine") = false)
    (h : ∀ (W w : World) (g : Gh) (us : List Value), Lay P W → RelL g false args us → RowKit.Below W.heap.size W w → Calls P f ⟨us⟩ w fun e w' => ∃ u, e = .returned u ∧ Rel g v u ∧ RowKit.Below w.heap.size w w') : Fn P f args v :=
  ⟨⟨fn, hf, hb, hn⟩, fun W F g w us hl hr inv => (h W w g us hl hr inv.below).mono fun _ w' ⟨u, e1, e2, e3⟩ =>
    ⟨g, .ret v, [], Gh.le_refl g, ⟨u, e1, e2⟩, inv.below' e3, rfl, rfl⟩⟩
/-- The tables, in a world that has grown. -/
theorem Lay.now (h : Lay P W) (k : RowKit.Below W.heap.size W w) {a b : Nat} (ha : P.globalNamed ("unicode" ++ slash ++ "utf8.first") = some a) (hb : P.globalNamed ("unicode" ++ slash ++ "utf8.acceptRanges") = some b) : Lib.Utf8Tabs a b w := by
  obtain ⟨h1, h2⟩ := h a b ha hb
  have go : ∀ {b o : Nat} {u : Value}, W.cell? ⟨b, o, none⟩ = some u → w.cell? ⟨b, o, none⟩ = some u := by
    intro b o u e
    unfold World.cell? at e ⊢
    cases hq : W.heap[b]? with
    | none => rw [hq] at e; simp at e
    | some ob => rw [k.block b (Array.getElem?_eq_some_iff.1 hq).1]; exact e
  exact ⟨fun c hc => go (h1 c hc), fun i hi => ⟨go (h2 i hi).1, go (h2 i hi).2⟩⟩
end
end Go.Av

namespace Go.Av
open Go
section
variable {P : Program} {W : World}
/-- All that lies in a world is not written any more. -/
def gh0 (W : World) : Gh := ⟨fun b o => W.cell? ⟨b, o, none⟩, fun _ => none⟩
theorem Inv.start (W : World) : Inv W (gh0 W) [] W :=
  ⟨fun _ _ _ h => h, fun _ h => absurd h (by simp), List.nodup_nil, fun _ h => absurd h (by simp), fun _ _ h => by (cases h), RowKit.Below.refl _ _⟩
theorem ACalls.row {f : FuncId} {args : List AV} {Post : AOut → St → Prop} (h : ACalls P f args [] Post) {us : List Value} (hl : Lay P W) (hr : RelL (gh0 W) false args us) :
    Calls P f ⟨us⟩ W fun e w' => ∃ g' out st', OutR g' out e ∧ Inv W g' st' w' ∧ Post out st' :=
  (h.run W [] (gh0 W) W us hl hr (Inv.start W)).mono fun _ _ ⟨g', out, st', _, h2, h3, h4⟩ => ⟨g', out, st', h2, by simpa using h3, h4⟩
theorem Fn.row {f : FuncId} {args : List AV} {v : AV} (h : Fn P f args v) {us : List Value} (hl : Lay P W) (hr : RelL (gh0 W) false args us) :
    Calls P f ⟨us⟩ W fun e w' => ∃ g' u, e = .returned u ∧ Rel g' v u ∧ RowKit.Below W.heap.size W w' :=
  (ACalls.row h hl hr).mono fun _ _ ⟨g', out, st', h2, h3, h4, h5⟩ => by
    subst h4
    obtain ⟨u, rfl, hu⟩ := h2
    exact ⟨g', u, rfl, hu, h3.below⟩
end
end Go.Av

namespace Go.Av
open Go
/-- What is left. -/
structure Left (R : Prop) : Prop where
  out : R
/-- On, as far as it is plain. -/
theorem go {G R : Prop} (h : R) (imp : Left R → G := by
  intro h
  (conv => whnf)
  repeat ((first | refine VGd.mk rfl ?_ | refine VGo.at _ rfl ?_ | refine VGo.out rfl ?_ | refine VOne.mk rfl ?_ | refine VIf.tt ?_ | refine VIf.ff ?_ | refine VFz.nil ?_ | refine VFz.nils ?_ | refine VFz.full ?_ | refine VFz.own 0 _ _ _ rfl (by simp) ?_ | refine VFz.own 1 _ _ _ rfl (by simp) ?_ | refine VFz.own 2 _ _ _ rfl (by simp) ?_ | refine VFz.keep ?_ | refine VObj.mk 0 _ rfl ?_ | refine VObj.mk 1 _ rfl ?_ | refine VObj.mk 2 _ rfl ?_ | refine VObj.mk 3 _ rfl ?_ | refine VObj.mk 4 _ rfl ?_ | refine VTake.mk _ rfl rfl ?_ | refine VNth.mk _ rfl ?_ | (apply VInt.to; focus (simp only [Int.reduceAdd, Int.reduceSub, Int.reduceMul]; rfl); focus decide; focus decide) | refine VInt.fit (by omega) (by omega) ?_ | refine VGd.mk (by omega) ?_ | refine VGd.mk (by decide) ?_ | refine VIdx.at _ rfl (by first | omega | decide | (simp; omega) | (simp; done)) ?_ | (apply VQ.mk; focus ((conv => whnf); (repeat ((first | refine VGd.mk rfl ?_ | refine VOne.mk rfl ?_ | refine VIf.tt ?_ | refine VIf.ff ?_ | refine VFz.nil ?_ | refine VFz.keep ?_ | refine VObj.mk 0 _ rfl ?_ | refine VObj.mk 1 _ rfl ?_ | refine VObj.mk 2 _ rfl ?_ | refine VObj.mk 3 _ rfl ?_ | refine VTake.mk _ rfl rfl ?_ | refine VNth.mk _ rfl ?_ | (apply VInt.to; focus (simp only [Int.reduceAdd, Int.reduceSub, Int.reduceMul]; rfl); focus decide; focus decide) | refine VInt.fit (by omega) (by omega) ?_ | refine VGd.mk (by omega) ?_ | refine VIdx.at _ rfl (by first | omega | decide | (simp; omega) | (simp; done)) ?_); (conv => whnf))); exact ⟨rfl, rfl⟩))); (conv => whnf))
  exact h.out) : G := imp ⟨h⟩
/-- A choice, and what is known on either road. -/
class Forks (b : Bool) (p q : outParam Prop) : Prop where
  t : b = true → p
  f : b = false → q
instance (priority := 100) Forks.any {b : Bool} : Forks b (b = true) (b = false) := ⟨id, id⟩
instance Forks.dec {p : Prop} [Decidable p] : Forks (decide p) p (¬p) := ⟨of_decide_eq_true, of_decide_eq_false⟩
instance Forks.ndec {p : Prop} [Decidable p] : Forks (!decide p) (¬p) p := ⟨fun h => by simpa using h, fun h => by simpa using h⟩
theorem fork {b : Bool} {A B p q : Prop} [e : Forks b p q] (t : p → A) (f : q → B) : VIf b A B := .mk (fun h => t (e.t h)) (fun h => f (e.f h))
end Go.Av
