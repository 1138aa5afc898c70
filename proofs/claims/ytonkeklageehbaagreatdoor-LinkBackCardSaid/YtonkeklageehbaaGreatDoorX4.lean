/- Closures that recover. Conditions: as each says. Slices within values that are not written any more; calls with objects. Conditions: as each says. Regions whose order is drawn and that write: every order. Conditions: as each says. Regions whose order is drawn: operations that change nothing, at most one that looks at nothing, and one that waits for all. Conditions: as each says. What a row's arguments are, as abstract values: whole numbers, texts, flags, and slices and structs of such. Conditions: as each says. -/
import Derived.Test.YtonkeklageehbaaGreatDoorX3
import Derived.Carry
set_option linter.all false
set_option maxRecDepth 20000
namespace Go.Av
open Go

inductive Pend where
  | wait (m : Option AV)
  | done
def ModeP (g : Gh) (M : Pend) (u : FrameMode) : Prop :=
  match M with
  | .wait m => ModeR g m u
  | .done => settle u = .returning
theorem ModeP.mono {g h : Gh} (le : Gh.le g h) {M : Pend} {u : FrameMode} (k : ModeP g M u) : ModeP h M u := by
  cases M with
  | done => exact k
  | wait m =>
    cases m with
    | none => exact k
    | some v => obtain ⟨uv, e, hr⟩ := k; exact ⟨uv, e, Rel.mono le _ _ hr⟩
/-- Does a list of operations begin with a recover? -/
def headR : List Oper → Option (Option Tmp × List Oper)
  | [] => none
  | o :: r => match o.guard with
    | some _ => none
    | none => match o.op with
      | .call c => match c.callee with
        | .builtin .recover => some (o.dst, r)
        | _ => none
      | _ => none
theorem headR_spec {l : List Oper} {d : Option Tmp} {r : List Oper} (h : headR l = some (d, r)) : ∃ o c, l = o :: r ∧ o.guard = none ∧ o.op = .call c ∧ c.callee = .builtin .recover ∧ o.dst = d := by
  unfold headR at h
  split at h
  · cases h
  · rename_i o r'
    split at h
    · cases h
    · rename_i hg
      split at h
      · rename_i c ho
        split at h
        · rename_i hc
          simp only [Option.some.injEq, Prod.mk.injEq] at h
          obtain ⟨rfl, rfl⟩ := h
          exact ⟨o, c, rfl, hg, ho, hc, rfl⟩
        · cases h
      · cases h
def regS (P : Program) (tb : Tab) (n : Nat) (id : Nat) (ops : Array Oper) (M : Pend) (Q : AExit → Env → St → Pend → Prop) (env : Env) (st : St) : Prop :=
  match headR ops.toList with
  | none => W P tb n (.region id ops false) (fun e env st => Q e env st M) env st
  | some x => match M with
    | .done => False
    | .wait m => match m with
      | none => putK n x.1 .nili env fun env => Wops P tb n ops.toList (fun v env st => Q (.panic v) env st .done) x.2 env st fun env st => Q .normal env st .done
      | some v => putK n x.1 v env fun env => Wops P tb n ops.toList (fun v env st => Q (.panic v) env st .done) x.2 env st fun env st => Q .normal env st .done
noncomputable def Ws (P : Program) (tb : Tab) (n : Nat) (c : Code) : Pend → (AExit → Env → St → Pend → Prop) → Env → St → Prop :=
  Code.rec (motive := fun _ => Pend → (AExit → Env → St → Pend → Prop) → Env → St → Prop)
    (fun M Q env st => Q .normal env st M)
    (fun id ops d M Q env st => match d with
      | true => W P tb n (.region id ops true) (fun e env st => Q e env st M) env st
      | false => regS P tb n id ops M Q env st)
    (fun _ _ wa wb M Q env st => wa M (fun e env st M => match e with
      | .normal => wb M Q env st
      | e => Q e env st M) env st)
    (fun c x y _ _ M Q env st => W P tb n (.cond c x y) (fun e env st => Q e env st M) env st)
    (fun id x _ M Q env st => W P tb n (.block id x) (fun e env st => Q e env st M) env st)
    (fun x _ M Q env st => W P tb n (.loop x) (fun e env st => Q e env st M) env st)
    (fun f ps x y _ _ M Q env st => W P tb n (.rangeFunc f ps x y) (fun e env st => Q e env st M) env st)
    (fun id M Q env st => Q (.exit id) env st M)
    (fun x _ M Q env st => W P tb n (.scope x) (fun e env st => Q e env st M) env st)
    (fun _ M Q env st => Q .normal env st M)
    (fun l M Q env st => Q (.goto l) env st M)
    (fun M Q env st => Q .ret env st M)
    (fun _ _ _ _ _ => False) c
def endP (M : Pend) (X : Prop) : Prop :=
  match M with
  | .wait m => match m with
    | some _ => False
    | none => X
  | .done => X
def endWs (tb : Tab) (rs : List ResultVar) (K : St → Prop) (e : AExit) (env : Env) (st : St) (M : Pend) : Prop :=
  match e with
  | .normal => endP M (endW tb rs (fun _ st => K st) .ret env st)
  | .ret => endP M (endW tb rs (fun _ st => K st) .ret env st)
  | _ => False
def PostS (W : World) (n : Nat) (F : St) (g : Gh) (c0 : Frame) (cs : List Frame) (Q : AExit → Env → St → Pend → Prop) (e : Exit) (a' : Act) (cs' : List Frame) (w' : World) : Prop :=
  ∃ g' ae env' st' M' u', Gh.le g g' ∧ ExitR g' ae e ∧ EnvR n g' env' a' ∧ Inv W g' (st' ++ F) w' ∧ a'.defers = [] ∧ cs' = { c0 with mode := u' } :: cs ∧ ModeP g' M' u' ∧ Q ae env' st' M'

section
variable {P : Program} {tb : Tab} {n : Nat} {W : World} {F : St} {g : Gh} {env : Env} {st : St} {a : Act} {w : World}
theorem wpOpsS_of_list {ops : Array Oper} {Q : Exit → Act → List Frame → World → Prop} {cs : List Frame} (hno : ¬ LetsOut (fun e a w => Q e a cs w)) : ∀ (l : List Oper) (k : Nat) (a : Act) (w : World), (∀ j, l[j]? = ops[k + j]?) →
    wpList P ops (fun e a w => Q e a cs w) l a w → wpOpsS P ops Q (List.range' k l.length) a cs w
  | [], _, a, w, _, h => h
  | o :: l, k, a, w, hl, h => by
    have h0 : ops[k]? = some o := by simpa using (hl 0).symm
    have hl' : ∀ j, l[j]? = ops[k + 1 + j]? := fun j => by have := hl (j + 1); simpa [Nat.add_assoc, Nat.add_comm 1 j] using this
    have ih := fun a w => wpOpsS_of_list hno l (k + 1) a w hl'
    simp only [List.length_cons, List.range'_succ, wpOpsS, h0]
    unfold wpList at h
    split
    · rename_i hw
      rw [if_pos hw] at h
      rcases h with h | ⟨_, h⟩
      · unfold Oper.wp at h
        generalize (execOp a.eval o).run P w = r at *
        cases r with
        | ok nx w' =>
          cases nx <;> simp only [Oper.upon] at h ⊢ <;>
            first
              | exact ih _ _ h
              | exact h.elim
              | exact Calls.mono h (fun e w'' he => by cases e <;> first | exact ih _ _ he | exact he)
              | exact Rows.mono h (fun _ _ he => ih _ _ he)
        | halt x w' => cases x <;> simp only [Oper.upon] at h ⊢ <;> exact h
      · exact absurd h hno
    · rename_i hw
      rw [if_neg hw] at h
      exact ih _ _ h
theorem PostS.noOut {c0 : Frame} {cs cs' : List Frame} {Q : AExit → Env → St → Pend → Prop} : ¬ LetsOut (fun e a w => PostS W n F g c0 cs Q e a cs' w) := by
  rintro ⟨a', w', g', ae, env', st', M', u', _, he, _⟩
  cases ae <;> simp [ExitR] at he
theorem Ws_sound (hp : ProgAt P tb W) {c0 : Frame} {cs : List Frame} : ∀ (c : Code) {M : Pend} {Q : AExit → Env → St → Pend → Prop} {g : Gh} {env : Env} {st : St} {a : Act} {w : World} {u : FrameMode}, Ws P tb n c M Q env st → EnvR n g env a → Inv W g (st ++ F) w → a.defers = [] → ModeP g M u →
    c.wpS P (PostS W n F g c0 cs Q) a ({ c0 with mode := u } :: cs) w := by
  intro c
  have flat : ∀ (c : Code) {M : Pend} {Q : AExit → Env → St → Pend → Prop} {g : Gh} {env : Env} {st : St} {a : Act} {w : World} {u : FrameMode}, Av.W P tb n c (fun e env st => Q e env st M) env st → EnvR n g env a → Inv W g (st ++ F) w → a.defers = [] → ModeP g M u →
      c.wpS P (PostS W n F g c0 cs Q) a ({ c0 with mode := u } :: cs) w := by
    intro c M Q g env st a w u h r inv hd hm
    refine wpS_of_wp (wp_mono (W_sound hp c h r inv) ?_)
    intro e a' w' ⟨g', ae, env', st', le, he, r', inv', hs, hq⟩
    exact ⟨g', ae, env', st', M, u, le, he, r', inv', by rw [hs.defers, hd], rfl, hm.mono le, hq⟩
  induction c with
  | skip => intro M Q g env st a w u h r inv hd hm; exact wpS_of_wp (wp_skip ⟨g, .normal, env, st, M, u, Gh.le_refl g, rfl, r, inv, hd, rfl, hm, h⟩)
  | region id ops d =>
    intro M Q g env st a w u h r inv hd hm
    cases d with
    | true => exact flat _ h r inv hd hm
    | false =>
      have h : regS P tb n id ops M Q env st := h
      unfold regS at h
      split at h
      · exact flat _ h r inv hd hm
      · rename_i x hsp
        obtain ⟨dst, post⟩ := x
        obtain ⟨o, c, hl, hg, ho, hc, hdst⟩ := headR_spec hsp
        dsimp only at h
        have key : ∀ (v : AV) (uv : Value) (u' : FrameMode), Rel g v uv → ModeP g .done u' →
            (putK n dst v env fun env => Wops P tb n ops.toList (fun v env st => Q (.panic v) env st .done) post env st fun env st => Q .normal env st .done) →
            wpOpsS P ops (PostS W n F g c0 cs Q) (List.range' 1 post.length) (a.put o.dst uv) ({ c0 with mode := u' } :: cs) w := by
          intro v uv u' hv hu' h
          obtain ⟨env', r', h'⟩ := putK_sound h r hv
          rw [hdst]
          refine wpOpsS_of_list PostS.noOut post 1 _ w ?_ ?_
          · intro j
            have : ops.toList[1 + j]? = post[j]? := by rw [hl, Nat.add_comm]; rfl
            rw [← this]; simp
          · have hm : ∀ x ∈ post, x ∈ ops.toList := fun x hx => by rw [hl]; exact List.mem_cons_of_mem _ hx
            have hds : (a.put dst uv).defers = [] := by cases dst <;> exact hd
            have ok := Wops_sound (W := W) (F := F) hp (ops := ops) (Q := fun e env st => Q e env st .done) (a0 := a.put dst uv) (g0 := g) (l := post) hm h' r' inv (Gh.le_refl g) (.refl _ _)
            have lift : ∀ (l : List Oper) (a1 : Act) (w1 : World), wpList P ops (PostC W n F g (writesOps ops.toList) (a.put dst uv) fun e env st => Q e env st .done) l a1 w1 →
                wpList P ops (fun e a w => PostS W n F g c0 cs Q e a ({ c0 with mode := u' } :: cs) w) l a1 w1 := by
              intro l
              have hq : ∀ e a1 w1, PostC W n F g (writesOps ops.toList) (a.put dst uv) (fun e env st => Q e env st .done) e a1 w1 → PostS W n F g c0 cs Q e a1 ({ c0 with mode := u' } :: cs) w1 := by
                intro e a1 w1 ⟨g', ae, env', st', le, he, r', inv', hs, hq⟩
                exact ⟨g', ae, env', st', .done, u', le, he, r', inv', by rw [hs.defers, hds], rfl, hu'.mono le, hq⟩
              induction l with
              | nil => intro a1 w1 h; exact hq _ _ _ h
              | cons x l ih =>
                intro a1 w1 h
                unfold wpList at h ⊢
                split
                · rename_i hw
                  rw [if_pos hw] at h
                  rcases h with h | ⟨_, h⟩
                  · exact .inl (Oper.wp_mono2 ih hq h)
                  · exact absurd h PostC.noOut
                · rename_i hw
                  rw [if_neg hw] at h
                  exact ih _ _ h
            exact lift _ _ _ ok
        refine wpS_region ?_
        have hsz : List.range ops.size = 0 :: List.range' 1 post.length := by
          rw [List.range_eq_range', ← Array.length_toList, hl, List.length_cons, List.range'_succ]
        rw [hsz]
        have h0 : ops[0]? = some o := by
          have : ops.toList[0]? = some o := by rw [hl]; rfl
          simpa using this
        have hrun : (execOp a.eval o).run P w = .ok .recover w := by
          obtain ⟨odst, oop, oty, opos, oafter, oguard⟩ := o
          dsimp only at ho
          subst ho
          simp only [execOp, resolve, hc, Sem.run_bind, Sem.run_pure, Result.andThen_ok, invoke, builtin]
        simp only [wpOpsS, h0]
        rw [if_pos (by simp [Region.wanted, hg]), hrun]
        cases M with
        | done => exact h.elim
        | wait m =>
          cases m with
          | none =>
            have hm : u = .returning := hm
            subst hm
            exact key .nili .nilIface .returning rfl rfl h
          | some v =>
            obtain ⟨uv, rfl, hv⟩ := hm
            exact key v uv _ hv (by simp [ModeP, settle]) h
  | seq x y ihx ihy =>
    intro M Q g env st a w u h r inv hd hm
    refine wpS_seq ?_
    have hx := ihx (Q := fun e env st M => match e with
      | .normal => Ws P tb n y M Q env st
      | e => Q e env st M) h r inv hd hm
    intro b k hb hr
    obtain ⟨e, a', cs', w', ⟨g', ae, env', st', M', u', le, he, r', inv', hd', hcs, hm', hq⟩, harr⟩ := hx b k hb hr
    refine ⟨e, a', cs', w', ?_, harr⟩
    subst hcs
    cases ae with
    | normal =>
      cases he
      have hy := ihy hq r' inv' hd' hm'
      intro b k hb hr
      obtain ⟨e2, a2, cs2, w2, ⟨g2, ae2, env2, st2, M2, u2, le2, he2, r2, inv2, hd2, hcs2, hm2, hq2⟩, harr2⟩ := hy b k hb hr
      exact ⟨e2, a2, cs2, w2, ⟨g2, ae2, env2, st2, M2, u2, Gh.le_trans le le2, he2, r2, inv2, hd2, hcs2, hm2, hq2⟩, harr2⟩
    | exit id => cases he; exact ⟨g', .exit id, env', st', M', u', le, rfl, r', inv', hd', rfl, hm', hq⟩
    | goto id => cases he; exact ⟨g', .goto id, env', st', M', u', le, rfl, r', inv', hd', rfl, hm', hq⟩
    | ret => cases he; exact ⟨g', .ret, env', st', M', u', le, rfl, r', inv', hd', rfl, hm', hq⟩
    | panic v => obtain ⟨uv, rfl, huv⟩ := he; exact ⟨g', .panic v, env', st', M', u', le, ⟨uv, rfl, huv⟩, r', inv', hd', rfl, hm', hq⟩
  | cond c x y _ _ => intro M Q g env st a w u h r inv hd hm; exact flat _ h r inv hd hm
  | block id x _ => intro M Q g env st a w u h r inv hd hm; exact flat _ h r inv hd hm
  | loop x _ => intro M Q g env st a w u h r inv hd hm; exact flat _ h r inv hd hm
  | rangeFunc f ps x y _ _ => intro M Q g env st a w u h r inv hd hm; exact flat _ h r inv hd hm
  | exit id => intro M Q g env st a w u h r inv hd hm; exact wpS_of_wp (wp_exit ⟨g, .exit id, env, st, M, u, Gh.le_refl g, rfl, r, inv, hd, rfl, hm, h⟩)
  | scope x _ => intro M Q g env st a w u h r inv hd hm; exact flat _ h r inv hd hm
  | label l => intro M Q g env st a w u h r inv hd hm; exact wpS_of_wp (wp_label ⟨g, .normal, env, st, M, u, Gh.le_refl g, rfl, r, inv, hd, rfl, hm, h⟩)
  | goto l => intro M Q g env st a w u h r inv hd hm; exact wpS_of_wp (wp_goto ⟨g, .goto l, env, st, M, u, Gh.le_refl g, rfl, r, inv, hd, rfl, hm, h⟩)
  | ret => intro M Q g env st a w u h r inv hd hm; exact wpS_of_wp (wp_ret ⟨g, .ret, env, st, M, u, Gh.le_refl g, rfl, r, inv, hd, rfl, hm, h⟩)
  | refuse why => intro M Q g env st a w u h r inv hd hm; exact h.elim
/-- A closure that recovers, out of its body. -/
theorem DCalls.of_Ws (hp : ProgOk P tb) {f : FuncId} {fn : Func} {c : Code} {rs : List ResultVar} {args : List AV} {m : Option AV} {K : St → Prop} (hf : P.funcs[f]? = some fn) (hb : fn.body = some c)
    (hname : (fn.name == "runtime.NumGoroutine") = false) (hrs : fn.results = ⟨rs⟩) (hn : fn.ntmps = n) (hlen : args.length ≤ n)
    (h : Ws P tb n c (.wait m) (endWs tb rs K) (bindP 0 args) st) : DCalls P f args st m K where
  ent := ⟨fn, hf, by simp [hb], hname⟩
  run W F g w us u hl hr inv hm := by
    refine callsD_of_wpS hf hb fun c0 cs hc0 => ?_
    have hul : us.length = args.length := hr.length
    have r0 : EnvR n g (bindP 0 args) { tmps := (⟨us⟩ : Array Value) ++ Array.replicate (fn.ntmps - us.length) undef, defers := [] } := by
      rw [hn]; exact EnvR.start hr (by omega)
    have hk := Ws_sound (c0 := c0) (cs := cs) { hp with lay := hl } c h r0 inv rfl (show ModeP g (.wait m) u from hm)
    have hfr : ({ c0 with mode := u } : Frame) = c0 := by rw [← hc0]
    rw [hfr] at hk
    intro b k hbk hr
    obtain ⟨e, a', cs', w', ⟨g', ae, env', st', M', u', le, he, r', inv', hd', hcs, hm', hq⟩, harr⟩ := hk b k hbk hr
    refine ⟨e, a', cs', w', ?_, harr⟩
    have fin : settle u' = .returning → endW tb rs (fun _ st => K st) .ret env' st' → a'.defers = [] ∧ ∃ u', cs' = { c0 with mode := u' } :: cs ∧ ∃ v, (results fn a'.tmps).run P w' = .ok v w' ∧
        ∃ g' st', (∃ x, Ending.returned v = .returned x) ∧ Gh.le g g' ∧ settle u' = .returning ∧ Inv W g' (st' ++ F) w' ∧ K st' := by
      intro hset hq
      obtain ⟨v, h1, g3, out, st3, le3, h2, h3, h4⟩ := endW_ret hp hrs hq r' inv'
      exact ⟨hd', u', hcs, v, h1, g3, st3, ⟨_, rfl⟩, Gh.le_trans le le3, hset, h3, h4⟩
    have hset : ∀ {X : Prop}, endP M' X → settle u' = .returning ∧ X := by
      intro X hx
      cases M' with
      | done => exact ⟨hm', hx⟩
      | wait m =>
        cases m with
        | none => have : u' = .returning := hm'; subst this; exact ⟨rfl, hx⟩
        | some v => exact hx.elim
    cases ae with
    | normal => cases he; obtain ⟨h1, h2⟩ := hset hq; exact fin h1 h2
    | ret => cases he; obtain ⟨h1, h2⟩ := hset hq; exact fin h1 h2
    | exit id => exact hq.elim
    | goto id => exact hq.elim
    | panic v => exact hq.elim
theorem DCalls.mono {f : FuncId} {args : List AV} {m : Option AV} {K K' : St → Prop} (h : DCalls P f args st m K) (hk : ∀ st, K st → K' st) : DCalls P f args st m K' :=
  ⟨h.ent, fun W F g w us u hl hr inv hm c cs hc => by
    obtain ⟨e, u', w', fr, ⟨g', st', a1, a2, a3, a4, a5⟩, rest⟩ := h.run W F g w us u hl hr inv hm c cs hc
    exact ⟨e, u', w', fr, ⟨g', st', a1, a2, a3, a4, hk _ a5⟩, rest⟩⟩
theorem DCalls.frame {f : FuncId} {args : List AV} {m : Option AV} {s R : St} {K : St → Prop} (h : DCalls P f args s m K) : DCalls P f args (s ++ R) m fun st' => ∃ s', st' = s' ++ R ∧ K s' :=
  ⟨h.ent, fun W F g w us u hl hr inv hm c cs hc => by
    obtain ⟨e, u', w', fr, ⟨g', st', a1, a2, a3, a4, a5⟩, rest⟩ := h.run W (R ++ F) g w us u hl hr (by rw [← List.append_assoc]; exact inv) hm c cs hc
    exact ⟨e, u', w', fr, ⟨g', st' ++ R, a1, a2, a3, by rw [List.append_assoc]; exact a4, st', rfl, a5⟩, rest⟩⟩
theorem DCalls.perm {f : FuncId} {args : List AV} {m : Option AV} {s t : St} {K : St → Prop} (h : DCalls P f args s m K) (hp : s.Perm t) : DCalls P f args t m K :=
  ⟨h.ent, fun W F g w us u hl hr inv hm => h.run W F g w us u hl hr (inv.perm (List.Perm.append_right F hp)) hm⟩
end
end Go.Av

namespace Go.Av
open Go
mutual
inductive FzD : AV → AV → St → St → Prop
  | keep (v : AV) (st : St) : FzD v v st st
  | nils (st : St) : FzD .nils (.fz [] 0 false) st st
  | full (cells : List AV) (n : Nat) (st : St) : FzD (.fz cells n true) (.fz cells n false) st st
  | own {b m : Nat} {st : St} (n esz : Nat) (cells : List AV) (z : Nat) (h1 : st[n]? = some (b, .arr esz cells z)) (h2 : m * esz ≤ cells.length) :
      FzD (.own b m) (.fz (cells.take (m * esz)) m false) st (st.set n (b, .arr esz cells (max z (m * esz))))
  | iface {v v' : AV} {st st' : St} (t : TypeId) (h : FzD v v' st st') : FzD (.iface t v) (.iface t v') st st'
  | agg {l l' : List AV} {st st' : St} (h : FzL l l' st st') : FzD (.agg l) (.agg l') st st'
  | tup {l l' : List AV} {st st' : St} (h : FzL l l' st st') : FzD (.tup l) (.tup l') st st'
inductive FzL : List AV → List AV → St → St → Prop
  | nil (st : St) : FzL [] [] st st
  | cons {v v' : AV} {l l' : List AV} {st st' st'' : St} (h : FzD v v' st st') (k : FzL l l' st' st'') : FzL (v :: l) (v' :: l') st st''
end
section
variable {P : Program} {F : St} {W w : World}
theorem Inv.freeze {g : Gh} {st : St} (inv : Inv W g (st ++ F) w) {b m n esz z : Nat} {cells : List AV} (h1 : st[n]? = some (b, .arr esz cells z)) (h2 : m * esz ≤ cells.length) :
    ∃ g', Gh.le g g' ∧ Inv W g' (st.set n (b, .arr esz cells (max z (m * esz))) ++ F) w ∧ ∀ u, Rel g (.own b m) u → Rel g' (.fz (cells.take (m * esz)) m false) u := by
  by_cases hne : ∃ u, Rel g (.own b m) u
  · obtain ⟨u0, hu0⟩ := hne
    obtain ⟨g', vs, st', le, hr, inv', hc⟩ := VFz.sound (F := F) (VFz.own (K := fun vs st' => vs = [.fz (cells.take (m * esz)) m false] ∧ st' = st.set n (b, .arr esz cells (max z (m * esz)))) n esz cells z h1 h2 (.nil ⟨rfl, rfl⟩)) (q := false) (us := [u0]) ⟨u0, [], rfl, ⟨hu0, by simp⟩, rfl⟩ inv
    obtain ⟨rfl, rfl⟩ := hc
    refine ⟨g', le, inv', fun u hu => ?_⟩
    obtain ⟨c1, e1, k1, l1⟩ := hu0
    obtain ⟨c2, e2, k2, l2⟩ := hu
    rw [k1] at k2; cases k2
    obtain ⟨u', ws, e, hx, _⟩ := hr
    simp only [List.cons.injEq] at e
    rw [e2, ← e1, e.1]; exact hx.1
  · exact ⟨g, Gh.le_refl g, by
      have ho := inv.objAt h1
      obtain ⟨us', vs', T, lo, hi, cap, hh, hrel, hfr, hk, hlen, hmu⟩ := ho
      exact inv.upd h1 (Gh.le_refl g) (fun _ _ _ => rfl) inv.cap (fun i u' hm => inv.mem _ _ _ hm) (fun _ _ => rfl) rfl inv.below ⟨us', vs', T, lo, hi, cap, hh, hrel, hfr, hk, hlen, fun o ho => hmu o (by omega)⟩, fun u hu => absurd ⟨u, hu⟩ hne⟩
mutual
theorem FzD.sound : ∀ {v v' : AV} {st st' : St}, FzD v v' st st' → ∀ {g : Gh}, Inv W g (st ++ F) w → ∃ g', Gh.le g g' ∧ Inv W g' (st' ++ F) w ∧ ∀ u, Rel g v u → Rel g' v' u
  | _, _, _, _, .keep v st, g, inv => ⟨g, Gh.le_refl g, inv, fun _ h => h⟩
  | _, _, _, _, .nils st, g, inv => ⟨g, Gh.le_refl g, inv, fun u h => ⟨none, 0, h, Nat.le_refl _, (fun h => by cases h), .inl ⟨rfl, rfl⟩⟩⟩
  | _, _, _, _, .full cells n st, g, inv => ⟨g, Gh.le_refl g, inv, fun u ⟨a, cap, e1, e2, e3, e4⟩ => ⟨a, cap, e1, e2, (fun h => by cases h), e4⟩⟩
  | _, _, _, _, .own n esz cells z h1 h2, g, inv => inv.freeze h1 h2
  | _, _, _, _, .iface t h, g, inv => by
    obtain ⟨g', le, inv', k⟩ := h.sound inv
    exact ⟨g', le, inv', fun u ⟨x, e, hx⟩ => ⟨x, e, k x hx⟩⟩
  | _, _, _, _, .agg h, g, inv => by
    obtain ⟨g', le, inv', k⟩ := h.sound inv
    exact ⟨g', le, inv', fun u ⟨us, e, hx⟩ => ⟨us, e, k true us hx⟩⟩
  | _, _, _, _, .tup h, g, inv => by
    obtain ⟨g', le, inv', k⟩ := h.sound inv
    exact ⟨g', le, inv', fun u ⟨us, e, hx⟩ => ⟨us, e, k false us hx⟩⟩
theorem FzL.sound : ∀ {l l' : List AV} {st st' : St}, FzL l l' st st' → ∀ {g : Gh}, Inv W g (st ++ F) w → ∃ g', Gh.le g g' ∧ Inv W g' (st' ++ F) w ∧ ∀ q us, RelL g q l us → RelL g' q l' us
  | _, _, _, _, .nil st, g, inv => ⟨g, Gh.le_refl g, inv, fun _ _ h => h⟩
  | _, _, _, _, .cons h k, g, inv => by
    obtain ⟨g1, le1, inv1, k1⟩ := h.sound inv
    obtain ⟨g2, le2, inv2, k2⟩ := k.sound inv1
    exact ⟨g2, Gh.le_trans le1 le2, inv2, fun q us ⟨u, ws, e, ⟨hu, ho⟩, hr⟩ => ⟨u, ws, e, ⟨Rel.mono le2 _ _ (k1 u hu), ho⟩, k2 q ws (RelL.mono le1 _ _ hr)⟩⟩
end
inductive FzO : AOut → AOut → St → St → Prop
  | same (o : AOut) (st : St) : FzO o o st st
  | ret {v v' : AV} {st st' st'' : St} (h : FzD v v' st st') (k : VSel st'' st') : FzO (.ret v) (.ret v') st st''
/-- What a call hands back need not be written any more. -/
theorem ACalls.thaw {f : FuncId} {args : List AV} {st : St} {Post : AOut → St → Prop} (h : ACalls P f args st fun out st' => ∃ out' st'', FzO out out' st' st'' ∧ Post out' st'') : ACalls P f args st Post :=
  ⟨h.ent, fun W F g w us hl hr inv => (h.run W F g w us hl hr inv).mono fun e w' ⟨g', out, st', le, ho, inv', out', st'', hf, hp⟩ => by
    cases hf with
    | same => exact ⟨g', out, st', le, ho, inv', hp⟩
    | ret hd hs =>
      obtain ⟨g2, le2, inv2, k⟩ := hd.sound (F := F) inv'
      obtain ⟨u, e1, hu⟩ := ho
      exact ⟨g2, .ret _, st'', Gh.le_trans le le2, ⟨u, e1, k u hu⟩, inv2.sel hs, hp⟩⟩
/-- A contract over some objects, where there are more. -/
theorem ACalls.use {f : FuncId} {args : List AV} {s R st : St} {Q Post : AOut → St → Prop} (h : ACalls P f args s Q) (hp : (s ++ R).Perm st) (k : ∀ out s', Q out s' → Post out (s' ++ R)) : ACalls P f args st Post :=
  (ACalls.perm (ACalls.frame (R := R) h) hp).mono fun out st' ⟨s', e, hq⟩ => by rw [e]; exact k out s' hq
end
end Go.Av

namespace Go.Av
open Go
structure VAnd (A B : Prop) : Prop where
  a : A
  b : B
def edgesOk (done : List Nat) : List Edge → Bool
  | [] => true
  | e :: r => match Region.binds .any e with
    | false => edgesOk done r
    | true => match memN e.on done with
      | true => edgesOk done r
      | false => false
def readyL (done : List Nat) : Nat → List Oper → List Nat
  | _, [] => []
  | i, o :: r => match memN i done with
    | true => readyL done (i + 1) r
    | false => match edgesOk done o.after.toList with
      | true => i :: readyL done (i + 1) r
      | false => readyL done (i + 1) r
def eachK (f : Nat → Prop) : List Nat → Prop
  | [] => True
  | i :: r => match r with
    | [] => f i
    | j :: r => VAnd (f i) (eachK f (j :: r))
def operK (l : List Oper) (n : Nat) (k : Oper → Prop) : Prop :=
  match l with
  | [] => False
  | o :: r => match n with
    | 0 => k o
    | n + 1 => operK r n k
def Wany (P : Program) (tb : Tab) (n : Nat) (ops : List Oper) (Kp : AV → Env → St → Prop) (K : Env → St → Prop) : Nat → List Nat → Env → St → Prop
  | 0, done, env, st => VGd (readyL done 0 ops = []) (K env st)
  | f + 1, done, env, st => match readyL done 0 ops with
    | [] => K env st
    | i :: r => eachK (fun i => operK ops i fun o => WopsStep P tb n ops Kp o (fun env st _ => Wany P tb n ops Kp K f (i :: done) env st) env st K) (i :: r)
/-- Every order ends alike: 'ss': some slots, and what they hold at the end. -/
inductive VAny (run : (Env → St → Prop) → Prop) (env : Env) (K : Env → St → Prop) : Prop
  | mk (ι : Type) (ss : List Nat) (vs : ι → List AV) (st' : ι → St) (h : run fun env st => ∃ i, getsK env ss fun ws => ws = vs i ∧ VSel (st' i) st) (k : ∀ i, K (bindE ss (vs i) env) (st' i))

section
variable {P : Program} {tb : Tab} {n : Nat} {W : World} {F : St} {g : Gh} {env : Env} {st : St} {a : Act} {w : World}
theorem operK_spec {l : List Oper} {i : Nat} {k : Oper → Prop} (h : operK l i k) : ∃ o, l[i]? = some o ∧ k o := by
  induction l generalizing i with
  | nil => exact h.elim
  | cons o r ih =>
    cases i with
    | zero => exact ⟨o, rfl, h⟩
    | succ i => simpa using ih h
theorem eachK_spec {f : Nat → Prop} : ∀ {l : List Nat}, eachK f l → ∀ i ∈ l, f i
  | [], _, _, h => absurd h (by simp)
  | [i], h, j, hj => by rw [List.mem_singleton.1 hj]; exact h
  | i :: x :: r, h, j, hj => by
    rcases List.mem_cons.1 hj with rfl | hj
    · exact h.a
    · exact eachK_spec h.b j hj
theorem edgesOk_spec {done : List Nat} {listed : Array Bool} : ∀ {l : List Edge}, (∀ e ∈ l, Region.binds .any e = true → memN e.on done = listed.getD e.on false) →
    edgesOk done l = l.all fun e => !Region.binds .any e || listed.getD e.on false
  | [], _ => rfl
  | e :: r, h => by
    have ih := edgesOk_spec (l := r) (fun x hx => h x (List.mem_cons_of_mem _ hx))
    have h0 := h e (List.mem_cons_self ..)
    unfold edgesOk
    rw [List.all_cons]
    cases hb : Region.binds .any e with
    | false => simp [ih]
    | true =>
      have h1 := h0 hb
      cases hm : memN e.on done with
      | true => rw [hm] at h1; rw [← h1]; simp [ih]
      | false => rw [hm] at h1; rw [← h1]; simp
theorem readyL_spec {ops : Array Oper} {done : List Nat} {listed : Array Bool} (hd : ∀ i, i < ops.size → listed.getD i true = memN i done) (hs : listed.size = ops.size) (hdone : ∀ i ∈ done, i < ops.size) :
    ∀ i, i ∈ Region.ready .any ops listed ↔ i ∈ readyL done 0 ops.toList := by
  have key : ∀ (l : List Oper) (k : Nat), (∀ j, l[j]? = ops[k + j]?) → ∀ i, i ∈ readyL done k l ↔ k ≤ i ∧ i < k + l.length ∧ memN i done = false ∧ ∃ o, ops[i]? = some o ∧ edgesOk done o.after.toList = true := by
    intro l
    induction l with
    | nil => intro k _ i; simp [readyL]; omega
    | cons o r ih =>
      intro k hl i
      have h0 : ops[k]? = some o := by simpa using (hl 0).symm
      have ih := ih (k + 1) (fun j => by have := hl (j + 1); simpa [Nat.add_assoc, Nat.add_comm 1 j] using this) i
      unfold readyL
      rw [List.length_cons]
      cases hm : memN k done with
      | true =>
        dsimp only
        rw [ih]
        constructor
        · rintro ⟨h1, h2, h3⟩; exact ⟨by omega, by omega, h3⟩
        · rintro ⟨h1, h2, h3, h4⟩
          have : i ≠ k := fun e => by subst e; rw [hm] at h3; cases h3
          exact ⟨by omega, by omega, h3, h4⟩
      | false =>
        dsimp only
        cases he : edgesOk done o.after.toList with
        | true =>
          dsimp only
          rw [List.mem_cons, ih]
          constructor
          · rintro (rfl | ⟨h1, h2, h3⟩)
            · exact ⟨Nat.le_refl _, by omega, hm, o, h0, he⟩
            · exact ⟨by omega, by omega, h3⟩
          · rintro ⟨h1, h2, h3, h4⟩
            by_cases e : i = k
            · exact .inl e
            · exact .inr ⟨by omega, by omega, h3, h4⟩
        | false =>
          dsimp only
          rw [ih]
          constructor
          · rintro ⟨h1, h2, h3⟩; exact ⟨by omega, by omega, h3⟩
          · rintro ⟨h1, h2, h3, o', h4, h5⟩
            have : i ≠ k := fun e => by subst e; rw [h0] at h4; cases h4; rw [he] at h5; cases h5
            exact ⟨by omega, by omega, h3, o', h4, h5⟩
  intro i
  rw [key ops.toList 0 (by simp)]
  unfold Region.ready
  simp only [List.mem_filter, List.mem_range, Bool.and_eq_true, Bool.not_eq_true']
  have hgetD : ∀ i, listed.getD i false = memN i done := by
    intro i
    by_cases hi : i < ops.size
    · rw [← hd i hi]
      simp [Array.getD_eq_getD_getElem?, hs, hi]
    · have h1 : listed.getD i false = false := by simp [Array.getD_eq_getD_getElem?, hs, hi]
      rw [h1]
      symm
      rw [memN_false]
      exact fun h => hi (hdone i h)
  constructor
  · rintro ⟨h1, h2, h3⟩
    have ho : ops[i]? = some ops[i] := by simp [h1]
    rw [ho] at h3
    refine ⟨Nat.zero_le _, by simpa using h1, by rw [← hd i h1]; exact h2, _, ho, ?_⟩
    rw [edgesOk_spec (listed := listed) (fun e _ _ => (hgetD _).symm)]
    simpa using h3
  · rintro ⟨_, h1, h2, o, ho, h3⟩
    have h1 : i < ops.size := by simpa using h1
    refine ⟨h1, by rw [hd i h1]; exact h2, ?_⟩
    rw [ho]
    rw [edgesOk_spec (listed := listed) (fun e _ _ => (hgetD _).symm)] at h3
    simpa using h3

theorem WopsStep_sound (hp : ProgAt P tb W) {ops : Array Oper} {o : Oper} {Kp : AV → Env → St → Prop} {ih : Env → St → (Env → St → Prop) → Prop} {K : Env → St → Prop} {next : Act → World → Prop} {Q : Exit → Act → World → Prop}
    (h : WopsStep P tb n ops.toList Kp o ih env st K) (r : EnvR n g env a) (inv : Inv W g (st ++ F) w)
    (hn : ∀ g' env' st' u w', Gh.le g g' → EnvR n g' env' (a.put o.dst u) → Inv W g' (st' ++ F) w' → ih env' st' K → next (a.put o.dst u) w')
    (hpn : ∀ g' v u env' st' w', Gh.le g g' → Rel g' v u → EnvR n g' env' a → Inv W g' (st' ++ F) w' → Kp v env' st' → Q (.panic [{ v := u, recovered := false }]) a w') :
    if Region.wanted o (yielded ops a.tmps) then o.wp P a w next Q ∨ (o.asks P a w ∧ LetsOut Q) else next (a.put o.dst undef) w := by
  have run : ∀ {env env0 : Env}, EnvR n g env a → EnvR n g env0 a → opW P tb o.op env st (fun v st' => putK n o.dst v env fun env' => ih env' st' K) (fun v st' => Kp v env0 st') → o.wp P a w next Q := by
    intro env env0 r r0 h
    refine wp_of_ok (opW_sound hp h r inv) ?_ ?_
    · intro g' v u st' w' le' hr inv' hK
      obtain ⟨env', r', h'⟩ := putK_sound hK (r.mono le') hr
      exact hn g' env' st' u w' le' r' inv' h'
    · intro g' v u st' w' le' hr inv' hq
      exact hpn g' v u env0 st' w' le' hr (r0.mono le') inv' hq
  have skip : ∀ {env : Env}, EnvR n g env a → (putK n o.dst (.tup []) env fun env' => ih env' st K) → next (a.put o.dst undef) w := by
    intro env r h
    obtain ⟨env', r', h'⟩ := putK_sound h r (u := undef) ⟨[], rfl, rfl⟩
    exact hn g env' st undef w (Gh.le_refl g) r' inv h'
  unfold WopsStep at h
  split at h
  · rename_i hg
    rw [if_pos (by simp [Region.wanted, hg])]
    exact .inl (run r r h)
  · rename_i j want hg
    split at h
    · exact h.elim
    · rename_i d hd
      obtain ⟨gv, hl, h⟩ := Env.get_look h
      obtain ⟨u, hu, hru⟩ := r.look d gv hl
      have hw := wanted_guard hg hd hu
      split at h
      · rename_i b
        have hru : u = .bool b := hru
        subst hru
        have hb : ∀ q, b = q → EnvR n g ((d, .bool q) :: env) a := fun q e => r.fact ⟨_, hu, by rw [e]; rfl⟩
        split at h
        · cases b with
          | true => rw [if_pos (by rw [hw]; rfl)]; exact .inl (run (hb true rfl) r (h.t rfl))
          | false => rw [if_neg (by rw [hw]; simp)]; exact skip (hb false rfl) (h.f rfl)
        · cases b with
          | true => rw [if_neg (by rw [hw]; simp)]; exact skip (hb true rfl) (h.t rfl)
          | false => rw [if_pos (by rw [hw]; rfl)]; exact .inl (run (hb false rfl) r (h.f rfl))
      · obtain ⟨us, rfl, _⟩ := hru
        rw [if_neg (by rw [hw]; simp)]
        exact skip r h
      · exact h.elim

theorem Wany_sound (hp : ProgAt P tb W) {ops : Array Oper} {Q : AExit → Env → St → Prop} {K : Env → St → Prop} {a0 : Act} {g0 : Gh} {R : Exit → Act → World → Prop}
    (hK : ∀ g' env' st' a' w', Gh.le g0 g' → EnvR n g' env' a' → Inv W g' (st' ++ F) w' → Same (writesOps ops.toList) a0 a' → K env' st' → R .normal a' w')
    (hR : ∀ g' v u env' st' a' w', Gh.le g0 g' → Rel g' v u → EnvR n g' env' a' → Inv W g' (st' ++ F) w' → Same (writesOps ops.toList) a0 a' → Q (.panic v) env' st' → R (.panic [{ v := u, recovered := false }]) a' w') :
    ∀ (f : Nat) (done : List Nat) (listed : Array Bool) {g : Gh} {env : Env} {st : St} {a : Act} {w : World}, Wany P tb n ops.toList (fun v env st => Q (.panic v) env st) K f done env st →
    (∀ i, i < ops.size → listed.getD i true = memN i done) → listed.size = ops.size → (∀ i ∈ done, i < ops.size) → EnvR n g env a → Inv W g (st ++ F) w → Gh.le g0 g → Same (writesOps ops.toList) a0 a →
    wpAny P .any ops R f listed a w := by
  intro f
  induction f with
  | zero =>
    intro done listed g env st a w h hd hs hdone r inv le hsame
    obtain ⟨h1, h2⟩ := h
    have hr := readyL_spec hd hs hdone
    refine ⟨?_, hK g env st a w le r inv hsame h2⟩
    cases hq : Region.ready .any ops listed with
    | nil => rfl
    | cons x xs =>
      have : x ∈ readyL done 0 ops.toList := (hr x).1 (by rw [hq]; exact List.mem_cons_self ..)
      rw [h1] at this; cases this
  | succ f ih =>
    intro done listed g env st a w h hd hs hdone r inv le hsame
    have hr := readyL_spec hd hs hdone
    unfold Wany at h
    refine ⟨fun hq => ?_, fun i hi => ?_⟩
    · cases hl : readyL done 0 ops.toList with
      | nil => rw [hl] at h; exact hK g env st a w le r inv hsame h
      | cons x xs =>
        have : x ∈ Region.ready .any ops listed := (hr x).2 (by rw [hl]; exact List.mem_cons_self ..)
        rw [hq] at this; cases this
    · have hi' := (hr i).1 hi
      cases hl : readyL done 0 ops.toList with
      | nil => rw [hl] at hi'; cases hi'
      | cons x xs =>
        rw [hl] at h hi'
        obtain ⟨o, ho, h1⟩ := operK_spec (eachK_spec h i hi')
        have hoi : ops[i]? = some o := by simpa using ho
        have hilt : i < ops.size := (Array.getElem?_eq_some_iff.1 hoi).1
        unfold wpOp
        rw [hoi]
        dsimp only
        have hmem : o ∈ ops.toList := List.mem_of_getElem? ho
        refine WopsStep_sound (F := F) hp h1 r inv ?_ ?_
        · intro g' env' st' u w' le' r' inv' h'
          refine ih (i :: done) _ h' ?_ (by simpa using hs) ?_ r' inv' (Gh.le_trans le le') (hsame.trans (.put u fun t ht => mem_writesOps hmem ht))
          · intro j hj
            rw [Array.getD_eq_getD_getElem?]
            by_cases e : i = j
            · subst e
              rw [Array.getElem?_setIfInBounds_self_of_lt (by rw [hs]; exact hilt)]
              unfold memN
              rw [Nat.beq_refl]; rfl
            · rw [Array.getElem?_setIfInBounds_ne e, ← Array.getD_eq_getD_getElem?, hd j hj]
              have : Nat.beq i j = false := by rw [← Bool.not_eq_true]; exact fun h => e (Nat.eq_of_beq_eq_true h)
              simp only [memN, this]
          · intro j hj
            rcases List.mem_cons.1 hj with rfl | hj
            · exact hilt
            · exact hdone j hj
        · intro g' v u env' st' w' le' hr' r' inv' hq
          exact hR g' v u env' st' a w' (Gh.le_trans le le') hr' r' inv' hsame hq
/-- A region whose order is drawn, in every order. -/
theorem VDraw.all {p A : Prop} {id : Nat} {ops : Array Oper} {Q : AExit → Env → St → Prop}
    (h : keepK (writesOps ops.toList) env fun env' => VAny (fun K => Wany P tb n ops.toList (fun v env st => Q (.panic v) env st) K ops.toList.length [] env st) env' fun env st => Q .normal env st) :
    VDraw p A (VSem P tb n (writesOps ops.toList) (.region id ops true) Q env st) := by
  refine .any ⟨fun W F g a w hp r inv => ?_⟩
  obtain ⟨env', h, hkeep⟩ := keepK_sound h
  obtain ⟨ι, ss, vs, st', h, k⟩ := h
  refine wp_region_any hp.mixed ?_
  refine Wany_sound (F := F) (Q := Q) (a0 := a) (g0 := g) hp ?_ ?_ ops.size [] _ (by simpa using h) ?_ (by simp) (by simp) r inv.drew (Gh.le_refl g) (.refl _ _)
  · intro g' env2 st2 a' w' le r' inv' hs hg
    obtain ⟨i, hg⟩ := hg
    obtain ⟨ws, h1, h2, h3⟩ := getsK_sound hg
    obtain ⟨rfl, hsel⟩ := h1
    refine ⟨g', .normal, _, st' i, le, rfl, ⟨r'.size, fun t v hv => ?_⟩, inv'.sel hsel, hs, k i⟩
    rcases bindE_look hv with ⟨i, hi1, hi2⟩ | hv
    · exact r'.look t v (h3 i t v hi1 hi2)
    · obtain ⟨hm, hl⟩ := hkeep t v hv
      obtain ⟨u, hu, hr⟩ := r.look t v hl
      exact ⟨u, by rw [hs.tmps t hm]; exact hu, Rel.mono le _ _ hr⟩
  · intro g' v u env2 st2 a' w' le hv r' inv' hs hq
    exact ⟨g', .panic v, env2, st2, le, ⟨u, rfl, hv⟩, r', inv', hs, hq⟩
  · intro i hi
    rw [Array.getD_eq_getD_getElem?]; simp [memN, hi]
end
theorem VSel.refl : ∀ st : St, VSel st st
  | [] => .nil
  | x :: r => .cons 0 rfl (VSel.refl r)
theorem VSel.skip {s st : St} (h : VSel s st) (x : Nat × AObj) : VSel s (x :: st) := by
  induction h with
  | nil => exact .nil
  | cons i h k ih => exact .cons (i + 1) (by simpa using h) (by simpa using ih)
theorem VFz.all : ∀ (vs : List AV) {st : St} {K : List AV → St → Prop}, K vs st → VFz vs st K
  | [], _, _, h => .nil h
  | _ :: vs, _, _, h => .keep (VFz.all vs h)
/-- A contract over some objects, where there are more: these stand first afterwards. -/
theorem ACalls.usep {P : Program} {f : FuncId} {args : List AV} {s R st : St} {Q Post : AOut → St → Prop} (h : ACalls P f args s Q) (hp : (s ++ R).Perm st) (k : ∀ out s', Q out s' → Post out (R ++ s')) : ACalls P f args st Post :=
  ⟨h.ent, fun W F g w us hl hr inv => ((ACalls.perm (ACalls.frame (R := R) h) hp).run W F g w us hl hr inv).mono fun _ _ ⟨g', out, st', a, b, c, s', e, hq⟩ =>
    ⟨g', out, R ++ s', a, b, (by subst e; exact c.perm (List.Perm.append_right F List.perm_append_comm)), k out s' hq⟩⟩
/-- Every order, as far as it is plain. -/
theorem anyd {G : Prop} (h : G := by
  repeat' ((conv => whnf); first | refine VAnd.mk ?_ ?_ | exact Exists.intro () (And.intro rfl (by repeat (first | exact VSel.refl _ | exact .nil | refine .cons 0 rfl ?_))) | refine VGd.mk rfl ?_ | refine VOne.mk rfl ?_ | refine VIf.tt ?_ | refine VIf.ff ?_ | refine VFz.nil ?_ | refine VFz.keep ?_ | refine VObj.mk 0 _ rfl ?_ | refine VObj.mk 1 _ rfl ?_ | refine VObj.mk 2 _ rfl ?_ | refine VObj.mk 3 _ rfl ?_ | refine VObj.mk 4 _ rfl ?_ | refine VObj.mk 5 _ rfl ?_ | refine VTake.mk _ rfl rfl ?_ | refine VNth.mk _ rfl ?_ | refine VInt.fit (by omega) (by omega) ?_ | refine VGd.mk (by omega) ?_)) : G := h
theorem DCalls.use {P : Program} {f : FuncId} {args : List AV} {m : Option AV} {s R st : St} {K K' : St → Prop} (h : DCalls P f args s m K) (hp : (s ++ R).Perm st) (k : ∀ s', K s' → K' (s' ++ R)) : DCalls P f args st m K' :=
  ((DCalls.frame (R := R) h).perm hp).mono fun st' ⟨s', e, hk⟩ => by rw [e]; exact k s' hk
end Go.Av

namespace Go.Av
open Go
section
variable {P : Program} {tb : Tab} {n : Nat} {W : World} {F : St} {g : Gh} {env : Env} {st : St} {a : Act} {w : World}
/-- In the midst of a region; 's': what the operation that looks at nothing has laid. -/
structure MidL (W : World) (F : St) (st : St) (n : Nat) (ops : Array Oper) (qs : List Oper) (vs : List AV) (a0 : Act) (g0 : Gh) (listed : Array Bool) (s : St) (g : Gh) (a : Act) (w : World) : Prop where
  size : listed.size = ops.size
  inv : Inv W g (st ++ (s ++ F)) w
  asz : a.tmps.size = n
  le : Gh.le g0 g
  same : Same (writesOps ops.toList) a0 a
  closed : ∀ (i : Nat) o, ops[i]? = some o → listed.getD i false = true → ∀ e ∈ o.after, Region.binds .any e = true → listed.getD e.on false = true
  fin : ∀ (i : Nat) o v d, qs[i]? = some o → vs[i]? = some v → listed.getD i false = true → o.dst = some d → Slot g a d v
  rest : ∀ s, (∀ (i : Nat) o, ops[i]? = some o → listed.getD i false = true → o.dst ≠ some s) → a.tmps[s]? = a0.tmps[s]?
  nl : listed.getD (ops.size - 1) false = false
theorem MidL.step {ops : Array Oper} {qs : List Oper} {vs : List AV} {a0 : Act} {g0 g g' : Gh} {listed : Array Bool} {s s' : St} {w w' : World} (m : MidL W F st n ops qs vs a0 g0 listed s g a w) {i : Nat} {o : Oper} {u : Value}
    (hi : ops[i]? = some o) (hr2 : ∀ e ∈ o.after, Region.binds .any e = true → listed.getD e.on false = true) (hz : i ≠ ops.size - 1) (hd : i < qs.length → ∀ d, o.dst = some d → d < n) (hqi : ∀ p, qs[i]? = some p → p = o)
    (hdist : ∀ (j : Nat) p d, qs[j]? = some p → j ≠ i → p.dst = some d → o.dst ≠ some d) (le : Gh.le g g') (hv : ∀ v, i < qs.length → vs[i]? = some v → Rel g' v u) (inv : Inv W g' (st ++ (s' ++ F)) w') :
    MidL W F st n ops qs vs a0 g0 (listed.setIfInBounds i true) s' g' (a.put o.dst u) w' := by
  have hlt : i < listed.size := by rw [m.size]; exact (Array.getElem?_eq_some_iff.1 hi).1
  have back : ∀ j, j ≠ i → (listed.setIfInBounds i true).getD j false = true → listed.getD j false = true := fun j hj h => by rwa [getD_set_ne false (Ne.symm hj)] at h
  refine ⟨by simp [m.size], inv, by rw [put_size]; exact m.asz, Gh.le_trans m.le le, m.same.trans (.put u fun t ht => mem_writesOps (List.mem_of_getElem? (by simpa using hi)) ht), ?_, ?_, ?_, ?_⟩
  · intro j p hj hl e he hb
    by_cases hji : j = i
    · subst hji; rw [hi] at hj; cases hj
      exact getD_set_true (hr2 e he hb)
    · exact getD_set_true (m.closed j p hj (back j hji hl) e he hb)
  · intro j p x d hj hx hl hpd
    by_cases hji : j = i
    · subst hji
      have := hqi p hj
      subst this
      have hjl := (List.getElem?_eq_some_iff.1 hj).1
      exact ⟨u, by rw [hpd]; exact put_at (by rw [m.asz]; exact hd hjl d hpd), hv x hjl hx⟩
    · obtain ⟨y, h1, h2⟩ := m.fin j p x d hj hx (back j hji hl) hpd
      exact ⟨y, by rw [put_ne (hdist j p d hj hji hpd)]; exact h1, h2.mono le⟩
  · intro s hs
    have hos : o.dst ≠ some s := hs i o hi (by simp [hlt])
    rw [put_ne hos]
    exact m.rest s fun j p hj hl => hs j p hj (getD_set_true hl)
  · rw [getD_set_ne false hz]; exact m.nl
end
end Go.Av

namespace Go.Av
open Go
mutual
/-- How many values and letters a reading holds. -/
def bk {H : Type} : DataW H → Nat
  | .lit (.string l) => l.length + 1
  | .lit _ => 1
  | .nil => 1
  | .ptr d => bk d + 1
  | .slice elems spare => bkAll elems + bkAll spare + 1
  | .agg parts => bkAll parts + 1
  | .iface _ d => bk d + 1
  | .map entries => bkEnts entries + 1
  | .held _ => 1
def bkAll {H : Type} : List (DataW H) → Nat
  | [] => 0
  | d :: r => bk d + bkAll r
def bkEnts {H : Type} : List (Lit × DataW H) → Nat
  | [] => 0
  | x :: r => bk x.2 + bkEnts r
end
section
variable {H : Type} {enc : TypeId × Value → H} {P : Program} {W : World}
/-- At a type, with so much fuel: what is read is what some 'x' is, of which 'B' holds and which holds no more than was read. -/
def Reads (enc : TypeId × Value → H) (P : Program) (W : World) (t : TypeId) (fuel : Nat) {α : Type} (C : α → List AV) (B : α → Prop) (m : α → Nat) : Prop :=
  ∀ cs d ps, DataW.trod enc P W 0 (fun _ => true) true fuel t cs = some (d, ps) → (∀ n ∈ d.weights P t, n ≤ reachBytes) → ∃ x : α, RelL (gh0 W) true (C x) cs ∧ B x ∧ m x ≤ bk d
theorem Reads.map {t : TypeId} {fuel : Nat} {α β : Type} {C : α → List AV} {B : α → Prop} {m : α → Nat} {C' : β → List AV} {B' : β → Prop} {m' : β → Nat} (h : Reads enc P W t fuel C B m) (f : α → β) (h1 : ∀ x, C' (f x) = C x) (h2 : ∀ x, B x → B' (f x)) (h3 : ∀ x, m' (f x) ≤ m x) : Reads enc P W t fuel C' B' m' :=
  fun cs d ps e hw => by
    obtain ⟨x, q1, q2, q3⟩ := h cs d ps e hw
    exact ⟨f x, by rw [h1]; exact q1, h2 x q2, Nat.le_trans (h3 x) q3⟩
theorem Reads.zero {t : TypeId} {α : Type} {C : α → List AV} {B : α → Prop} {m : α → Nat} : Reads enc P W t 0 C B m :=
  fun cs d ps e _ => by simp [DataW.trod] at e
theorem reads_int {t : TypeId} {k : IntKind} (hu : P.underlying t = some (.int k)) (fuel : Nat) : Reads enc P W t fuel (fun n : Int => [.int k n]) (fun n => (Lit.int k n).wf = true) (fun _ => 1) := by
  intro cs d ps e hw
  cases fuel with
  | zero => simp [DataW.trod] at e
  | succ fuel =>
    simp only [DataW.trod, hu] at e
    split at e
    all_goals (try (rename_i h0; simp at h0; done))
    all_goals (try (cases e; done))
    · rename_i h0
      cases h0
      split at e
      · rename_i hc
        obtain ⟨rfl, hc⟩ := hc
        cases e
        exact ⟨_, ⟨_, [], rfl, ⟨rfl, fun _ => rfl⟩, rfl⟩, hc, by simp [bk]⟩
      · cases e
theorem reads_str {t : TypeId} (hu : P.underlying t = some .string) (fuel : Nat) : Reads enc P W t fuel (fun l : List UInt8 => [.str l]) (fun l => l.length ≤ reachBytes) (fun l => l.length + 1) := by
  intro cs d ps e hw
  cases fuel with
  | zero => simp [DataW.trod] at e
  | succ fuel =>
    simp only [DataW.trod, hu] at e
    split at e
    all_goals (try (rename_i h0; simp at h0; done))
    all_goals (try (cases e; done))
    · rename_i s h0
      split at e
      · cases e
        refine ⟨s.data.toList, ⟨_, [], rfl, ⟨rfl, fun _ => rfl⟩, rfl⟩, ?_, by simp [bk]⟩
        exact hw _ (by simp [DataW.weights])
      · cases e
theorem mapM_cons_some {α β : Type} {f : α → Option β} {a : α} {l : List α} {r : List β} (h : (a :: l).mapM f = some r) : ∃ b bs, f a = some b ∧ l.mapM f = some bs ∧ r = b :: bs := by
  simp only [List.mapM_cons, bind, Option.bind_eq_some_iff, pure, Option.some.injEq] at h
  obtain ⟨b, h1, bs, h2, h3⟩ := h
  exact ⟨b, bs, h1, h2, h3.symm⟩
theorem mapM_nil_some {α β : Type} {f : α → Option β} {r : List β} (h : ([] : List α).mapM f = some r) : r = [] := by
  simp [pure] at h; exact h
/-- The fields from a cell on. -/
def ReadsF (enc : TypeId × Value → H) (P : Program) (W : World) (fuel off : Nat) (fs : List Field) (size : Nat) {α : Type} (C : α → List AV) (B : α → Prop) (m : α → Nat) : Prop :=
  ∀ (cs : List Value) (xs : List (DataW H × List MemPlace)), fs.mapM (fun f => DataW.trod enc P W 0 (fun _ => true) true fuel f.type ((cs.drop f.offset).take (P.cellsOf f.type))) = some xs → (∀ n ∈ DataW.weightsEach P (fs.map (·.type)) (xs.map (·.1)), n ≤ reachBytes) → off + size = cs.length →
    ∃ x : α, RelL (gh0 W) true (C x) (cs.drop off) ∧ B x ∧ m x ≤ bkAll (xs.map (·.1))
theorem ReadsF.nil {fuel off : Nat} : ReadsF enc P W fuel off [] 0 (fun _ : Unit => []) (fun _ => True) (fun _ => 0) := by
  intro cs xs e _ hl
  obtain rfl := mapM_nil_some e
  refine ⟨(), ?_, trivial, Nat.zero_le _⟩
  rw [List.drop_eq_nil_of_le (by omega)]; rfl
theorem ReadsF.cons {fuel off n sz : Nat} {f : Field} {fs : List Field} {α β : Type} {C : α → List AV} {B : α → Prop} {m : α → Nat} {C' : β → List AV} {B' : β → Prop} {m' : β → Nat} (ho : f.offset = off) (hn : P.cellsOf f.type = n)
    (h : Reads enc P W f.type fuel C B m) (h' : ReadsF enc P W fuel (off + n) fs sz C' B' m') :
    ReadsF enc P W fuel off (f :: fs) (n + sz) (fun x : α × β => C x.1 ++ C' x.2) (fun x => B x.1 ∧ B' x.2) (fun x => m x.1 + m' x.2) := by
  intro cs xs e hw hl
  obtain ⟨b, bs, e1, e2, rfl⟩ := mapM_cons_some e
  obtain ⟨d, ps⟩ := b
  rw [ho, hn] at e1
  simp only [List.map_cons, DataW.weightsEach, List.mem_append] at hw
  obtain ⟨x, q1, q2, q3⟩ := h _ d ps e1 (fun n hn => hw n (.inl hn))
  obtain ⟨y, r1, r2, r3⟩ := h' cs bs e2 (fun n hn => hw n (.inr hn)) (by omega)
  refine ⟨(x, y), ?_, ⟨q2, r2⟩, by simp only [List.map_cons, bkAll]; omega⟩
  have := q1.append r1
  rwa [← List.drop_drop, List.take_append_drop] at this
theorem reads_struct {t : TypeId} {fs : Array Field} {sz : Nat} (hu : P.underlying t = some (.struct fs)) (hz : P.cellsOf t = sz) {fuel : Nat} {α : Type} {C : α → List AV} {B : α → Prop} {m : α → Nat} (h : ReadsF enc P W fuel 0 fs.toList sz C B m) :
    Reads enc P W t (fuel + 1) C B (fun x => m x + 1) := by
  intro cs d ps e hw
  simp only [DataW.trod, hu] at e
  split at e
  · rename_i hl
    rw [hz] at hl
    simp only [Option.map_eq_some_iff] at e
    obtain ⟨xs, e1, e2⟩ := e
    injection e2 with e2 e3
    subst e2
    simp only [DataW.weights, hu] at hw
    obtain ⟨x, q1, q2, q3⟩ := h cs xs e1 hw (by omega)
    exact ⟨x, by simpa using q1, q2, by simp only [bk]; omega⟩
  · cases e
theorem cells_of {W : World} {a : Addr} {n : Nat} {cs : List Value} (h : W.cells? 0 a n = some cs) : cs.length = n ∧ ∀ i, i < n → ∃ u, W.cell? (a.add i) = some u ∧ cs[i]? = some u := by
  unfold World.cells? at h
  rw [if_pos (Nat.zero_le _)] at h
  have key : ∀ (l : List Nat) (cs : List Value), l.mapM (fun i => W.cell? (a.add i)) = some cs → cs.length = l.length ∧ ∀ (i k : Nat), l[i]? = some k → ∃ u, W.cell? (a.add k) = some u ∧ cs[i]? = some u := by
    intro l
    induction l with
    | nil => intro cs h; obtain rfl := mapM_nil_some h; exact ⟨rfl, fun i k h => by simp at h⟩
    | cons x l ih =>
      intro cs h
      obtain ⟨b, bs, e1, e2, rfl⟩ := mapM_cons_some h
      obtain ⟨i1, i2⟩ := ih bs e2
      refine ⟨by simp [i1], fun i k hk => ?_⟩
      cases i with
      | zero => simp at hk; subst hk; exact ⟨b, e1, rfl⟩
      | succ i => simpa using i2 i k (by simpa using hk)
  obtain ⟨k1, k2⟩ := key _ _ h
  refine ⟨by simpa using k1, fun i hi => ?_⟩
  obtain ⟨u, h1, h2⟩ := k2 i i (by simp [hi])
  exact ⟨u, h1, h2⟩
theorem cells_rel {b o : Nat} {C : List AV} {cs : List Value} (hr : RelL (gh0 W) true C cs) (hc : ∀ i, i < cs.length → ∃ u, W.cell? ⟨b, o + i, none⟩ = some u ∧ cs[i]? = some u) : Cells (gh0 W) b o C := by
  induction C generalizing o cs with
  | nil => trivial
  | cons c C ih =>
    obtain ⟨u, ws, rfl, ⟨h1, h2⟩, h3⟩ := hr
    obtain ⟨v, e1, e2⟩ := hc 0 (by simp)
    simp at e2
    subst e2
    refine ⟨⟨u, by simpa [gh0] using e1, h1, h2 rfl⟩, ih h3 fun i hi => ?_⟩
    obtain ⟨v, e1, e2⟩ := hc (i + 1) (by simp; omega)
    exact ⟨v, by rw [← e1]; congr 2; omega, by simpa using e2⟩
theorem cells_append {b o : Nat} {C D : List AV} (h : Cells (gh0 W) b o C) (h' : Cells (gh0 W) b (o + C.length) D) : Cells (gh0 W) b o (C ++ D) := by
  induction C generalizing o with
  | nil => simpa using h'
  | cons c C ih =>
    obtain ⟨h1, h2⟩ := h
    refine ⟨h1, ih h2 ?_⟩
    rw [show o + 1 + C.length = o + (c :: C).length by simp; omega]; exact h'
theorem reads_slice {t e : TypeId} {esz : Nat} (hu : P.underlying t = some (.slice e)) (hz : P.cellsOf e = esz) (hpos : 0 < esz) {fuel : Nat} {α : Type} {C : α → List AV} {B : α → Prop} {m : α → Nat} (h : Reads enc P W e fuel C B m) :
    Reads enc P W t (fuel + 1) (fun l : List α => [.fz (l.flatMap C) l.length false]) (fun l => l.length * P.bytesOf e ≤ reachBytes ∧ ∀ x ∈ l, B x) (fun l => (l.map m).sum + 1) := by
  intro cs d ps ev hw
  simp only [DataW.trod, hu] at ev
  split at ev
  all_goals (try (rename_i h0; simp at h0; done))
  all_goals (try (cases ev; done))
  · cases ev
    exact ⟨[], ⟨_, [], rfl, ⟨⟨none, 0, rfl, Nat.le_refl _, (fun h => by cases h), .inl ⟨rfl, rfl⟩⟩, fun _ => rfl⟩, rfl⟩, ⟨by simp, by simp⟩, by simp [bk]⟩
  · rename_i e' a len cap h0
    injection h0 with h0
    injection h0 with h0
    subst h0
    split at ev
    · rename_i hc
      obtain ⟨_, hlc, _⟩ := hc
      simp only [Option.bind_eq_some_iff, Option.map_eq_some_iff, if_true] at ev
      obtain ⟨elems, e1, rest, e2, e3⟩ := ev
      injection e3 with e3 e4
      subst e3
      simp only [DataW.weights, hu, List.mem_cons, List.mem_append] at hw
      have hlen := (hw _ (.inl rfl))
      rw [hz] at e1 e2
      have key : ∀ (k0 n : Nat) (ys : List (DataW H × List MemPlace)), (List.range' k0 n).mapM (fun i => (W.cells? 0 (a.add (i * esz)) esz).bind (DataW.trod enc P W 0 (fun _ => true) true fuel e)) = some ys → (∀ q ∈ DataW.weightsAll P e (ys.map (·.1)), q ≤ reachBytes) →
          ∃ l : List α, l.length = n ∧ (∀ x ∈ l, B x) ∧ (l.map m).sum ≤ bkAll (ys.map (·.1)) ∧ (k0 = 0 → 0 < n → a.spot = none) ∧ (a.spot = none → Cells (gh0 W) a.block (a.off + k0 * esz) (l.flatMap C)) ∧ ys.length = n ∧ (l.flatMap C).length = n * esz := by
        intro k0 n
        induction n generalizing k0 with
        | zero =>
          intro ys hy _
          obtain rfl := mapM_nil_some hy
          exact ⟨[], rfl, by simp, by simp, fun _ h => by omega, fun _ => trivial, rfl, by simp⟩
        | succ n ih =>
          intro ys hy hwy
          rw [List.range'_succ] at hy
          obtain ⟨b, bs, q1, q2, rfl⟩ := mapM_cons_some hy
          obtain ⟨d, ps⟩ := b
          simp only [Option.bind_eq_some_iff] at q1
          obtain ⟨cs, q3, q4⟩ := q1
          simp only [List.map_cons, DataW.weightsAll, List.mem_append] at hwy
          obtain ⟨x, r1, r2, r3⟩ := h cs d ps q4 (fun n hn => hwy n (.inl hn))
          obtain ⟨l, s1, s2, s3, s4, s5, s6, s7⟩ := ih (k0 + 1) bs q2 (fun n hn => hwy n (.inr hn))
          obtain ⟨c1, c2⟩ := cells_of q3
          have hspot : k0 = 0 → a.spot = none := by
            intro hk
            subst hk
            obtain ⟨u, hu1, _⟩ := c2 0 hpos
            rw [Nat.zero_mul] at hu1
            unfold World.cell? Addr.add at hu1
            simp only [if_pos] at hu1
            split at hu1
            · split at hu1
              · cases hu1
              · rename_i hs
                simpa using hs
            · cases hu1
          have hrl := r1.length
          refine ⟨x :: l, by simp [s1], by simpa using ⟨r2, s2⟩, by simp only [List.map_cons, List.sum_cons, bkAll]; omega, fun hk _ => hspot hk, fun hspot => ?_, by simp [s6], by simp [s7, hrl, c1, Nat.add_mul]; omega⟩
          rw [List.flatMap_cons]
          have hadd : ∀ j, a.add j = ⟨a.block, a.off + j, none⟩ := by
            intro j
            obtain ⟨ab, ao, asp⟩ := a
            simp only at hspot
            subst hspot
            unfold Addr.add
            split <;> simp_all
          refine cells_append ?_ ?_
          · refine cells_rel r1 fun i hi => ?_
            obtain ⟨u, h1, h2⟩ := c2 i (by omega)
            refine ⟨u, ?_, h2⟩
            rw [← h1, hadd]
            unfold Addr.add
            split <;> simp_all
          · rw [show (C x).length = esz by omega]
            have := s5 hspot
            rw [Nat.add_mul, Nat.one_mul, ← Nat.add_assoc] at this
            exact this
      obtain ⟨l, s1, s2, s3, s4, s5, s6, s7⟩ := key 0 len elems (by rw [← List.range_eq_range']; exact e1) (fun q hq => hw q (.inr (.inl hq)))
      refine ⟨l, ⟨_, [], rfl, ⟨?_, fun _ => rfl⟩, rfl⟩, ⟨?_, s2⟩, ?_⟩
      · refine ⟨some a, cap, by rw [s1], by omega, (fun h => by cases h), ?_⟩
        by_cases hcap : cap = 0
        · left
          have : len = 0 := by omega
          have : l = [] := List.length_eq_zero_iff.1 (by omega)
          exact ⟨hcap, by rw [this]; rfl⟩
        · right
          have hsp : a.spot = none := by
            by_cases hl0 : 0 < len
            · exact s4 rfl hl0
            · obtain rfl : len = 0 := by omega
              obtain ⟨l', t1, t2, t3, t4, _⟩ := key 0 (cap - 0) rest (by
                rw [← e2, ← List.range_eq_range']; simp) (fun q hq => hw q (.inr (.inr hq)))
              exact t4 rfl (by omega)
          refine ⟨a.block, a.off, ?_, by simpa using s5 hsp⟩
          obtain ⟨ab, ao, asp⟩ := a
          simp only at hsp
          subst hsp; rfl
      · refine Nat.le_trans ?_ hlen
        rw [s1]
        exact Nat.mul_le_mul_right _ (by simp [s6])
      · simp only [bk]; omega
    · cases ev
end
end Go.Av
