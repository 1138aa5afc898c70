/- Regions whose order is drawn, in which what runs may also run ahead of what looks at memory, where it leaves the store's old part alone; append of nothing; cells of an object that are not written any more. Conditions: as each says. -/
import Derived.Test.YtonkeklageehbaaGreatDoorX6
set_option linter.all false
set_option maxRecDepth 20000
namespace Go.Av
open Go
/-! ### Append of nothing -/
def app0W (te : TyI) (st : St) (s x : AV) (K : AV → St → Prop) : Prop :=
  match s with
  | .fz cells m full => srcK st te.size x fun _ n => VGd (n = 0) (K (.fz cells m full) st)
  | _ => False
def app0C (tb : Tab) (c : Call) (env : Env) (st : St) (K : AV → St → Prop) : Prop :=
  match c.argTypes with
  | ⟨[t, u]⟩ => evalsK env c.args.toList fun vs => match vs with
    | [s, x] => tb.get t fun ti => match ti.kind with
      | .slice e => tb.get e fun te => tb.get u fun tu => match noInt tu.kind with
        | true => app0W te st s x K
        | false => False
      | _ => False
    | _ => False
  | _ => False
inductive VApp0 (A B : Prop) : Prop
  | app (h : A)
  | zero (h : B)
def opX (P : Program) (tb : Tab) (o : Op) (env : Env) (st : St) (K : AV → St → Prop) (Kp : AV → St → Prop) : Prop :=
  match o with
  | .call c => match c.callee with
    | .builtin .append => VApp0 (opW P tb (.call c) env st K Kp) (app0C tb c env st K)
    | _ => opW P tb (.call c) env st K Kp
  | o => opW P tb o env st K Kp
theorem opX_alloc {P : Program} {tb : Tab} {t : TypeId} {e : Env} {st : St} {K Kp : AV → St → Prop} : opX P tb (.alloc t) e st K Kp = opW P tb (.alloc t) e st K Kp := rfl
section
variable {P : Program} {tb : Tab} {n : Nat} {W : World} {F : St} {g : Gh} {env : Env} {st : St} {a : Act} {w : World} {K Kp : AV → St → Prop}
theorem run_append_zero {sT xT e : TypeId} {base : Option Addr} {m cap : Nat} {x : Value} {te : TyI} {rt : TypeId} (hS : P.underlying sT = some (.slice e)) (hX : ∀ q, P.underlying xT ≠ some (.int q)) (hXs : (P.underlying xT).isSome) (hte : tyB P e te = true)
    (hlen : Builtin.lenOf x = pure 0) (hnew : (Builtin.firstCells te.size 0 x).run P w = .ok ⟨[]⟩ w) (hcap : m ≤ cap) :
    (Builtin.append_ #[sT, xT] rt #[.slice base m cap, x]).run P w = .ok (.slice base m cap) w := by
  obtain ⟨i, z, hi, hs, hbb, hz, hzb⟩ := tyB_info hte
  obtain ⟨dx, hdx⟩ := Option.isSome_iff_exists.1 hXs
  unfold Builtin.append_
  simp only [List.getElem?_toArray, List.getElem?_cons_zero, List.getElem?_cons_succ, Sem.run_bind, run_und hS, Result.andThen_ok, run_size hi, hs, run_und hdx, Sem.run_pure, hlen]
  have hfalse : ∀ {α : Type} (x y : Sem α), (if (false = true) then x else y) = y := fun _ _ => rfl
  cases dx
  case int q => exact absurd hdx (hX q)
  all_goals
    simp only [hfalse, Sem.run_bind, Sem.run_pure, Result.andThen_ok, if_pos hcap, Nat.add_zero, Bool.not_false, if_true, hnew]
    cases base with
    | none => rfl
    | some ad => simp [storeCells]
theorem ok_app0 {dst : Option Tmp} {c : Call} {ty : TypeId} {pos : String} {after : Array Edge} {guard : Option (Nat × Bool)} (htb : TabOk P tb) (hc : c.callee = .builtin .append) (h : app0C tb c env st K) (r : EnvR n g env a) (inv : Inv W g (st ++ F) w) :
    OpOk P W F g K Kp ((execOp a.eval ⟨dst, .call c, ty, pos, after, guard⟩).run P w) := by
  unfold app0C at h
  split at h
  · rename_i t u hat
    obtain ⟨vs, h1, h2⟩ := evalsK_sound r h
    split at h2
    · rename_i s x
      obtain ⟨ti, hty, h3⟩ := Tab.get_ok htb h2
      have hk := tyB_kind hty
      split at h3
      · rename_i e ek; rw [ek] at hk
        obtain ⟨te, hte, h4⟩ := Tab.get_ok htb h3
        obtain ⟨tu, htu, h5⟩ := Tab.get_ok htb h4
        split at h5
        · rename_i hni
          obtain ⟨hX, hXs⟩ := kind_some (tyB_kind htu) hni
          obtain ⟨su, ws, ew, ⟨hs, _⟩, hws⟩ := h1
          obtain ⟨xu, exu, hx, _⟩ := hws.one
          subst exu
          unfold app0W at h5
          split at h5
          · rename_i cells m full
            obtain ⟨xs, us, k, q1, q2, q3, q4, q5⟩ := srcK_sound (P := P) inv h5 hx
            obtain ⟨hk0, hK⟩ := q5
            subst hk0
            have : us = [] := List.length_eq_zero_iff.1 (by rw [q2]; simp)
            subst this
            have hs' := hs
            obtain ⟨ad, cap, es, hcap, _⟩ := hs
            have e1 : (Builtin.append_ #[t, u] ty #[su, xu]).run P w = .ok su w := by
              subst es
              exact run_append_zero (kind_slice hk) hX hXs hte q4 (q3 w rfl) hcap
            refine .val (u := su) (exec_builtin hc ?_) (Gh.le_refl g) hs' inv hK
            have : c.args.map a.eval = #[su, xu] := by apply Array.ext'; simpa using ew
            rw [this, hat]
            simp only [builtin, Sem.run_bind, e1, Result.andThen_ok, Sem.run_pure]
          · exact h5.elim
        · exact h5.elim
      · exact h3.elim
    · exact h2.elim
  · exact h.elim
theorem opX_sound (hp : ProgAt P tb W) : ∀ {o : Oper}, opX P tb o.op env st K Kp → EnvR n g env a → Inv W g (st ++ F) w → OpOk P W F g K Kp ((execOp a.eval o).run P w) := by
  intro o h r inv
  obtain ⟨dst, op, ty, pos, after, guard⟩ := o
  cases op with
  | call c =>
    by_cases hc : c.callee = .builtin .append
    · have h : VApp0 (opW P tb (.call c) env st K Kp) (app0C tb c env st K) := by
        unfold opX at h
        dsimp only at h
        rw [hc] at h
        exact h
      cases h with
      | app h => exact opW_sound hp (o := ⟨dst, .call c, ty, pos, after, guard⟩) h r inv
      | zero h => exact ok_app0 hp.tab hc h r inv
    · have h : opW P tb (.call c) env st K Kp := by
        unfold opX at h
        dsimp only at h
        split at h
        · rename_i he; exact absurd he hc
        · exact h
      exact opW_sound hp (o := ⟨dst, .call c, ty, pos, after, guard⟩) h r inv
  | _ => exact opW_sound hp (o := ⟨dst, _, ty, pos, after, guard⟩) h r inv
end
/-- What changes nothing ('x'), and what runs ('z'). -/
def mixBX (ls : List Nat) (ops : List Oper) (x z : Nat × Oper) : Bool :=
  (match x.2.dst with
  | none => true
  | some d => (match z.2.dst with
    | none => true
    | some e => !Nat.beq d e) && (match memT d (looks ops z.2) with
    | true => edgeIn x.1 z.2.after.toList
    | false => true)) &&
  (match pureOp x.2.op with
  | true => true
  | false => match isAlloc z.2.op with
    | true => true
    | false => match memN z.1 ls with
      | true => true
      | false => reachE ops x.1 8 z.2.after.toList) &&
  (match z.2.dst with
  | none => true
  | some e => match memT e (looks ops x.2) with
    | true => reachE ops x.1 8 z.2.after.toList
    | false => true)
def mixXX (ls : List Nat) (ops : List Oper) (x : Nat × Oper) : List (Nat × Oper) → Bool
  | [] => true
  | z :: r => mixBX ls ops x z && mixXX ls ops x r
def mixLX (ls : List Nat) (ops : List Oper) : List (Nat × Oper) → List (Nat × Oper) → Bool
  | [], _ => true
  | x :: r, l => mixXX ls ops x l && mixLX ls ops r l
def chainBX (ls ss : List Nat) (ops : List Oper) : Bool :=
  edgesAll 0 ops && pairsX ops (qsL ss 0 ops) && mixLX ls ops (qsL ss 0 ops) (lsL ss 0 ops)
def WxStepX (P : Program) (tb : Tab) (n : Nat) (ls : List Nat) (st0 : St) (Kp : AV → Env → St → Prop) (i : Nat) (o : Oper) (ih : Env → St → Prop) (env : Env) (st : St) : Prop :=
  match o.guard with
  | none => onlyK (tmpsOf o.op.operands.toList) env fun e => match memN i ls with
    | true => opX P tb o.op e st (fun v st' => VGd (∃ s, st' = s ++ st0) (putK n o.dst v env fun env' => ih env' st')) (fun v st' => Kp v e st')
    | false => opX P tb o.op e st (fun v st' => putK n o.dst v env fun env' => ih env' st') (fun v st' => Kp v e st')
  | some _ => False
def WchainX (P : Program) (tb : Tab) (n : Nat) (ls : List Nat) (st0 : St) (ops : List Oper) (Kp : AV → Env → St → Prop) (K : Env → St → Prop) : Nat → List Nat → Env → St → Prop
  | 0, done, env, st => VGd (readyL done 0 ops = []) (K env st)
  | f + 1, done, env, st => match readyL done 0 ops with
    | [] => K env st
    | i :: r => eachK (fun i => operK ops i fun o => WxStepX P tb n ls st0 Kp i o (fun env st => WchainX P tb n ls st0 ops Kp K f (i :: done) env st) env st) (i :: r)
theorem mixXX_spec {ls : List Nat} {ops : List Oper} {x : Nat × Oper} : ∀ {l : List (Nat × Oper)}, mixXX ls ops x l = true → ∀ y ∈ l, mixBX ls ops x y = true
  | [], _, _, h => by cases h
  | z :: r, h, y, hy => by
    simp only [mixXX, Bool.and_eq_true] at h
    rcases List.mem_cons.1 hy with rfl | hy
    · exact h.1
    · exact mixXX_spec h.2 y hy
theorem mixLX_spec {ls : List Nat} {ops : List Oper} {l : List (Nat × Oper)} : ∀ {q : List (Nat × Oper)}, mixLX ls ops q l = true → ∀ x ∈ q, ∀ y ∈ l, mixBX ls ops x y = true
  | [], _, _, h, _, _ => by cases h
  | z :: r, h, x, hx, y, hy => by
    simp only [mixLX, Bool.and_eq_true] at h
    rcases List.mem_cons.1 hx with rfl | hx
    · exact mixXX_spec h.1 y hy
    · exact mixLX_spec h.2 x hx y hy
theorem mixBX_spec {ls : List Nat} {ops : List Oper} {x z : Nat × Oper} (h : mixBX ls ops x z = true) : (∀ d, x.2.dst = some d → z.2.dst ≠ some d) ∧ (∀ d, x.2.dst = some d → d ∈ looks ops z.2 → edgeIn x.1 z.2.after.toList = true) ∧
    (pureOp x.2.op = true ∨ isAlloc z.2.op = true ∨ memN z.1 ls = true ∨ reachE ops x.1 8 z.2.after.toList = true) ∧ (∀ e, z.2.dst = some e → e ∈ looks ops x.2 → reachE ops x.1 8 z.2.after.toList = true) := by
  unfold mixBX at h
  rw [Bool.and_eq_true, Bool.and_eq_true] at h
  obtain ⟨⟨h1, h2⟩, h4⟩ := h
  refine ⟨fun d hd hz => ?_, fun d hd hl => ?_, ?_, fun e he hl => ?_⟩
  · simp [hd, hz] at h1
  · rw [hd] at h1
    simp only [Bool.and_eq_true] at h1
    have := h1.2
    rw [memT_iff.2 hl] at this
    exact this
  · cases hp : pureOp x.2.op with
    | true => exact .inl rfl
    | false =>
      rw [hp] at h2
      cases ha : isAlloc z.2.op with
      | true => exact .inr (.inl rfl)
      | false =>
        rw [ha] at h2
        cases hm : memN z.1 ls with
        | true => exact .inr (.inr (.inl rfl))
        | false => rw [hm] at h2; exact .inr (.inr (.inr h2))
  · rw [he] at h4
    dsimp only at h4
    rw [memT_iff.2 hl] at h4
    exact h4
section
variable {P : Program} {tb : Tab} {n : Nat} {W : World} {F : St} {g : Gh} {env : Env} {st : St} {a : Act} {w : World}
/-- In the midst of a region. -/
structure MidCX (ls : List Nat) (W : World) (F : St) (st : St) (n : Nat) (ops : Array Oper) (ss : List Nat) (vs : List AV) (a0 : Act) (g0 : Gh) (env1 : Env) (listed : Array Bool) (done : List Nat) (env : Env) (stc : St) (g : Gh) (a : Act) (w : World) : Prop where
  size : listed.size = ops.size
  inv : Inv W g (stc ++ F) w
  asz : a.tmps.size = n
  le : Gh.le g0 g
  same : Same (writesOps ops.toList) a0 a
  closed : ∀ (i : Nat) o, ops[i]? = some o → listed.getD i false = true → ∀ e ∈ o.after, Region.binds .any e = true → listed.getD e.on false = true
  fin : ∀ (k : Nat) i o v d, (qsL ss 0 ops.toList)[k]? = some (i, o) → vs[k]? = some v → listed.getD i false = true → o.dst = some d → Slot g a d v
  look : ∀ s v, env.look s = some v → (∀ i o, (i, o) ∈ qsL ss 0 ops.toList → listed.getD i false = false → o.dst ≠ some s) → Slot g a s v
  tail : ∀ s, (∀ z l, ops[z]? = some l → memN z ss = true → l.dst ≠ some s) → env.look s = env1.look s
  rest : ∀ s, (∀ (i : Nat) o, ops[i]? = some o → listed.getD i false = true → o.dst ≠ some s) → a.tmps[s]? = a0.tmps[s]?
  fresh : (∀ z l, ops[z]? = some l → memN z ss = true → listed.getD z false = true → isAlloc l.op = true ∨ memN z ls = true) → ∃ s, stc = s ++ st
  done : ∀ i, i < ops.size → (memN i done = true ↔ (listed.getD i false = true ∨ memN i ss = false))
theorem chain_anyX (hp : ProgAt P tb W) {ops : Array Oper} {ls ss : List Nat} {vs : List AV} {a0 : Act} {g0 : Gh} {env0 env1 : Env} {Q : AExit → Env → St → Prop} {K : Env → St → Prop} {R : Exit → Act → World → Prop}
    (hB : chainBX ls ss ops.toList = true) (hlen : vs.length = (sndL (qsL ss 0 ops.toList)).length) (r0 : EnvR n g0 env0 a0)
    (tr : TraceOk (((sndL (qsL ss 0 ops.toList)).map (·.dst)).zip vs).reverse env0 env1) (hd : ∀ o ∈ sndL (qsL ss 0 ops.toList), ∀ d, o.dst = some d → d < n)
    (hf : ∀ (k : Nat) o v, (sndL (qsL ss 0 ops.toList))[k]? = some o → vs[k]? = some v → OpFact P tb n ops env0 st ((((sndL (qsL ss 0 ops.toList)).map (·.dst)).zip vs).take k).reverse o v)
    (hK : ∀ g' env' st' a' w', Gh.le g0 g' → EnvR n g' env' a' → Inv W g' (st' ++ F) w' → Same (writesOps ops.toList) a0 a' → K env' st' → R .normal a' w')
    (hR : ∀ g' v u env' st' a' w', Gh.le g0 g' → Rel g' v u → EnvR n g' env' a' → Inv W g' (st' ++ F) w' → Same (writesOps ops.toList) a0 a' → Q (.panic v) env' st' → R (.panic [{ v := u, recovered := false }]) a' w') :
    ∀ (fuel f : Nat) (done : List Nat) (listed : Array Bool) (rem : List Nat) (env : Env) (stc : St) (g : Gh) (a : Act) (w : World), rem.length = fuel → (∀ i, i < ops.size → listed.getD i false = false → i ∈ rem) →
      MidCX ls W F st n ops ss vs a0 g0 env1 listed done env stc g a w → WchainX P tb n ls st ops.toList (fun v env st => Q (.panic v) env st) K f done env stc →
      wpAny P .any ops R fuel listed a w := by
  unfold chainBX at hB
  simp only [Bool.and_eq_true] at hB
  obtain ⟨⟨hE, hP⟩, hM⟩ := hB
  have hE := edgesAll_spec hE
  simp only [Nat.zero_add] at hE
  have hP := pairsX_spec hP
  have hM := mixLX_spec hM
  obtain ⟨qx, hqx⟩ : ∃ qx, qx = qsL ss 0 ops.toList := ⟨_, rfl⟩
  have memq : ∀ i o, (i, o) ∈ qx ↔ ops[i]? = some o ∧ memN i ss = false := by
    intro i o
    rw [hqx, mem_qsL]
    simp
  have mixq : ∀ i o z l, (i, o) ∈ qx → ops[z]? = some l → memN z ss = true → mixBX ls ops.toList (i, o) (z, l) = true := fun i o z l h1 h2 h3 =>
    hM _ (hqx ▸ h1) _ (mem_lsL (Nat.zero_le _) (by simpa using h2) h3)
  have hedge : ∀ i o, ops[i]? = some o → ∀ e ∈ o.after, Region.binds .any e = true → e.on < i := fun i o h e he hb =>
    edgesLt_spec (hE i o (by simpa using h)) e (by simpa using he) hb
  have allL : ∀ {listed : Array Bool}, listed.size = ops.size → Region.ready .any ops listed = [] → ∀ i, i < ops.size → listed.getD i false = true := by
    intro listed hs hr i
    induction i using Nat.strongRecOn with
    | _ i ih =>
      intro hi
      cases hl : listed.getD i false with
      | true => rfl
      | false =>
        have ho : ops[i]? = some ops[i] := by simp [hi]
        have : i ∈ Region.ready .any ops listed := mem_ready.2 ⟨by
          have h2 : i < listed.size := by omega
          simpa [h2] using hl, _, ho, fun e he hb => ih e.on (hedge i _ ho e he hb) (by have := hedge i _ ho e he hb; omega)⟩
        rw [hr] at this; cases this
  -- once all are done
  have last : ∀ {f : Nat} {done : List Nat} {listed : Array Bool} {env : Env} {stc : St} {g : Gh} {a : Act} {w : World}, MidCX ls W F st n ops ss vs a0 g0 env1 listed done env stc g a w → (∀ i, i < ops.size → listed.getD i false = true) →
      WchainX P tb n ls st ops.toList (fun v env st => Q (.panic v) env st) K f done env stc → R .normal a w := by
    intro f done listed env stc g a w m hall h
    have hr : readyL done 0 ops.toList = [] := by
      rw [List.eq_nil_iff_forall_not_mem]
      intro i hi
      obtain ⟨_, h1, h2⟩ := of_readyL hi
      have h1 : i < ops.size := by simpa using h1
      have := (m.done i h1).2 (.inl (hall i h1))
      rw [h2] at this; cases this
    have hk : K env stc := by
      cases f with
      | zero => exact h.2
      | succ f => unfold WchainX at h; rw [hr] at h; exact h
    refine hK g env stc a w m.le ⟨m.asz, fun t v hv => m.look t v hv fun i o ho hl => ?_⟩ m.inv m.same hk
    rw [← hqx] at ho
    have := hall i (Array.getElem?_eq_some_iff.1 ((memq i o).1 ho).1).1
    rw [hl] at this; cases this
  intro fuel
  induction fuel with
  | zero =>
    intro f done listed rem env stc g a w hrl hrem m h
    have : rem = [] := List.length_eq_zero_iff.1 hrl
    subst this
    have hall : ∀ i, i < ops.size → listed.getD i false = true := fun i hi => by
      cases hl : listed.getD i false with
      | true => rfl
      | false => exact absurd (hrem i hi hl) (by simp)
    refine ⟨?_, last m hall h⟩
    rw [List.eq_nil_iff_forall_not_mem]
    intro i hi
    obtain ⟨h1, o, ho, _⟩ := mem_ready.1 hi
    have hlt := (Array.getElem?_eq_some_iff.1 ho).1
    have h2 : i < listed.size := by rw [m.size]; exact hlt
    have := hall i hlt
    simp [Array.getD_eq_getD_getElem?, h2] at h1 this
    rw [h1] at this; cases this
  | succ fuel ih =>
    intro f done listed rem env stc g a w hrl hrem m h
    refine ⟨fun hr => last m (allL m.size hr) h, fun i hi => ?_⟩
    obtain ⟨h1, o, ho, h2⟩ := mem_ready.1 hi
    have hlt := (Array.getElem?_eq_some_iff.1 ho).1
    have hls : i < listed.size := by rw [m.size]; exact hlt
    have hnl : listed.getD i false = false := by
      simpa [Array.getD_eq_getD_getElem?, hls] using h1
    have hot : ops.toList[i]? = some o := by simpa using ho
    have hom : o ∈ ops.toList := List.mem_of_getElem? hot
    have back : ∀ j, j ≠ i → (listed.setIfInBounds i true).getD j false = true → listed.getD j false = true := fun j hj h => by rwa [getD_set_ne false (Ne.symm hj)] at h
    have hrem' : ∀ j, j < ops.size → (listed.setIfInBounds i true).getD j false = false → j ∈ rem.erase i := by
      intro j hj hjl
      by_cases hji : j = i
      · subst hji; simp [hls] at hjl
      · rw [getD_set_ne false (Ne.symm hji)] at hjl
        exact (List.mem_erase_of_ne hji).2 (hrem j hj hjl)
    have hlen' : (rem.erase i).length = fuel := by rw [List.length_erase_of_mem (hrem i hlt hnl)]; omega
    have closed' : ∀ (j : Nat) p, ops[j]? = some p → (listed.setIfInBounds i true).getD j false = true → ∀ e ∈ p.after, Region.binds .any e = true → (listed.setIfInBounds i true).getD e.on false = true := by
      intro j p hj hl e he hb
      by_cases hji : j = i
      · subst hji; rw [ho] at hj; cases hj
        exact getD_set_true (h2 e he hb)
      · exact getD_set_true (m.closed j p hj (back j hji hl) e he hb)
    have hreach : ∀ (i z : Nat) l, ops[z]? = some l → listed.getD z false = true → reachE ops.toList i 8 l.after.toList = true → listed.getD i false = true := by
      intro i z l hz hzl h3
      have := reachE_spec (ops := ops.toList) (i := i) (D := fun j => j < ops.size ∧ listed.getD j false = true) (fun j p hj hD e he hb => by
        have hj : ops[j]? = some p := by simpa using hj
        refine ⟨?_, m.closed j p hj hD.2 e (by simpa using he) hb⟩
        have := hedge j p hj e (by simpa using he) hb
        omega) (fun j hD => by simpa using hD.1) 8 _ h3 (fun e he hb => by
        refine ⟨?_, m.closed z l hz hzl e (by simpa using he) hb⟩
        have := hedge z l hz e (by simpa using he) hb
        have := (Array.getElem?_eq_some_iff.1 hz).1
        omega)
      exact this.2
    have rest' : ∀ u s, (∀ (j : Nat) p, ops[j]? = some p → (listed.setIfInBounds i true).getD j false = true → p.dst ≠ some s) → (a.put o.dst u).tmps[s]? = a0.tmps[s]? := by
      intro u s hs
      rw [put_ne (hs i o ho (by simp [hls]))]
      exact m.rest s fun j p hj hl => hs j p hj (getD_set_true hl)
    have same' : ∀ u, Same (writesOps ops.toList) a0 (a.put o.dst u) := fun u => m.same.trans (.put u fun t ht => mem_writesOps hom ht)
    unfold wpOp
    simp only [ho]
    cases hss : memN i ss with
    | false =>
      have hq : (i, o) ∈ qx := (memq i o).2 ⟨ho, hss⟩
      obtain ⟨k, hk'⟩ := List.mem_iff_getElem?.1 hq
      have hkl := (List.getElem?_eq_some_iff.1 hk').1
      have hsk : (sndL (qsL ss 0 ops.toList))[k]? = some o := by rw [sndL_map, ← hqx, List.getElem?_map, hk']; rfl
      have hvl : vs.length = qx.length := by rw [hlen, sndL_map, ← hqx, List.length_map]
      have hv : vs[k]? = some (vs[k]'(by omega)) := by simp
      have hdist : ∀ (j : Nat) x d, qx[j]? = some x → j ≠ k → x.2.dst = some d → o.dst ≠ some d := by
        intro j x d hj hjk hxd
        rcases Nat.lt_or_gt_of_ne hjk with h | h
        · exact (pairB_spec (hP j k x (i, o) h (hqx ▸ hj) (hqx ▸ hk'))).1 d hxd
        · exact fun hod => (pairB_spec (hP k j (i, o) x h (hqx ▸ hk') (hqx ▸ hj))).1 d hod hxd
      have hnext : ∀ {g' : Gh} {u : Value} {w' : World}, Gh.le g g' → Rel g' (vs[k]'(by omega)) u → Inv W g' (stc ++ F) w' → wpAny P .any ops R fuel (listed.setIfInBounds i true) (a.put o.dst u) w' := by
        intro g' u w' le hu inv
        have fin' : ∀ (j : Nat) i' p x d, (qsL ss 0 ops.toList)[j]? = some (i', p) → vs[j]? = some x → (listed.setIfInBounds i true).getD i' false = true → p.dst = some d → Slot g' (a.put o.dst u) d x := by
          intro j i' p x d hj hx hl hpd
          by_cases hjk : j = k
          · subst hjk
            rw [← hqx, hk'] at hj; cases hj
            rw [hv] at hx; cases hx
            exact ⟨u, by rw [hpd]; exact put_at (by rw [m.asz]; exact hd o (List.mem_of_getElem? hsk) d hpd), hu⟩
          · have hii : i' ≠ i := by
              intro e
              subst e
              have hm : (i', p) ∈ qx := hqx ▸ List.mem_of_getElem? hj
              have : p = o := by
                have := ((memq i' p).1 hm).1
                rw [ho] at this; exact (Option.some.inj this).symm
              subst this
              exact hdist j (i', p) d (hqx ▸ hj) hjk hpd hpd
            obtain ⟨y, h3, h4⟩ := m.fin j i' p x d hj hx (back i' hii hl) hpd
            exact ⟨y, by rw [put_ne (hdist j (i', p) d (hqx ▸ hj) hjk hpd)]; exact h3, h4.mono le⟩
        refine ih f done _ (rem.erase i) env stc g' _ w' hlen' hrem' ⟨by simp [m.size], inv, by rw [put_size]; exact m.asz, Gh.le_trans m.le le, same' u, closed', fin', ?_, m.tail, rest' u, ?_, ?_⟩ h
        · intro s v hs hun
          by_cases hos : o.dst = some s
          · -- what is known of this slot was known before any other ran
            rw [m.tail s (fun z l hz hzs hzd => (mixBX_spec (mixq i o z l hq hz hzs)).1 s hos hzd)] at hs
            refine tr g' _ s v hs fun v' hv' => ?_
            unfold srcL at hv'
            split at hv'
            · rename_i x hx
              cases hv'
              have hm := lookP_some hx
              rw [List.mem_reverse, List.mem_iff_getElem?] at hm
              obtain ⟨j, hj⟩ := hm
              rw [List.getElem?_zip_eq_some] at hj
              obtain ⟨h5, h6⟩ := hj
              rw [sndL_map] at h5
              simp only [List.map_map, List.getElem?_map, Option.map_eq_some_iff, Function.comp] at h5
              obtain ⟨⟨i', p⟩, h7, h8⟩ := h5
              have hjk : j = k := by
                by_cases e : j = k
                · exact e
                · exact absurd hos (hdist j (i', p) s (hqx ▸ h7) e h8)
              subst hjk
              rw [← hqx, hk'] at h7; cases h7
              exact fin' j i o v' s (hqx ▸ hk') h6 (by simp [hls]) hos
            · rename_i hx
              refine absurd rfl (lookP_none hx (some s, vs[k]'(by omega)) ?_)
              rw [List.mem_reverse, List.mem_iff_getElem?]
              refine ⟨k, ?_⟩
              rw [List.getElem?_zip_eq_some]
              refine ⟨?_, by simp⟩
              rw [List.getElem?_map, hsk]
              show some o.dst = _
              rw [hos]
          · obtain ⟨y, h5, h6⟩ := m.look s v hs fun i' p hp' hl hpd => by
              by_cases e : i' = i
              · subst e
                have : p = o := by
                  have := ((memq i' p).1 (hqx ▸ hp')).1
                  rw [ho] at this; exact (Option.some.inj this).symm
                subst this; exact hos hpd
              · exact hun i' p hp' (by rw [getD_set_ne false (Ne.symm e)]; exact hl) hpd
            exact ⟨y, by rw [put_ne hos]; exact h5, h6.mono le⟩
        · intro hz
          refine m.fresh fun z l hzl hzs hll => ?_
          have hzi : z ≠ i := fun e => by subst e; rw [hss] at hzs; cases hzs
          exact hz z l hzl hzs (by rw [getD_set_ne false (Ne.symm hzi)]; exact hll)
        · intro j hj
          rw [m.done j hj]
          by_cases e : j = i
          · subst e; simp [hss]
          · rw [getD_set_ne false (Ne.symm e)]
      have fact := hf k o _ hsk hv g a m.asz (by
        intro t ht v' hv'
        unfold srcL at hv'
        split at hv'
        · rename_i x hx
          cases hv'
          have hm' := lookP_some hx
          rw [List.mem_reverse, List.mem_iff_getElem?] at hm'
          obtain ⟨j, hj⟩ := hm'
          have hjk : j < k := by
            have := (List.getElem?_eq_some_iff.1 hj).1
            simp at this; omega
          rw [List.getElem?_take_of_lt hjk, List.getElem?_zip_eq_some] at hj
          obtain ⟨h3, h4⟩ := hj
          rw [sndL_map] at h3
          simp only [List.map_map, List.getElem?_map, Option.map_eq_some_iff, Function.comp] at h3
          obtain ⟨⟨i', p⟩, h5, h6⟩ := h3
          rcases (pairB_spec (hP j k (i', p) (i, o) hjk h5 (hqx ▸ hk'))).2 with he | he
          · obtain ⟨e, hem, heo, heb⟩ := edgeIn_spec he
            have hl := h2 e (by simpa using hem) heb
            rw [heo] at hl
            exact m.fin j i' p _ t h5 h4 hl h6
          · exact absurd ht (he.1 t h6)
        · rename_i hx
          obtain ⟨u, h3, h4⟩ := r0.look t v' hv'
          refine ⟨u, ?_, h4.mono m.le⟩
          rw [m.rest t]
          · exact h3
          · intro j p hj hjl hpd
            have hjlt := (Array.getElem?_eq_some_iff.1 hj).1
            cases hjs : memN j ss with
            | true =>
              have := hreach i j p hj hjl ((mixBX_spec (mixq i o j p hq hj hjs)).2.2.2 t hpd ht)
              rw [hnl] at this; cases this
            | false =>
              have hjq : (j, p) ∈ qx := (memq j p).2 ⟨hj, hjs⟩
              obtain ⟨k2, hk2⟩ := List.mem_iff_getElem?.1 hjq
              have hk2l := (List.getElem?_eq_some_iff.1 hk2).1
              rcases Nat.lt_trichotomy k2 k with h | h | h
              · refine lookP_none hx (some t, vs[k2]'(by omega)) ?_ rfl
                rw [List.mem_reverse, List.mem_iff_getElem?]
                refine ⟨k2, ?_⟩
                rw [List.getElem?_take_of_lt h, List.getElem?_zip_eq_some]
                refine ⟨?_, by simp⟩
                rw [sndL_map, ← hqx, List.map_map, List.getElem?_map, hk2]
                show some p.dst = _
                rw [hpd]
              · subst h
                rw [hk'] at hk2; cases hk2
                rw [hnl] at hjl; cases hjl
              · rcases (pairB_spec (hP k k2 (i, o) (j, p) h (hqx ▸ hk') (hqx ▸ hk2))).2 with he | he
                · obtain ⟨e, hem, heo, heb⟩ := edgeIn_spec he
                  have := m.closed j p hj hjl e (by simpa using hem) heb
                  rw [heo, hnl] at this; cases this
                · exact he.2 t hpd ht)
      rcases fact with ⟨hw, e, re, hop⟩ | ⟨hw, hun⟩
      · rw [if_pos hw]
        cases hpu : pureOp o.op with
        | true =>
          refine .inl (wp_of_ok (opW_sound (F := F) hp (opW_pure (st2 := stc) hpu hop) re m.inv) ?_ ?_)
          · rintro g' v u st' w' le hr inv ⟨rfl, rfl⟩
            exact hnext le hr inv
          · intro g' v u st' w' _ _ _ h; exact h.elim
        | false =>
          obtain ⟨s, hs⟩ := m.fresh fun z l hz hzs hzl => by
            rcases (mixBX_spec (mixq i o z l hq hz hzs)).2.2.1 with h3 | h3 | h3 | h3
            · rw [hpu] at h3; cases h3
            · exact .inl h3
            · exact .inr h3
            · exfalso
              have := hreach i z l hz hzl h3
              rw [hnl] at this; cases this
          have inv2 : Inv W g (st ++ (s ++ F)) w := m.inv.perm (by
            rw [hs, ← List.append_assoc]
            exact List.Perm.append_right F List.perm_append_comm)
          refine .inl (wp_of_ok (opW_sound (F := s ++ F) hp hop re inv2) ?_ ?_)
          · rintro g' v u st' w' le hr inv ⟨rfl, rfl⟩
            refine hnext le hr (inv.perm ?_)
            rw [hs, ← List.append_assoc]
            exact List.Perm.append_right F List.perm_append_comm
          · intro g' v u st' w' _ _ _ h; exact h.elim
      · rw [if_neg (by simp [hw])]
        exact hnext (Gh.le_refl g) (by rw [hun]; exact ⟨[], rfl, rfl⟩) m.inv
    | true =>
      have hnd : memN i done = false := by
        cases hmd : memN i done with
        | false => rfl
        | true =>
          rcases (m.done i hlt).1 hmd with h3 | h3
          · rw [hnl] at h3; cases h3
          · rw [hss] at h3; cases h3
      have hin : i ∈ readyL done 0 ops.toList := by
        have := mem_readyL (done := done) (k := 0) hot (by simpa using hnd) (edgesOk_of fun e he hb => by
          have h3 := h2 e (by simpa using he) hb
          have hei : e.on < ops.size := by have := hedge i o ho e (by simpa using he) hb; omega
          exact (m.done e.on hei).2 (.inl h3))
        simpa using this
      cases f with
      | zero =>
        have := h.1
        rw [this] at hin; cases hin
      | succ f =>
        unfold WchainX at h
        cases hl : readyL done 0 ops.toList with
        | nil => rw [hl] at hin; cases hin
        | cons x xs =>
          rw [hl] at h hin
          obtain ⟨o', ho', h3⟩ := operK_spec (eachK_spec h i hin)
          rw [hot] at ho'; cases ho'
          unfold WxStepX at h3
          split at h3
          · rename_i hg
            rw [if_pos (by simp [Region.wanted, hg])]
            obtain ⟨e, h4, h5⟩ := onlyK_sound h3
            have re : EnvR n g e a := ⟨m.asz, fun t v hv => by
              obtain ⟨h6, h7⟩ := h5 t v hv
              refine m.look t v h7 fun i' p hp' hl' hpd => ?_
              have hz := mixBX_spec (mixq i' p i o (hqx ▸ hp') ho hss)
              have hlk : t ∈ looks ops.toList o := mem_looks h6
              obtain ⟨e', hem, heo, heb⟩ := edgeIn_spec (hz.2.1 t hpd hlk)
              have := h2 e' (by simpa using hem) heb
              rw [heo, hl'] at this; cases this⟩
            have h4' : opX P tb o.op e stc (fun v st' => (putK n o.dst v env fun env' => WchainX P tb n ls st ops.toList (fun v env st => Q (.panic v) env st) K f (i :: done) env' st') ∧ (memN i ls = true → ∃ s, st' = s ++ st) ∧ (memN i ls = false → isAlloc o.op = true → ∃ x, st' = x :: stc)) (fun v st' => Q (.panic v) e st') := by
              cases hml : memN i ls with
              | true =>
                rw [hml] at h4
                dsimp only at h4
                have e1 : ∀ v st', ((putK n o.dst v env fun env' => WchainX P tb n ls st ops.toList (fun v env st => Q (.panic v) env st) K f (i :: done) env' st') ∧ (true = true → ∃ s, st' = s ++ st) ∧ (true = false → isAlloc o.op = true → ∃ x, st' = x :: stc)) = VGd (∃ s, st' = s ++ st) (putK n o.dst v env fun env' => WchainX P tb n ls st ops.toList (fun v env st => Q (.panic v) env st) K f (i :: done) env' st') := fun v st' => propext ⟨fun h => ⟨h.2.1 rfl, h.1⟩, fun ⟨h1, h2⟩ => ⟨h2, (fun _ => h1), fun h => by cases h⟩⟩
                exact Eq.mp (congrArg (fun K => opX P tb o.op e stc K fun v st' => Q (.panic v) e st') (funext fun v => funext fun st' => (e1 v st').symm)) h4
              | false =>
                rw [hml] at h4
                dsimp only at h4
                cases ha : isAlloc o.op with
                | false =>
                  have e1 : ∀ v st', ((putK n o.dst v env fun env' => WchainX P tb n ls st ops.toList (fun v env st => Q (.panic v) env st) K f (i :: done) env' st') ∧ (false = true → ∃ s, st' = s ++ st) ∧ (false = false → false = true → ∃ x, st' = x :: stc)) = (putK n o.dst v env fun env' => WchainX P tb n ls st ops.toList (fun v env st => Q (.panic v) env st) K f (i :: done) env' st') := fun v st' => propext ⟨fun h => h.1, fun h => ⟨h, (fun h => by cases h), fun _ h => by cases h⟩⟩
                  exact Eq.mp (congrArg (fun K => opX P tb o.op e stc K fun v st' => Q (.panic v) e st') (funext fun v => funext fun st' => (e1 v st').symm)) h4
                | true =>
                  cases hop : o.op with
                  | alloc t =>
                    rw [hop] at h4
                    rw [opX_alloc] at h4 ⊢
                    have h5 := opW_alloc h4
                    have e1 : ∀ v st', ((putK n o.dst v env fun env' => WchainX P tb n ls st ops.toList (fun v env st => Q (.panic v) env st) K f (i :: done) env' st') ∧ (false = true → ∃ s, st' = s ++ st) ∧ (false = false → true = true → ∃ x, st' = x :: stc)) = ((putK n o.dst v env fun env' => WchainX P tb n ls st ops.toList (fun v env st => Q (.panic v) env st) K f (i :: done) env' st') ∧ ∃ x, st' = x :: stc) := fun v st' => propext ⟨fun h => ⟨h.1, h.2.2 rfl rfl⟩, fun h => ⟨h.1, (fun h => by cases h), fun _ _ => h.2⟩⟩
                    exact Eq.mp (congrArg (fun K => opW P tb (.alloc t) e stc K fun v st' => Q (.panic v) e st') (funext fun v => funext fun st' => (e1 v st').symm)) h5
                  | _ => rw [hop] at ha; cases ha
            refine .inl (wp_of_ok (opX_sound (F := F) hp h4' re m.inv) ?_ ?_)
            · intro g' v u st' w' le hr inv hput'
              obtain ⟨hput, hext0, hext⟩ := hput'
              have key : ∃ env', (∀ s x, env'.look s = some x → (o.dst = some s ∧ s < n ∧ x = v) ∨ (o.dst ≠ some s ∧ env.look s = some x)) ∧ (∀ s, o.dst ≠ some s → env'.look s = env.look s) ∧ WchainX P tb n ls st ops.toList (fun v env st => Q (.panic v) env st) K f (i :: done) env' st' := by
                unfold putK at hput
                cases hod : o.dst with
                | none => rw [hod] at hput; exact ⟨env, fun s x hx => .inr ⟨by simp, hx⟩, fun _ _ => rfl, hput⟩
                | some d =>
                  rw [hod] at hput
                  dsimp only at hput
                  split at hput
                  · rename_i hdl
                    refine ⟨_, fun s x hx => ?_, fun s hs => ?_, hput⟩
                    · unfold Env.look at hx
                      by_cases e : d = s
                      · rw [if_pos e] at hx; cases hx; subst e
                        exact .inl ⟨rfl, Nat.le_of_ble_eq_true hdl, rfl⟩
                      · rw [if_neg e] at hx; exact .inr ⟨by simpa using e, hx⟩
                    · have : d ≠ s := fun e => hs (by rw [e])
                      show (if d = s then some v else env.look s) = env.look s
                      rw [if_neg this]
                  · exact hput.elim
              obtain ⟨env', k1, k2, k3⟩ := key
              refine ih f (i :: done) _ (rem.erase i) env' st' g' _ w' hlen' hrem' ⟨by simp [m.size], inv, by rw [put_size]; exact m.asz, Gh.le_trans m.le le, same' u, closed', ?_, ?_, ?_, rest' u, ?_, ?_⟩ k3
              · intro j i' p x d hj hx hl' hpd
                have hm : (i', p) ∈ qx := hqx ▸ List.mem_of_getElem? hj
                have hii : i' ≠ i := fun e => by
                  subst e
                  have := ((memq i' p).1 hm).2
                  rw [hss] at this; cases this
                obtain ⟨y, h6, h7⟩ := m.fin j i' p x d hj hx (back i' hii hl') hpd
                exact ⟨y, by rw [put_ne ((mixBX_spec (mixq i' p i o hm ho hss)).1 d hpd)]; exact h6, h7.mono le⟩
              · intro s x hx hun
                rcases k1 s x hx with ⟨h6, h7, rfl⟩ | ⟨h6, h7⟩
                · exact ⟨u, by rw [h6]; exact put_at (by rw [m.asz]; exact h7), hr⟩
                · obtain ⟨y, h8, h9⟩ := m.look s x h7 fun i' p hp' hl' hpd => by
                    have hii : i' ≠ i := fun e => by
                      subst e
                      have := ((memq i' p).1 (hqx ▸ hp')).2
                      rw [hss] at this; cases this
                    exact hun i' p hp' (by rw [getD_set_ne false (Ne.symm hii)]; exact hl') hpd
                  exact ⟨y, by rw [put_ne h6]; exact h8, h9.mono le⟩
              · intro s hs
                rw [k2 s (hs i o ho hss)]
                exact m.tail s hs
              · intro hz
                cases hml : memN i ls with
                | true => exact hext0 hml
                | false =>
                  obtain ⟨x, hx⟩ := hext hml ((hz i o ho hss (by simp [hls])).resolve_right (by rw [hml]; simp))
                  obtain ⟨s, hs⟩ := m.fresh fun z l hzl hzs hll => hz z l hzl hzs (getD_set_true hll)
                  exact ⟨x :: s, by rw [hx, hs]; rfl⟩
              · intro j hj
                by_cases e : i = j
                · subst e; simp [memN, hls]
                · have hb : Nat.beq i j = false := by rw [← Bool.not_eq_true]; exact fun h => e (Nat.eq_of_beq_eq_true h)
                  have hc : memN j (i :: done) = memN j done := by simp only [memN, hb]
                  rw [hc, getD_set_ne false e]
                  exact m.done j hj
            · intro g' v u st' w' le hr inv hq
              exact hR g' v u e st' a w' (Gh.le_trans m.le le) hr (re.mono le) inv m.same hq
          · exact h3.elim
/-- A region whose order is drawn; 'ss': the places of what runs; all else changes nothing. -/
theorem VDraw.chainL (ss ls : List Nat) {p A : Prop} {id : Nat} {ops : Array Oper} {Q : AExit → Env → St → Prop}
    (h : VGd (chainBX ls ss ops.toList = true) (Wq P tb n ops.toList (sndL (qsL ss 0 ops.toList)) env st fun env =>
      WchainX P tb n ls st ops.toList (fun v env st => Q (.panic v) env st) (fun env st => Q .normal env st) ss.length (fstL (qsL ss 0 ops.toList)) env st)) :
    VDraw p A (VSem P tb n (writesOps ops.toList) (.region id ops true) Q env st) := by
  refine .any ⟨fun W F g a w hp r inv => ?_⟩
  obtain ⟨hb, h⟩ := h
  obtain ⟨vs, env1, h1, tr, hl, hd, hf⟩ := Wq_facts h (TraceOk.start env)
  rw [List.append_nil] at tr
  have r0 : EnvR n g env a := r
  refine wp_region_any hp.mixed ?_
  have hff : ∀ i, (Array.replicate ops.size false).getD i false = false := fun i => by
    rw [Array.getD_eq_getD_getElem?]
    by_cases h : i < ops.size <;> simp [h]
  refine chain_anyX (ls := ls) (F := F) (st := st) (n := n) (vs := vs) (a0 := a) (g0 := g) (Q := Q) (K := fun env st => Q .normal env st) hp hb h1 r0 tr hd (by simpa using hf) ?_ ?_ ops.size ss.length (fstL (qsL ss 0 ops.toList)) _ (List.range ops.size) env1 st g a _ (by simp) (fun i hi _ => by simpa using hi) ?_ hl
  · intro g' env2 st2 a' w' le r' inv' hs hq
    exact ⟨g', .normal, env2, st2, le, rfl, r', inv', hs, hq⟩
  · intro g' v u env2 st2 a' w' le hv r' inv' hs hq
    exact ⟨g', .panic v, env2, st2, le, ⟨u, rfl, hv⟩, r', inv', hs, hq⟩
  · refine ⟨by simp, inv.drew, r.size, Gh.le_refl g, .refl _ _, ?_, ?_, ?_, fun _ _ => rfl, fun _ _ => rfl, fun _ => ⟨[], rfl⟩, ?_⟩
    · intro i o _ hl; rw [hff] at hl; cases hl
    · intro k i o v d _ _ hl; rw [hff] at hl; cases hl
    · intro s v hs hun
      refine tr g _ s v hs fun v' hv' => ?_
      unfold srcL at hv'
      split at hv'
      · rename_i x hx
        have hm := lookP_some hx
        rw [List.mem_reverse, List.mem_iff_getElem?] at hm
        obtain ⟨j, hj⟩ := hm
        rw [List.getElem?_zip_eq_some] at hj
        obtain ⟨h5, _⟩ := hj
        rw [sndL_map] at h5
        simp only [List.map_map, List.getElem?_map, Option.map_eq_some_iff, Function.comp] at h5
        obtain ⟨⟨i', p⟩, h7, h8⟩ := h5
        exact absurd h8 (hun i' p (List.mem_of_getElem? h7) (hff i'))
      · exact r0.look s v' hv'
    · intro i hi
      rw [hff]
      have ho : ops[i]? = some ops[i] := by simp [hi]
      constructor
      · intro hm
        have : i ∈ fstL (qsL ss 0 ops.toList) := by
          cases hmm : memN i (fstL (qsL ss 0 ops.toList)) with
          | false => rw [hmm] at hm; cases hm
          | true =>
            by_cases hin : i ∈ fstL (qsL ss 0 ops.toList)
            · exact hin
            · rw [memN_false.2 hin] at hmm; cases hmm
        obtain ⟨o, ho⟩ := mem_fstL.1 this
        exact .inr (mem_qsL.1 ho).2.2
      · rintro (h | h)
        · cases h
        · cases hmm : memN i (fstL (qsL ss 0 ops.toList)) with
          | true => rfl
          | false =>
            exact absurd (mem_fstL.2 ⟨ops[i], mem_qsL.2 ⟨Nat.zero_le _, by simpa using ho, h⟩⟩) (memN_false.1 hmm)
end
/-! ### Cells of an object that are not written any more -/
theorem RelL.setM {g g' : Gh} {x y : AV} (le : Gh.le g g') (k : ∀ u, Rel g x u → Rel g' y u) : ∀ {l : List AV} {us : List Value} {c : Nat}, RelL g true l us → l[c]? = some x → RelL g' true (l.set c y) us
  | [], _, _, _, h => by simp at h
  | _ :: r, _, 0, ⟨u, ws, e, ⟨hu, ho⟩, hr⟩, h => by
    simp at h; subst h
    exact ⟨u, ws, e, ⟨k u hu, ho⟩, RelL.mono le _ _ hr⟩
  | _ :: r, _, c + 1, ⟨u, ws, e, ⟨hu, ho⟩, hr⟩, h => ⟨u, ws, e, ⟨Rel.mono le _ _ hu, ho⟩, RelL.setM le k hr (by simpa using h)⟩
/-- Slices of one's own in cells of an object become such as are not written any more. -/
inductive FzC : St → St → Prop
  | refl (st : St) : FzC st st
  | step {st st2 : St} {b b' esz z m esz' z' : Nat} {cells cells' : List AV} (n n' c : Nat) (h1 : st[n]? = some (b, .arr esz cells z)) (hc : cells[c]? = some (.own b' m)) (hn : n' ≠ n) (h2 : st[n']? = some (b', .arr esz' cells' z')) (h3 : m * esz' ≤ cells'.length)
      (k : FzC ((st.set n' (b', .arr esz' cells' (max z' (m * esz')))).set n (b, .arr esz (cells.set c (.fz (cells'.take (m * esz')) m false)) z)) st2) : FzC st st2
  | nils {st st2 : St} {b esz z : Nat} {cells : List AV} (n c : Nat) (h1 : st[n]? = some (b, .arr esz cells z)) (hc : cells[c]? = some .nils) (k : FzC (st.set n (b, .arr esz (cells.set c (.fz [] 0 false)) z)) st2) : FzC st st2
section
variable {P : Program} {F : St} {W w : World}
theorem FzC.sound {st st2 : St} (h : FzC st st2) : ∀ {g : Gh}, Inv W g (st ++ F) w → ∃ g', Gh.le g g' ∧ Inv W g' (st2 ++ F) w := by
  induction h with
  | refl => exact fun {g} inv => ⟨g, Gh.le_refl g, inv⟩
  | @step st st2 b b' esz z m esz' z' cells cells' n n' c h1 hc hn h2 h3 k ih =>
    intro g inv
    obtain ⟨g1, le1, inv1, k1⟩ := inv.freeze h2 h3
    have h1' : (st.set n' (b', AObj.arr esz' cells' (max z' (m * esz'))))[n]? = some (b, .arr esz cells z) := by rw [List.getElem?_set_ne hn]; exact h1
    obtain ⟨us, vs, T, lo, hi, cap, hh, hrel, hfr, hk, hlen, _⟩ := inv.objAt h1
    obtain ⟨_, _, _, _, _, _, _, _, _, _, _, hmu⟩ := inv1.objAt h1'
    have inv2 := inv1.upd h1' (o' := .arr esz (cells.set c (.fz (cells'.take (m * esz')) m false)) z) (Gh.le_refl g1) (fun _ _ _ => rfl) inv1.cap (fun i u' hm => inv1.mem _ _ _ hm) (fun _ _ => rfl) rfl inv1.below
      ⟨us, vs, T, lo, hi, cap, hh, hrel.setM le1 k1 hc, hfr, le1.2 _ _ hk, hlen, hmu⟩
    obtain ⟨g2, le2, inv3⟩ := ih inv2
    exact ⟨g2, Gh.le_trans le1 le2, inv3⟩
  | @nils st st2 b esz z cells n c h1 hc k ih =>
    intro g inv
    obtain ⟨us, vs, T, lo, hi, cap, hh, hrel, hfr, hk, hlen, hmu⟩ := inv.objAt h1
    have inv2 := inv.upd h1 (o' := .arr esz (cells.set c (.fz [] 0 false)) z) (Gh.le_refl g) (fun _ _ _ => rfl) inv.cap (fun i u' hm => inv.mem _ _ _ hm) (fun _ _ => rfl) rfl inv.below
      ⟨us, vs, T, lo, hi, cap, hh, hrel.setM (x := .nils) (y := .fz [] 0 false) (Gh.le_refl g) (fun u h => (⟨none, 0, h, Nat.le_refl _, (fun h => by cases h), .inl ⟨rfl, rfl⟩⟩ : Rel g (.fz [] 0 false) u)) hc, hfr, hk, hlen, hmu⟩
    exact ih inv2
/-- In what a call leaves, cells need not be written any more. -/
theorem ACalls.thawS {f : FuncId} {args : List AV} {st : St} {Post : AOut → St → Prop} (h : ACalls P f args st fun out st' => ∃ st2, FzC st' st2 ∧ Post out st2) : ACalls P f args st Post :=
  ⟨h.ent, fun W F g w us hl hr inv => (h.run W F g w us hl hr inv).mono fun e w' ⟨g', out, st', le, ho, inv', st2, hf, hp⟩ => by
    obtain ⟨g2, le2, inv2⟩ := hf.sound (F := F) inv'
    refine ⟨g2, out, st2, Gh.le_trans le le2, ?_, inv2, hp⟩
    cases out with
    | ret v => obtain ⟨u, e1, hu⟩ := ho; exact ⟨u, e1, Rel.mono le2 _ _ hu⟩
    | panic v => obtain ⟨u, e1, hu⟩ := ho; exact ⟨u, e1, Rel.mono le2 _ _ hu⟩⟩
end
end Go.Av
