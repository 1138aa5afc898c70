/- Regions whose order is drawn: operations that change nothing, among which others run, each of these waiting for what it looks at. Conditions: as each says. Regions whose order is drawn: operations that change nothing, among which others run: proved. Conditions: as each says. From a contract of the machine's that lays a row of texts anew. Conditions: as it says. -/
import Derived.Test.YtonkeklageehbaaGreatDoorX4
set_option linter.all false
set_option maxRecDepth 20000
namespace Go.Av
open Go
/-- Operations that look at no memory. -/
def pureOp : Op → Bool
  | .move _ | .assign _ | .pick _ _ _ | .build _ _ | .fieldAddr _ _ _ | .field _ _ _ | .binOp _ _ _ _ _ | .extract _ _ | .nilCheck _ | .indexAddr _ _ _ | .index _ _ _ => true
  | _ => false
/-- Without some places: the operations with their places. -/
def qsL (ss : List Nat) : Nat → List Oper → List (Nat × Oper)
  | _, [] => []
  | i, o :: r => match memN i ss with
    | true => qsL ss (i + 1) r
    | false => (i, o) :: qsL ss (i + 1) r
def lsL (ss : List Nat) : Nat → List Oper → List (Nat × Oper)
  | _, [] => []
  | i, o :: r => match memN i ss with
    | true => (i, o) :: lsL ss (i + 1) r
    | false => lsL ss (i + 1) r
def sndL : List (Nat × Oper) → List Oper
  | [] => []
  | x :: r => x.2 :: sndL r
def fstL : List (Nat × Oper) → List Nat
  | [] => []
  | x :: r => x.1 :: fstL r
def edgesAll : Nat → List Oper → Bool
  | _, [] => true
  | i, o :: r => edgesLt i o.after.toList && edgesAll (i + 1) r
def pairsX (ops : List Oper) : List (Nat × Oper) → Bool
  | [] => true
  | x :: r => pairX ops x r && pairsX ops r
where pairX (ops : List Oper) (x : Nat × Oper) : List (Nat × Oper) → Bool
  | [] => true
  | y :: r => pairB ops x.1 x.2 y.2 && pairX ops x r
def getO : List Oper → Nat → List Edge
  | [], _ => []
  | o :: r, n => match n with
    | 0 => o.after.toList
    | n + 1 => getO r n
def viaE (ops : List Oper) (k : List Edge → Bool) : List Edge → Bool
  | [] => false
  | e :: r => match Region.binds .any e with
    | true => match k (getO ops e.on) with
      | true => true
      | false => viaE ops k r
    | false => viaE ops k r
/-- Does one stand ahead of another, over others? -/
def reachE (ops : List Oper) (i : Nat) : Nat → List Edge → Bool
  | 0, es => edgeIn i es
  | f + 1, es => match edgeIn i es with
    | true => true
    | false => viaE ops (reachE ops i f) es
def isAlloc : Op → Bool
  | .alloc _ => true
  | _ => false
/-- What changes nothing ('x'), and what runs ('z'). -/
def mixB (ops : List Oper) (x z : Nat × Oper) : Bool :=
  (match x.2.dst with
  | none => true
  | some d => (match z.2.dst with
    | none => true
    | some e => !Nat.beq d e) && (match memT d (looks ops z.2) with
    | true => edgeIn x.1 z.2.after.toList
    | false => true)) &&
  (match pureOp x.2.op with
  | true => true
  | false => match isAlloc z.2.op with
    | true => true
    | false => reachE ops x.1 8 z.2.after.toList) &&
  (match z.2.dst with
  | none => true
  | some e => match memT e (looks ops x.2) with
    | true => reachE ops x.1 8 z.2.after.toList
    | false => true)
def mixX (ops : List Oper) (x : Nat × Oper) : List (Nat × Oper) → Bool
  | [] => true
  | z :: r => mixB ops x z && mixX ops x r
def mixL (ops : List Oper) : List (Nat × Oper) → List (Nat × Oper) → Bool
  | [], _ => true
  | x :: r, l => mixX ops x l && mixL ops r l
def chainB (ss : List Nat) (ops : List Oper) : Bool :=
  edgesAll 0 ops && pairsX ops (qsL ss 0 ops) && mixL ops (qsL ss 0 ops) (lsL ss 0 ops)
def WxStep (P : Program) (tb : Tab) (n : Nat) (Kp : AV → Env → St → Prop) (o : Oper) (ih : Env → St → Prop) (env : Env) (st : St) : Prop :=
  match o.guard with
  | none => onlyK (tmpsOf o.op.operands.toList) env fun e => opW P tb o.op e st (fun v st' => putK n o.dst v env fun env' => ih env' st') (fun v st' => Kp v e st')
  | some _ => False
def Wchain (P : Program) (tb : Tab) (n : Nat) (ops : List Oper) (Kp : AV → Env → St → Prop) (K : Env → St → Prop) : Nat → List Nat → Env → St → Prop
  | 0, done, env, st => VGd (readyL done 0 ops = []) (K env st)
  | f + 1, done, env, st => match readyL done 0 ops with
    | [] => K env st
    | i :: r => eachK (fun i => operK ops i fun o => WxStep P tb n Kp o (fun env st => Wchain P tb n ops Kp K f (i :: done) env st) env st) (i :: r)
theorem opW_pure {P : Program} {tb : Tab} {o : Op} {e : Env} {st st2 : St} {v : AV} (hp : pureOp o = true) (h : opW P tb o e st (fun v' st' => v' = v ∧ st' = st) fun _ _ => False) : opW P tb o e st2 (fun v' st' => v' = v ∧ st' = st2) fun _ _ => False := by
  cases o <;> first
    | (exfalso; revert hp; simp [pureOp]; done)
    | (simp only [opW, and_true] at h ⊢; exact h)
theorem mem_qsL {ss : List Nat} {i : Nat} {o : Oper} : ∀ {l : List Oper} {k : Nat}, (i, o) ∈ qsL ss k l ↔ k ≤ i ∧ l[i - k]? = some o ∧ memN i ss = false
  | [], k => by simp [qsL]
  | x :: r, k => by
    have ih := mem_qsL (ss := ss) (i := i) (o := o) (l := r) (k := k + 1)
    have key : ((i, o) ∈ qsL ss (k + 1) r ↔ k < i ∧ (x :: r)[i - k]? = some o ∧ memN i ss = false) := by
      rw [ih]
      constructor
      · rintro ⟨h1, h2, h3⟩
        refine ⟨by omega, ?_, h3⟩
        rw [show i - k = (i - (k + 1)) + 1 by omega]; simpa using h2
      · rintro ⟨h1, h2, h3⟩
        refine ⟨by omega, ?_, h3⟩
        rw [show i - k = (i - (k + 1)) + 1 by omega] at h2; simpa using h2
    unfold qsL
    cases hm : memN k ss with
    | true =>
      dsimp only
      rw [key]
      constructor
      · rintro ⟨h1, h2, h3⟩; exact ⟨by omega, h2, h3⟩
      · rintro ⟨h1, h2, h3⟩
        have : i ≠ k := fun e => by subst e; rw [hm] at h3; cases h3
        exact ⟨by omega, h2, h3⟩
    | false =>
      dsimp only
      rw [List.mem_cons, key, Prod.mk.injEq]
      constructor
      · rintro (⟨rfl, rfl⟩ | ⟨h1, h2, h3⟩)
        · exact ⟨Nat.le_refl _, by simp, hm⟩
        · exact ⟨by omega, h2, h3⟩
      · rintro ⟨h1, h2, h3⟩
        by_cases e : i = k
        · subst e; simp at h2; exact .inl ⟨rfl, h2.symm⟩
        · exact .inr ⟨by omega, h2, h3⟩
theorem mem_lsL {ss : List Nat} {i : Nat} {o : Oper} : ∀ {l : List Oper} {k : Nat}, k ≤ i → l[i - k]? = some o → memN i ss = true → (i, o) ∈ lsL ss k l
  | [], k, _, h, _ => by simp at h
  | x :: r, k, h1, h2, h3 => by
    unfold lsL
    by_cases e : i = k
    · subst e
      simp at h2; subst h2
      rw [h3]; exact List.mem_cons_self ..
    · have := mem_lsL (ss := ss) (i := i) (o := o) (l := r) (k := k + 1) (by omega) (by rw [show i - k = (i - (k + 1)) + 1 by omega] at h2; simpa using h2) h3
      cases memN k ss with
      | true => exact List.mem_cons_of_mem _ this
      | false => exact this
theorem edgesAll_spec : ∀ {l : List Oper} {k : Nat}, edgesAll k l = true → ∀ (i : Nat) o, l[i]? = some o → edgesLt (k + i) o.after.toList = true
  | [], _, _, _, _, h => by simp at h
  | x :: r, k, h, i, o, ho => by
    simp only [edgesAll, Bool.and_eq_true] at h
    cases i with
    | zero => simp at ho; subst ho; exact h.1
    | succ i => have := edgesAll_spec h.2 i o (by simpa using ho); rwa [show k + (i + 1) = k + 1 + i by omega]
theorem pairX_spec {ops : List Oper} {x : Nat × Oper} : ∀ {l : List (Nat × Oper)}, pairsX.pairX ops x l = true → ∀ y ∈ l, pairB ops x.1 x.2 y.2 = true
  | [], _, _, h => by cases h
  | z :: r, h, y, hy => by
    simp only [pairsX.pairX, Bool.and_eq_true] at h
    rcases List.mem_cons.1 hy with rfl | hy
    · exact h.1
    · exact pairX_spec h.2 y hy
theorem pairsX_spec {ops : List Oper} : ∀ {l : List (Nat × Oper)}, pairsX ops l = true → ∀ (j k : Nat) x y, j < k → l[j]? = some x → l[k]? = some y → pairB ops x.1 x.2 y.2 = true
  | [], _, _, _, _, _, _, h, _ => by simp at h
  | z :: r, h, j, k, x, y, hjk, hx, hy => by
    simp only [pairsX, Bool.and_eq_true] at h
    cases k with
    | zero => omega
    | succ k =>
      have hy : r[k]? = some y := by simpa using hy
      cases j with
      | zero => simp at hx; subst hx; exact pairX_spec h.1 y (List.mem_of_getElem? hy)
      | succ j => exact pairsX_spec h.2 j k x y (by omega) (by simpa using hx) hy
theorem mixX_spec {ops : List Oper} {x : Nat × Oper} : ∀ {l : List (Nat × Oper)}, mixX ops x l = true → ∀ y ∈ l, mixB ops x y = true
  | [], _, _, h => by cases h
  | z :: r, h, y, hy => by
    simp only [mixX, Bool.and_eq_true] at h
    rcases List.mem_cons.1 hy with rfl | hy
    · exact h.1
    · exact mixX_spec h.2 y hy
theorem mixL_spec {ops : List Oper} {l : List (Nat × Oper)} : ∀ {q : List (Nat × Oper)}, mixL ops q l = true → ∀ x ∈ q, ∀ y ∈ l, mixB ops x y = true
  | [], _, _, h, _, _ => by cases h
  | z :: r, h, x, hx, y, hy => by
    simp only [mixL, Bool.and_eq_true] at h
    rcases List.mem_cons.1 hx with rfl | hx
    · exact mixX_spec h.1 y hy
    · exact mixL_spec h.2 x hx y hy
theorem mixB_spec {ops : List Oper} {x z : Nat × Oper} (h : mixB ops x z = true) : (∀ d, x.2.dst = some d → z.2.dst ≠ some d) ∧ (∀ d, x.2.dst = some d → d ∈ looks ops z.2 → edgeIn x.1 z.2.after.toList = true) ∧
    (pureOp x.2.op = true ∨ isAlloc z.2.op = true ∨ reachE ops x.1 8 z.2.after.toList = true) ∧ (∀ e, z.2.dst = some e → e ∈ looks ops x.2 → reachE ops x.1 8 z.2.after.toList = true) := by
  unfold mixB at h
  rw [Bool.and_eq_true, Bool.and_eq_true] at h
  obtain ⟨⟨h1, h2⟩, h4⟩ := h
  refine ⟨fun d hd hz => ?_, fun d hd hl => ?_, ?_, fun e he hl => ?_⟩
  · simp [hd, hz] at h1
  · rw [hd] at h1
    simp only [Bool.and_eq_true] at h1
    have := h1.2
    rw [memT_iff.2 hl] at this
    exact this
  · cases hp : pureOp x.2.op with
    | true => exact .inl rfl
    | false =>
      rw [hp] at h2
      cases ha : isAlloc z.2.op with
      | true => exact .inr (.inl rfl)
      | false => rw [ha] at h2; exact .inr (.inr h2)
  · rw [he] at h4
    dsimp only at h4
    rw [memT_iff.2 hl] at h4
    exact h4
theorem getO_spec : ∀ {l : List Oper} {n : Nat} {o : Oper}, l[n]? = some o → getO l n = o.after.toList
  | [], _, _, h => by simp at h
  | x :: r, 0, o, h => by simp at h; subst h; rfl
  | x :: r, n + 1, o, h => by
    have := getO_spec (l := r) (n := n) (o := o) (by simpa using h)
    exact this
/-- In what is closed under what stands ahead: what stands ahead over others is in it, too. -/
theorem reachE_spec {ops : List Oper} {i : Nat} {D : Nat → Prop} (hc : ∀ (j : Nat) o, ops[j]? = some o → D j → ∀ e ∈ o.after.toList, Region.binds .any e = true → D e.on) (hs : ∀ j, D j → j < ops.length) :
    ∀ (f : Nat) (es : List Edge), reachE ops i f es = true → (∀ e ∈ es, Region.binds .any e = true → D e.on) → D i := by
  intro f
  induction f with
  | zero =>
    intro es h hd
    have h : edgeIn i es = true := h
    obtain ⟨e, he, e1, hb⟩ := edgeIn_spec h
    rw [← e1]
    exact hd e he hb
  | succ f ih =>
    intro es h hd
    unfold reachE at h
    cases hi : edgeIn i es with
    | true =>
      obtain ⟨e, he, rfl, hb⟩ := edgeIn_spec hi
      exact hd e he hb
    | false =>
      rw [hi] at h
      dsimp only at h
      clear hi
      induction es with
      | nil => simp [viaE] at h
      | cons e r ihr =>
        unfold viaE at h
        cases hb : Region.binds .any e with
        | false => rw [hb] at h; exact ihr (fun x hx => hd x (List.mem_cons_of_mem _ hx)) h
        | true =>
          rw [hb] at h
          dsimp only at h
          cases hr : reachE ops i f (getO ops e.on) with
          | false => rw [hr] at h; exact ihr (fun x hx => hd x (List.mem_cons_of_mem _ hx)) h
          | true =>
            have hD := hd e (List.mem_cons_self ..) hb
            have hl := hs _ hD
            have ho : ops[e.on]? = some ops[e.on] := by simp [hl]
            rw [getO_spec ho] at hr
            exact ih _ hr (hc _ _ ho hD)
theorem Tab.get_mono {t : Nat} {k k' : TyI → Prop} : ∀ {tb : Tab}, tb.get t k → (∀ ti, k ti → k' ti) → tb.get t k'
  | [], h, _ => h.elim
  | (s, v) :: r, h, hk => by
    unfold Tab.get at h ⊢
    cases hb : Nat.beq s t with
    | true => rw [hb] at h; exact hk v h
    | false => rw [hb] at h; exact Tab.get_mono h hk
theorem opW_alloc {P : Program} {tb : Tab} {t : TypeId} {e : Env} {st : St} {K Kp : AV → St → Prop} (h : opW P tb (.alloc t) e st K Kp) : opW P tb (.alloc t) e st (fun v st' => K v st' ∧ ∃ x, st' = x :: st) Kp := by
  unfold opW at h ⊢
  refine Tab.get_mono h fun ti h2 => ?_
  cases hk : ti.kind <;> rw [hk] at h2 <;> first | exact h2.elim | (have h3 : VAll _ := h2; show VAll _; exact ⟨fun b => ⟨h3.all b, _, rfl⟩⟩)
theorem sndL_map : ∀ l : List (Nat × Oper), sndL l = l.map (·.2)
  | [] => rfl
  | _ :: r => by simp [sndL, sndL_map r]
theorem mem_fstL {i : Nat} : ∀ {l : List (Nat × Oper)}, i ∈ fstL l ↔ ∃ o, (i, o) ∈ l
  | [] => by simp [fstL]
  | (j, o) :: r => by
    simp only [fstL, List.mem_cons, mem_fstL (l := r)]
    constructor
    · rintro (rfl | ⟨p, h⟩)
      · exact ⟨o, .inl rfl⟩
      · exact ⟨p, .inr h⟩
    · rintro ⟨p, h | h⟩
      · exact .inl (by cases h; rfl)
      · exact .inr ⟨p, h⟩
theorem mem_readyL {done : List Nat} : ∀ {l : List Oper} {k i : Nat} {o : Oper}, l[i]? = some o → memN (k + i) done = false → edgesOk done o.after.toList = true → (k + i) ∈ readyL done k l
  | [], _, _, _, h, _, _ => by simp at h
  | x :: r, k, i, o, h, hm, he => by
    unfold readyL
    cases i with
    | zero =>
      simp at h; subst h
      rw [Nat.add_zero] at hm
      rw [hm, he]; exact List.mem_cons_self ..
    | succ i =>
      have := mem_readyL (k := k + 1) (i := i) (l := r) (o := o) (by simpa using h) (by rwa [show k + 1 + i = k + (i + 1) by omega]) he
      rw [show k + (i + 1) = k + 1 + i by omega]
      cases memN k done with
      | true => exact this
      | false =>
        cases edgesOk done x.after.toList with
        | true => exact List.mem_cons_of_mem _ this
        | false => exact this
theorem of_readyL {done : List Nat} : ∀ {l : List Oper} {k i : Nat}, i ∈ readyL done k l → k ≤ i ∧ i < k + l.length ∧ memN i done = false
  | [], _, _, h => by simp [readyL] at h
  | x :: r, k, i, h => by
    unfold readyL at h
    have ih := fun h => of_readyL (done := done) (l := r) (k := k + 1) (i := i) h
    rw [List.length_cons]
    cases hm : memN k done with
    | true => rw [hm] at h; obtain ⟨h1, h2, h3⟩ := ih h; exact ⟨by omega, by omega, h3⟩
    | false =>
      rw [hm] at h
      cases he : edgesOk done x.after.toList with
      | true =>
        rw [he] at h
        rcases List.mem_cons.1 h with rfl | h
        · exact ⟨Nat.le_refl _, by omega, hm⟩
        · obtain ⟨h1, h2, h3⟩ := ih h; exact ⟨by omega, by omega, h3⟩
      | false => rw [he] at h; obtain ⟨h1, h2, h3⟩ := ih h; exact ⟨by omega, by omega, h3⟩
theorem edgesOk_of {done : List Nat} : ∀ {l : List Edge}, (∀ e ∈ l, Region.binds .any e = true → memN e.on done = true) → edgesOk done l = true
  | [], _ => rfl
  | e :: r, h => by
    unfold edgesOk
    have ih := edgesOk_of (l := r) fun x hx => h x (List.mem_cons_of_mem _ hx)
    cases hb : Region.binds .any e with
    | false => exact ih
    | true => rw [h e (List.mem_cons_self ..) hb]; exact ih
end Go.Av

namespace Go.Av
open Go
section
variable {P : Program} {tb : Tab} {n : Nat} {W : World} {F : St} {g : Gh} {env : Env} {st : St} {a : Act} {w : World}
/-- In the midst of a region. -/
structure MidC (W : World) (F : St) (st : St) (n : Nat) (ops : Array Oper) (ss : List Nat) (vs : List AV) (a0 : Act) (g0 : Gh) (env1 : Env) (listed : Array Bool) (done : List Nat) (env : Env) (stc : St) (g : Gh) (a : Act) (w : World) : Prop where
  size : listed.size = ops.size
  inv : Inv W g (stc ++ F) w
  asz : a.tmps.size = n
  le : Gh.le g0 g
  same : Same (writesOps ops.toList) a0 a
  closed : ∀ (i : Nat) o, ops[i]? = some o → listed.getD i false = true → ∀ e ∈ o.after, Region.binds .any e = true → listed.getD e.on false = true
  fin : ∀ (k : Nat) i o v d, (qsL ss 0 ops.toList)[k]? = some (i, o) → vs[k]? = some v → listed.getD i false = true → o.dst = some d → Slot g a d v
  look : ∀ s v, env.look s = some v → (∀ i o, (i, o) ∈ qsL ss 0 ops.toList → listed.getD i false = false → o.dst ≠ some s) → Slot g a s v
  tail : ∀ s, (∀ z l, ops[z]? = some l → memN z ss = true → l.dst ≠ some s) → env.look s = env1.look s
  rest : ∀ s, (∀ (i : Nat) o, ops[i]? = some o → listed.getD i false = true → o.dst ≠ some s) → a.tmps[s]? = a0.tmps[s]?
  fresh : (∀ z l, ops[z]? = some l → memN z ss = true → listed.getD z false = true → isAlloc l.op = true) → ∃ s, stc = s ++ st
  done : ∀ i, i < ops.size → (memN i done = true ↔ (listed.getD i false = true ∨ memN i ss = false))
theorem chain_any (hp : ProgAt P tb W) {ops : Array Oper} {ss : List Nat} {vs : List AV} {a0 : Act} {g0 : Gh} {env0 env1 : Env} {Q : AExit → Env → St → Prop} {K : Env → St → Prop} {R : Exit → Act → World → Prop}
    (hB : chainB ss ops.toList = true) (hlen : vs.length = (sndL (qsL ss 0 ops.toList)).length) (r0 : EnvR n g0 env0 a0)
    (tr : TraceOk (((sndL (qsL ss 0 ops.toList)).map (·.dst)).zip vs).reverse env0 env1) (hd : ∀ o ∈ sndL (qsL ss 0 ops.toList), ∀ d, o.dst = some d → d < n)
    (hf : ∀ (k : Nat) o v, (sndL (qsL ss 0 ops.toList))[k]? = some o → vs[k]? = some v → OpFact P tb n ops env0 st ((((sndL (qsL ss 0 ops.toList)).map (·.dst)).zip vs).take k).reverse o v)
    (hK : ∀ g' env' st' a' w', Gh.le g0 g' → EnvR n g' env' a' → Inv W g' (st' ++ F) w' → Same (writesOps ops.toList) a0 a' → K env' st' → R .normal a' w')
    (hR : ∀ g' v u env' st' a' w', Gh.le g0 g' → Rel g' v u → EnvR n g' env' a' → Inv W g' (st' ++ F) w' → Same (writesOps ops.toList) a0 a' → Q (.panic v) env' st' → R (.panic [{ v := u, recovered := false }]) a' w') :
    ∀ (fuel f : Nat) (done : List Nat) (listed : Array Bool) (rem : List Nat) (env : Env) (stc : St) (g : Gh) (a : Act) (w : World), rem.length = fuel → (∀ i, i < ops.size → listed.getD i false = false → i ∈ rem) →
      MidC W F st n ops ss vs a0 g0 env1 listed done env stc g a w → Wchain P tb n ops.toList (fun v env st => Q (.panic v) env st) K f done env stc →
      wpAny P .any ops R fuel listed a w := by
  unfold chainB at hB
  simp only [Bool.and_eq_true] at hB
  obtain ⟨⟨hE, hP⟩, hM⟩ := hB
  have hE := edgesAll_spec hE
  simp only [Nat.zero_add] at hE
  have hP := pairsX_spec hP
  have hM := mixL_spec hM
  obtain ⟨qx, hqx⟩ : ∃ qx, qx = qsL ss 0 ops.toList := ⟨_, rfl⟩
  have memq : ∀ i o, (i, o) ∈ qx ↔ ops[i]? = some o ∧ memN i ss = false := by
    intro i o
    rw [hqx, mem_qsL]
    simp
  have mixq : ∀ i o z l, (i, o) ∈ qx → ops[z]? = some l → memN z ss = true → mixB ops.toList (i, o) (z, l) = true := fun i o z l h1 h2 h3 =>
    hM _ (hqx ▸ h1) _ (mem_lsL (Nat.zero_le _) (by simpa using h2) h3)
  have hedge : ∀ i o, ops[i]? = some o → ∀ e ∈ o.after, Region.binds .any e = true → e.on < i := fun i o h e he hb =>
    edgesLt_spec (hE i o (by simpa using h)) e (by simpa using he) hb
  have allL : ∀ {listed : Array Bool}, listed.size = ops.size → Region.ready .any ops listed = [] → ∀ i, i < ops.size → listed.getD i false = true := by
    intro listed hs hr i
    induction i using Nat.strongRecOn with
    | _ i ih =>
      intro hi
      cases hl : listed.getD i false with
      | true => rfl
      | false =>
        have ho : ops[i]? = some ops[i] := by simp [hi]
        have : i ∈ Region.ready .any ops listed := mem_ready.2 ⟨by
          have h2 : i < listed.size := by omega
          simpa [h2] using hl, _, ho, fun e he hb => ih e.on (hedge i _ ho e he hb) (by have := hedge i _ ho e he hb; omega)⟩
        rw [hr] at this; cases this
  -- once all are done
  have last : ∀ {f : Nat} {done : List Nat} {listed : Array Bool} {env : Env} {stc : St} {g : Gh} {a : Act} {w : World}, MidC W F st n ops ss vs a0 g0 env1 listed done env stc g a w → (∀ i, i < ops.size → listed.getD i false = true) →
      Wchain P tb n ops.toList (fun v env st => Q (.panic v) env st) K f done env stc → R .normal a w := by
    intro f done listed env stc g a w m hall h
    have hr : readyL done 0 ops.toList = [] := by
      rw [List.eq_nil_iff_forall_not_mem]
      intro i hi
      obtain ⟨_, h1, h2⟩ := of_readyL hi
      have h1 : i < ops.size := by simpa using h1
      have := (m.done i h1).2 (.inl (hall i h1))
      rw [h2] at this; cases this
    have hk : K env stc := by
      cases f with
      | zero => exact h.2
      | succ f => unfold Wchain at h; rw [hr] at h; exact h
    refine hK g env stc a w m.le ⟨m.asz, fun t v hv => m.look t v hv fun i o ho hl => ?_⟩ m.inv m.same hk
    rw [← hqx] at ho
    have := hall i (Array.getElem?_eq_some_iff.1 ((memq i o).1 ho).1).1
    rw [hl] at this; cases this
  intro fuel
  induction fuel with
  | zero =>
    intro f done listed rem env stc g a w hrl hrem m h
    have : rem = [] := List.length_eq_zero_iff.1 hrl
    subst this
    have hall : ∀ i, i < ops.size → listed.getD i false = true := fun i hi => by
      cases hl : listed.getD i false with
      | true => rfl
      | false => exact absurd (hrem i hi hl) (by simp)
    refine ⟨?_, last m hall h⟩
    rw [List.eq_nil_iff_forall_not_mem]
    intro i hi
    obtain ⟨h1, o, ho, _⟩ := mem_ready.1 hi
    have hlt := (Array.getElem?_eq_some_iff.1 ho).1
    have h2 : i < listed.size := by rw [m.size]; exact hlt
    have := hall i hlt
    simp [Array.getD_eq_getD_getElem?, h2] at h1 this
    rw [h1] at this; cases this
  | succ fuel ih =>
    intro f done listed rem env stc g a w hrl hrem m h
    refine ⟨fun hr => last m (allL m.size hr) h, fun i hi => ?_⟩
    obtain ⟨h1, o, ho, h2⟩ := mem_ready.1 hi
    have hlt := (Array.getElem?_eq_some_iff.1 ho).1
    have hls : i < listed.size := by rw [m.size]; exact hlt
    have hnl : listed.getD i false = false := by
      simpa [Array.getD_eq_getD_getElem?, hls] using h1
    have hot : ops.toList[i]? = some o := by simpa using ho
    have hom : o ∈ ops.toList := List.mem_of_getElem? hot
    have back : ∀ j, j ≠ i → (listed.setIfInBounds i true).getD j false = true → listed.getD j false = true := fun j hj h => by rwa [getD_set_ne false (Ne.symm hj)] at h
    have hrem' : ∀ j, j < ops.size → (listed.setIfInBounds i true).getD j false = false → j ∈ rem.erase i := by
      intro j hj hjl
      by_cases hji : j = i
      · subst hji; simp [hls] at hjl
      · rw [getD_set_ne false (Ne.symm hji)] at hjl
        exact (List.mem_erase_of_ne hji).2 (hrem j hj hjl)
    have hlen' : (rem.erase i).length = fuel := by rw [List.length_erase_of_mem (hrem i hlt hnl)]; omega
    have closed' : ∀ (j : Nat) p, ops[j]? = some p → (listed.setIfInBounds i true).getD j false = true → ∀ e ∈ p.after, Region.binds .any e = true → (listed.setIfInBounds i true).getD e.on false = true := by
      intro j p hj hl e he hb
      by_cases hji : j = i
      · subst hji; rw [ho] at hj; cases hj
        exact getD_set_true (h2 e he hb)
      · exact getD_set_true (m.closed j p hj (back j hji hl) e he hb)
    have hreach : ∀ (i z : Nat) l, ops[z]? = some l → listed.getD z false = true → reachE ops.toList i 8 l.after.toList = true → listed.getD i false = true := by
      intro i z l hz hzl h3
      have := reachE_spec (ops := ops.toList) (i := i) (D := fun j => j < ops.size ∧ listed.getD j false = true) (fun j p hj hD e he hb => by
        have hj : ops[j]? = some p := by simpa using hj
        refine ⟨?_, m.closed j p hj hD.2 e (by simpa using he) hb⟩
        have := hedge j p hj e (by simpa using he) hb
        omega) (fun j hD => by simpa using hD.1) 8 _ h3 (fun e he hb => by
        refine ⟨?_, m.closed z l hz hzl e (by simpa using he) hb⟩
        have := hedge z l hz e (by simpa using he) hb
        have := (Array.getElem?_eq_some_iff.1 hz).1
        omega)
      exact this.2
    have rest' : ∀ u s, (∀ (j : Nat) p, ops[j]? = some p → (listed.setIfInBounds i true).getD j false = true → p.dst ≠ some s) → (a.put o.dst u).tmps[s]? = a0.tmps[s]? := by
      intro u s hs
      rw [put_ne (hs i o ho (by simp [hls]))]
      exact m.rest s fun j p hj hl => hs j p hj (getD_set_true hl)
    have same' : ∀ u, Same (writesOps ops.toList) a0 (a.put o.dst u) := fun u => m.same.trans (.put u fun t ht => mem_writesOps hom ht)
    unfold wpOp
    simp only [ho]
    cases hss : memN i ss with
    | false =>
      have hq : (i, o) ∈ qx := (memq i o).2 ⟨ho, hss⟩
      obtain ⟨k, hk'⟩ := List.mem_iff_getElem?.1 hq
      have hkl := (List.getElem?_eq_some_iff.1 hk').1
      have hsk : (sndL (qsL ss 0 ops.toList))[k]? = some o := by rw [sndL_map, ← hqx, List.getElem?_map, hk']; rfl
      have hvl : vs.length = qx.length := by rw [hlen, sndL_map, ← hqx, List.length_map]
      have hv : vs[k]? = some (vs[k]'(by omega)) := by simp
      have hdist : ∀ (j : Nat) x d, qx[j]? = some x → j ≠ k → x.2.dst = some d → o.dst ≠ some d := by
        intro j x d hj hjk hxd
        rcases Nat.lt_or_gt_of_ne hjk with h | h
        · exact (pairB_spec (hP j k x (i, o) h (hqx ▸ hj) (hqx ▸ hk'))).1 d hxd
        · exact fun hod => (pairB_spec (hP k j (i, o) x h (hqx ▸ hk') (hqx ▸ hj))).1 d hod hxd
      have hnext : ∀ {g' : Gh} {u : Value} {w' : World}, Gh.le g g' → Rel g' (vs[k]'(by omega)) u → Inv W g' (stc ++ F) w' → wpAny P .any ops R fuel (listed.setIfInBounds i true) (a.put o.dst u) w' := by
        intro g' u w' le hu inv
        have fin' : ∀ (j : Nat) i' p x d, (qsL ss 0 ops.toList)[j]? = some (i', p) → vs[j]? = some x → (listed.setIfInBounds i true).getD i' false = true → p.dst = some d → Slot g' (a.put o.dst u) d x := by
          intro j i' p x d hj hx hl hpd
          by_cases hjk : j = k
          · subst hjk
            rw [← hqx, hk'] at hj; cases hj
            rw [hv] at hx; cases hx
            exact ⟨u, by rw [hpd]; exact put_at (by rw [m.asz]; exact hd o (List.mem_of_getElem? hsk) d hpd), hu⟩
          · have hii : i' ≠ i := by
              intro e
              subst e
              have hm : (i', p) ∈ qx := hqx ▸ List.mem_of_getElem? hj
              have : p = o := by
                have := ((memq i' p).1 hm).1
                rw [ho] at this; exact (Option.some.inj this).symm
              subst this
              exact hdist j (i', p) d (hqx ▸ hj) hjk hpd hpd
            obtain ⟨y, h3, h4⟩ := m.fin j i' p x d hj hx (back i' hii hl) hpd
            exact ⟨y, by rw [put_ne (hdist j (i', p) d (hqx ▸ hj) hjk hpd)]; exact h3, h4.mono le⟩
        refine ih f done _ (rem.erase i) env stc g' _ w' hlen' hrem' ⟨by simp [m.size], inv, by rw [put_size]; exact m.asz, Gh.le_trans m.le le, same' u, closed', fin', ?_, m.tail, rest' u, ?_, ?_⟩ h
        · intro s v hs hun
          by_cases hos : o.dst = some s
          · -- what is known of this slot was known before any other ran
            rw [m.tail s (fun z l hz hzs hzd => (mixB_spec (mixq i o z l hq hz hzs)).1 s hos hzd)] at hs
            refine tr g' _ s v hs fun v' hv' => ?_
            unfold srcL at hv'
            split at hv'
            · rename_i x hx
              cases hv'
              have hm := lookP_some hx
              rw [List.mem_reverse, List.mem_iff_getElem?] at hm
              obtain ⟨j, hj⟩ := hm
              rw [List.getElem?_zip_eq_some] at hj
              obtain ⟨h5, h6⟩ := hj
              rw [sndL_map] at h5
              simp only [List.map_map, List.getElem?_map, Option.map_eq_some_iff, Function.comp] at h5
              obtain ⟨⟨i', p⟩, h7, h8⟩ := h5
              have hjk : j = k := by
                by_cases e : j = k
                · exact e
                · exact absurd hos (hdist j (i', p) s (hqx ▸ h7) e h8)
              subst hjk
              rw [← hqx, hk'] at h7; cases h7
              exact fin' j i o v' s (hqx ▸ hk') h6 (by simp [hls]) hos
            · rename_i hx
              refine absurd rfl (lookP_none hx (some s, vs[k]'(by omega)) ?_)
              rw [List.mem_reverse, List.mem_iff_getElem?]
              refine ⟨k, ?_⟩
              rw [List.getElem?_zip_eq_some]
              refine ⟨?_, by simp⟩
              rw [List.getElem?_map, hsk]
              show some o.dst = _
              rw [hos]
          · obtain ⟨y, h5, h6⟩ := m.look s v hs fun i' p hp' hl hpd => by
              by_cases e : i' = i
              · subst e
                have : p = o := by
                  have := ((memq i' p).1 (hqx ▸ hp')).1
                  rw [ho] at this; exact (Option.some.inj this).symm
                subst this; exact hos hpd
              · exact hun i' p hp' (by rw [getD_set_ne false (Ne.symm e)]; exact hl) hpd
            exact ⟨y, by rw [put_ne hos]; exact h5, h6.mono le⟩
        · intro hz
          refine m.fresh fun z l hzl hzs hll => ?_
          have hzi : z ≠ i := fun e => by subst e; rw [hss] at hzs; cases hzs
          exact hz z l hzl hzs (by rw [getD_set_ne false (Ne.symm hzi)]; exact hll)
        · intro j hj
          rw [m.done j hj]
          by_cases e : j = i
          · subst e; simp [hss]
          · rw [getD_set_ne false (Ne.symm e)]
      have fact := hf k o _ hsk hv g a m.asz (by
        intro t ht v' hv'
        unfold srcL at hv'
        split at hv'
        · rename_i x hx
          cases hv'
          have hm' := lookP_some hx
          rw [List.mem_reverse, List.mem_iff_getElem?] at hm'
          obtain ⟨j, hj⟩ := hm'
          have hjk : j < k := by
            have := (List.getElem?_eq_some_iff.1 hj).1
            simp at this; omega
          rw [List.getElem?_take_of_lt hjk, List.getElem?_zip_eq_some] at hj
          obtain ⟨h3, h4⟩ := hj
          rw [sndL_map] at h3
          simp only [List.map_map, List.getElem?_map, Option.map_eq_some_iff, Function.comp] at h3
          obtain ⟨⟨i', p⟩, h5, h6⟩ := h3
          rcases (pairB_spec (hP j k (i', p) (i, o) hjk h5 (hqx ▸ hk'))).2 with he | he
          · obtain ⟨e, hem, heo, heb⟩ := edgeIn_spec he
            have hl := h2 e (by simpa using hem) heb
            rw [heo] at hl
            exact m.fin j i' p _ t h5 h4 hl h6
          · exact absurd ht (he.1 t h6)
        · rename_i hx
          obtain ⟨u, h3, h4⟩ := r0.look t v' hv'
          refine ⟨u, ?_, h4.mono m.le⟩
          rw [m.rest t]
          · exact h3
          · intro j p hj hjl hpd
            have hjlt := (Array.getElem?_eq_some_iff.1 hj).1
            cases hjs : memN j ss with
            | true =>
              have := hreach i j p hj hjl ((mixB_spec (mixq i o j p hq hj hjs)).2.2.2 t hpd ht)
              rw [hnl] at this; cases this
            | false =>
              have hjq : (j, p) ∈ qx := (memq j p).2 ⟨hj, hjs⟩
              obtain ⟨k2, hk2⟩ := List.mem_iff_getElem?.1 hjq
              have hk2l := (List.getElem?_eq_some_iff.1 hk2).1
              rcases Nat.lt_trichotomy k2 k with h | h | h
              · refine lookP_none hx (some t, vs[k2]'(by omega)) ?_ rfl
                rw [List.mem_reverse, List.mem_iff_getElem?]
                refine ⟨k2, ?_⟩
                rw [List.getElem?_take_of_lt h, List.getElem?_zip_eq_some]
                refine ⟨?_, by simp⟩
                rw [sndL_map, ← hqx, List.map_map, List.getElem?_map, hk2]
                show some p.dst = _
                rw [hpd]
              · subst h
                rw [hk'] at hk2; cases hk2
                rw [hnl] at hjl; cases hjl
              · rcases (pairB_spec (hP k k2 (i, o) (j, p) h (hqx ▸ hk') (hqx ▸ hk2))).2 with he | he
                · obtain ⟨e, hem, heo, heb⟩ := edgeIn_spec he
                  have := m.closed j p hj hjl e (by simpa using hem) heb
                  rw [heo, hnl] at this; cases this
                · exact he.2 t hpd ht)
      rcases fact with ⟨hw, e, re, hop⟩ | ⟨hw, hun⟩
      · rw [if_pos hw]
        cases hpu : pureOp o.op with
        | true =>
          refine .inl (wp_of_ok (opW_sound (F := F) hp (opW_pure (st2 := stc) hpu hop) re m.inv) ?_ ?_)
          · rintro g' v u st' w' le hr inv ⟨rfl, rfl⟩
            exact hnext le hr inv
          · intro g' v u st' w' _ _ _ h; exact h.elim
        | false =>
          obtain ⟨s, hs⟩ := m.fresh fun z l hz hzs hzl => by
            rcases (mixB_spec (mixq i o z l hq hz hzs)).2.2.1 with h3 | h3 | h3
            · rw [hpu] at h3; cases h3
            · exact h3
            · exfalso
              have := hreach i z l hz hzl h3
              rw [hnl] at this; cases this
          have inv2 : Inv W g (st ++ (s ++ F)) w := m.inv.perm (by
            rw [hs, ← List.append_assoc]
            exact List.Perm.append_right F List.perm_append_comm)
          refine .inl (wp_of_ok (opW_sound (F := s ++ F) hp hop re inv2) ?_ ?_)
          · rintro g' v u st' w' le hr inv ⟨rfl, rfl⟩
            refine hnext le hr (inv.perm ?_)
            rw [hs, ← List.append_assoc]
            exact List.Perm.append_right F List.perm_append_comm
          · intro g' v u st' w' _ _ _ h; exact h.elim
      · rw [if_neg (by simp [hw])]
        exact hnext (Gh.le_refl g) (by rw [hun]; exact ⟨[], rfl, rfl⟩) m.inv
    | true =>
      have hnd : memN i done = false := by
        cases hmd : memN i done with
        | false => rfl
        | true =>
          rcases (m.done i hlt).1 hmd with h3 | h3
          · rw [hnl] at h3; cases h3
          · rw [hss] at h3; cases h3
      have hin : i ∈ readyL done 0 ops.toList := by
        have := mem_readyL (done := done) (k := 0) hot (by simpa using hnd) (edgesOk_of fun e he hb => by
          have h3 := h2 e (by simpa using he) hb
          have hei : e.on < ops.size := by have := hedge i o ho e (by simpa using he) hb; omega
          exact (m.done e.on hei).2 (.inl h3))
        simpa using this
      cases f with
      | zero =>
        have := h.1
        rw [this] at hin; cases hin
      | succ f =>
        unfold Wchain at h
        cases hl : readyL done 0 ops.toList with
        | nil => rw [hl] at hin; cases hin
        | cons x xs =>
          rw [hl] at h hin
          obtain ⟨o', ho', h3⟩ := operK_spec (eachK_spec h i hin)
          rw [hot] at ho'; cases ho'
          unfold WxStep at h3
          split at h3
          · rename_i hg
            rw [if_pos (by simp [Region.wanted, hg])]
            obtain ⟨e, h4, h5⟩ := onlyK_sound h3
            have re : EnvR n g e a := ⟨m.asz, fun t v hv => by
              obtain ⟨h6, h7⟩ := h5 t v hv
              refine m.look t v h7 fun i' p hp' hl' hpd => ?_
              have hz := mixB_spec (mixq i' p i o (hqx ▸ hp') ho hss)
              have hlk : t ∈ looks ops.toList o := mem_looks h6
              obtain ⟨e', hem, heo, heb⟩ := edgeIn_spec (hz.2.1 t hpd hlk)
              have := h2 e' (by simpa using hem) heb
              rw [heo, hl'] at this; cases this⟩
            have h4' : opW P tb o.op e stc (fun v st' => (putK n o.dst v env fun env' => Wchain P tb n ops.toList (fun v env st => Q (.panic v) env st) K f (i :: done) env' st') ∧ (isAlloc o.op = true → ∃ x, st' = x :: stc)) (fun v st' => Q (.panic v) e st') := by
              cases ha : isAlloc o.op with
              | false =>
                have e1 : ∀ v st', ((putK n o.dst v env fun env' => Wchain P tb n ops.toList (fun v env st => Q (.panic v) env st) K f (i :: done) env' st') ∧ (false = true → ∃ x, st' = x :: stc)) = (putK n o.dst v env fun env' => Wchain P tb n ops.toList (fun v env st => Q (.panic v) env st) K f (i :: done) env' st') := fun v st' => propext ⟨fun h => h.1, fun h => ⟨h, fun h => by cases h⟩⟩
                simp only [e1]
                exact h4
              | true =>
                cases hop : o.op with
                | alloc t =>
                  rw [hop] at h4
                  have := opW_alloc h4
                  simp only [true_implies]
                  exact this
                | _ => rw [hop] at ha; cases ha
            refine .inl (wp_of_ok (opW_sound (F := F) hp h4' re m.inv) ?_ ?_)
            · intro g' v u st' w' le hr inv hput'
              obtain ⟨hput, hext⟩ := hput'
              have key : ∃ env', (∀ s x, env'.look s = some x → (o.dst = some s ∧ s < n ∧ x = v) ∨ (o.dst ≠ some s ∧ env.look s = some x)) ∧ (∀ s, o.dst ≠ some s → env'.look s = env.look s) ∧ Wchain P tb n ops.toList (fun v env st => Q (.panic v) env st) K f (i :: done) env' st' := by
                unfold putK at hput
                cases hod : o.dst with
                | none => rw [hod] at hput; exact ⟨env, fun s x hx => .inr ⟨by simp, hx⟩, fun _ _ => rfl, hput⟩
                | some d =>
                  rw [hod] at hput
                  dsimp only at hput
                  split at hput
                  · rename_i hdl
                    refine ⟨_, fun s x hx => ?_, fun s hs => ?_, hput⟩
                    · unfold Env.look at hx
                      by_cases e : d = s
                      · rw [if_pos e] at hx; cases hx; subst e
                        exact .inl ⟨rfl, Nat.le_of_ble_eq_true hdl, rfl⟩
                      · rw [if_neg e] at hx; exact .inr ⟨by simpa using e, hx⟩
                    · have : d ≠ s := fun e => hs (by rw [e])
                      show (if d = s then some v else env.look s) = env.look s
                      rw [if_neg this]
                  · exact hput.elim
              obtain ⟨env', k1, k2, k3⟩ := key
              refine ih f (i :: done) _ (rem.erase i) env' st' g' _ w' hlen' hrem' ⟨by simp [m.size], inv, by rw [put_size]; exact m.asz, Gh.le_trans m.le le, same' u, closed', ?_, ?_, ?_, rest' u, ?_, ?_⟩ k3
              · intro j i' p x d hj hx hl' hpd
                have hm : (i', p) ∈ qx := hqx ▸ List.mem_of_getElem? hj
                have hii : i' ≠ i := fun e => by
                  subst e
                  have := ((memq i' p).1 hm).2
                  rw [hss] at this; cases this
                obtain ⟨y, h6, h7⟩ := m.fin j i' p x d hj hx (back i' hii hl') hpd
                exact ⟨y, by rw [put_ne ((mixB_spec (mixq i' p i o hm ho hss)).1 d hpd)]; exact h6, h7.mono le⟩
              · intro s x hx hun
                rcases k1 s x hx with ⟨h6, h7, rfl⟩ | ⟨h6, h7⟩
                · exact ⟨u, by rw [h6]; exact put_at (by rw [m.asz]; exact h7), hr⟩
                · obtain ⟨y, h8, h9⟩ := m.look s x h7 fun i' p hp' hl' hpd => by
                    have hii : i' ≠ i := fun e => by
                      subst e
                      have := ((memq i' p).1 (hqx ▸ hp')).2
                      rw [hss] at this; cases this
                    exact hun i' p hp' (by rw [getD_set_ne false (Ne.symm hii)]; exact hl') hpd
                  exact ⟨y, by rw [put_ne h6]; exact h8, h9.mono le⟩
              · intro s hs
                rw [k2 s (hs i o ho hss)]
                exact m.tail s hs
              · intro hz
                obtain ⟨x, hx⟩ := hext (hz i o ho hss (by simp [hls]))
                obtain ⟨s, hs⟩ := m.fresh fun z l hzl hzs hll => hz z l hzl hzs (getD_set_true hll)
                exact ⟨x :: s, by rw [hx, hs]; rfl⟩
              · intro j hj
                by_cases e : i = j
                · subst e; simp [memN, hls]
                · have hb : Nat.beq i j = false := by rw [← Bool.not_eq_true]; exact fun h => e (Nat.eq_of_beq_eq_true h)
                  have hc : memN j (i :: done) = memN j done := by simp only [memN, hb]
                  rw [hc, getD_set_ne false e]
                  exact m.done j hj
            · intro g' v u st' w' le hr inv hq
              exact hR g' v u e st' a w' (Gh.le_trans m.le le) hr (re.mono le) inv m.same hq
          · exact h3.elim
/-- A region whose order is drawn; 'ss': the places of what runs; all else changes nothing. -/
theorem VDraw.chain (ss : List Nat) {p A : Prop} {id : Nat} {ops : Array Oper} {Q : AExit → Env → St → Prop}
    (h : VGd (chainB ss ops.toList = true) (Wq P tb n ops.toList (sndL (qsL ss 0 ops.toList)) env st fun env =>
      Wchain P tb n ops.toList (fun v env st => Q (.panic v) env st) (fun env st => Q .normal env st) ss.length (fstL (qsL ss 0 ops.toList)) env st)) :
    VDraw p A (VSem P tb n (writesOps ops.toList) (.region id ops true) Q env st) := by
  refine .any ⟨fun W F g a w hp r inv => ?_⟩
  obtain ⟨hb, h⟩ := h
  obtain ⟨vs, env1, h1, tr, hl, hd, hf⟩ := Wq_facts h (TraceOk.start env)
  rw [List.append_nil] at tr
  have r0 : EnvR n g env a := r
  refine wp_region_any hp.mixed ?_
  have hff : ∀ i, (Array.replicate ops.size false).getD i false = false := fun i => by
    rw [Array.getD_eq_getD_getElem?]
    by_cases h : i < ops.size <;> simp [h]
  refine chain_any (F := F) (st := st) (n := n) (vs := vs) (a0 := a) (g0 := g) (Q := Q) (K := fun env st => Q .normal env st) hp hb h1 r0 tr hd (by simpa using hf) ?_ ?_ ops.size ss.length (fstL (qsL ss 0 ops.toList)) _ (List.range ops.size) env1 st g a _ (by simp) (fun i hi _ => by simpa using hi) ?_ hl
  · intro g' env2 st2 a' w' le r' inv' hs hq
    exact ⟨g', .normal, env2, st2, le, rfl, r', inv', hs, hq⟩
  · intro g' v u env2 st2 a' w' le hv r' inv' hs hq
    exact ⟨g', .panic v, env2, st2, le, ⟨u, rfl, hv⟩, r', inv', hs, hq⟩
  · refine ⟨by simp, inv.drew, r.size, Gh.le_refl g, .refl _ _, ?_, ?_, ?_, fun _ _ => rfl, fun _ _ => rfl, fun _ => ⟨[], rfl⟩, ?_⟩
    · intro i o _ hl; rw [hff] at hl; cases hl
    · intro k i o v d _ _ hl; rw [hff] at hl; cases hl
    · intro s v hs hun
      refine tr g _ s v hs fun v' hv' => ?_
      unfold srcL at hv'
      split at hv'
      · rename_i x hx
        have hm := lookP_some hx
        rw [List.mem_reverse, List.mem_iff_getElem?] at hm
        obtain ⟨j, hj⟩ := hm
        rw [List.getElem?_zip_eq_some] at hj
        obtain ⟨h5, _⟩ := hj
        rw [sndL_map] at h5
        simp only [List.map_map, List.getElem?_map, Option.map_eq_some_iff, Function.comp] at h5
        obtain ⟨⟨i', p⟩, h7, h8⟩ := h5
        exact absurd h8 (hun i' p (List.mem_of_getElem? h7) (hff i'))
      · exact r0.look s v' hv'
    · intro i hi
      rw [hff]
      have ho : ops[i]? = some ops[i] := by simp [hi]
      constructor
      · intro hm
        have : i ∈ fstL (qsL ss 0 ops.toList) := by
          cases hmm : memN i (fstL (qsL ss 0 ops.toList)) with
          | false => rw [hmm] at hm; cases hm
          | true =>
            by_cases hin : i ∈ fstL (qsL ss 0 ops.toList)
            · exact hin
            · rw [memN_false.2 hin] at hmm; cases hmm
        obtain ⟨o, ho⟩ := mem_fstL.1 this
        exact .inr (mem_qsL.1 ho).2.2
      · rintro (h | h)
        · cases h
        · cases hmm : memN i (fstL (qsL ss 0 ops.toList)) with
          | true => rfl
          | false =>
            exact absurd (mem_fstL.2 ⟨ops[i], mem_qsL.2 ⟨Nat.zero_le _, by simpa using ho, h⟩⟩) (memN_false.1 hmm)
end
end Go.Av

namespace Go.Av
open Go
theorem Inv.fresh_texts {P : Program} {W w : World} {g : Gh} {st : St} (inv : Inv W g st w) (l : List (List UInt8)) (T : TypeId) :
    ∃ g', Gh.le g g' ∧ Rel g' (.fz (l.map .str) l.length true) (.slice (some ⟨w.heap.size, 0, none⟩) l.length l.length) ∧ Inv W g' st (w.alloc (.cells (l.map fun x => Value.string ⟨x.toArray⟩).toArray T)) := by
  let vs : List Value := l.map fun x => Value.string ⟨x.toArray⟩
  let g2 : Gh := ⟨fun b i => if b = w.heap.size then vs[i]? else g.μ b i, g.κ⟩
  have le2 : Gh.le g g2 := by
    refine ⟨fun b o u hm => ?_, fun _ _ h => h⟩
    have := World.block_lt_of_cell? _ _ (inv.mem _ _ _ hm)
    show (if b = w.heap.size then vs[o]? else g.μ b o) = some u
    rw [if_neg (by simp at this; omega)]; exact hm
  refine ⟨g2, le2, ⟨some ⟨w.heap.size, 0, none⟩, l.length, rfl, Nat.le_refl _, fun _ => rfl, .inr ⟨w.heap.size, 0, rfl, Cells.of_nth fun i v hv => ?_⟩⟩, ?_⟩
  · simp only [List.getElem?_map, Option.map_eq_some_iff] at hv
    obtain ⟨x, hx, rfl⟩ := hv
    refine ⟨.string ⟨x.toArray⟩, ?_, ?_, rfl⟩
    · show (if w.heap.size = w.heap.size then vs[0 + i]? else _) = some _
      rw [if_pos rfl, Nat.zero_add]; simp [vs, hx]
    · rfl
  · refine ⟨fun b o u hm => ?_, fun x hx => ?_, inv.nodup, inv.low, fun b n hn => by simpa using Nat.lt_succ_of_lt (inv.cap b n hn), inv.below.alloc inv.base_le _⟩
    · change (if b = w.heap.size then vs[o]? else g.μ b o) = some u at hm
      split at hm
      · rename_i hbb; subst hbb
        rw [cell_of (heap_alloc_new w _)]
        simpa [vs] using hm
      · have h1 := inv.mem _ _ _ hm
        have h2 := World.block_lt_of_cell? _ _ h1
        rw [World.cell?_alloc_lt _ _ _ (by simpa using h2)]; exact h1
    · have ro := inv.obj x hx
      refine (ro.world (heap_alloc_old ro.lt)).gh le2 fun i hi => ?_
      show (if x.1 = w.heap.size then vs[i]? else g.μ x.1 i) = none
      rw [if_neg (by have := ro.lt; omega)]; exact hi
/-- A contract of the machine's: a row of texts is laid anew, and the old memory is as it was. -/
theorem Fn.of_texts {P : Program} {f : FuncId} {args : List AV} {l : List (List UInt8)} {fn : Func} (hf : P.funcs[f]? = some fn) (hb : fn.body.isSome = true) (hn : (fn.name == "runtime.NumGoroutine") = false)
    (h : ∀ (W w : World) (g : Gh) (us : List Value), Lay P W → RelL g false args us → RowKit.Below W.heap.size W w → Calls P f ⟨us⟩ w fun e w' => ∃ T, e = .returned (.slice (some ⟨w.heap.size, 0, none⟩) l.length l.length) ∧
      w' = w.alloc (.cells (l.map fun x => Value.string ⟨x.toArray⟩).toArray T)) : Fn P f args (.fz (l.map .str) l.length true) :=
  ⟨⟨fn, hf, hb, hn⟩, fun W F g w us hl hr inv => (h W w g us hl hr inv.below).mono fun _ w' ⟨T, e1, e2⟩ => by
    obtain ⟨g', le, hrel, inv'⟩ := inv.fresh_texts (P := P) l T
    exact ⟨g', .ret _, [], le, ⟨_, e1, hrel⟩, by rw [e2]; exact inv', rfl, rfl⟩⟩
end Go.Av
