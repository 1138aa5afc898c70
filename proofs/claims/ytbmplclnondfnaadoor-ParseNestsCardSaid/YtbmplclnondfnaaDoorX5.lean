/- Regions whose order is drawn and that write: every order. Conditions: as each says. -/
import Derived.Test.YtbmplclnondfnaaDoorX3
set_option linter.all false
namespace Go.Av
open Go
structure VAnd (A B : Prop) : Prop where
  a : A
  b : B
def edgesOk (done : List Nat) : List Edge → Bool
  | [] => true
  | e :: r => match Region.binds .any e with
    | false => edgesOk done r
    | true => match memN e.on done with
      | true => edgesOk done r
      | false => false
def readyL (done : List Nat) : Nat → List Oper → List Nat
  | _, [] => []
  | i, o :: r => match memN i done with
    | true => readyL done (i + 1) r
    | false => match edgesOk done o.after.toList with
      | true => i :: readyL done (i + 1) r
      | false => readyL done (i + 1) r
def eachK (f : Nat → Prop) : List Nat → Prop
  | [] => True
  | i :: r => match r with
    | [] => f i
    | j :: r => VAnd (f i) (eachK f (j :: r))
def operK (l : List Oper) (n : Nat) (k : Oper → Prop) : Prop :=
  match l with
  | [] => False
  | o :: r => match n with
    | 0 => k o
    | n + 1 => operK r n k
def Wany (P : Program) (tb : Tab) (n : Nat) (ops : List Oper) (Kp : AV → Env → St → Prop) (K : Env → St → Prop) : Nat → List Nat → Env → St → Prop
  | 0, done, env, st => VGd (readyL done 0 ops = []) (K env st)
  | f + 1, done, env, st => match readyL done 0 ops with
    | [] => K env st
    | i :: r => eachK (fun i => operK ops i fun o => WopsStep P tb n ops Kp o (fun env st _ => Wany P tb n ops Kp K f (i :: done) env st) env st K) (i :: r)
/-- Every order ends alike: 'ss': some slots, and what they hold at the end. -/
inductive VAny (run : (Env → St → Prop) → Prop) (env : Env) (K : Env → St → Prop) : Prop
  | mk (ι : Type) (ss : List Nat) (vs : ι → List AV) (st' : ι → St) (h : run fun env st => ∃ i, getsK env ss fun ws => ws = vs i ∧ VSel (st' i) st) (k : ∀ i, K (bindE ss (vs i) env) (st' i))

section
variable {P : Program} {tb : Tab} {n : Nat} {W : World} {F : St} {g : Gh} {env : Env} {st : St} {a : Act} {w : World}
theorem operK_spec {l : List Oper} {i : Nat} {k : Oper → Prop} (h : operK l i k) : ∃ o, l[i]? = some o ∧ k o := by
  induction l generalizing i with
  | nil => exact h.elim
  | cons o r ih =>
    cases i with
    | zero => exact ⟨o, rfl, h⟩
    | succ i => simpa using ih h
theorem eachK_spec {f : Nat → Prop} : ∀ {l : List Nat}, eachK f l → ∀ i ∈ l, f i
  | [], _, _, h => absurd h (by simp)
  | [i], h, j, hj => by rw [List.mem_singleton.1 hj]; exact h
  | i :: x :: r, h, j, hj => by
    rcases List.mem_cons.1 hj with rfl | hj
    · exact h.a
    · exact eachK_spec h.b j hj
theorem edgesOk_spec {done : List Nat} {listed : Array Bool} : ∀ {l : List Edge}, (∀ e ∈ l, Region.binds .any e = true → memN e.on done = listed.getD e.on false) →
    edgesOk done l = l.all fun e => !Region.binds .any e || listed.getD e.on false
  | [], _ => rfl
  | e :: r, h => by
    have ih := edgesOk_spec (l := r) (fun x hx => h x (List.mem_cons_of_mem _ hx))
    have h0 := h e (List.mem_cons_self ..)
    unfold edgesOk
    rw [List.all_cons]
    cases hb : Region.binds .any e with
    | false => simp [ih]
    | true =>
      have h1 := h0 hb
      cases hm : memN e.on done with
      | true => rw [hm] at h1; rw [← h1]; simp [ih]
      | false => rw [hm] at h1; rw [← h1]; simp
theorem readyL_spec {ops : Array Oper} {done : List Nat} {listed : Array Bool} (hd : ∀ i, i < ops.size → listed.getD i true = memN i done) (hs : listed.size = ops.size) (hdone : ∀ i ∈ done, i < ops.size) :
    ∀ i, i ∈ Region.ready .any ops listed ↔ i ∈ readyL done 0 ops.toList := by
  have key : ∀ (l : List Oper) (k : Nat), (∀ j, l[j]? = ops[k + j]?) → ∀ i, i ∈ readyL done k l ↔ k ≤ i ∧ i < k + l.length ∧ memN i done = false ∧ ∃ o, ops[i]? = some o ∧ edgesOk done o.after.toList = true := by
    intro l
    induction l with
    | nil => intro k _ i; simp [readyL]; omega
    | cons o r ih =>
      intro k hl i
      have h0 : ops[k]? = some o := by simpa using (hl 0).symm
      have ih := ih (k + 1) (fun j => by have := hl (j + 1); simpa [Nat.add_assoc, Nat.add_comm 1 j] using this) i
      unfold readyL
      rw [List.length_cons]
      cases hm : memN k done with
      | true =>
        dsimp only
        rw [ih]
        constructor
        · rintro ⟨h1, h2, h3⟩; exact ⟨by omega, by omega, h3⟩
        · rintro ⟨h1, h2, h3, h4⟩
          have : i ≠ k := fun e => by subst e; rw [hm] at h3; cases h3
          exact ⟨by omega, by omega, h3, h4⟩
      | false =>
        dsimp only
        cases he : edgesOk done o.after.toList with
        | true =>
          dsimp only
          rw [List.mem_cons, ih]
          constructor
          · rintro (rfl | ⟨h1, h2, h3⟩)
            · exact ⟨Nat.le_refl _, by omega, hm, o, h0, he⟩
            · exact ⟨by omega, by omega, h3⟩
          · rintro ⟨h1, h2, h3, h4⟩
            by_cases e : i = k
            · exact .inl e
            · exact .inr ⟨by omega, by omega, h3, h4⟩
        | false =>
          dsimp only
          rw [ih]
          constructor
          · rintro ⟨h1, h2, h3⟩; exact ⟨by omega, by omega, h3⟩
          · rintro ⟨h1, h2, h3, o', h4, h5⟩
            have : i ≠ k := fun e => by subst e; rw [h0] at h4; cases h4; rw [he] at h5; cases h5
            exact ⟨by omega, by omega, h3, o', h4, h5⟩
  intro i
  rw [key ops.toList 0 (by simp)]
  unfold Region.ready
  simp only [List.mem_filter, List.mem_range, Bool.and_eq_true, Bool.not_eq_true']
  have hgetD : ∀ i, listed.getD i false = memN i done := by
    intro i
    by_cases hi : i < ops.size
    · rw [← hd i hi]
      simp [Array.getD_eq_getD_getElem?, hs, hi]
    · have h1 : listed.getD i false = false := by simp [Array.getD_eq_getD_getElem?, hs, hi]
      rw [h1]
      symm
      rw [memN_false]
      exact fun h => hi (hdone i h)
  constructor
  · rintro ⟨h1, h2, h3⟩
    have ho : ops[i]? = some ops[i] := by simp [h1]
    rw [ho] at h3
    refine ⟨Nat.zero_le _, by simpa using h1, by rw [← hd i h1]; exact h2, _, ho, ?_⟩
    rw [edgesOk_spec (listed := listed) (fun e _ _ => (hgetD _).symm)]
    simpa using h3
  · rintro ⟨_, h1, h2, o, ho, h3⟩
    have h1 : i < ops.size := by simpa using h1
    refine ⟨h1, by rw [hd i h1]; exact h2, ?_⟩
    rw [ho]
    rw [edgesOk_spec (listed := listed) (fun e _ _ => (hgetD _).symm)] at h3
    simpa using h3

theorem WopsStep_sound (hp : ProgAt P tb W) {ops : Array Oper} {o : Oper} {Kp : AV → Env → St → Prop} {ih : Env → St → (Env → St → Prop) → Prop} {K : Env → St → Prop} {next : Act → World → Prop} {Q : Exit → Act → World → Prop}
    (h : WopsStep P tb n ops.toList Kp o ih env st K) (r : EnvR n g env a) (inv : Inv W g (st ++ F) w)
    (hn : ∀ g' env' st' u w', Gh.le g g' → EnvR n g' env' (a.put o.dst u) → Inv W g' (st' ++ F) w' → ih env' st' K → next (a.put o.dst u) w')
    (hpn : ∀ g' v u env' st' w', Gh.le g g' → Rel g' v u → EnvR n g' env' a → Inv W g' (st' ++ F) w' → Kp v env' st' → Q (.panic [{ v := u, recovered := false }]) a w') :
    if Region.wanted o (yielded ops a.tmps) then o.wp P a w next Q ∨ (o.asks P a w ∧ LetsOut Q) else next (a.put o.dst undef) w := by
  have run : ∀ {env env0 : Env}, EnvR n g env a → EnvR n g env0 a → opW P tb o.op env st (fun v st' => putK n o.dst v env fun env' => ih env' st' K) (fun v st' => Kp v env0 st') → o.wp P a w next Q := by
    intro env env0 r r0 h
    refine wp_of_ok (opW_sound hp h r inv) ?_ ?_
    · intro g' v u st' w' le' hr inv' hK
      obtain ⟨env', r', h'⟩ := putK_sound hK (r.mono le') hr
      exact hn g' env' st' u w' le' r' inv' h'
    · intro g' v u st' w' le' hr inv' hq
      exact hpn g' v u env0 st' w' le' hr (r0.mono le') inv' hq
  have skip : ∀ {env : Env}, EnvR n g env a → (putK n o.dst (.tup []) env fun env' => ih env' st K) → next (a.put o.dst undef) w := by
    intro env r h
    obtain ⟨env', r', h'⟩ := putK_sound h r (u := undef) ⟨[], rfl, rfl⟩
    exact hn g env' st undef w (Gh.le_refl g) r' inv h'
  unfold WopsStep at h
  split at h
  · rename_i hg
    rw [if_pos (by simp [Region.wanted, hg])]
    exact .inl (run r r h)
  · rename_i j want hg
    split at h
    · exact h.elim
    · rename_i d hd
      obtain ⟨gv, hl, h⟩ := Env.get_look h
      obtain ⟨u, hu, hru⟩ := r.look d gv hl
      have hw := wanted_guard hg hd hu
      split at h
      · rename_i b
        have hru : u = .bool b := hru
        subst hru
        have hb : ∀ q, b = q → EnvR n g ((d, .bool q) :: env) a := fun q e => r.fact ⟨_, hu, by rw [e]; rfl⟩
        split at h
        · cases b with
          | true => rw [if_pos (by rw [hw]; rfl)]; exact .inl (run (hb true rfl) r (h.t rfl))
          | false => rw [if_neg (by rw [hw]; simp)]; exact skip (hb false rfl) (h.f rfl)
        · cases b with
          | true => rw [if_neg (by rw [hw]; simp)]; exact skip (hb true rfl) (h.t rfl)
          | false => rw [if_pos (by rw [hw]; rfl)]; exact .inl (run (hb false rfl) r (h.f rfl))
      · obtain ⟨us, rfl, _⟩ := hru
        rw [if_neg (by rw [hw]; simp)]
        exact skip r h
      · exact h.elim

theorem Wany_sound (hp : ProgAt P tb W) {ops : Array Oper} {Q : AExit → Env → St → Prop} {K : Env → St → Prop} {a0 : Act} {g0 : Gh} {R : Exit → Act → World → Prop}
    (hK : ∀ g' env' st' a' w', Gh.le g0 g' → EnvR n g' env' a' → Inv W g' (st' ++ F) w' → Same (writesOps ops.toList) a0 a' → K env' st' → R .normal a' w')
    (hR : ∀ g' v u env' st' a' w', Gh.le g0 g' → Rel g' v u → EnvR n g' env' a' → Inv W g' (st' ++ F) w' → Same (writesOps ops.toList) a0 a' → Q (.panic v) env' st' → R (.panic [{ v := u, recovered := false }]) a' w') :
    ∀ (f : Nat) (done : List Nat) (listed : Array Bool) {g : Gh} {env : Env} {st : St} {a : Act} {w : World}, Wany P tb n ops.toList (fun v env st => Q (.panic v) env st) K f done env st →
    (∀ i, i < ops.size → listed.getD i true = memN i done) → listed.size = ops.size → (∀ i ∈ done, i < ops.size) → EnvR n g env a → Inv W g (st ++ F) w → Gh.le g0 g → Same (writesOps ops.toList) a0 a →
    wpAny P .any ops R f listed a w := by
  intro f
  induction f with
  | zero =>
    intro done listed g env st a w h hd hs hdone r inv le hsame
    obtain ⟨h1, h2⟩ := h
    have hr := readyL_spec hd hs hdone
    refine ⟨?_, hK g env st a w le r inv hsame h2⟩
    cases hq : Region.ready .any ops listed with
    | nil => rfl
    | cons x xs =>
      have : x ∈ readyL done 0 ops.toList := (hr x).1 (by rw [hq]; exact List.mem_cons_self ..)
      rw [h1] at this; cases this
  | succ f ih =>
    intro done listed g env st a w h hd hs hdone r inv le hsame
    have hr := readyL_spec hd hs hdone
    unfold Wany at h
    refine ⟨fun hq => ?_, fun i hi => ?_⟩
    · cases hl : readyL done 0 ops.toList with
      | nil => rw [hl] at h; exact hK g env st a w le r inv hsame h
      | cons x xs =>
        have : x ∈ Region.ready .any ops listed := (hr x).2 (by rw [hl]; exact List.mem_cons_self ..)
        rw [hq] at this; cases this
    · have hi' := (hr i).1 hi
      cases hl : readyL done 0 ops.toList with
      | nil => rw [hl] at hi'; cases hi'
      | cons x xs =>
        rw [hl] at h hi'
        obtain ⟨o, ho, h1⟩ := operK_spec (eachK_spec h i hi')
        have hoi : ops[i]? = some o := by simpa using ho
        have hilt : i < ops.size := (Array.getElem?_eq_some_iff.1 hoi).1
        unfold wpOp
        rw [hoi]
        dsimp only
        have hmem : o ∈ ops.toList := List.mem_of_getElem? ho
        refine WopsStep_sound (F := F) hp h1 r inv ?_ ?_
        · intro g' env' st' u w' le' r' inv' h'
          refine ih (i :: done) _ h' ?_ (by simpa using hs) ?_ r' inv' (Gh.le_trans le le') (hsame.trans (.put u fun t ht => mem_writesOps hmem ht))
          · intro j hj
            rw [Array.getD_eq_getD_getElem?]
            by_cases e : i = j
            · subst e
              rw [Array.getElem?_setIfInBounds_self_of_lt (by rw [hs]; exact hilt)]
              unfold memN
              rw [Nat.beq_refl]; rfl
            · rw [Array.getElem?_setIfInBounds_ne e, ← Array.getD_eq_getD_getElem?, hd j hj]
              have : Nat.beq i j = false := by rw [← Bool.not_eq_true]; exact fun h => e (Nat.eq_of_beq_eq_true h)
              simp only [memN, this]
          · intro j hj
            rcases List.mem_cons.1 hj with rfl | hj
            · exact hilt
            · exact hdone j hj
        · intro g' v u env' st' w' le' hr' r' inv' hq
          exact hR g' v u env' st' a w' (Gh.le_trans le le') hr' r' inv' hsame hq
/-- A region whose order is drawn, in every order. -/
theorem VDraw.all {p A : Prop} {id : Nat} {ops : Array Oper} {Q : AExit → Env → St → Prop}
    (h : keepK (writesOps ops.toList) env fun env' => VAny (fun K => Wany P tb n ops.toList (fun v env st => Q (.panic v) env st) K ops.toList.length [] env st) env' fun env st => Q .normal env st) :
    VDraw p A (VSem P tb n (writesOps ops.toList) (.region id ops true) Q env st) := by
  refine .any ⟨fun W F g a w hp r inv => ?_⟩
  obtain ⟨env', h, hkeep⟩ := keepK_sound h
  obtain ⟨ι, ss, vs, st', h, k⟩ := h
  refine wp_region_any hp.mixed ?_
  refine Wany_sound (F := F) (Q := Q) (a0 := a) (g0 := g) hp ?_ ?_ ops.size [] _ (by simpa using h) ?_ (by simp) (by simp) r inv.drew (Gh.le_refl g) (.refl _ _)
  · intro g' env2 st2 a' w' le r' inv' hs hg
    obtain ⟨i, hg⟩ := hg
    obtain ⟨ws, h1, h2, h3⟩ := getsK_sound hg
    obtain ⟨rfl, hsel⟩ := h1
    refine ⟨g', .normal, _, st' i, le, rfl, ⟨r'.size, fun t v hv => ?_⟩, inv'.sel hsel, hs, k i⟩
    rcases bindE_look hv with ⟨i, hi1, hi2⟩ | hv
    · exact r'.look t v (h3 i t v hi1 hi2)
    · obtain ⟨hm, hl⟩ := hkeep t v hv
      obtain ⟨u, hu, hr⟩ := r.look t v hl
      exact ⟨u, by rw [hs.tmps t hm]; exact hu, Rel.mono le _ _ hr⟩
  · intro g' v u env2 st2 a' w' le hv r' inv' hs hq
    exact ⟨g', .panic v, env2, st2, le, ⟨u, rfl, hv⟩, r', inv', hs, hq⟩
  · intro i hi
    rw [Array.getD_eq_getD_getElem?]; simp [memN, hi]
end
theorem VSel.refl : ∀ st : St, VSel st st
  | [] => .nil
  | x :: r => .cons 0 rfl (VSel.refl r)
theorem VSel.skip {s st : St} (h : VSel s st) (x : Nat × AObj) : VSel s (x :: st) := by
  induction h with
  | nil => exact .nil
  | cons i h k ih => exact .cons (i + 1) (by simpa using h) (by simpa using ih)
theorem VFz.all : ∀ (vs : List AV) {st : St} {K : List AV → St → Prop}, K vs st → VFz vs st K
  | [], _, _, h => .nil h
  | _ :: vs, _, _, h => .keep (VFz.all vs h)
/-- A contract over some objects, where there are more: these stand first afterwards. -/
theorem ACalls.usep {P : Program} {f : FuncId} {args : List AV} {s R st : St} {Q Post : AOut → St → Prop} (h : ACalls P f args s Q) (hp : (s ++ R).Perm st) (k : ∀ out s', Q out s' → Post out (R ++ s')) : ACalls P f args st Post :=
  ⟨h.ent, fun W F g w us hl hr inv => ((ACalls.perm (ACalls.frame (R := R) h) hp).run W F g w us hl hr inv).mono fun _ _ ⟨g', out, st', a, b, c, s', e, hq⟩ =>
    ⟨g', out, R ++ s', a, b, (by subst e; exact c.perm (List.Perm.append_right F List.perm_append_comm)), k out s' hq⟩⟩
/-- Every order, as far as it is plain. -/
theorem anyd {G : Prop} (h : G := by
  repeat' ((conv => whnf); first | refine VAnd.mk ?_ ?_ | exact Exists.intro () (And.intro rfl (by repeat (first | exact VSel.refl _ | exact .nil | refine .cons 0 rfl ?_))) | refine VGd.mk rfl ?_ | refine VOne.mk rfl ?_ | refine VIf.tt ?_ | refine VIf.ff ?_ | refine VFz.nil ?_ | refine VFz.keep ?_ | refine VObj.mk 0 _ rfl ?_ | refine VObj.mk 1 _ rfl ?_ | refine VObj.mk 2 _ rfl ?_ | refine VObj.mk 3 _ rfl ?_ | refine VObj.mk 4 _ rfl ?_ | refine VObj.mk 5 _ rfl ?_ | refine VTake.mk _ rfl rfl ?_ | refine VNth.mk _ rfl ?_ | refine VInt.fit (by omega) (by omega) ?_ | refine VGd.mk (by omega) ?_)) : G := h
theorem DCalls.use {P : Program} {f : FuncId} {args : List AV} {m : Option AV} {s R st : St} {K K' : St → Prop} (h : DCalls P f args s m K) (hp : (s ++ R).Perm st) (k : ∀ s', K s' → K' (s' ++ R)) : DCalls P f args st m K' :=
  ((DCalls.frame (R := R) h).perm hp).mono fun st' ⟨s', e, hk⟩ => by rw [e]; exact k s' hk
end Go.Av
