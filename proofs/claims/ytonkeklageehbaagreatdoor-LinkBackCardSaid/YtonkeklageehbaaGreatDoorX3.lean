/- Soundness of W, ninth part: slice expressions, assertions, calls. Conditions: as each says. Soundness of W, tenth part: calls; every operation. Conditions: as each says. Soundness of W: code. Conditions: as each says. Soundness of W: regions whose order is drawn. Conditions: as each says. Soundness of W: code, the end. Conditions: as each says. Soundness of W: functions; laws of calls. Conditions: as each says. Laws for the use of W. From contracts over the machine's calls to functions of abstract values. Conditions: as each says. From functions of abstract values to rows. Conditions: as each says. Steps in short: chains of W's laws, found by tactics that stand as defaults of arguments. Conditions: as each says. Functions that defer one call, and closures that recover. Conditions: as each says. Functions that defer one call, and closures that recover, second part. Conditions: as each says. -/
import Derived.Test.YtonkeklageehbaaGreatDoorX2
import Derived.Deep.LoopGhost
import Derived.Tactics
import Derived.Orders
import Derived.Scope
import Derived.Recover
set_option linter.all false
set_option maxRecDepth 20000
namespace Go.Av
open Go

section
variable {P : Program} {tb : Tab} {n : Nat} {W : World} {F : St} {g : Gh} {env : Env} {st : St} {a : Act} {w : World} {K Kp : AV → St → Prop}

/-- A block that nobody speaks of. -/
theorem Inv.grow (inv : Inv W g (st ++ F) w) (o : Obj) : Inv W g (st ++ F) (w.alloc o) where
  mem b o' u e := by
    have h1 := inv.mem _ _ _ e
    have h2 := World.block_lt_of_cell? _ _ h1
    rw [World.cell?_alloc_lt _ _ _ (by simpa using h2)]; exact h1
  obj x hx := (inv.obj x hx).world (heap_alloc_old (inv.obj x hx).lt)
  nodup := inv.nodup
  low := inv.low
  cap b n e := by simpa using Nat.lt_succ_of_lt (inv.cap b n e)
  below := inv.below.alloc inv.base_le _

theorem run_slice_str {t : TypeId} (ht : P.underlying t = some .string) {l : List UInt8} {lo hi : Option Value} {i j q : Nat} (hb : (Instr.sliceBounds false l.length l.length lo hi none).run P w = .ok (i, j, q) w) :
    (Instr.sliceAt t (.string ⟨⟨l⟩⟩) lo hi none).run P w = .ok (.string ⟨⟨(l.take j).drop i⟩⟩) w := by
  have hb' : (Instr.sliceBounds false (⟨⟨l⟩⟩ : ByteArray).size (⟨⟨l⟩⟩ : ByteArray).size lo hi none).run P w = .ok (i, j, q) w := hb
  simp only [Instr.sliceAt, Instr.slice, Sem.run_bind, run_und ht, Result.andThen_ok, Option.isSome_none, Bool.false_eq_true, if_false, hb', Sem.run_pure]
  congr 2
  apply ByteArray.ext
  apply Array.ext'
  simp [ByteArray.data_extract, List.take_drop]
  rcases Nat.lt_or_ge j i with hji | hji
  · rw [List.drop_eq_nil_of_le (by simp; omega), List.drop_eq_nil_of_le (by simp; omega)]
  · rw [show i + (j - i) = j by omega]
theorem strSl_sound (r : EnvR n g env a) {t : TypeId} (ht : P.underlying t = some .string) {l : List UInt8} {lo hi : Option Operand} {k : List UInt8 → Prop} (h : strSl env l lo hi k) :
    ∃ l', k l' ∧ (Instr.sliceAt t (.string ⟨⟨l⟩⟩) (lo.map a.eval) (hi.map a.eval) none).run P w = .ok (.string ⟨⟨l'⟩⟩) w := by
  have hsb : ∀ (kd : IntKind) (q : Int) (y : Nat) (c : BoundsCode), 0 ≤ q → q ≤ y → (Instr.sliceBound (.int kd q) y c).run P w = .ok q.toNat w := fun kd q y c h0 h1 => run_sliceBound (P := P) w kd q y c h0 h1
  unfold strSl at h
  cases lo with
  | none =>
    cases hi with
    | none =>
      refine ⟨l, h, ?_⟩
      have := run_slice_str (P := P) (w := w) ht (l := l) (lo := none) (hi := none) (i := 0) (j := l.length) (q := l.length) (by simp [Instr.sliceBounds])
      simpa using this
    | some hi =>
      obtain ⟨v, h1, h2⟩ := evalK_sound r h
      obtain ⟨kd, q, rfl, h3⟩ := intOfK_sound h2
      have h1 : a.eval hi = .int kd q := h1
      obtain ⟨b1, b2, h4⟩ := h3
      refine ⟨l.take q.toNat, h4, ?_⟩
      have := run_slice_str (P := P) (w := w) ht (l := l) (lo := none) (hi := some (a.eval hi)) (i := 0) (j := q.toNat) (q := l.length) (by simp [Instr.sliceBounds, h1, hsb kd q l.length _ b1 (by omega)])
      simpa using this
  | some lo =>
    cases hi with
    | none =>
      obtain ⟨v, h1, h2⟩ := evalK_sound r h
      obtain ⟨kd, q, rfl, h3⟩ := intOfK_sound h2
      have h1 : a.eval lo = .int kd q := h1
      obtain ⟨b1, b2, h4⟩ := h3
      refine ⟨l.drop q.toNat, h4, ?_⟩
      have := run_slice_str (P := P) (w := w) ht (l := l) (lo := some (a.eval lo)) (hi := none) (i := q.toNat) (j := l.length) (q := l.length) (by simp [Instr.sliceBounds, h1, hsb kd q l.length _ b1 (by omega)])
      simpa using this
    | some hi =>
      obtain ⟨v, h1, h2⟩ := evalK_sound r h
      obtain ⟨kd, q, rfl, h3⟩ := intOfK_sound h2
      have h1 : a.eval hi = .int kd q := h1
      obtain ⟨b1, b2, h4⟩ := h3
      obtain ⟨v, h5, h6⟩ := evalK_sound r h4
      obtain ⟨kd', q', rfl, h7⟩ := intOfK_sound h6
      have h5 : a.eval lo = .int kd' q' := h5
      obtain ⟨b3, b4, h8⟩ := h7
      refine ⟨(l.take q.toNat).drop q'.toNat, h8, ?_⟩
      exact run_slice_str (P := P) (w := w) ht (l := l) (lo := some (a.eval lo)) (hi := some (a.eval hi)) (i := q'.toNat) (j := q.toNat) (q := l.length) (by
        simp [Instr.sliceBounds, h1, h5, hsb kd q l.length _ b1 (by omega), hsb kd' q' q.toNat _ b3 (by omega)])

theorem ok_slice {dst ty pos after guard} {t : TypeId} {x : Operand} {lo hi mx : Option Operand} (htb : TabOk P tb) (h : opW P tb (.slice t x lo hi mx) env st K Kp) (r : EnvR n g env a) (inv : Inv W g (st ++ F) w) :
    OpOk P W F g K Kp ((execOp a.eval ⟨dst, .slice t x lo hi mx, ty, pos, after, guard⟩).run P w) := by
  obtain ⟨v, h1, h2⟩ := evalK_sound r h
  unfold sliceW at h2
  have h2' := Tab.get_ok htb h2
  clear h2
  obtain ⟨ti, hty, h2⟩ := h2'
  have hk := tyB_kind hty
  split at h2
  · rename_i ek; rw [ek] at hk
    have hund := kind_str hk
    split at h2
    · rename_i l
      have h1 : a.eval x = .string ⟨⟨l⟩⟩ := h1
      split at h2
      · obtain ⟨l', h3, h4⟩ := strSl_sound (P := P) (w := w) r hund h2
        exact .same (v := .str l') (exec_val rfl (by rw [h1]; exact h4)) rfl inv h3
      · exact h2.elim
    · exact h2.elim
  · rename_i e ek; rw [ek] at hk
    have hund := kind_slice hk
    have h2' := Tab.get_ok htb h2
    clear h2
    obtain ⟨te, hte, h2⟩ := h2'
    obtain ⟨ie, z, hi', hs, _⟩ := tyB_info hte
    have hrun : ∀ {ad : Option Addr} {len cap i hh q : Nat}, (Instr.sliceBounds true len cap (lo.map a.eval) (hi.map a.eval) (mx.map a.eval)).run P w = .ok (i, hh, q) w →
        (Instr.sliceAt t (.slice ad len cap) (lo.map a.eval) (hi.map a.eval) (mx.map a.eval)).run P w = .ok (.slice (if q = i then ad else ad.map (·.add (i * te.size))) (hh - i) (q - i)) w := by
      intro ad len cap i hh q hb
      simp only [Instr.sliceAt, Instr.slice, Sem.run_bind, run_und hund, Result.andThen_ok, hb, run_size hi', hs, Sem.run_pure]
    split at h2
    · have h1 : a.eval x = .slice none 0 0 := h1
      obtain ⟨i, hh, f, h3, h4⟩ := slB_sound r h2
      have h5 := h4.run (P := P) (w := w) (Nat.le_refl 0)
      have hh0 : hh = 0 := by have := h4.le; omega
      have hi0 : i.getD 0 = 0 := by cases i with | none => rfl | some j => have := h4.lole j rfl; simp; omega
      rw [hh0, hi0] at h5
      refine .same (v := .nils) (exec_val rfl (by rw [h1]; exact hrun h5)) ?_ inv h3
      show Value.slice _ _ _ = _
      cases f <;> simp
    · rename_i cells m full
      obtain ⟨i, hh, f, h3, h4⟩ := slB_sound r h2
      obtain ⟨ad, cap, ex, c1, c2, c3⟩ := h1
      have h5 := h4.run (P := P) (w := w) c1
      have hle := h4.le
      have fin : ∀ j, i.getD 0 = j → j ≤ hh → K (.fz ((cells.take (hh * te.size)).drop (j * te.size)) (hh - j) f) st → OpOk P W F g K Kp ((execOp a.eval ⟨dst, .slice t x lo hi mx, ty, pos, after, guard⟩).run P w) := by
        intro j ej hj hK
        rw [ej] at h5
        obtain ⟨q, hqe, hqf, hq, hqc⟩ : ∃ q, (if f = true then hh else cap) = q ∧ (f = true → q = hh) ∧ hh ≤ q ∧ q ≤ cap := ⟨_, rfl, fun e => if_pos e, by split <;> omega, by split <;> omega⟩
        rw [hqe] at h5
        refine .same (v := .fz ((cells.take (hh * te.size)).drop (j * te.size)) (hh - j) f) (exec_val rfl (by rw [ex]; exact hrun h5)) ⟨_, _, rfl, by omega, fun e => by rw [hqf e], ?_⟩ inv hK
        rcases c3 with ⟨rfl, rfl⟩ | ⟨b, o, rfl, hc⟩
        · exact .inl ⟨by omega, by simp⟩
        · right
          by_cases eq : q = j
          · have : hh = j := by omega
            subst this
            exact ⟨b, o, by rw [if_pos eq], by rw [List.drop_eq_nil_of_le (by simp; omega)]; trivial⟩
          · exact ⟨b, o + j * te.size, by rw [if_neg eq, ← addr_add]; rfl, (hc.take _).drop _⟩
      cases i with
      | none => exact fin 0 rfl (by omega) (by simp only [cutK, mulN_eq] at h3; simpa using h3)
      | some j => exact fin j rfl (h4.lole j rfl) (by simp only [cutK, mulN_eq] at h3; exact h3)
    · rename_i b m
      obtain ⟨i, hh, f, h3, h4⟩ := slB_sound r h2
      obtain ⟨cap, ex, c1, c2⟩ := h1
      have h5 := h4.run (P := P) (w := w) c2
      have hle := h4.le
      have key : (i = none ∧ f = false ∧ K (.own b hh) st) ∨ (∃ j, i = some j ∧ f = false ∧ j < hh ∧ K (.sub b (j * te.size) (hh - j)) st) ∨ ownCut te st b i hh f K := by
        cases i with
        | none =>
          cases f with
          | false => exact .inl ⟨rfl, rfl, h3⟩
          | true => exact .inr (.inr h3)
        | some i =>
          cases f with
          | false =>
            rcases h3 with h3 | ⟨h3, h3'⟩
            · exact .inr (.inr h3)
            · exact .inr (.inl ⟨i, rfl, rfl, h3, by rw [← mulN_eq]; exact h3'⟩)
          | true => exact .inr (.inr h3)
      rcases key with ⟨rfl, rfl, hK⟩ | ⟨j, rfl, rfl, hj, hK⟩ | ⟨p, o, h6, h7⟩
      · refine .same (v := .own b hh) (exec_val rfl (by rw [ex]; exact hrun h5)) ⟨cap, ?_, c1, by omega⟩ inv hK
        simp [Addr.add]
      · have h5 : (Instr.sliceBounds true m cap (lo.map a.eval) (hi.map a.eval) (mx.map a.eval)).run P w = .ok (j, hh, cap) w := h5
        refine .same (v := .sub b (j * te.size) (hh - j)) (exec_val rfl (by rw [ex]; exact hrun h5)) ⟨cap - j, ?_, by omega⟩ inv hK
        rw [if_neg (by omega)]
        simp [addr_add]
      · split at h7
        · rename_i esz cells z'
          obtain ⟨⟨rfl, b1⟩, h8⟩ := h7
          have h8 := stSetK_sound h8
          rw [mulN_eq] at b1 h8
          unfold cutK at h8
          have hfz : VFz [.own b hh] st (fun vs st' => vs = [.fz (cells.take (hh * te.size)) hh false] ∧ st' = st.set p (b, .arr te.size cells (max z' (hh * te.size)))) :=
            .own p te.size cells z' h6 b1 (.nil ⟨rfl, rfl⟩)
          obtain ⟨g', vs', st', le, hr', inv', rfl, rfl⟩ := VFz.sound hfz (q := false) (us := [.slice (some ⟨b, 0, none⟩) hh cap]) ⟨_, _, rfl, ⟨⟨cap, rfl, c1, by omega⟩, by simp⟩, rfl⟩ inv
          obtain ⟨u, eu, hu, _⟩ := hr'.one
          cases eu
          obtain ⟨ad, cap', e2, q1, q2, q3⟩ := hu
          cases e2
          have fin : ∀ j, i.getD 0 = j → j ≤ hh → K (.fz ((cells.take (hh * te.size)).drop (j * te.size)) (hh - j) f) (st.set p (b, .arr te.size cells (max z' (hh * te.size)))) → OpOk P W F g K Kp ((execOp a.eval ⟨dst, .slice t x lo hi mx, ty, pos, after, guard⟩).run P w) := by
            intro j ej hj hK
            rw [ej] at h5
            obtain ⟨q, hqe, hqf, hq, hqc⟩ : ∃ q, (if f = true then hh else cap) = q ∧ (f = true → q = hh) ∧ hh ≤ q ∧ q ≤ cap := ⟨_, rfl, fun e => if_pos e, by split <;> omega, by split <;> omega⟩
            rw [hqe] at h5
            refine .val (v := .fz ((cells.take (hh * te.size)).drop (j * te.size)) (hh - j) f) (exec_val rfl (by rw [ex]; exact hrun h5)) le ⟨_, _, rfl, by omega, fun e => by rw [hqf e], ?_⟩ inv' hK
            rcases q3 with ⟨e3, e4⟩ | ⟨b', o', e3, hc⟩
            · left
              exact ⟨by omega, by rw [e4]; simp⟩
            · right
              cases e3
              by_cases eq : q = j
              · have : hh = j := by omega
                subst this
                exact ⟨b, 0, by rw [if_pos eq], by rw [List.drop_eq_nil_of_le (by simp; omega)]; trivial⟩
              · exact ⟨b, 0 + j * te.size, by rw [if_neg eq, ← addr_add]; rfl, hc.drop _⟩
          cases i with
          | none => exact fin 0 rfl (by omega) (by simp only [mulN_eq] at h8; simpa using h8)
          | some j => exact fin j rfl (h4.lole j rfl) (by simp only [mulN_eq] at h8; exact h8)
        · exact h7.elim
    · exact h2.elim
  · exact h2.elim

theorem zeroK_sound {ti : TyI} {z : Value} (hz : zeroB ti z = true) {k : AV → Prop} (h : zeroK ti k) (g : Gh) : ∃ v, Rel g v z ∧ k v := by
  unfold zeroK at h
  unfold zeroB at hz
  split at h
  · rename_i fs e
    split at hz
    · split at hz
      · rename_i us
        simp only [Bool.and_eq_true] at hz
        exact ⟨.agg ti.zero, ⟨us, rfl, relBs_rel hz.1 g⟩, h⟩
      · cases hz
    · rename_i e'; rw [e] at e'; cases e'
    · rename_i n1 n2; exact absurd e (n1 _)
  · exact h.elim
  · rename_i n1 n2
    obtain ⟨v, h1, h2⟩ := nthK_sound h
    split at hz
    · rename_i e; exact absurd e (n1 _)
    · rename_i e; exact absurd e n2
    · split at hz
      · rename_i a0 e
        rw [e] at h1; simp at h1; subst h1
        simp only [Bool.and_eq_true] at hz
        exact ⟨_, (relB_rel hz.1 g).1, h2⟩
      · cases hz

theorem ok_typeAssert {dst ty pos after guard} {s t : TypeId} {x : Operand} {ok : Bool} (htb : TabOk P tb) (h : opW P tb (.typeAssert x s t ok) env st K Kp) (r : EnvR n g env a) (inv : Inv W g (st ++ F) w)
    (hrt : ∃ e, P.underlying P.rt.typeAssertionError = some (.pointer e)) :
    OpOk P W F g K Kp ((execOp a.eval ⟨dst, .typeAssert x s t ok, ty, pos, after, guard⟩).run P w) := by
  obtain ⟨v, h1, h2⟩ := evalK_sound r h
  have h2' := Tab.get_ok htb h2
  clear h2
  obtain ⟨ti, hty, h2⟩ := h2'
  have hk := tyB_kind hty
  obtain ⟨i, z, hi, hs, hb, hz, hzb⟩ := tyB_info hty
  have hd : ∃ d, P.underlying t = some d ∧ (∀ ms, d ≠ .interface ms) ∨ ti.kind = .iface ∨ ti.kind = .other := by
    cases hq : ti.kind with
    | iface => exact ⟨.bool, .inr (.inl rfl)⟩
    | other => exact ⟨.bool, .inr (.inr rfl)⟩
    | bool => rw [hq] at hk; exact ⟨_, .inl ⟨kind_bool hk, by simp⟩⟩
    | int k => rw [hq] at hk; exact ⟨_, .inl ⟨kind_int hk, by simp⟩⟩
    | str => rw [hq] at hk; exact ⟨_, .inl ⟨kind_str hk, by simp⟩⟩
    | ptr e => rw [hq] at hk; exact ⟨_, .inl ⟨kind_ptr hk, by simp⟩⟩
    | slice e => rw [hq] at hk; exact ⟨_, .inl ⟨kind_slice hk, by simp⟩⟩
    | map k e => rw [hq] at hk; exact ⟨_, .inl ⟨kind_map hk, by simp⟩⟩
    | struct fs => rw [hq] at hk; obtain ⟨_, e, _⟩ := kind_struct hk; exact ⟨_, .inl ⟨e, by simp⟩⟩
    | func => rw [hq] at hk; obtain ⟨_, _, _, e⟩ := kind_func hk; exact ⟨_, .inl ⟨e, by simp⟩⟩
  split at h2
  · exact h2.elim
  · exact h2.elim
  rename_i n1 n2
  obtain ⟨d, hd⟩ := hd
  rcases hd with ⟨hd1, hd2⟩ | hd | hd
  case inr.inl => exact absurd hd n1
  case inr.inr => exact absurd hd n2
  have hpan : ∀ (st' : Option TypeId) (di : Option TypeId) (ms : String), ∃ o, (runtimePanic (α := Value) (.typeAssertion st' di t ms)).run P w =
      .halt (.panic (.iface P.rt.typeAssertionError (.pointer (some ⟨w.heap.size, 0, none⟩)))) (w.alloc o) := by
    intro st' di ms
    obtain ⟨e, he1⟩ := hrt
    unfold runtimePanic
    simp only [Sem.run_bind, run_program, Result.andThen_ok, elemOf, run_und he1, newVar, newRow, run_newObj, Sem.run_pure, run_goPanic]
    exact ⟨_, rfl⟩
  have hrun : ∀ {S : Sem Value} {u : Value} {w' : World}, Instr.typeAssert (a.eval x) s t ok = S → S.run P w = .ok u w' → (execOp a.eval ⟨dst, .typeAssert x s t ok, ty, pos, after, guard⟩).run P w = .ok (.value u) w' := by
    intro S u w' e1 e2
    exact exec_val rfl (by rw [e1]; exact e2)
  have hfail : ∀ (st' di : Option TypeId) (ms : String), (Instr.typeAssert (a.eval x) s t ok).run P w = (if ok = true then (do pure (.tuple #[← zeroValue t, .bool false]) : Sem Value) else runtimePanic (.typeAssertion st' di t ms)).run P w →
      failTA P ti ok st K Kp →
      OpOk P W F g K Kp ((execOp a.eval ⟨dst, .typeAssert x s t ok, ty, pos, after, guard⟩).run P w) := by
    intro st' di ms he hh
    unfold failTA at hh
    cases ok with
    | true =>
      obtain ⟨v, hv, hK⟩ := zeroK_sound hzb hh g
      refine .same (u := .tuple #[z, .bool false]) (v := .tup [v, .bool false]) (exec_val rfl (by rw [he]; simp [run_zero hi hz])) ⟨_, rfl, _, _, rfl, ⟨hv, by simp⟩, _, _, rfl, ⟨rfl, by simp⟩, rfl⟩ inv hK
    | false =>
      obtain ⟨o, hp⟩ := hpan st' di ms
      have : (execOp a.eval ⟨dst, .typeAssert x s t false, ty, pos, after, guard⟩).run P w = .halt (.panic (.iface P.rt.typeAssertionError (.pointer (some ⟨w.heap.size, 0, none⟩)))) (w.alloc o) := by
        show ((Instr.typeAssert (a.eval x) s t false) >>= fun u => pure (Next.value u)).run P w = _
        rw [Sem.run_bind, he]
        simp only [Bool.false_eq_true, if_false, hp, Result.andThen_halt]
      rw [this]
      exact ⟨g, .iface P.rt.typeAssertionError (.ptr w.heap.size 0), st, Gh.le_refl g, ⟨_, rfl, rfl⟩, inv.grow _, hh.all _⟩
  split at h2
  · rename_i u v
    obtain ⟨v', e1, hv'⟩ : ∃ v', a.eval x = .iface u v' ∧ Rel g v v' := h1
    by_cases eu : u = t
    · subst eu
      rw [Nat.beq_refl u] at h2
      have hS : (Instr.typeAssert (.iface u v') s u ok).run P w = .ok (if ok = true then .tuple #[v', .bool true] else v') w := by
        simp only [Instr.typeAssert, Sem.run_bind, run_und hd1, Result.andThen_ok]
        cases d <;> first | (exact absurd rfl (hd2 _)) | (simp)
      cases ok with
      | true => exact .same (v := .tup [v, .bool true]) (exec_val rfl (by rw [e1, hS]; rfl)) ⟨_, rfl, _, _, rfl, ⟨hv', by simp⟩, _, _, rfl, ⟨rfl, by simp⟩, rfl⟩ inv h2
      | false => exact .same (v := v) (exec_val rfl (by rw [e1, hS]; rfl)) hv' inv h2
    · rw [show Nat.beq u t = false from by rw [← Bool.not_eq_true]; exact fun e => eu (Nat.eq_of_beq_eq_true e)] at h2
      refine hfail (some s) (some u) "" ?_ h2
      rw [e1]
      simp only [Instr.typeAssert, Sem.run_bind, run_und hd1, Result.andThen_ok]
      cases d <;> first | (exact absurd rfl (hd2 _)) | (simp [eu])
  · have e1 : a.eval x = .nilIface := h1
    refine hfail (some s) none "" ?_ h2
    rw [e1]
    simp only [Instr.typeAssert, Sem.run_bind, run_und hd1, Result.andThen_ok]
  · exact h2.elim
theorem keyK_sound {kd : TyK} {k : AV} {A : Prop} (h : keyK kd k A) : A ∧ ((kd = .str ∧ ∃ s, k = .str s) ∨ ∃ q q' n, kd = .int q ∧ k = .int q' n) := by
  unfold keyK at h
  split at h
  · split at h
    · exact ⟨h, .inl ⟨rfl, _, rfl⟩⟩
    · exact h.elim
  · split at h
    · exact ⟨h, .inr ⟨_, _, _, rfl, rfl⟩⟩
    · exact h.elim
  · exact h.elim
theorem ba_beq (s t : List UInt8) : ((⟨⟨s⟩⟩ : ByteArray) == ⟨⟨t⟩⟩) = decide (s = t) := by
  rw [Bool.eq_iff_iff]
  constructor
  · intro h
    have : (⟨s⟩ : Array UInt8) == ⟨t⟩ := h
    simpa using this
  · intro h
    simp only [decide_eq_true_eq] at h
    subst h
    show ((⟨s⟩ : Array UInt8) == ⟨s⟩) = true
    simp
theorem keyEq_sound {d : TypeDesc} {k e : AV} {x y : Value} {b : Bool} (hd : (d = .string ∧ ∃ s, k = .str s) ∨ ∃ q q' n, d = .int q ∧ k = .int q' n) (h : keyEq k e = some b) (hx : Rel g k x) (hy : Rel g e y) :
    Instr.sameNow d x y = some b ∧ (b = true → Instr.sameBits 10000 y x = true) := by
  rcases hd with ⟨rfl, s, rfl⟩ | ⟨q, q', n, rfl, rfl⟩
  · cases e <;> try (simp [keyEq] at h; done)
    rename_i s'
    have hx : x = .string ⟨⟨s⟩⟩ := hx
    have hy : y = .string ⟨⟨s'⟩⟩ := hy
    subst hx hy
    simp only [keyEq, Option.some.injEq] at h
    subst h
    refine ⟨?_, ?_⟩
    · simp only [Instr.sameNow, Option.some.injEq]
      exact ba_beq s s'
    · intro e; simp only [decide_eq_true_eq] at e; subst e
      show ((⟨⟨s⟩⟩ : ByteArray) == ⟨⟨s⟩⟩) = true
      rw [ba_beq]; simp
  · cases e <;> try (simp [keyEq] at h; done)
    rename_i q2 m
    have hx : x = .int q' n := hx
    have hy : y = .int q2 m := hy
    subst hx hy
    by_cases e : q' = q2
    · subst e
      simp only [keyEq, decide_true, Option.some.injEq] at h
      subst h
      refine ⟨?_, ?_⟩
      · simp only [Instr.sameNow, if_true, Option.some.injEq]
        rw [Bool.eq_iff_iff]; simp
      · intro e; simp only [decide_eq_true_eq] at e; subst e; simp [Instr.sameBits]
    · simp [keyEq, e] at h
theorem mapFind_sound {d : TypeDesc} {k : AV} {x : Value} (hd : (d = .string ∧ ∃ s, k = .str s) ∨ ∃ q q' n, d = .int q ∧ k = .int q' n) (hx : Rel g k x) :
    ∀ {ents : List (AV × AV)} {es : List MapEntry} {i : Nat} {r : Option (Nat × AV)}, RelE g ents es → mapFind ents k i = some r →
      match r with
      | none => Instr.findNow d x es i = some none
      | some p => i ≤ p.1 ∧ ∃ e, es[p.1 - i]? = some e ∧ Instr.findNow d x es i = some (some (p.1, e.val)) ∧ Rel g p.2 e.val ∧ Instr.sameBits 10000 e.key x = true
  | [], es, i, r, hr, h => by
    have hr : es = [] := hr
    subst hr
    simp only [mapFind, Option.some.injEq] at h
    subst h
    rfl
  | e :: rest, es, i, r, hr, h => by
    obtain ⟨m, ms, rfl, h1, h2, h3⟩ := hr
    rw [mapFind] at h
    split at h
    · rename_i hk
      simp only [Option.some.injEq] at h
      subst h
      obtain ⟨q1, q2⟩ := keyEq_sound hd hk hx h1
      refine ⟨Nat.le_refl _, m, by simp, ?_, h2, q2 rfl⟩
      rw [Instr.findNow, q1]
    · rename_i hk
      obtain ⟨q1, _⟩ := keyEq_sound hd hk hx h1
      have := mapFind_sound hd hx h3 h
      cases r with
      | none =>
        dsimp only at this ⊢
        rw [Instr.findNow, q1]; exact this
      | some p =>
        obtain ⟨a1, e', a2, a3, a4, a5⟩ := this
        refine ⟨by omega, e', ?_, ?_, a4, a5⟩
        · rw [show p.1 - i = (p.1 - (i + 1)) + 1 by omega]; simpa using a2
        · rw [Instr.findNow, q1]; exact a3
    · cases h
theorem RelE.append : ∀ {a : List (AV × AV)} {es : List MapEntry} {x : AV × AV} {e : MapEntry}, RelE g a es → Rel g x.1 e.key → Rel g x.2 e.val → RelE g (a ++ [x]) (es ++ [e])
  | [], es, x, e, h, h1, h2 => by
    have h : es = [] := h
    subst h
    exact ⟨e, [], rfl, h1, h2, rfl⟩
  | y :: r, es, x, e, h, h1, h2 => by
    obtain ⟨m, ms, rfl, q1, q2, q3⟩ := h
    exact ⟨m, ms ++ [e], rfl, q1, q2, RelE.append q3 h1 h2⟩
theorem RelE.set : ∀ {a : List (AV × AV)} {es : List MapEntry} {i : Nat} {x : AV × AV} {e : MapEntry}, RelE g a es → Rel g x.1 e.key → Rel g x.2 e.val → RelE g (a.set i x) (es.set i e)
  | [], es, i, x, e, h, h1, h2 => by
    have h : es = [] := h
    subst h
    simp; rfl
  | y :: r, es, 0, x, e, h, h1, h2 => by
    obtain ⟨m, ms, rfl, q1, q2, q3⟩ := h
    exact ⟨e, ms, rfl, h1, h2, q3⟩
  | y :: r, es, i + 1, x, e, h, h1, h2 => by
    obtain ⟨m, ms, rfl, q1, q2, q3⟩ := h
    exact ⟨m, ms.set i e, rfl, q1, q2, RelE.set q3 h1 h2⟩
theorem run_checkKey {kt : TypeId} {tk : TyK} {x : Value} {n : Nat} {b : Bool} {k : AV} (hk : kindB P kt tk = true) (hd : (tk = .str ∧ ∃ s, k = .str s) ∨ ∃ q q' n, tk = .int q ∧ k = .int q' n) (w : World) : (Instr.checkKey b (n + 1) kt x).run P w = .ok () w := by
  rcases hd with ⟨rfl, _⟩ | ⟨q, q', m, rfl, _⟩
  · simp only [Instr.checkKey, Sem.run_bind, run_und (kind_str hk), Result.andThen_ok]
    rfl
  · simp only [Instr.checkKey, Sem.run_bind, run_und (kind_int hk), Result.andThen_ok]
    rfl
theorem key_desc {kt : TypeId} {tk : TyK} {k : AV} (hk : kindB P kt tk = true) (hd : (tk = .str ∧ ∃ s, k = .str s) ∨ ∃ q q' n, tk = .int q ∧ k = .int q' n) :
    ∃ d, P.underlying kt = some d ∧ ((d = .string ∧ ∃ s, k = .str s) ∨ ∃ q q' n, d = .int q ∧ k = .int q' n) := by
  rcases hd with ⟨rfl, h⟩ | ⟨q, q', m, rfl, h⟩
  · exact ⟨_, kind_str hk, .inl ⟨rfl, h⟩⟩
  · exact ⟨_, kind_int hk, .inr ⟨q, q', m, rfl, h⟩⟩
theorem run_findKey {kt : TypeId} {d : TypeDesc} {x : Value} {es : List MapEntry} {r : Option (Nat × Value)} (hd : P.underlying kt = some d) (h : Instr.findNow d x es 0 = some r) (w : World) : (Instr.findKey kt x es).run P w = .ok r w := by
  simp only [Instr.findKey, Sem.run_bind, run_und hd, Result.andThen_ok, h, Sem.run_pure]
theorem ok_lookup {dst ty pos after guard} {t : TypeId} {x y : Operand} {ok : Bool} (htb : TabOk P tb) (h : opW P tb (.lookup t x y ok) env st K Kp) (r : EnvR n g env a) (inv : Inv W g (st ++ F) w) :
    OpOk P W F g K Kp ((execOp a.eval ⟨dst, .lookup t x y ok, ty, pos, after, guard⟩).run P w) := by
  obtain ⟨m, h1, h2⟩ := evalK_sound r h
  obtain ⟨k, h1', h2⟩ := evalK_sound r h2
  obtain ⟨ti, hty, h3⟩ := Tab.get_ok htb h2
  have hk := tyB_kind hty
  split at h3
  · rename_i kt et ek; rw [ek] at hk
    have hm := kind_map hk
    obtain ⟨tk, htk, h4⟩ := Tab.get_ok htb h3
    obtain ⟨te, hte, h5⟩ := Tab.get_ok htb h4
    obtain ⟨h6, hkd⟩ := keyK_sound h5
    obtain ⟨i, z, hi, hs, hb, hz, hzb⟩ := tyB_info hte
    obtain ⟨d, hd1, hd2⟩ := key_desc (tyB_kind htk) hkd
    have hck : ∀ b, (Instr.checkKey b 10000 kt (a.eval y)).run P w = .ok () w := fun b => run_checkKey (n := 9999) (tyB_kind htk) hkd w
    have hrel : ∀ {v : AV} {u : Value} {b : Bool}, Rel g v u → Rel g (lookR ok v b) (if ok then .tuple #[u, .bool b] else u) := by
      intro v u b hv
      cases ok with
      | true => exact ⟨_, rfl, _, _, rfl, ⟨hv, by simp⟩, _, _, rfl, ⟨rfl, by simp⟩, rfl⟩
      | false => exact hv
    cases m with
    | nilm =>
      have h1 : a.eval x = .map none := h1
      obtain ⟨v, hv, hK⟩ := zeroK_sound hzb h6 g
      refine .same (exec_val rfl ?_) (hrel (b := false) hv) inv hK
      rw [h1]
      simp only [Instr.lookup, Sem.run_bind, run_und hm, Result.andThen_ok, Sem.run_pure, hck, run_findKey hd1 (es := []) (r := none) rfl, run_zero hi hz]
    | mapr b =>
      have h1 : a.eval x = .map (some b) := h1
      obtain ⟨n, ob, h7, h8⟩ := h6
      cases ob with
      | map ents =>
        obtain ⟨es, clock, ho, hre, _, _⟩ := inv.objAt h7
        obtain ⟨r', hf, hq⟩ := h8
        have hfs := mapFind_sound hd2 h1' hre hf
        cases r' with
        | some p =>
          obtain ⟨_, e, he, hfn, hve, _⟩ := hfs
          refine .same (exec_val rfl ?_) (hrel (b := true) hve) inv hq
          rw [h1]
          simp only [Instr.lookup, Sem.run_bind, run_und hm, Result.andThen_ok, Sem.run_pure, run_getObj ho (by simp), hck, run_findKey hd1 hfn]
        | none =>
          obtain ⟨v, hv, hK⟩ := zeroK_sound hzb hq g
          refine .same (exec_val rfl ?_) (hrel (b := false) hv) inv hK
          rw [h1]
          simp only [Instr.lookup, Sem.run_bind, run_und hm, Result.andThen_ok, Sem.run_pure, run_getObj ho (by simp), hck, run_findKey hd1 hfs, run_zero hi hz]
      | mapS ents bs clock =>
        obtain ⟨es, ho, hre, _⟩ := inv.objAt h7
        obtain ⟨r', hf, hq⟩ := h8
        have hfs := mapFind_sound hd2 h1' hre hf
        cases r' with
        | some p =>
          obtain ⟨_, e, he, hfn, hve, _⟩ := hfs
          refine .same (exec_val rfl ?_) (hrel (b := true) hve) inv hq
          rw [h1]
          simp only [Instr.lookup, Sem.run_bind, run_und hm, Result.andThen_ok, Sem.run_pure, run_getObj ho (by simp), hck, run_findKey hd1 hfn]
        | none =>
          obtain ⟨v, hv, hK⟩ := zeroK_sound hzb hq g
          refine .same (exec_val rfl ?_) (hrel (b := false) hv) inv hK
          rw [h1]
          simp only [Instr.lookup, Sem.run_bind, run_und hm, Result.andThen_ok, Sem.run_pure, run_getObj ho (by simp), hck, run_findKey hd1 hfs, run_zero hi hz]
      | _ => exact h8.elim
    | _ => exact h6.elim
  · exact h3.elim
theorem ok_mapUpdate {dst ty pos after guard} {t : TypeId} {x y z : Operand} (htb : TabOk P tb) (h : opW P tb (.mapUpdate t x y z) env st K Kp) (r : EnvR n g env a) (inv : Inv W g (st ++ F) w) :
    OpOk P W F g K Kp ((execOp a.eval ⟨dst, .mapUpdate t x y z, ty, pos, after, guard⟩).run P w) := by
  obtain ⟨m, h1, h2⟩ := evalK_sound r h
  obtain ⟨k, h1', h2⟩ := evalK_sound r h2
  obtain ⟨v, h1'', h2⟩ := evalK_sound r h2
  obtain ⟨ti, hty, h3⟩ := Tab.get_ok htb h2
  have hk := tyB_kind hty
  split at h3
  · rename_i kt et ek; rw [ek] at hk
    have hm := kind_map hk
    obtain ⟨tk, htk, h4⟩ := Tab.get_ok htb h3
    obtain ⟨h6, hkd⟩ := keyK_sound h4
    obtain ⟨d, hd1, hd2⟩ := key_desc (tyB_kind htk) hkd
    have hck : ∀ b, (Instr.checkKey b 10000 kt (a.eval y)).run P w = .ok () w := fun b => run_checkKey (n := 9999) (tyB_kind htk) hkd w
    cases m with
    | mapr b =>
      have h1 : a.eval x = .map (some b) := h1
      obtain ⟨n, ob, h7, h8⟩ := h6
      cases ob with
      | map ents =>
        obtain ⟨es, clock, ho, hre, hbn, hnd⟩ := inv.objAt h7
        obtain ⟨r', hf, hq⟩ := h8
        have hfs := mapFind_sound hd2 h1' hre hf
        have hrun : ∀ {S : Sem Unit} {w' : World}, Instr.mapUpdate t (a.eval x) (a.eval y) (a.eval z) = S → S.run P w = .ok () w' → (execOp a.eval ⟨dst, .mapUpdate t x y z, ty, pos, after, guard⟩).run P w = .ok .skip w' := by
          intro S w' e1 e2
          simp [execOp, e1, e2]
        cases r' with
        | some p =>
          obtain ⟨_, e, he, hfn, hve, hsb⟩ := hfs
          rw [Nat.sub_zero] at he
          have hq := stSetK_sound hq
          rw [hrun (w' := { w with heap := w.heap.setIfInBounds b (.map ((⟨es⟩ : Array MapEntry).modify p.1 fun e => { e with key := a.eval y, val := a.eval z }) clock) }) rfl (by
            rw [h1]
            simp only [Instr.mapUpdate, Sem.run_bind, run_und hm, Result.andThen_ok, run_getObj ho (by simp), hck, run_findKey hd1 hfn]
            have e1 : (((⟨es⟩ : Array MapEntry)[p.1]?).map (·.key)).getD (a.eval y) = e.key := by simp [he]
            simp only [Instr.keyThatStays, e1, hsb, if_true, Sem.run_pure, Result.andThen_ok]
            exact run_setObj ho (by simp))]
          refine ⟨g, _, Gh.le_refl g, ?_, hq⟩
          refine inv.setObj (o' := .map (ents.set p.1 (k, v))) h7 ho (by simp) fun w' hw' => ⟨es.set p.1 { e with key := a.eval y, val := a.eval z }, clock, ?_, RelE.set hre h1' h1'', ?_, ?_⟩
          · rw [hw']
            congr 1; congr 1
            apply Array.ext'
            simp [List.modify_eq_set, he]
          · intro q hq2
            rcases List.mem_or_eq_of_mem_set hq2 with h | h
            · exact hbn q h
            · subst h; exact hbn e (List.mem_of_getElem? he)
          · have e2 : (es.set p.1 { e with key := a.eval y, val := a.eval z }).map (·.born) = es.map (·.born) := by
              rw [List.map_set]
              dsimp only
              apply List.ext_getElem?
              intro j
              rw [List.getElem?_set]
              split
              · rename_i hj
                subst hj
                split
                · simp [he]
                · rename_i hl; simp at hl; simp [hl]
              · rfl
            rw [e2]; exact hnd
        | none =>
          have hq := stSetK_sound hq
          rw [hrun (w' := { w with heap := w.heap.setIfInBounds b (.map ((⟨es⟩ : Array MapEntry).push { key := a.eval y, val := a.eval z, born := clock }) (clock + 1)) }) rfl (by
            rw [h1]
            simp only [Instr.mapUpdate, Sem.run_bind, run_und hm, Result.andThen_ok, run_getObj ho (by simp), hck, run_findKey hd1 hfs]
            exact run_setObj ho (by simp))]
          refine ⟨g, _, Gh.le_refl g, ?_, hq⟩
          refine inv.setObj (o' := .map (ents ++ [(k, v)])) h7 ho (by simp) fun w' hw' => ⟨es ++ [{ key := a.eval y, val := a.eval z, born := clock }], clock + 1, ?_, RelE.append hre h1' h1'', ?_, ?_⟩
          · rw [hw']; simp
          · intro q hq2
            rcases List.mem_append.1 hq2 with h | h
            · have := hbn q h; omega
            · rw [List.mem_singleton.1 h]; exact Nat.lt_succ_self _
          · rw [List.map_append, List.nodup_append]
            refine ⟨hnd, by simp, ?_⟩
            intro x1 hx1 y1 hy1
            obtain ⟨e1, he1, rfl⟩ := List.mem_map.1 hx1
            have := hbn e1 he1
            simp at hy1
            omega
      | _ => exact h8.elim
    | _ => exact h6.elim
  · exact h3.elim
theorem ok_insert {dst ty pos after guard} {t : TypeId} {x y z : Operand} (htb : TabOk P tb) (h : opW P tb (.insert t x y z) env st K Kp) (r : EnvR n g env a) (inv : Inv W g (st ++ F) w) :
    OpOk P W F g K Kp ((execOp a.eval ⟨dst, .insert t x y z, ty, pos, after, guard⟩).run P w) := by
  have h : opW P tb (.mapUpdate t x y z) env st K Kp := h
  exact ok_mapUpdate (dst := dst) (ty := ty) (pos := pos) (after := after) (guard := guard) htb h r inv
end
end Go.Av

namespace Go.Av
open Go

section
variable {P : Program} {tb : Tab} {n : Nat} {W : World} {F : St} {g : Gh} {env : Env} {st : St} {a : Act} {w : World} {K Kp : AV → St → Prop}

theorem kind_some {t : TypeId} {k : TyK} (h : kindB P t k = true) (hk : noInt k = true) : (∀ q, P.underlying t ≠ some (.int q)) ∧ (P.underlying t).isSome := by
  cases k with
  | int k => cases hk
  | other => cases hk
  | bool => simp [kind_bool h]
  | str => simp [kind_str h]
  | ptr e => simp [kind_ptr h]
  | slice e => simp [kind_slice h]
  | map k e => simp [kind_map h]
  | struct fs => obtain ⟨_, e, _⟩ := kind_struct h; simp [e]
  | iface => obtain ⟨_, e⟩ := kind_iface h; simp [e]
  | func => obtain ⟨_, _, _, e⟩ := kind_func h; simp [e]

theorem exec_builtin {dst ty pos after guard} {c : Call} {b : Builtin} (hc : c.callee = .builtin b) {u : Value} {w' : World}
    (h : (builtin b c.argTypes ty (c.args.map fun | .const _ => true | _ => false) (c.args.map a.eval)).run P w = .ok (.value u) w') :
    (execOp a.eval ⟨dst, .call c, ty, pos, after, guard⟩).run P w = .ok (.value u) w' := by
  simp only [execOp, resolve, hc, Sem.run_bind, Sem.run_pure, Result.andThen_ok, invoke]
  exact h

theorem copyW_sound {te : TyI} {t t' e rt : TypeId} {s x : AV} (hund : P.underlying t = some (.slice e)) (hte : tyB P e te = true) (h : copyW te st s x K) {su xu : Value} (hs : Rel g s su) (hx : Rel g x xu) (inv : Inv W g (st ++ F) w) :
    ∃ w' g' x' v st', (Builtin.copy_ #[t, t'] rt #[su, xu]).run P w = .ok v w' ∧ Gh.le g g' ∧ Rel g' x' v ∧ Inv W g' (st' ++ F) w' ∧ K x' st' := by
  unfold copyW at h
  obtain ⟨i, z0, hi, hsz, _⟩ := tyB_info hte
  split at h
  · rename_i b o n
    split at h
    · rename_i e' k
      obtain ⟨m1, ob1, h1, h2⟩ := h
      split at h2
      · rename_i esz xs zz
        obtain ⟨⟨rfl, b1, b2, b3⟩, m2, ob2, h3, h4⟩ := h2
        split at h4
        · rename_i esz cells z
          obtain ⟨⟨rfl, b4, b5⟩, h6⟩ := h4
          have h6 := stSetK_sound h6
          obtain ⟨us, hr, hl, hlen⟩ := own_vals (P := P) inv h1 (m := k) (by omega) hx
          rw [Nat.mul_one] at hr
          obtain ⟨capd, rfl, hcd⟩ := hs
          obtain ⟨cs, vs, T, lo, hi', cap, hh, hrc, hf, hk, hln, hmu⟩ := inv.objAt h3
          have hcl := hrc.length
          have hul : us.length = k := by rw [hr.length]; simp; omega
          obtain ⟨w', hw1, hw2⟩ := run_storeCells (P := P) (b := b) (o := o) us (cs ++ vs) T lo hi' w 0 hh hr.ones hf (by simp; omega)
          have hrun : (Builtin.copy_ #[t, t'] rt #[.slice (some ⟨b, o, none⟩) n capd, xu]).run P w = .ok (.int .i64 k) w' := by
            have hmin : Nat.min k n = k := Nat.min_eq_left b3
            simp [Builtin.copy_, run_und hund, hlen, sizeOf, typeInfo, hi, hsz, b1, hmin, hl w rfl, hw1, goInt]
          have e1 : (cs ++ vs).take (o + 0) ++ us ++ (cs ++ vs).drop (o + 0 + us.length) = (cs.take o ++ us ++ cs.drop (o + k)) ++ vs := by
            rw [Nat.add_zero, hul, List.take_append_of_le_length (by omega), List.drop_append_of_le_length (by omega)]; simp
          rw [e1] at hw2
          refine ⟨w', g, .int .i64 k, _, _, hrun, Gh.le_refl g, rfl, ?_, h6⟩
          refine inv.upd h3 (Gh.le_refl g) (fun _ _ _ => rfl) inv.cap (fun i u e => ?_) hw2.other hw2.size (hw2.below inv.below (inv.lowAt h3)) ⟨_, vs, T, lo, hi', cap, hw2.at_, ?_, ?_, hk, ?_, hmu⟩
          · have hlt : i < z := by
              rcases Nat.lt_or_ge i z with h | h
              · exact h
              · rw [hmu i h] at e; cases e
            have := inv.mem _ _ _ e
            rw [cell_of hh] at this
            rw [cell_of hw2.at_, List.append_assoc, List.append_assoc, List.getElem?_append_left (by simp; omega), List.getElem?_take_of_lt (by omega)]
            rw [List.getElem?_append_left (by omega)] at this
            exact this
          · exact ((hrc.take o).append hr).append (hrc.drop _)
          · intro i hi; refine hf i ?_
            simp only [List.length_append, List.length_take, List.length_drop] at hi ⊢; omega
          · rw [← hln]; simp only [List.length_append, List.length_take, List.length_drop]; omega
        · exact h4.elim
      · exact h2.elim
    · exact h.elim
  · exact h.elim

theorem ok_call {dst ty pos after guard} {c : Call} (htb : TabOk P tb) (hL : Lay P W) (h : opW P tb (.call c) env st K Kp) (r : EnvR n g env a) (inv : Inv W g (st ++ F) w) :
    OpOk P W F g K Kp ((execOp a.eval ⟨dst, .call c, ty, pos, after, guard⟩).run P w) := by
  have h : callW P tb c env st K Kp := h
  unfold callW at h
  have hargs : ∀ {vs : List AV}, RelL g false vs (c.args.toList.map a.eval) → c.args.map a.eval = ⟨c.args.toList.map a.eval⟩ := by
    intro vs _; apply Array.ext'; simp
  split at h
  · rename_i f hc
    obtain ⟨v, h1, h2⟩ := evalK_sound r h
    obtain ⟨vs, h3, h4⟩ := evalsK_sound r h2
    split at h4
    · rename_i k first cap
      obtain ⟨us, ws, e, hf, hcp⟩ := h1
      obtain ⟨g', args, st', le, hr', inv', hcall⟩ := VFz.sound h4 (q := false) (us := us ++ c.args.toList.map a.eval ++ ws) ((hf.append h3).append hcp) inv
      obtain ⟨fn, hfn, hbody, hname⟩ := hcall.ent
      have hrun : (execOp a.eval ⟨dst, .call c, ty, pos, after, guard⟩).run P w = .ok (.enter k ⟨us ++ c.args.toList.map a.eval ++ ws⟩) w := by
        have hb : fn.body.isNone = false := by cases hq : fn.body <;> simp_all
        simp only [execOp, resolve, hc, Sem.run_bind, e, Deferred.ofValue, Sem.run_pure, Result.andThen_ok, invoke, callFunc, run_program, hfn, hname, Bool.false_eq_true, if_false, hb]
        congr 2
        apply Array.ext'; simp
      rw [hrun]
      show Calls P k _ w _
      exact (hcall.run W F g' w _ hL hr' inv').mono fun e w' ⟨g'', out, st'', le', ho, hi, hp⟩ => ⟨g'', out, st'', Gh.le_trans le le', ho, hi, hp⟩
    · exact h4.elim
  · rename_i hc
    split at h
    · rename_i t hat
      obtain ⟨ti, hty, h⟩ := Tab.get_ok htb h
      have hk := tyB_kind hty
      obtain ⟨vs, h1, h2⟩ := evalsK_sound r h
      have key : ∀ {u : Value} {x : AV}, (Builtin.len_ c.argTypes ty (c.args.map a.eval)).run P w = .ok u w → Rel g x u → K x st → OpOk P W F g K Kp ((execOp a.eval ⟨dst, .call c, ty, pos, after, guard⟩).run P w) := by
        intro u x e1 e2 e3
        exact .same (u := u) (exec_builtin hc (by simp only [builtin, Sem.run_bind, e1, Result.andThen_ok, Sem.run_pure])) e2 inv e3
      have hone : ∀ {x : AV}, RelL g false [x] (c.args.toList.map a.eval) → ∃ u, c.args.map a.eval = #[u] ∧ Rel g x u := by
        intro x hx
        obtain ⟨u, e, hu, _⟩ := hx.one
        exact ⟨u, by rw [hargs hx, e], hu⟩
      split at h2
      · rename_i ek; rw [ek] at hk
        split at h2
        · rename_i l
          obtain ⟨u, e, hu⟩ := hone h1
          have hu : u = .string ⟨⟨l⟩⟩ := hu
          subst hu
          refine key (u := .int .i64 l.length) (x := .int .i64 l.length) ?_ rfl h2
          rw [e, hat]; simp [Builtin.len_, run_und (kind_str hk), goInt]; rfl
        · exact h2.elim
      · rename_i e0 ek; rw [ek] at hk
        split at h2
        · rename_i cells m full
          obtain ⟨u, e, hu⟩ := hone h1
          obtain ⟨ad, cap, rfl, _⟩ := hu
          refine key (u := .int .i64 m) (x := .int .i64 m) ?_ rfl h2
          rw [e, hat]; simp [Builtin.len_, run_und (kind_slice hk), goInt]
        · obtain ⟨u, e, hu⟩ := hone h1
          have hu : u = .slice none 0 0 := hu
          subst hu
          refine key (u := .int .i64 0) (x := .int .i64 0) ?_ rfl h2
          rw [e, hat]; simp [Builtin.len_, run_und (kind_slice hk), goInt]
        · rename_i b m
          obtain ⟨u, e, hu⟩ := hone h1
          obtain ⟨cap, rfl, _⟩ := hu
          refine key (u := .int .i64 m) (x := .int .i64 m) ?_ rfl h2
          rw [e, hat]; simp [Builtin.len_, run_und (kind_slice hk), goInt]
        · exact h2.elim
      · rename_i e0 e1 ek; rw [ek] at hk
        split at h2
        · obtain ⟨u, e, hu⟩ := hone h1
          have hu : u = .map none := hu
          subst hu
          refine key (u := .int .i64 0) (x := .int .i64 0) ?_ rfl h2
          rw [e, hat]; simp [Builtin.len_, run_und (kind_map hk), goInt]
        · rename_i b
          obtain ⟨u, e, hu⟩ := hone h1
          have hu : u = .map (some b) := hu
          subst hu
          obtain ⟨i, o, h3, h4⟩ := h2
          split at h4
          · rename_i ents
            obtain ⟨es, clock, hh, hre, _⟩ := inv.objAt h3
            have hlen : ∀ {l : List (AV × AV)} {us : List MapEntry}, RelE g l us → us.length = l.length := by
              intro l
              induction l with
              | nil => intro us h; cases h; rfl
              | cons x l ih => intro us ⟨_, _, e, _, _, h⟩; cases e; simp [ih h]
            refine key (u := .int .i64 ents.length) (x := .int .i64 ents.length) ?_ rfl h4
            rw [e, hat]; simp [Builtin.len_, run_und (kind_map hk), run_getObj hh (by simp), goInt, hlen hre]
          · exact h4.elim
        · exact h2.elim
      · exact h2.elim
    · exact h.elim
  · rename_i hc
    split at h
    · rename_i t u hat
      obtain ⟨vs, h1, h2⟩ := evalsK_sound r h
      split at h2
      · rename_i s x
        obtain ⟨ti, hty, h3⟩ := Tab.get_ok htb h2
        have hk := tyB_kind hty
        split at h3
        · rename_i e ek; rw [ek] at hk
          obtain ⟨te, hte, h4⟩ := Tab.get_ok htb h3
          obtain ⟨tu, htu, h5⟩ := Tab.get_ok htb h4
          split at h5
          · rename_i hni
            obtain ⟨hX, hXs⟩ := kind_some (tyB_kind htu) hni
            obtain ⟨su, ws, ew, ⟨hs, _⟩, hws⟩ := h1
            obtain ⟨xu, exu, hx, _⟩ := hws.one
            subst exu
            obtain ⟨v, w', g', x', st', e1, le, hr, inv', hK⟩ := appW_sound (rt := ty) (kind_slice hk) hX hXs hte h5 hs hx inv
            refine .val (u := v) (exec_builtin hc ?_) le hr inv' hK
            have : c.args.map a.eval = #[su, xu] := by apply Array.ext'; simpa using ew
            rw [this, hat]
            simp only [builtin, Sem.run_bind, e1, Result.andThen_ok, Sem.run_pure]
          · exact h5.elim
        · exact h3.elim
      · exact h2.elim
    · exact h.elim
  · rename_i hc
    split at h
    · rename_i t t' hat
      obtain ⟨vs, h1, h2⟩ := evalsK_sound r h
      split at h2
      · rename_i s x
        obtain ⟨ti, hty, h3⟩ := Tab.get_ok htb h2
        have hk := tyB_kind hty
        split at h3
        · rename_i e ek; rw [ek] at hk
          obtain ⟨te, hte, h4⟩ := Tab.get_ok htb h3
          obtain ⟨su, ws, ew, ⟨hs, _⟩, hws⟩ := h1
          obtain ⟨xu, exu, hx, _⟩ := hws.one
          subst exu
          obtain ⟨w', g', x', v, st', e1, le, hr, inv', hK⟩ := copyW_sound (rt := ty) (t' := t') (kind_slice hk) hte h4 hs hx inv
          refine .val (u := v) (exec_builtin hc ?_) le hr inv' hK
          have : c.args.map a.eval = #[su, xu] := by apply Array.ext'; simpa using ew
          rw [this, hat]
          simp only [builtin, Sem.run_bind, e1, Result.andThen_ok, Sem.run_pure]
        · exact h3.elim
      · exact h2.elim
    · exact h.elim
  · rename_i x name hc
    obtain ⟨v, h1, h2⟩ := evalK_sound r h
    obtain ⟨vs, h3, h4⟩ := evalsK_sound r h2
    split at h4
    · rename_i t v
      obtain ⟨u, e, hu⟩ := h1
      obtain ⟨k, hm, h5⟩ := h4
      obtain ⟨g', args, st', le, hr', inv', hcall⟩ := VFz.sound h5 (q := false) (us := u :: c.args.toList.map a.eval) ⟨_, _, rfl, ⟨hu, fun h => by cases h⟩, h3⟩ inv
      obtain ⟨fn, hfn, hbody, hname⟩ := hcall.ent
      have hrun : (execOp a.eval ⟨dst, .call c, ty, pos, after, guard⟩).run P w = .ok (.enter k ⟨u :: c.args.toList.map a.eval⟩) w := by
        have hb : fn.body.isNone = false := by cases hq : fn.body <;> simp_all
        have hx : (#[a.eval x] ++ c.args.map a.eval).extract 1 (#[a.eval x] ++ c.args.map a.eval).size = c.args.map a.eval := by
          apply Array.ext'; simp [List.take_of_length_le]
        have h0 : (#[a.eval x] ++ c.args.map a.eval)[0]? = some (a.eval x) := by rw [Array.getElem?_append_left (by simp)]; rfl
        have hcall : (callFunc k (#[u] ++ c.args.map a.eval)).run P w = .ok (.enter k ⟨u :: c.args.toList.map a.eval⟩) w := by
          simp only [callFunc, Sem.run_bind, run_program, Result.andThen_ok, hfn, hname, Bool.false_eq_true, if_false, hb, Sem.run_pure]
          congr 2
          apply Array.ext'; simp
        rw [e] at h0 hx
        simp only [execOp, resolve, hc, Sem.run_bind, Sem.run_pure, Result.andThen_ok, invoke, e]
        rw [h0]
        dsimp only
        rw [hx, hm, hcall]
      rw [hrun]
      show Calls P k _ w _
      exact (hcall.run W F g' w _ hL hr' inv').mono fun e w' ⟨g'', out, st'', le', ho, hi, hp⟩ => ⟨g'', out, st'', Gh.le_trans le le', ho, hi, hp⟩
    · exact h4.elim
  · rename_i hc
    obtain ⟨vs, h1, h2⟩ := evalsK_sound r h
    split at h2
    · rename_i k x k' y
      obtain ⟨su, ws, ew, ⟨hs, _⟩, hws⟩ := h1
      obtain ⟨xu, exu, hx, _⟩ := hws.one
      subst exu
      have hs : su = .int k x := hs
      have hx : xu = .int k' y := hx
      refine .same (u := .int k (max x y)) (v := .int k (max x y)) (exec_builtin hc ?_) rfl inv h2
      have : c.args.map a.eval = #[su, xu] := by apply Array.ext'; simpa using ew
      rw [this, hs, hx]
      simp only [builtin, Sem.run_bind, Builtin.max_, List.foldlM_cons, List.foldlM_nil, Builtin.max2, Sem.run_pure, Result.andThen_ok]
      congr 3
      split <;> omega
    · exact h2.elim
  · rename_i hc
    obtain ⟨vs, h1, h2⟩ := evalsK_sound r h
    split at h2
    · rename_i k x k' y
      obtain ⟨su, ws, ew, ⟨hs, _⟩, hws⟩ := h1
      obtain ⟨xu, exu, hx, _⟩ := hws.one
      subst exu
      have hs : su = .int k x := hs
      have hx : xu = .int k' y := hx
      refine .same (u := .int k (min x y)) (v := .int k (min x y)) (exec_builtin hc ?_) rfl inv h2
      have : c.args.map a.eval = #[su, xu] := by apply Array.ext'; simpa using ew
      rw [this, hs, hx]
      simp only [builtin, Sem.run_bind, Builtin.min_, List.foldlM_cons, List.foldlM_nil, Builtin.min2, Sem.run_pure, Result.andThen_ok]
      congr 3
      split <;> omega
    · exact h2.elim
  · exact h.elim

theorem opW_sound (hp : ProgAt P tb W) : ∀ {o : Oper}, opW P tb o.op env st K Kp → EnvR n g env a → Inv W g (st ++ F) w → OpOk P W F g K Kp ((execOp a.eval o).run P w) := by
  intro o h r inv
  obtain ⟨dst, op, ty, pos, after, guard⟩ := o
  cases op with
  | move x => exact ok_move h r inv
  | assign x => exact ok_assign h r inv
  | pick c x y => exact ok_pick (tb := tb) h r inv
  | alloc t => exact ok_alloc hp.tab h inv
  | box t x => exact ok_box hp.tab h r inv
  | build t ps => exact ok_build hp.tab h r inv
  | buildSlice t l ps => exact ok_buildSlice hp.tab h r inv
  | load t x => exact ok_load hp.tab hp.lay h r inv
  | store t x y => exact ok_store hp.tab h r inv
  | nilCheck x => exact ok_nilCheck (tb := tb) h r inv
  | binOp op t x y t' => exact ok_binOp hp.tab h r inv
  | unOp op t x => exact ok_unOp (tb := tb) h r inv
  | convert s t x => exact ok_convert hp.tab h r inv
  | makeInterface t x => exact ok_makeInterface hp.tab h r inv
  | makeFunc f xs ys => exact ok_makeFunc (tb := tb) h r inv
  | makeMap t x =>
    cases x with
    | none => exact ok_makeMap (tb := tb) h inv rfl
    | some x => exact h.elim
  | makeSlice t x y => exact ok_makeSlice hp.tab h r inv
  | slice t x lo hi mx => exact ok_slice hp.tab h r inv
  | fieldAddr t x i => exact ok_fieldAddr hp.tab h r inv
  | field t x i => exact ok_field hp.tab h r inv
  | indexAddr t x y => exact ok_indexAddr hp.tab h r inv
  | index t x y => exact ok_index h hp.tab r inv
  | range t x => exact ok_range h hp.tab r inv
  | next x s =>
    cases s with
    | true => exact ok_next (tb := tb) h r inv
    | false => exact ok_nextM (tb := tb) h r inv
  | entry x => exact ok_entryM (tb := tb) h r inv
  | typeAssert x s t ok => exact ok_typeAssert hp.tab h r inv hp.rt
  | extract x i => exact ok_extract (tb := tb) h r inv
  | lookup t x y ok => exact ok_lookup hp.tab h r inv
  | mapUpdate t x y z => exact ok_mapUpdate hp.tab h r inv
  | insert t x y z => exact ok_insert hp.tab h r inv
  | call c => exact ok_call hp.tab hp.lay h r inv
  | panic x => exact ok_panic (tb := tb) h r inv
  | _ => exact h.elim
end
end Go.Av

namespace Go.Av
open Go

section
variable {P : Program} {tb : Tab} {n : Nat} {W : World} {F : St} {g : Gh} {env : Env} {st : St} {a : Act} {w : World}

theorem wp_of_ok {K Kp : AV → St → Prop} {o : Oper} {next : Act → World → Prop} {Q : Exit → Act → World → Prop} (h : OpOk P W F g K Kp ((execOp a.eval o).run P w))
    (hn : ∀ g' v u st' w', Gh.le g g' → Rel g' v u → Inv W g' (st' ++ F) w' → K v st' → next (a.put o.dst u) w')
    (hp : ∀ g' v u st' w', Gh.le g g' → Rel g' v u → Inv W g' (st' ++ F) w' → Kp v st' → Q (.panic [{ v := u, recovered := false }]) a w') : o.wp P a w next Q := by
  unfold Oper.wp
  generalize (execOp a.eval o).run P w = r at h
  unfold OpOk at h
  split at h
  · obtain ⟨g', v, st', le, hr, hi, hK⟩ := h
    exact hn g' v _ st' _ le hr hi hK
  · obtain ⟨g', st', le, hi, hK⟩ := h
    exact hn g' (.tup []) undef st' _ le ⟨[], rfl, rfl⟩ hi hK
  · refine h.mono fun e w'' hx => ?_
    obtain ⟨g', out, st', le, ho, hi, hK⟩ := hx
    cases out with
    | ret v =>
      obtain ⟨u, rfl, hr⟩ := ho
      exact hn g' v u st' _ le hr hi hK
    | panic v =>
      obtain ⟨u, rfl, hr⟩ := ho
      exact hp g' v u st' _ le hr hi hK
  · obtain ⟨g', v, st', le, hr, hi, hK⟩ := h
    exact hp g' v _ st' _ le hr hi hK
  · exact h.elim

theorem Same.refl (ws : List Nat) (a : Act) : Same ws a a := ⟨fun _ _ => rfl, rfl⟩
theorem Same.trans {ws : List Nat} {a b c : Act} (h : Same ws a b) (k : Same ws b c) : Same ws a c := ⟨fun t e => (k.tmps t e).trans (h.tmps t e), k.defers.trans h.defers⟩
theorem memN_iff {t : Nat} : ∀ {ws : List Nat}, memN t ws = true ↔ t ∈ ws
  | [] => by simp [memN]
  | m :: r => by
    unfold memN
    split
    · rename_i e; have := Nat.eq_of_beq_eq_true e; simp [this]
    · rename_i e
      have : m ≠ t := fun h => by subst h; simp at e
      simp [memN_iff (ws := r), Ne.symm this]
theorem memN_false {t : Nat} {ws : List Nat} : memN t ws = false ↔ t ∉ ws := by rw [← Bool.not_eq_true, memN_iff]
theorem Same.mono {ws vs : List Nat} {a b : Act} (h : Same ws a b) (hs : ∀ t ∈ ws, t ∈ vs) : Same vs a b :=
  ⟨fun t e => h.tmps t (memN_false.2 fun hm => memN_false.1 e (hs t hm)), h.defers⟩
theorem Same.put {ws : List Nat} {a : Act} {d : Option Tmp} (u : Value) (h : ∀ t, d = some t → t ∈ ws) : Same ws a (a.put d u) := by
  cases d with
  | none => exact .refl _ _
  | some d =>
    refine ⟨fun t e => ?_, rfl⟩
    have : d ≠ t := fun e' => memN_false.1 e (e' ▸ h d rfl)
    simp [Act.put, Array.getElem?_setIfInBounds_ne this]

theorem putK_sound {d : Option Tmp} {v : AV} {k : Env → Prop} (h : putK n d v env k) {u : Value} (r : EnvR n g env a) (hr : Rel g v u) : ∃ env', EnvR n g env' (a.put d u) ∧ k env' := by
  unfold putK at h
  cases d with
  | none => exact ⟨env, r, h⟩
  | some d =>
    dsimp only at h
    split at h
    · rename_i e
      have : d < n := Nat.le_of_ble_eq_true e
      exact ⟨_, r.put this hr, h⟩
    · exact h.elim
theorem nthOp_eq : ∀ {l : List Oper} {j : Nat}, nthOp l j = (l[j]?).bind (·.dst)
  | [], _ => by simp [nthOp]
  | o :: r, 0 => rfl
  | o :: r, j + 1 => by simp [nthOp, nthOp_eq (l := r)]
theorem wanted_guard {ops : Array Oper} {o : Oper} {j d : Nat} {want : Bool} {u : Value} (hg : o.guard = some (j, want)) (hd : nthOp ops.toList j = some d) (hu : a.tmps[d]? = some u) :
    Region.wanted o (yielded ops a.tmps) = (match u with | .bool b => b == want | _ => false) := by
  rw [nthOp_eq] at hd
  have hd' : (ops[j]?).bind (·.dst) = some d := by simpa using hd
  simp only [Region.wanted, hg, yielded, hd', Option.bind_some, hu]
  cases u <;> simp

theorem mem_writesOps {o : Oper} {t : Nat} : ∀ {l : List Oper}, o ∈ l → o.dst = some t → t ∈ writesOps l
  | x :: l, hm, hd => by
    unfold writesOps
    rcases List.mem_cons.1 hm with rfl | hm
    · rw [hd]; simp
    · have := mem_writesOps hm hd
      split
      · exact List.mem_cons_of_mem _ this
      · exact this

theorem Wops_sound (hp : ProgAt P tb W) {ops : Array Oper} {Q : AExit → Env → St → Prop} {a0 : Act} {g0 : Gh} : ∀ {l : List Oper} {g : Gh} {env : Env} {st : St} {a : Act} {w : World}, (∀ o ∈ l, o ∈ ops.toList) →
    Wops P tb n ops.toList (fun v env st => Q (.panic v) env st) l env st (fun env st => Q .normal env st) → EnvR n g env a → Inv W g (st ++ F) w → Gh.le g0 g → Same (writesOps ops.toList) a0 a →
    wpList P ops (PostC W n F g0 (writesOps ops.toList) a0 Q) l a w
  | [], g, env, st, a, w, _, h, r, inv, le, hs => ⟨g, .normal, env, st, le, rfl, r, inv, hs, h⟩
  | o :: l, g, env, st, a, w, hm, h, r, inv, le, hs => by
    have hput : ∀ u, Same (writesOps ops.toList) a (a.put o.dst u) := fun u => .put u fun t ht => mem_writesOps (hm o (List.mem_cons_self ..)) ht
    have hm' : ∀ x ∈ l, x ∈ ops.toList := fun x hx => hm x (List.mem_cons_of_mem _ hx)
    -- the operation is carried out
    have run : ∀ {env env0 : Env}, EnvR n g env a → EnvR n g env0 a → opW P tb o.op env st (fun v st' => putK n o.dst v env fun env' => Wops P tb n ops.toList (fun v env st => Q (.panic v) env st) l env' st' fun env st => Q .normal env st) (fun v st' => Q (.panic v) env0 st') →
        o.wp P a w (wpList P ops (PostC W n F g0 (writesOps ops.toList) a0 Q) l) (PostC W n F g0 (writesOps ops.toList) a0 Q) := by
      intro env env0 r r0 h
      refine wp_of_ok (opW_sound hp h r inv) ?_ ?_
      · intro g' v u st' w' le' hr inv' hK
        obtain ⟨env', r', h'⟩ := putK_sound hK (r.mono le') hr
        exact Wops_sound hp hm' h' r' inv' (Gh.le_trans le le') (hs.trans (hput u))
      · intro g' v u st' w' le' hr inv' hq
        exact ⟨g', .panic v, env0, st', Gh.le_trans le le', ⟨u, rfl, hr⟩, r0.mono le', inv', hs, hq⟩
    have skip : ∀ {env : Env}, EnvR n g env a → (putK n o.dst (.tup []) env fun env' => Wops P tb n ops.toList (fun v env st => Q (.panic v) env st) l env' st fun env st => Q .normal env st) →
        wpList P ops (PostC W n F g0 (writesOps ops.toList) a0 Q) l (a.put o.dst undef) w := by
      intro env r h
      obtain ⟨env', r', h'⟩ := putK_sound h r (u := undef) ⟨[], rfl, rfl⟩
      exact Wops_sound hp hm' h' r' inv le (hs.trans (hput undef))
    rw [Wops_cons] at h
    unfold WopsStep at h
    unfold wpList
    split at h
    · rename_i hg
      rw [if_pos (by simp [Region.wanted, hg])]
      exact .inl (run r r h)
    · rename_i j want hg
      split at h
      · exact h.elim
      · rename_i d hd
        obtain ⟨gv, hl, h⟩ := Env.get_look h
        obtain ⟨u, hu, hru⟩ := r.look d gv hl
        have hw := wanted_guard hg hd hu
        split at h
        · rename_i b
          have hru : u = .bool b := hru
          subst hru
          have hb : ∀ q, b = q → EnvR n g ((d, .bool q) :: env) a := fun q e => r.fact ⟨_, hu, by rw [e]; rfl⟩
          split at h
          · cases b with
            | true => rw [if_pos (by rw [hw]; rfl)]; exact .inl (run (hb true rfl) r (h.t rfl))
            | false => rw [if_neg (by rw [hw]; simp)]; exact skip (hb false rfl) (h.f rfl)
          · cases b with
            | true => rw [if_neg (by rw [hw]; simp)]; exact skip (hb true rfl) (h.t rfl)
            | false => rw [if_pos (by rw [hw]; rfl)]; exact .inl (run (hb false rfl) r (h.f rfl))
        · obtain ⟨us, rfl, _⟩ := hru
          rw [if_neg (by rw [hw]; simp)]
          exact skip r h
        · exact h.elim

theorem writes_seq {x y : Code} : writes (.seq x y) = writes x ++ writes y := rfl

theorem keepK_sound {ws : List Nat} : ∀ {env : Env} {k : Env → Prop}, keepK ws env k → ∃ env', k env' ∧ ∀ t v, env'.look t = some v → memN t ws = false ∧ env.look t = some v
  | [], k, h => ⟨[], h, fun t v e => by simp [Env.look] at e⟩
  | (s, x) :: r, k, h => by
    unfold keepK at h
    split at h
    · rename_i e
      obtain ⟨env', h1, h2⟩ := keepK_sound h
      refine ⟨env', h1, fun t v hv => ?_⟩
      obtain ⟨h3, h4⟩ := h2 t v hv
      refine ⟨h3, ?_⟩
      unfold Env.look
      rw [if_neg]
      · exact h4
      · intro e'; subst e'; exact absurd h3 (by rw [e]; simp)
    · rename_i e
      obtain ⟨env', h1, h2⟩ := keepK_sound (k := fun l => k ((s, x) :: l)) h
      refine ⟨(s, x) :: env', h1, fun t v hv => ?_⟩
      unfold Env.look at hv
      unfold Env.look
      by_cases e' : s = t
      · subst e'; rw [if_pos rfl] at hv ⊢; exact ⟨e, hv⟩
      · rw [if_neg e'] at hv ⊢; exact h2 t v hv
theorem getsK_sound : ∀ {ss : List Nat} {env : Env} {k : List AV → Prop}, getsK env ss k → ∃ vs, k vs ∧ vs.length = ss.length ∧ ∀ (i : Nat) t v, ss[i]? = some t → vs[i]? = some v → env.look t = some v
  | [], _, _, h => ⟨[], h, rfl, by simp⟩
  | s :: r, env, k, h => by
    obtain ⟨v, h1, h2⟩ := Env.get_look h
    obtain ⟨vs, h3, h4, h5⟩ := getsK_sound h2
    refine ⟨v :: vs, h3, by simp [h4], fun i t x h6 h7 => ?_⟩
    cases i with
    | zero => simp at h6 h7; subst h6; subst h7; exact h1
    | succ i => exact h5 i t x (by simpa using h6) (by simpa using h7)
theorem bindE_look : ∀ {ss : List Nat} {vs : List AV} {env : Env} {t : Nat} {v : AV}, (bindE ss vs env).look t = some v → (∃ i : Nat, ss[i]? = some t ∧ vs[i]? = some v) ∨ env.look t = some v
  | [], _, _, _, _, h => .inr h
  | s :: r, [], _, _, _, h => .inr h
  | s :: r, x :: vs, env, t, v, h => by
    unfold bindE Env.look at h
    by_cases e : s = t
    · rw [if_pos e] at h; exact .inl ⟨0, by simp [e], by simpa using h⟩
    · rw [if_neg e] at h
      rcases bindE_look h with ⟨i, h1, h2⟩ | h
      · exact .inl ⟨i + 1, by simpa using h1, by simpa using h2⟩
      · exact .inr h

end
end Go.Av

namespace Go.Av
open Go

section
variable {P : Program} {tb : Tab} {n : Nat} {W : World} {F : St} {g : Gh} {env : Env} {st : St} {a : Act} {w : World}

/-- A slot holds what an abstract value stands for. -/
def Slot (g : Gh) (a : Act) (s : Nat) (v : AV) : Prop := ∃ u, a.tmps[s]? = some u ∧ Rel g v u
theorem Slot.mono {h : Gh} {s : Nat} {v : AV} (k : Slot g a s v) (le : Gh.le g h) : Slot h a s v := let ⟨u, e, r⟩ := k; ⟨u, e, r.mono le⟩

/-- Of what has been written, the last first: what stands in a slot. -/
def lookP : List (Option Nat × AV) → Nat → Option AV
  | [], _ => none
  | x :: r, s => if x.1 = some s then some x.2 else lookP r s
def srcL (pre : List (Option Nat × AV)) (env : Env) (s : Nat) : Option AV := match lookP pre s with
  | some v => some v
  | none => env.look s
def TraceOk (pre : List (Option Nat × AV)) (env0 env : Env) : Prop :=
  ∀ g a s v, env.look s = some v → (∀ v', srcL pre env0 s = some v' → Slot g a s v') → Slot g a s v
theorem TraceOk.start (env : Env) : TraceOk [] env env := fun _ _ _ _ e h => h _ e
theorem TraceOk.put {pre : List (Option Nat × AV)} {env0 env : Env} {d : Option Nat} {v : AV} {k : Env → Prop} (t : TraceOk pre env0 env) (h : putK n d v env k) :
    ∃ env', TraceOk ((d, v) :: pre) env0 env' ∧ (∀ e, d = some e → e < n) ∧ k env' := by
  unfold putK at h
  cases d with
  | none =>
    refine ⟨env, fun g a s x e hs => t g a s x e fun v' e' => hs v' ?_, by simp, h⟩
    unfold srcL lookP; simpa [srcL] using e'
  | some d =>
    dsimp only at h
    split at h
    · rename_i hlt
      refine ⟨_, fun g a s x e hs => ?_, fun e he => by cases he; exact Nat.le_of_ble_eq_true hlt, h⟩
      unfold Env.look at e
      by_cases hd : d = s
      · rw [if_pos hd] at e; subst hd; cases e
        exact hs _ (by unfold srcL lookP; simp)
      · rw [if_neg hd] at e
        refine t g a s x e fun v' e' => hs v' ?_
        unfold srcL lookP; simp only [Option.some.injEq, hd, if_false]; exact e'
    · exact h.elim
theorem TraceOk.fact {pre : List (Option Nat × AV)} {env0 env : Env} {d : Nat} {b q : Bool} (t : TraceOk pre env0 env) (h : env.look d = some (.bool b)) (e : b = q) : TraceOk pre env0 ((d, .bool q) :: env) := by
  intro g a s x hx hs
  unfold Env.look at hx
  by_cases hd : d = s
  · rw [if_pos hd] at hx; subst hd; cases hx
    subst e; exact t g a d _ h hs
  · rw [if_neg hd] at hx; exact t g a s x hx hs

theorem memT_iff {t : Nat} : ∀ {ws : List Nat}, memT t ws = true ↔ t ∈ ws
  | [] => by simp [memT]
  | m :: r => by
    unfold memT
    split
    · rename_i e; have := Nat.eq_of_beq_eq_true e; simp [this]
    · rename_i e
      have : m ≠ t := fun h => by subst h; simp at e
      simp [memT_iff (ws := r), Ne.symm this]
theorem onlyK_sound {ws : List Nat} : ∀ {env : Env} {k : Env → Prop}, onlyK ws env k → ∃ env', k env' ∧ ∀ t v, env'.look t = some v → t ∈ ws ∧ env.look t = some v
  | [], k, h => ⟨[], h, fun t v e => by simp [Env.look] at e⟩
  | (s, x) :: r, k, h => by
    unfold onlyK at h
    split at h
    · rename_i e
      obtain ⟨env', h1, h2⟩ := onlyK_sound (k := fun l => k ((s, x) :: l)) h
      refine ⟨(s, x) :: env', h1, fun t v hv => ?_⟩
      unfold Env.look at hv
      unfold Env.look
      by_cases e' : s = t
      · subst e'; rw [if_pos rfl] at hv ⊢; exact ⟨memT_iff.1 e, hv⟩
      · rw [if_neg e'] at hv ⊢; exact h2 t v hv
    · rename_i e
      obtain ⟨env', h1, h2⟩ := onlyK_sound h
      refine ⟨env', h1, fun t v hv => ?_⟩
      obtain ⟨h3, h4⟩ := h2 t v hv
      refine ⟨h3, ?_⟩
      unfold Env.look
      rw [if_neg]
      · exact h4
      · intro e'; subst e'; exact absurd (memT_iff.2 h3) (by rw [e]; simp)

/-- What is known of an operation, whenever it is carried out. -/
def OpFact (P : Program) (tb : Tab) (n : Nat) (ops : Array Oper) (env0 : Env) (st : St) (pre : List (Option Nat × AV)) (o : Oper) (v : AV) : Prop :=
  ∀ g a, a.tmps.size = n → (∀ s ∈ looks ops.toList o, ∀ v', srcL pre env0 s = some v' → Slot g a s v') →
    (Region.wanted o (yielded ops a.tmps) = true ∧ ∃ e, EnvR n g e a ∧ opW P tb o.op e st (fun v' st' => v' = v ∧ st' = st) fun _ _ => False) ∨
    (Region.wanted o (yielded ops a.tmps) = false ∧ v = .tup [])

theorem mem_looks {ops : List Oper} {o : Oper} {s : Nat} (h : s ∈ tmpsOf o.op.operands.toList) : s ∈ looks ops o := by
  unfold looks
  split
  · exact h
  · split
    · exact List.mem_cons_of_mem _ h
    · exact h
theorem guard_looks {ops : List Oper} {o : Oper} {j d : Nat} {want : Bool} (hg : o.guard = some (j, want)) (hd : nthOp ops j = some d) : d ∈ looks ops o := by
  unfold looks
  simp only [hg, hd]
  exact List.mem_cons_self ..

/-- The text's order, operation for operation. -/
theorem Wq_facts {ops : Array Oper} {env0 : Env} : ∀ {l : List Oper} {env : Env} {pre : List (Option Nat × AV)} {K : Env → Prop}, Wq P tb n ops.toList l env st K → TraceOk pre env0 env →
    ∃ (vs : List AV) (env' : Env), vs.length = l.length ∧ TraceOk (((l.map (·.dst)).zip vs).reverse ++ pre) env0 env' ∧ K env' ∧ (∀ o ∈ l, ∀ d, o.dst = some d → d < n) ∧
      ∀ (k : Nat) o v, l[k]? = some o → vs[k]? = some v → OpFact P tb n ops env0 st ((((l.map (·.dst)).zip vs).take k).reverse ++ pre) o v
  | [], env, pre, K, h, t => ⟨[], env, rfl, t, h, by simp, by simp⟩
  | o :: l, env, pre, K, h, t => by
    -- what follows, once the first has its value
    have next : ∀ {env : Env} {v : AV}, TraceOk pre env0 env → OpFact P tb n ops env0 st pre o v → (putK n o.dst v env fun env' => Wq P tb n ops.toList l env' st K) →
        ∃ (vs : List AV) (env' : Env), vs.length = (o :: l).length ∧ TraceOk ((((o :: l).map (·.dst)).zip vs).reverse ++ pre) env0 env' ∧ K env' ∧ (∀ x ∈ o :: l, ∀ d, x.dst = some d → d < n) ∧
          ∀ (k : Nat) x y, (o :: l)[k]? = some x → vs[k]? = some y → OpFact P tb n ops env0 st (((((o :: l).map (·.dst)).zip vs).take k).reverse ++ pre) x y := by
      intro env v t hf h
      obtain ⟨env1, t1, hd, h1⟩ := t.put h
      obtain ⟨vs, env', e1, t2, h2, h3, h4⟩ := Wq_facts h1 t1
      refine ⟨v :: vs, env', by simp [e1], by simpa using t2, h2, ?_, ?_⟩
      · intro x hx d e
        rcases List.mem_cons.1 hx with rfl | hx
        · exact hd d e
        · exact h3 x hx d e
      · intro k x y hx hy
        cases k with
        | zero => simp at hx hy; subst hx; subst hy; simpa using hf
        | succ k => have := h4 k x y (by simpa using hx) (by simpa using hy); simpa using this
    have full : ∀ {env : Env}, TraceOk pre env0 env → (∀ g a, a.tmps.size = n → (∀ s ∈ looks ops.toList o, ∀ v', srcL pre env0 s = some v' → Slot g a s v') → Region.wanted o (yielded ops a.tmps) = true) →
        (onlyK (tmpsOf o.op.operands.toList) env fun e => VQ (fun v => opW P tb o.op e st (fun v' st' => v' = v ∧ st' = st) fun _ _ => False) fun v => putK n o.dst v env fun env' => Wq P tb n ops.toList l env' st K) →
        ∃ (vs : List AV) (env' : Env), vs.length = (o :: l).length ∧ TraceOk ((((o :: l).map (·.dst)).zip vs).reverse ++ pre) env0 env' ∧ K env' ∧ (∀ x ∈ o :: l, ∀ d, x.dst = some d → d < n) ∧
          ∀ (k : Nat) x y, (o :: l)[k]? = some x → vs[k]? = some y → OpFact P tb n ops env0 st (((((o :: l).map (·.dst)).zip vs).take k).reverse ++ pre) x y := by
      intro env t hw h
      obtain ⟨e, ⟨v, h1, h2⟩, h3⟩ := onlyK_sound h
      refine next t ?_ h2
      intro g a hn hs
      refine .inl ⟨hw g a hn hs, e, ⟨hn, fun s x hx => ?_⟩, h1⟩
      obtain ⟨h4, h5⟩ := h3 s x hx
      exact t g a s x h5 (hs s (mem_looks h4))
    rw [Wq_cons] at h
    unfold WqStep at h
    split at h
    · rename_i hg
      exact full t (fun g a _ _ => by simp [Region.wanted, hg]) h
    · rename_i j want hg
      split at h
      · exact h.elim
      · rename_i d hd
        obtain ⟨gv, hl, h⟩ := Env.get_look h
        split at h
        · rename_i b
          have wq : ∀ g a, (∀ s ∈ looks ops.toList o, ∀ v', srcL pre env0 s = some v' → Slot g a s v') → Region.wanted o (yielded ops a.tmps) = (b == want) := by
            intro g a hs
            obtain ⟨u, hu, hru⟩ := t g a d _ hl (hs d (guard_looks hg hd))
            have hru : u = .bool b := hru
            subst hru
            exact wanted_guard hg hd hu
          split at h
          · cases b with
            | true => exact full (t.fact hl rfl) (fun g a _ hs => by rw [wq g a hs]; rfl) (h.t rfl)
            | false => exact next (t.fact hl rfl) (fun g a _ hs => .inr ⟨by rw [wq g a hs]; rfl, rfl⟩) (h.f rfl)
          · cases b with
            | true => exact next (t.fact hl rfl) (fun g a _ hs => .inr ⟨by rw [wq g a hs]; rfl, rfl⟩) (h.t rfl)
            | false => exact full (t.fact hl rfl) (fun g a _ hs => by rw [wq g a hs]; rfl) (h.f rfl)
        · refine next t (fun g a _ hs => .inr ⟨?_, rfl⟩) h
          obtain ⟨u, hu, us, rfl, _⟩ := t g a d _ hl (hs d (guard_looks hg hd))
          rw [wanted_guard hg hd hu]
        · exact h.elim

theorem edgeIn_spec {j : Nat} : ∀ {es : List Edge}, edgeIn j es = true → ∃ e ∈ es, e.on = j ∧ Region.binds .any e = true
  | [], h => by simp [edgeIn] at h
  | e :: r, h => by
    unfold edgeIn at h
    split at h
    · rename_i h1
      split at h
      · rename_i h2; exact ⟨e, List.mem_cons_self .., Nat.eq_of_beq_eq_true h1, h2⟩
      · obtain ⟨x, hx, h3⟩ := edgeIn_spec h; exact ⟨x, List.mem_cons_of_mem _ hx, h3⟩
    · obtain ⟨x, hx, h3⟩ := edgeIn_spec h; exact ⟨x, List.mem_cons_of_mem _ hx, h3⟩
theorem edgesLt_spec {i : Nat} : ∀ {es : List Edge}, edgesLt i es = true → ∀ e ∈ es, Region.binds .any e = true → e.on < i
  | [], _, _, hm, _ => by cases hm
  | x :: r, h, e, hm, hb => by
    unfold edgesLt at h
    split at h
    · split at h
      · rename_i h2
        rcases List.mem_cons.1 hm with rfl | hm
        · exact Nat.le_of_ble_eq_true h2
        · exact edgesLt_spec h e hm hb
      · cases h
    · rename_i h2
      rcases List.mem_cons.1 hm with rfl | hm
      · rw [hb] at h2; cases h2
      · exact edgesLt_spec h e hm hb
theorem memT_no {t : Nat} {ws : List Nat} (h : memT t ws = false) : t ∉ ws := fun hm => by rw [memT_iff.2 hm] at h; cases h
theorem pairB_spec {ops : List Oper} {j : Nat} {p o : Oper} (h : pairB ops j p o = true) : (∀ d, p.dst = some d → o.dst ≠ some d) ∧
    (edgeIn j o.after.toList = true ∨ ((∀ d, p.dst = some d → d ∉ looks ops o) ∧ ∀ e, o.dst = some e → e ∉ looks ops p)) := by
  unfold pairB at h
  cases hj : edgeIn j o.after.toList with
  | true =>
    simp only [hj] at h
    refine ⟨fun d hd ho => ?_, .inl rfl⟩
    simp [hd, ho] at h
  | false =>
    simp only [hj, Bool.and_eq_true] at h
    obtain ⟨h1, h2⟩ := h
    refine ⟨fun d hd ho => ?_, .inr ⟨fun d hd => ?_, fun e he => ?_⟩⟩
    · simp only [hd, ho] at h1
      split at h1
      · cases h1
      · simp at h1
    · simp only [hd] at h1
      split at h1
      · cases h1
      · rename_i h3; exact memT_no h3
    · simp only [he, Bool.not_eq_true'] at h2
      exact memT_no h2
theorem pairsB_spec {ops : List Oper} {o : Oper} : ∀ {l : List Oper} {j : Nat}, pairsB ops o j l = true → ∀ (k : Nat) p, l[k]? = some p → pairB ops (j + k) p o = true
  | [], _, _, _, _, h => by simp at h
  | x :: l, j, h, k, p, hk => by
    simp only [pairsB, Bool.and_eq_true] at h
    cases k with
    | zero => simp at hk; subst hk; exact h.1
    | succ k => have := pairsB_spec h.2 k p (by simpa using hk); rwa [show j + (k + 1) = j + 1 + k by omega]
theorem indepB_spec {ops : List Oper} : ∀ {r done : List Oper} {i : Nat}, indepB ops i done r = true → done.length = i → ∀ (k : Nat) o, r[k]? = some o →
    edgesLt (i + k) o.after.toList = true ∧ ∀ (j : Nat) p, (done ++ r)[j]? = some p → j < i + k → pairB ops j p o = true
  | [], _, _, _, _, _, _, h => by simp at h
  | x :: r, done, i, h, hl, k, o, hk => by
    simp only [indepB, Bool.and_eq_true] at h
    obtain ⟨⟨h1, h2⟩, h3⟩ := h
    cases k with
    | zero =>
      simp at hk; subst hk
      refine ⟨h1, fun j p hj hlt => ?_⟩
      rw [List.getElem?_append_left (by omega)] at hj
      have := pairsB_spec h2 j p hj; simpa using this
    | succ k =>
      obtain ⟨h4, h5⟩ := indepB_spec h3 (by simp [hl]) k o (by simpa using hk)
      refine ⟨by rwa [show i + (k + 1) = i + 1 + k by omega], fun j p hj hlt => h5 j p (by simpa using hj) (by omega)⟩

theorem lookP_some {s : Nat} {v : AV} : ∀ {l : List (Option Nat × AV)}, lookP l s = some v → (some s, v) ∈ l
  | [], h => by simp [lookP] at h
  | x :: r, h => by
    unfold lookP at h
    split at h
    · rename_i e; cases h; rw [← e]; exact List.mem_cons_self ..
    · exact List.mem_cons_of_mem _ (lookP_some h)
theorem lookP_none {s : Nat} : ∀ {l : List (Option Nat × AV)}, lookP l s = none → ∀ x ∈ l, x.1 ≠ some s
  | [], _, _, hm => by cases hm
  | y :: r, h, x, hm => by
    unfold lookP at h
    split at h
    · cases h
    · rename_i e
      rcases List.mem_cons.1 hm with rfl | hm
      · exact e
      · exact lookP_none h x hm

/-- In the midst of a region. -/
structure Mid (W : World) (F : St) (st : St) (n : Nat) (ops : Array Oper) (vs : List AV) (a0 : Act) (g0 : Gh) (listed : Array Bool) (g : Gh) (a : Act) (w : World) : Prop where
  size : listed.size = ops.size
  inv : Inv W g (st ++ F) w
  asz : a.tmps.size = n
  le : Gh.le g0 g
  same : Same (writesOps ops.toList) a0 a
  closed : ∀ (i : Nat) o, ops[i]? = some o → listed.getD i false = true → ∀ e ∈ o.after, Region.binds .any e = true → listed.getD e.on false = true
  fin : ∀ (i : Nat) o v d, ops[i]? = some o → vs[i]? = some v → listed.getD i false = true → o.dst = some d → Slot g a d v
  rest : ∀ s, (∀ (i : Nat) o, ops[i]? = some o → listed.getD i false = true → o.dst ≠ some s) → a.tmps[s]? = a0.tmps[s]?

theorem put_at {a : Act} {d : Nat} {u : Value} (h : d < a.tmps.size) : (a.put (some d) u).tmps[d]? = some u := by simp [Act.put, h]
theorem put_ne {a : Act} {d : Option Nat} {s : Nat} {u : Value} (h : d ≠ some s) : (a.put d u).tmps[s]? = a.tmps[s]? := by
  cases d with
  | none => rfl
  | some d => simp [Act.put, Array.getElem?_setIfInBounds_ne (show d ≠ s from fun e => h (by rw [e]))]
theorem put_size {a : Act} {d : Option Nat} {u : Value} : (a.put d u).tmps.size = a.tmps.size := by cases d <;> simp [Act.put]

theorem Mid.step {ops : Array Oper} {vs : List AV} {a0 : Act} {g0 g g' : Gh} {listed : Array Bool} {w w' : World} (m : Mid W F st n ops vs a0 g0 listed g a w) {i : Nat} {o : Oper} {v : AV} {u : Value}
    (hi : ops[i]? = some o) (hv : vs[i]? = some v) (hr : i ∈ Region.ready .any ops listed) (hd : ∀ d, o.dst = some d → d < n) (hdist : ∀ (j : Nat) p d, ops[j]? = some p → j ≠ i → p.dst = some d → o.dst ≠ some d)
    (le : Gh.le g g') (hu : Rel g' v u) (inv : Inv W g' (st ++ F) w') : Mid W F st n ops vs a0 g0 (listed.setIfInBounds i true) g' (a.put o.dst u) w' := by
  obtain ⟨hr1, o', ho', hr2⟩ := mem_ready.1 hr
  rw [hi] at ho'; cases ho'
  have hlt : i < listed.size := by rw [m.size]; exact (Array.getElem?_eq_some_iff.1 hi).1
  have back : ∀ j, j ≠ i → (listed.setIfInBounds i true).getD j false = true → listed.getD j false = true := fun j hj h => by rwa [getD_set_ne false (Ne.symm hj)] at h
  refine ⟨by simp [m.size], inv, by rw [put_size]; exact m.asz, Gh.le_trans m.le le, m.same.trans (.put u fun t ht => mem_writesOps (List.mem_of_getElem? (by simpa using hi)) ht), ?_, ?_, ?_⟩
  · intro j p hj hl e he hb
    by_cases hji : j = i
    · subst hji; rw [hi] at hj; cases hj
      exact getD_set_true (hr2 e he hb)
    · exact getD_set_true (m.closed j p hj (back j hji hl) e he hb)
  · intro j p x d hj hx hl hpd
    by_cases hji : j = i
    · subst hji; rw [hi] at hj; cases hj; rw [hv] at hx; cases hx
      exact ⟨u, by rw [hpd]; exact put_at (by rw [m.asz]; exact hd d hpd), hu⟩
    · obtain ⟨y, h1, h2⟩ := m.fin j p x d hj hx (back j hji hl) hpd
      exact ⟨y, by rw [put_ne (hdist j p d hj hji hpd)]; exact h1, h2.mono le⟩
  · intro s hs
    have hos : o.dst ≠ some s := hs i o hi (by simp [hlt])
    rw [put_ne hos]
    exact m.rest s fun j p hj hl => hs j p hj (getD_set_true hl)

theorem Wq_any (hp : ProgAt P tb W) {ops : Array Oper} {vs : List AV} {a0 : Act} {g0 : Gh} {env0 env' : Env} {Q : AExit → Env → St → Prop} (hind : indepB ops.toList 0 [] ops.toList = true) (hlen : vs.length = ops.size)
    (r0 : EnvR n g0 env0 a0) (tr : TraceOk ((ops.toList.map (·.dst)).zip vs).reverse env0 env') (hq : Q .normal env' st) (hd : ∀ o ∈ ops.toList, ∀ d, o.dst = some d → d < n)
    (hf : ∀ (k : Nat) o v, ops.toList[k]? = some o → vs[k]? = some v → OpFact P tb n ops env0 st (((ops.toList.map (·.dst)).zip vs).take k).reverse o v) :
    ∀ (fuel : Nat) (listed : Array Bool) (rem : List Nat) (g : Gh) (a : Act) (w : World), rem.length = fuel → (∀ i, i < ops.size → listed.getD i false = false → i ∈ rem) → Mid W F st n ops vs a0 g0 listed g a w →
      wpAny P .any ops (PostC W n F g0 (writesOps ops.toList) a0 Q) fuel listed a w := by
  have spec := indepB_spec hind rfl
  simp only [Nat.zero_add, List.nil_append] at spec
  have hpair : ∀ (j i : Nat) p o, ops[j]? = some p → ops[i]? = some o → j < i → pairB ops.toList j p o = true := fun j i p o hj hi hlt => (spec i o (by simpa using hi)).2 j p (by simpa using hj) hlt
  -- when nothing is ready, all is done
  have all : ∀ {listed : Array Bool}, listed.size = ops.size → Region.ready .any ops listed = [] → ∀ i, i < ops.size → listed.getD i false = true := by
    intro listed hs hr i
    induction i using Nat.strongRecOn with
    | _ i ih =>
      intro hi
      cases hl : listed.getD i false with
      | true => rfl
      | false =>
        have ho : ops[i]? = some ops[i] := by simp [hi]
        have : i ∈ Region.ready .any ops listed := mem_ready.2 ⟨by
          have h2 : i < listed.size := by omega
          simpa [h2] using hl, _, ho, fun e he hb => by
            have hlt := edgesLt_spec (spec i ops[i] (by simp [hi])).1 e (by simpa using he) hb
            exact ih e.on hlt (by omega)⟩
        rw [hr] at this; cases this
  have last : ∀ {listed : Array Bool} {g : Gh} {a : Act} {w : World}, Mid W F st n ops vs a0 g0 listed g a w → Region.ready .any ops listed = [] → PostC W n F g0 (writesOps ops.toList) a0 Q .normal a w := by
    intro listed g a w m hr
    have hall := all m.size hr
    refine ⟨g, .normal, env', st, m.le, rfl, ⟨m.asz, fun s v hs => ?_⟩, m.inv, m.same, hq⟩
    refine tr g a s v hs fun v' hv' => ?_
    unfold srcL at hv'
    split at hv'
    · rename_i x hx
      cases hv'
      have hm := lookP_some hx
      rw [List.mem_reverse, List.mem_iff_getElem?] at hm
      obtain ⟨j, hj⟩ := hm
      rw [List.getElem?_zip_eq_some] at hj
      obtain ⟨h1, h2⟩ := hj
      simp only [List.getElem?_map, Option.map_eq_some_iff] at h1
      obtain ⟨o, ho, hod⟩ := h1
      have ho' : ops[j]? = some o := by simpa using ho
      exact m.fin j o _ s ho' h2 (hall j (Array.getElem?_eq_some_iff.1 ho').1) hod
    · rename_i hx
      obtain ⟨u, h1, h2⟩ := r0.look s v' hv'
      refine ⟨u, ?_, h2.mono m.le⟩
      rw [m.rest s]
      · exact h1
      · intro i o ho _ he
        have hi : i < ops.size := (Array.getElem?_eq_some_iff.1 ho).1
        refine lookP_none hx (some s, vs[i]'(by omega)) ?_ rfl
        rw [List.mem_reverse, List.mem_iff_getElem?]
        refine ⟨i, ?_⟩
        rw [List.getElem?_zip_eq_some]
        exact ⟨by simp [List.getElem?_map, show ops.toList[i]? = some o by simpa using ho, he], by simp⟩
  intro fuel
  induction fuel with
  | zero =>
    intro listed rem g a w hl hrem m
    have : rem = [] := List.length_eq_zero_iff.1 hl
    subst this
    have hr : Region.ready .any ops listed = [] := by
      rw [List.eq_nil_iff_forall_not_mem]
      intro i hi
      obtain ⟨h1, o, ho, _⟩ := mem_ready.1 hi
      have hlt := (Array.getElem?_eq_some_iff.1 ho).1
      have h2 : i < listed.size := by rw [m.size]; exact hlt
      exact absurd (hrem i hlt (by simpa [h2] using h1)) (by simp)
    exact ⟨hr, last m hr⟩
  | succ fuel ih =>
    intro listed rem g a w hl hrem m
    refine ⟨last m, fun i hi => ?_⟩
    obtain ⟨h1, o, ho, h2⟩ := mem_ready.1 hi
    have hlt := (Array.getElem?_eq_some_iff.1 ho).1
    have hls : i < listed.size := by rw [m.size]; exact hlt
    have hnl : listed.getD i false = false := by simpa [hls] using h1
    have hv : vs[i]? = some (vs[i]'(by omega)) := by simp
    have hot : ops.toList[i]? = some o := by simpa using ho
    have hom : o ∈ ops.toList := List.mem_of_getElem? hot
    have hdist : ∀ (j : Nat) p d, ops[j]? = some p → j ≠ i → p.dst = some d → o.dst ≠ some d := by
      intro j p d hj hji hpd
      rcases Nat.lt_or_gt_of_ne hji with h | h
      · exact (pairB_spec (hpair j i p o hj ho h)).1 d hpd
      · exact fun hod => (pairB_spec (hpair i j o p ho hj h)).1 d hod hpd
    have hnext : ∀ {g' : Gh} {u : Value} {w' : World}, Gh.le g g' → Rel g' (vs[i]'(by omega)) u → Inv W g' (st ++ F) w' →
        wpAny P .any ops (PostC W n F g0 (writesOps ops.toList) a0 Q) fuel (listed.setIfInBounds i true) (a.put o.dst u) w' := by
      intro g' u w' le hu inv
      refine ih _ (rem.erase i) g' _ w' (by rw [List.length_erase_of_mem (hrem i hlt hnl)]; omega) ?_ (m.step ho hv hi (hd o hom) hdist le hu inv)
      intro j hj hjl
      by_cases hji : j = i
      · subst hji; simp [hls] at hjl
      · rw [getD_set_ne false (Ne.symm hji)] at hjl
        exact (List.mem_erase_of_ne hji).2 (hrem j hj hjl)
    have fact := hf i o _ hot hv g a m.asz (by
      intro s hs v' hv'
      unfold srcL at hv'
      split at hv'
      · rename_i x hx
        cases hv'
        have hm := lookP_some hx
        rw [List.mem_reverse, List.mem_iff_getElem?] at hm
        obtain ⟨j, hj⟩ := hm
        have hji : j < i := by
          have := (List.getElem?_eq_some_iff.1 hj).1
          simp at this; omega
        rw [List.getElem?_take_of_lt hji, List.getElem?_zip_eq_some] at hj
        obtain ⟨h3, h4⟩ := hj
        simp only [List.getElem?_map, Option.map_eq_some_iff] at h3
        obtain ⟨p, hpj, hpd⟩ := h3
        have hpj' : ops[j]? = some p := by simpa using hpj
        rcases (pairB_spec (hpair j i p o hpj' ho hji)).2 with he | he
        · obtain ⟨e, hem, heo, heb⟩ := edgeIn_spec he
          subst heo
          exact m.fin _ p _ s hpj' h4 (h2 e (by simpa using hem) heb) hpd
        · exact absurd hs (he.1 s hpd)
      · rename_i hx
        obtain ⟨u, h3, h4⟩ := r0.look s v' hv'
        refine ⟨u, ?_, h4.mono m.le⟩
        rw [m.rest s]
        · exact h3
        · intro j p hj hjl hpd
          rcases Nat.lt_trichotomy j i with h | h | h
          · refine lookP_none hx (some s, vs[j]'(by omega)) ?_ rfl
            rw [List.mem_reverse, List.mem_iff_getElem?]
            refine ⟨j, ?_⟩
            rw [List.getElem?_take_of_lt h, List.getElem?_zip_eq_some]
            exact ⟨by simp [List.getElem?_map, show ops.toList[j]? = some p by simpa using hj, hpd], by simp⟩
          · subst h; rw [hnl] at hjl; cases hjl
          · rcases (pairB_spec (hpair i j o p ho hj h)).2 with he | he
            · obtain ⟨e, hem, heo, heb⟩ := edgeIn_spec he
              have := m.closed j p hj hjl e (by simpa using hem) heb
              rw [heo, hnl] at this; cases this
            · exact he.2 s hpd hs)
    unfold wpOp
    simp only [ho]
    rcases fact with ⟨hw, e, re, hop⟩ | ⟨hw, hun⟩
    · rw [if_pos hw]
      refine .inl (wp_of_ok (opW_sound hp hop re m.inv) ?_ ?_)
      · rintro g' v u st' w' le hr inv ⟨rfl, rfl⟩
        exact hnext le hr inv
      · intro g' v u st' w' _ _ _ h; exact h.elim
    · rw [if_neg (by simp [hw])]
      exact hnext (Gh.le_refl g) (by rw [hun]; exact ⟨[], rfl, rfl⟩) m.inv

theorem Wq_region (hp : ProgAt P tb W) {id : Nat} {ops : Array Oper} {Q : AExit → Env → St → Prop} (h : VGd (indepB ops.toList 0 [] ops.toList = true) (Wq P tb n ops.toList ops.toList env st fun env => Q .normal env st))
    (r : EnvR n g env a) (inv : Inv W g (st ++ F) w) : (Code.region id ops true).wp P (PostC W n F g (writesOps ops.toList) a Q) a w := by
  obtain ⟨hind, h⟩ := h
  obtain ⟨vs, env', h1, h2, h3, h4, h5⟩ := Wq_facts h (TraceOk.start env)
  refine wp_region_any hp.mixed ?_
  have hf : ∀ i, (Array.replicate ops.size false).getD i false = false := fun i => by
    rw [Array.getD_eq_getD_getElem?]
    by_cases h : i < ops.size <;> simp [h]
  refine Wq_any hp hind (by simpa using h1) r (by simpa using h2) h3 h4 (by simpa using h5) ops.size _ (List.range ops.size) g a _ (by simp) (fun i hi _ => by simpa using hi) ?_
  refine ⟨by simp, ?_, r.size, Gh.le_refl g, .refl _ _, ?_, ?_, fun _ _ => rfl⟩
  · exact inv.drew
  · intro i o _ hl; rw [hf] at hl; cases hl
  · intro i o v d _ _ hl; rw [hf] at hl; cases hl
end
end Go.Av

namespace Go.Av
open Go

section
variable {P : Program} {tb : Tab} {n : Nat} {W : World} {F : St} {g : Gh} {env : Env} {st : St} {a : Act} {w : World}

theorem W_sound (hp : ProgAt P tb W) : ∀ (c : Code) {Q : AExit → Env → St → Prop} {g : Gh} {env : Env} {st : St} {a : Act} {w : World}, Av.W P tb n c Q env st → EnvR n g env a → Inv W g (st ++ F) w →
    c.wp P (PostC W n F g (writes c) a Q) a w
  | .skip, Q, g, env, st, a, w, h, r, inv => wp_skip ⟨g, .normal, env, st, Gh.le_refl g, rfl, r, inv, .refl _ _, h⟩
  | .region id ops d, Q, g, env, st, a, w, h, r, inv => by
    cases d with
    | false => exact wp_region_list (Wops_sound hp (fun _ h => h) h r inv (Gh.le_refl g) (.refl _ _))
    | true =>
      have h : VDraw (quietB ops.toList = true) (VGd (indepB ops.toList 0 [] ops.toList = true) (Wq P tb n ops.toList ops.toList env st fun env => Q .normal env st)) (VSem P tb n (writesOps ops.toList) (.region id ops true) Q env st) := h
      rcases h with ⟨_, h⟩ | h
      · exact Wq_region hp h r inv
      · exact h.sem W F g a w hp r inv
  | .seq x y, Q, g, env, st, a, w, h, r, inv => by
    refine wp_seq (wp_mono (W_sound hp x h r inv) ?_)
    intro e a' w' ⟨g', ae, env', st', le, he, r', inv', hs, hq⟩
    have hs1 : Same (writes (.seq x y)) a a' := hs.mono fun t ht => by rw [writes_seq]; exact List.mem_append_left _ ht
    cases ae with
    | normal =>
      cases he
      refine wp_mono (W_sound hp y hq r' inv') ?_
      intro e2 a2 w2 ⟨g2, ae2, env2, st2, le2, he2, r2, inv2, hs2, hq2⟩
      exact ⟨g2, ae2, env2, st2, Gh.le_trans le le2, he2, r2, inv2, hs1.trans (hs2.mono fun t ht => by rw [writes_seq]; exact List.mem_append_right _ ht), hq2⟩
    | exit id => cases he; exact ⟨g', .exit id, env', st', le, rfl, r', inv', hs1, hq⟩
    | goto id => cases he; exact ⟨g', .goto id, env', st', le, rfl, r', inv', hs1, hq⟩
    | ret => cases he; exact ⟨g', .ret, env', st', le, rfl, r', inv', hs1, hq⟩
    | panic v => obtain ⟨u, rfl, hr⟩ := he; exact ⟨g', .panic v, env', st', le, ⟨u, rfl, hr⟩, r', inv', hs1, hq⟩
  | .cond c x y, Q, g, env, st, a, w, h, r, inv => by
    obtain ⟨v, h1, h2⟩ := evalK_sound r h
    split at h2
    · rename_i b
      have h1 : a.eval c = .bool b := h1
      refine wp_cond h1 ?_
      cases b with
      | true =>
        refine wp_mono (W_sound hp x (h2.t rfl) r inv) ?_
        intro e a' w' ⟨g', ae, env', st', le, he, r', inv', hs, hq⟩
        exact ⟨g', ae, env', st', le, he, r', inv', hs.mono fun t ht => List.mem_append_left _ ht, hq⟩
      | false =>
        refine wp_mono (W_sound hp y (h2.f rfl) r inv) ?_
        intro e a' w' ⟨g', ae, env', st', le, he, r', inv', hs, hq⟩
        exact ⟨g', ae, env', st', le, he, r', inv', hs.mono fun t ht => List.mem_append_right _ ht, hq⟩
    · exact h2.elim
  | .block id x, Q, g, env, st, a, w, h, r, inv => by
    refine wp_block (wp_mono (W_sound hp x h r inv) ?_)
    intro e a' w' ⟨g', ae, env', st', le, he, r', inv', hs, hq⟩
    cases ae with
    | normal => cases he; exact ⟨g', .normal, env', st', le, rfl, r', inv', hs, hq⟩
    | exit i =>
      cases he
      by_cases e : i = id
      · subst e
        have hq : Q .normal env' st' := by simpa [Nat.beq_refl] using hq
        show (if i = i then _ else _)
        rw [if_pos rfl]
        exact ⟨g', .normal, env', st', le, rfl, r', inv', hs, hq⟩
      · have hb : Nat.beq i id = false := by rw [← Bool.not_eq_true]; exact fun h => e (Nat.eq_of_beq_eq_true h)
        have hq : Q (.exit i) env' st' := by simpa [hb] using hq
        show (if i = id then _ else _)
        rw [if_neg e]
        exact ⟨g', .exit i, env', st', le, rfl, r', inv', hs, hq⟩
    | goto id => cases he; exact ⟨g', .goto id, env', st', le, rfl, r', inv', hs, hq⟩
    | ret => cases he; exact ⟨g', .ret, env', st', le, rfl, r', inv', hs, hq⟩
    | panic v => obtain ⟨u, rfl, hr⟩ := he; exact ⟨g', .panic v, env', st', le, ⟨u, rfl, hr⟩, r', inv', hs, hq⟩
  | .loop x, Q, g, env, st, a, w, h, r, inv => by
    obtain ⟨env0, h1, h2⟩ := keepK_sound h
    have hkeep : ∀ {ss : List Nat} {g' : Gh} {a' : Act}, Gh.le g g' → a'.tmps.size = n → Same (writes x) a a' → ∀ {vs : List AV}, (∀ (i : Nat) t v, ss[i]? = some t → vs[i]? = some v → ∃ u, a'.tmps[t]? = some u ∧ Rel g' v u) → EnvR n g' (bindE ss vs env0) a' := by
      intro ss g' a' le hsz hs vs hvs
      refine ⟨hsz, fun t v hv => ?_⟩
      rcases bindE_look hv with ⟨i, e1, e2⟩ | hv
      · exact hvs i t v e1 e2
      · obtain ⟨e1, e2⟩ := h2 t v hv
        obtain ⟨u, e3, e4⟩ := r.look t v e2
        exact ⟨u, by rw [hs.tmps t e1]; exact e3, e4.mono le⟩
    cases h1 with
    | mk ss ι ev sv I m i0 h0 hround =>
      obtain ⟨hI, hg, hsel⟩ := h0
      refine wp_loop_ghost (fun k a' w' => ∃ i g', m i = k ∧ I i ∧ Gh.le g g' ∧ EnvR n g' (bindE ss (ev i) env0) a' ∧ Inv W g' (sv i ++ F) w' ∧ Same (writes x) a a') (m i0) ?_ ?_
      · obtain ⟨vs, e1, e2, e3⟩ := getsK_sound hg
        subst e1
        exact ⟨i0, g, rfl, hI, Gh.le_refl g, hkeep (Gh.le_refl g) r.size (.refl _ _) (fun i t v h4 h5 => r.look t v (e3 i t v h4 h5)), inv.sel hsel, .refl _ _⟩
      · rintro k a' w' ⟨i, g', rfl, hIi, le, r', inv', hs⟩
        refine wp_mono (W_sound hp x (hround i hIi) r' inv') ?_
        intro e a2 w2 ⟨g2, ae, env2, st2, le2, he, r2, inv2, hs2, hq⟩
        cases ae with
        | normal =>
          cases he
          obtain ⟨vs, ⟨j, hIj, hlt, e1, hsel'⟩, e2, e3⟩ := getsK_sound hq
          subst e1
          exact ⟨m j, hlt, j, g2, rfl, hIj, Gh.le_trans le le2, hkeep (Gh.le_trans le le2) r2.size (hs.trans hs2) (fun i t v h4 h5 => r2.look t v (e3 i t v h4 h5)), inv2.sel hsel', hs.trans hs2⟩
        | exit id => cases he; exact ⟨g2, .exit id, env2, st2, Gh.le_trans le le2, rfl, r2, inv2, hs.trans hs2, hq⟩
        | goto id => cases he; exact ⟨g2, .goto id, env2, st2, Gh.le_trans le le2, rfl, r2, inv2, hs.trans hs2, hq⟩
        | ret => cases he; exact ⟨g2, .ret, env2, st2, Gh.le_trans le le2, rfl, r2, inv2, hs.trans hs2, hq⟩
        | panic v => obtain ⟨u, rfl, hr⟩ := he; exact ⟨g2, .panic v, env2, st2, Gh.le_trans le le2, ⟨u, rfl, hr⟩, r2, inv2, hs.trans hs2, hq⟩
    | un k ss hu =>
      refine wp_loop_ghost (fun k a' w' => ∃ vs st' g', unrollK (fun env st Q => Av.W P tb n x Q env st) env0 Q ss k vs st' ∧ Gh.le g g' ∧ EnvR n g' (bindE ss vs env0) a' ∧ Inv W g' (st' ++ F) w' ∧ Same (writes x) a a') k ?_ ?_
      · obtain ⟨vs, e1, e2, e3⟩ := getsK_sound hu
        exact ⟨vs, st, g, e1, Gh.le_refl g, hkeep (Gh.le_refl g) r.size (.refl _ _) (fun i t v h4 h5 => r.look t v (e3 i t v h4 h5)), inv, .refl _ _⟩
      · rintro k a' w' ⟨vs, st', g', hun, le, r', inv', hs⟩
        cases k with
        | zero => exact hun.elim
        | succ k =>
          refine wp_mono (W_sound hp x hun r' inv') ?_
          intro e a2 w2 ⟨g2, ae, env2, st2, le2, he, r2, inv2, hs2, hq⟩
          cases ae with
          | normal =>
            cases he
            obtain ⟨vs', e1, e2, e3⟩ := getsK_sound hq
            exact ⟨k, Nat.lt_succ_self k, vs', st2, g2, e1, Gh.le_trans le le2, hkeep (Gh.le_trans le le2) r2.size (hs.trans hs2) (fun i t v h4 h5 => r2.look t v (e3 i t v h4 h5)), inv2, hs.trans hs2⟩
          | exit id => cases he; exact ⟨g2, .exit id, env2, st2, Gh.le_trans le le2, rfl, r2, inv2, hs.trans hs2, hq⟩
          | goto id => cases he; exact ⟨g2, .goto id, env2, st2, Gh.le_trans le le2, rfl, r2, inv2, hs.trans hs2, hq⟩
          | ret => cases he; exact ⟨g2, .ret, env2, st2, Gh.le_trans le le2, rfl, r2, inv2, hs.trans hs2, hq⟩
          | panic v => obtain ⟨u, rfl, hr⟩ := he; exact ⟨g2, .panic v, env2, st2, Gh.le_trans le le2, ⟨u, rfl, hr⟩, r2, inv2, hs.trans hs2, hq⟩
  | .rangeFunc f ps x y, Q, g, env, st, a, w, h, r, inv => h.sem W F g a w hp r inv
  | .exit id, Q, g, env, st, a, w, h, r, inv => wp_exit ⟨g, .exit id, env, st, Gh.le_refl g, rfl, r, inv, .refl _ _, h⟩
  | .scope x, Q, g, env, st, a, w, h, r, inv => h.sem W F g a w hp r inv
  | .label l, Q, g, env, st, a, w, h, r, inv => wp_label ⟨g, .normal, env, st, Gh.le_refl g, rfl, r, inv, .refl _ _, h⟩
  | .goto l, Q, g, env, st, a, w, h, r, inv => wp_goto ⟨g, .goto l, env, st, Gh.le_refl g, rfl, r, inv, .refl _ _, h⟩
  | .ret, Q, g, env, st, a, w, h, r, inv => wp_ret ⟨g, .ret, env, st, Gh.le_refl g, rfl, r, inv, .refl _ _, h⟩
  | .refuse why, Q, g, env, st, a, w, h, r, inv => h.elim

/-! ### Scopes with labels: so many jumps -/
inductive VGo (c : Code) (l : Nat) (A : Code → Prop) (B : Prop) : Prop
  | at (rest : Code) (h : findLabel c l = some rest) (k : A rest)
  | out (h : findLabel c l = none) (k : B)
def jmp (P : Program) (tb : Tab) (n : Nat) (c : Code) (Q : AExit → Env → St → Prop) : Nat → AExit → Env → St → Prop
  | 0, .goto l, env, st => VGo c l (fun _ => False) (Q (.goto l) env st)
  | k + 1, .goto l, env, st => VGo c l (fun rest => Av.W P tb n rest (jmp P tb n c Q k) env st) (Q (.goto l) env st)
  | _, e, env, st => Q e env st
theorem findLabel_writes {l : Nat} : ∀ {c rest : Code}, findLabel c l = some rest → ∀ t ∈ writes rest, t ∈ writes c
  | .seq x y, rest, h, t, ht => by
    unfold findLabel at h
    split at h
    · rename_i r hr
      cases h
      rw [writes_seq] at ht ⊢
      rcases List.mem_append.1 ht with ht | ht
      · exact List.mem_append_left _ (findLabel_writes hr t ht)
      · exact List.mem_append_right _ ht
    · rw [writes_seq]; exact List.mem_append_right _ (findLabel_writes h t ht)
  | .label l', rest, h, t, ht => by
    unfold findLabel at h
    split at h
    · cases h; simp [writes] at ht
    · cases h
  | .skip, _, h, _, _ | .region .., _, h, _, _ | .cond .., _, h, _, _ | .block .., _, h, _, _ | .loop .., _, h, _, _ | .rangeFunc .., _, h, _, _ | .exit .., _, h, _, _ | .scope .., _, h, _, _ | .goto .., _, h, _, _
  | .ret, _, h, _, _ | .refuse .., _, h, _, _ => by simp [findLabel] at h

theorem VSem.scope {c : Code} {Q : AExit → Env → St → Prop} (k : Nat) (h : Av.W P tb n c (jmp P tb n c Q k) env st) : VSem P tb n (writes c) (.scope c) Q env st := by
  refine ⟨fun W F g a w hp r inv => ?_⟩
  intro b kk cs
  have key : ∀ (k : Nat) (x : Code) (g' : Gh) (env : Env) (st : St) (a1 : Act) (w1 : World), (∀ t ∈ writes x, t ∈ writes c) → Av.W P tb n x (jmp P tb n c Q k) env st → EnvR n g' env a1 → Inv W g' (st ++ F) w1 → Gh.le g g' → Same (writes c) a a1 →
      ∃ e a' w', PostC W n F g (writes c) a Q e a' w' ∧ Arrives P (lone (b.at a1 (.code x :: .inScope c :: kk)) cs w1) b kk cs e a' w' := by
    intro k
    induction k with
    | zero =>
      intro x g' env st a1 w1 hsub h r inv le hs
      obtain ⟨e, a2, w2, ⟨g2, ae, env2, st2, le2, he, r2, inv2, hs2, hq⟩, harr⟩ := W_sound hp x h r inv b (.inScope c :: kk) cs
      have hs3 := hs.trans (hs2.mono hsub)
      have le3 := Gh.le_trans le le2
      cases ae with
      | normal => cases he; exact ⟨.normal, a2, w2, ⟨g2, .normal, env2, st2, le3, rfl, r2, inv2, hs3, hq⟩, Steps.trans harr (.one step_inScope)⟩
      | exit id => cases he; exact ⟨.exit id, a2, w2, ⟨g2, .exit id, env2, st2, le3, rfl, r2, inv2, hs3, hq⟩, fun k' hk => harr k' (by simp [exitTo, hk])⟩
      | goto l =>
        cases he
        unfold jmp at hq
        rcases hq with ⟨_, _, hq⟩ | ⟨hl, hq⟩
        · exact hq.elim
        · exact ⟨.goto l, a2, w2, ⟨g2, .goto l, env2, st2, le3, rfl, r2, inv2, hs3, hq⟩, fun k' hk => harr k' (by simp [gotoIn, hl, hk])⟩
      | ret => cases he; exact ⟨.ret, a2, w2, ⟨g2, .ret, env2, st2, le3, rfl, r2, inv2, hs3, hq⟩, harr⟩
      | panic v => obtain ⟨u, rfl, hr⟩ := he; exact ⟨_, a2, w2, ⟨g2, .panic v, env2, st2, le3, ⟨u, rfl, hr⟩, r2, inv2, hs3, hq⟩, harr⟩
    | succ k ih =>
      intro x g' env st a1 w1 hsub h r inv le hs
      obtain ⟨e, a2, w2, ⟨g2, ae, env2, st2, le2, he, r2, inv2, hs2, hq⟩, harr⟩ := W_sound hp x h r inv b (.inScope c :: kk) cs
      have hs3 := hs.trans (hs2.mono hsub)
      have le3 := Gh.le_trans le le2
      cases ae with
      | normal => cases he; exact ⟨.normal, a2, w2, ⟨g2, .normal, env2, st2, le3, rfl, r2, inv2, hs3, hq⟩, Steps.trans harr (.one step_inScope)⟩
      | exit id => cases he; exact ⟨.exit id, a2, w2, ⟨g2, .exit id, env2, st2, le3, rfl, r2, inv2, hs3, hq⟩, fun k' hk => harr k' (by simp [exitTo, hk])⟩
      | goto l =>
        cases he
        unfold jmp at hq
        rcases hq with ⟨rest, hl, hq⟩ | ⟨hl, hq⟩
        · obtain ⟨e, a3, w3, hpost, harr3⟩ := ih rest g2 env2 st2 a2 w2 (findLabel_writes hl) hq r2 inv2 le3 hs3
          exact ⟨e, a3, w3, hpost, .of_steps (harr _ (by simp [gotoIn, hl])) harr3⟩
        · exact ⟨.goto l, a2, w2, ⟨g2, .goto l, env2, st2, le3, rfl, r2, inv2, hs3, hq⟩, fun k' hk => harr k' (by simp [gotoIn, hl, hk])⟩
      | ret => cases he; exact ⟨.ret, a2, w2, ⟨g2, .ret, env2, st2, le3, rfl, r2, inv2, hs3, hq⟩, harr⟩
      | panic v => obtain ⟨u, rfl, hr⟩ := he; exact ⟨_, a2, w2, ⟨g2, .panic v, env2, st2, le3, ⟨u, rfl, hr⟩, r2, inv2, hs3, hq⟩, harr⟩
  obtain ⟨e, a', w', h1, h2⟩ := key k c g env st a w (fun _ h => h) h r inv (Gh.le_refl g) (.refl _ _)
  exact ⟨e, a', w', h1, .of_steps (.one step_scope) h2⟩
end
end Go.Av

namespace Go.Av
open Go

section
variable {P : Program} {tb : Tab} {n : Nat} {W : World} {F : St} {g : Gh} {env : Env} {st : St} {a : Act} {w : World}

def resOne (tmps : Array Value) : ResultVar → Sem Value
  | .tmp t => pure (tmps.getD t undef)
  | .cell a t => do loadVar t (← asAddr (tmps.getD a undef))
theorem resK_sound (hp : ProgOk P tb) : ∀ {rs : List ResultVar} {k : List AV → Prop}, resK tb rs env st k → EnvR n g env a → Inv W g (st ++ F) w →
    ∃ vs us, (rs.mapM (resOne a.tmps)).run P w = .ok us w ∧ RelL g false vs us ∧ k vs
  | [], k, h, _, _ => ⟨[], [], rfl, rfl, h⟩
  | .tmp t :: rs, k, h, r, inv => by
    obtain ⟨v, h1, h2⟩ := Env.get_look h
    obtain ⟨u, h3, h4⟩ := r.look t v h1
    obtain ⟨vs, us, h5, h6, h7⟩ := resK_sound hp h2 r inv
    refine ⟨v :: vs, u :: us, ?_, ⟨u, us, rfl, ⟨h4, by simp⟩, h6⟩, h7⟩
    simp [List.mapM_cons, resOne, Array.getD_eq_getD_getElem?, h3, h5]
  | .cell t ty :: rs, k, h, r, inv => by
    obtain ⟨v, h1, h2⟩ := Env.get_look h
    obtain ⟨u, h3, h4⟩ := r.look t v h1
    split at h2
    · rename_i b o
      have h4 : u = .pointer (some ⟨b, o, none⟩) := h4
      obtain ⟨m, ob, h5, h6⟩ := h2
      split at h6
      · rename_i cells
        obtain ⟨ti, hty, h7⟩ := Tab.get_ok hp.tab h6
        obtain ⟨us0, T, lo, hi, hh, hr, _, _⟩ := inv.objAt h5
        obtain ⟨x, y, h8, h9, h10⟩ := loadK_sound (w := w) hty h7 hr (b := b) (base := 0) (fun i u e => by rw [cell_of hh]; simpa using e)
        rw [Nat.zero_add] at h8
        obtain ⟨vs, us, h11, h12, h13⟩ := resK_sound hp h10 r inv
        refine ⟨y :: vs, x :: us, ?_, ⟨x, us, rfl, ⟨h9, by simp⟩, h12⟩, h13⟩
        have h8' : (loadVar ty ⟨b, o, none⟩).run P w = .ok x w := by simpa [Instr.loadAt, Instr.sureAddr] using h8
        simp [List.mapM_cons, resOne, Array.getD_eq_getD_getElem?, h3, h4, asAddr, h8', h11]
      · exact h6.elim
    · exact h2.elim
theorem results_eq (fn : Func) (tmps : Array Value) : results fn tmps = (do let vs ← fn.results.mapM (resOne tmps); pure (if h : vs.size = 1 then vs[0] else .tuple vs)) := by
  unfold results
  congr 1
theorem results_run {fn : Func} {rs : List ResultVar} (hr : fn.results = ⟨rs⟩) {tmps : Array Value} {us : List Value} (h : (rs.mapM (resOne tmps)).run P w = .ok us w) :
    (results fn tmps).run P w = .ok (match us with | [u] => u | us => .tuple ⟨us⟩) w := by
  rw [results_eq, hr]
  simp only [Sem.run_bind, Array.mapM_eq_mapM_toList, Sem.run_map, h, Result.andThen_ok, Sem.run_pure]
  cases us with
  | nil => rfl
  | cons u us => cases us with
    | nil => rfl
    | cons v us => rfl

theorem bindP_look : ∀ {vs : List AV} {k t : Nat} {v : AV}, (bindP k vs).look t = some v → k ≤ t ∧ vs[t - k]? = some v
  | [], _, _, _, h => by simp [bindP, Env.look] at h
  | x :: vs, k, t, v, h => by
    unfold bindP Env.look at h
    by_cases e : k = t
    · rw [if_pos e] at h; subst e; simpa using h
    · rw [if_neg e] at h
      obtain ⟨h1, h2⟩ := bindP_look h
      refine ⟨by omega, ?_⟩
      rw [show t - k = (t - (k + 1)) + 1 by omega]; simpa using h2
theorem EnvR.start {vs : List AV} {us : List Value} (h : RelL g false vs us) (hn : us.length ≤ n) : EnvR n g (bindP 0 vs) { tmps := (⟨us⟩ : Array Value) ++ Array.replicate (n - us.length) undef, defers := [] } := by
  refine ⟨by simp; omega, fun t v e => ?_⟩
  obtain ⟨_, h1⟩ := bindP_look e
  obtain ⟨u, h2, h3, _⟩ := h.nth (t - 0) h1
  refine ⟨u, ?_, h3⟩
  have hlt : t < us.length := by have := (List.getElem?_eq_some_iff.1 h2).1; omega
  show ((⟨us⟩ : Array Value) ++ Array.replicate (n - us.length) undef)[t]? = some u
  rw [Array.getElem?_append_left (by simpa using hlt)]; simpa using h2

/-- A function, out of its body. -/
theorem ACalls.of_W (hp : ProgOk P tb) {f : FuncId} {fn : Func} {c : Code} {rs : List ResultVar} {args : List AV} {Post : AOut → St → Prop} (hf : P.funcs[f]? = some fn) (hb : fn.body = some c)
    (hname : (fn.name == "runtime.NumGoroutine") = false) (hrs : fn.results = ⟨rs⟩) (hn : fn.ntmps = n) (hlen : args.length ≤ n)
    (h : Av.W P tb n c (endW tb rs Post) (bindP 0 args) st) : ACalls P f args st Post where
  ent := ⟨fn, hf, by simp [hb], hname⟩
  run W F g w us hl hr inv := by
    refine calls_of_wp hf hb ?_
    have hul : us.length = args.length := hr.length
    have r0 : EnvR n g (bindP 0 args) { tmps := (⟨us⟩ : Array Value) ++ Array.replicate (fn.ntmps - us.length) undef, defers := [] } := by
      rw [hn]; exact EnvR.start hr (by omega)
    refine wp_mono (W_sound { hp with lay := hl } c h r0 inv) ?_
    intro e a' w' ⟨g', ae, env', st', le, he, r', inv', hs, hq⟩
    have hd : a'.defers = [] := hs.defers
    have fin : resK tb rs env' st' (fun vs => VFz vs st' fun vs st => tupK vs fun v => VRet Post (.ret v) st) →
        ∃ v, (results fn a'.tmps).run P w' = .ok v w' ∧ ∃ g' out st'_1, Gh.le g g' ∧ OutR g' out (.returned v) ∧ Inv W g' (st'_1 ++ F) w' ∧ Post out st'_1 := by
      intro hq
      obtain ⟨vs, us', h1, h2, h3⟩ := resK_sound hp hq r' inv'
      obtain ⟨g2, vs2, st2, le2, h4, inv2, h5⟩ := VFz.sound h3 h2 inv'
      refine ⟨_, results_run hrs h1, ?_⟩
      unfold tupK at h5
      split at h5
      · rename_i v
        obtain ⟨u, rfl, hu, _⟩ := h4.one
        obtain ⟨st3, hsel, hpost⟩ := h5
        exact ⟨g2, .ret v, st3, Gh.le_trans le le2, ⟨u, rfl, hu⟩, inv2.sel hsel, hpost⟩
      · rename_i hne
        obtain ⟨st3, hsel, hpost⟩ := h5
        refine ⟨g2, .ret (.tup vs2), st3, Gh.le_trans le le2, ⟨.tuple ⟨us'⟩, ?_, us', rfl, h4⟩, inv2.sel hsel, hpost⟩
        have hl := h4.length
        split
        · rename_i u
          cases vs2 with
          | nil => simp at hl
          | cons v vs => cases vs with
            | nil => exact absurd rfl (hne v)
            | cons _ _ => simp at hl
        · rfl
    cases ae with
    | normal => cases he; exact ⟨hd, fin hq⟩
    | ret => cases he; exact ⟨hd, fin hq⟩
    | exit id => exact hq.elim
    | goto id => exact hq.elim
    | panic v =>
      obtain ⟨u, rfl, hu⟩ := he
      obtain ⟨st3, hsel, hpost⟩ := hq
      exact ⟨hd, g', .panic v, st3, le, ⟨u, rfl, hu⟩, inv'.sel hsel, hpost⟩

/-! ### Laws of calls -/
theorem ACalls.mono {f : FuncId} {args : List AV} {Post Post' : AOut → St → Prop} (h : ACalls P f args st Post) (hm : ∀ out st', Post out st' → Post' out st') : ACalls P f args st Post' :=
  ⟨h.ent, fun W F g w us hl hr inv => (h.run W F g w us hl hr inv).mono fun _ _ ⟨g', out, st', a, b, c, d⟩ => ⟨g', out, st', a, b, c, hm _ _ d⟩⟩
/-- Objects that a call knows nothing of. -/
theorem ACalls.frame {f : FuncId} {args : List AV} {s R : St} {Post : AOut → St → Prop} (h : ACalls P f args s Post) : ACalls P f args (s ++ R) fun out st' => ∃ s', st' = s' ++ R ∧ Post out s' :=
  ⟨h.ent, fun W F g w us hl hr inv => (h.run W (R ++ F) g w us hl hr (by rw [← List.append_assoc]; exact inv)).mono fun _ _ ⟨g', out, st', a, b, c, d⟩ => ⟨g', out, st' ++ R, a, b, by rw [List.append_assoc]; exact c, st', rfl, d⟩⟩
theorem ACalls.perm {f : FuncId} {args : List AV} {s t : St} {Post : AOut → St → Prop} (h : ACalls P f args s Post) (hp : s.Perm t) : ACalls P f args t Post :=
  ⟨h.ent, fun W F g w us hl hr inv => h.run W F g w us hl hr (inv.perm (List.Perm.append_right F hp))⟩
/-- A call that hands back a value and touches no object. -/
def Fn (P : Program) (f : FuncId) (args : List AV) (v : AV) : Prop := ACalls P f args [] fun out st' => out = .ret v ∧ st' = []
theorem Fn.use {f : FuncId} {args : List AV} {v : AV} (h : Fn P f args v) {Post : AOut → St → Prop} (k : Post (.ret v) st) : ACalls P f args st Post :=
  (ACalls.frame (R := st) h).mono fun out st' ⟨s', e, e1, e2⟩ => by subst e1; subst e2; subst e; exact k
end
end Go.Av

namespace Go.Av
open Go
theorem VIf.dec {p : Prop} [Decidable p] {A B : Prop} (t : p → A) (f : ¬p → B) : VIf (decide p) A B :=
  .mk (fun h => t (of_decide_eq_true h)) (fun h => f (of_decide_eq_false h))
theorem VIf.ndec {p : Prop} [Decidable p] {A B : Prop} (t : ¬p → A) (f : p → B) : VIf (!decide p) A B :=
  .mk (fun h => t (by simpa using h)) (fun h => f (by simpa using h))
/-- A choice that is known. -/
theorem VIf.yes {b : Bool} {A B : Prop} (e : b = true) (h : A) : VIf b A B := by subst e; exact .tt h
theorem VIf.no {b : Bool} {A B : Prop} (e : b = false) (h : B) : VIf b A B := by subst e; exact .ff h
theorem VInt.to {lo hi r wr : Int} {A : Int → Prop} (q : Int) (e : r = q) (h1 : lo ≤ q) (h2 : q ≤ hi) (h : A q) : VInt lo hi r wr A := by subst e; exact .fit h1 h2 h
theorem VIdx.to {i : Int} {n : Nat} {A : Nat → Prop} (j m : Nat) (h0 : i = (j : Int)) (hm : n = m) (h1 : j < m) (h : A j) : VIdx i n A := by subst hm; exact .at j h0 h1 h
attribute [simp] mulN_eq
end Go.Av

namespace Go.Av
open Go

section
variable {P : Program} {g : Gh} {st : St} {W w w' : World}
theorem Inv.below' (h : Inv W g st w) (k : RowKit.Below w.heap.size w w') : Inv W g st w' := by
  have hb : ∀ {b : Nat}, b < w.heap.size → w'.heap[b]? = w.heap[b]? := fun h => k.block _ h
  have ho : ∀ {b : Nat} {o : Obj}, w.heap[b]? = some o → w'.heap[b]? = some o := fun {b o} e => by
    rw [hb (Array.getElem?_eq_some_iff.1 e).1]; exact e
  refine ⟨fun b o u e => ?_, fun x hx => ?_, h.nodup, h.low, fun b n e => Nat.lt_of_lt_of_le (h.cap b n e) k.size, h.below.trans (k.mono ?_)⟩
  · have := h.mem b o u e
    unfold World.cell? at this ⊢
    cases hq : w.heap[b]? with
    | none => rw [hq] at this; simp at this
    | some ob => rw [ho hq]; rw [hq] at this; exact this
  · have := h.obj x hx
    unfold ObjR at this ⊢
    split at this
    · obtain ⟨us, T, lo, hi, h1, h2⟩ := this; exact ⟨us, T, lo, hi, ho h1, h2⟩
    · obtain ⟨us, vs, T, lo, hi, cap, h1, h2⟩ := this; exact ⟨us, vs, T, lo, hi, cap, ho h1, h2⟩
    · obtain ⟨es, clock, h1, h2⟩ := this; exact ⟨es, clock, ho h1, h2⟩
    · exact ho this
    · obtain ⟨es, h1, h2⟩ := this; exact ⟨es, ho h1, h2⟩
    · exact ho this
  · exact h.below.size
/-- A contract of the machine's: the old memory is as it was. -/
theorem Fn.of_calls {f : FuncId} {args : List AV} {v : AV} {fn : Func} (hf : P.funcs[f]? = some fn) (hb : fn.body.isSome = true) (hn : (fn.name == "runtime.NumGoroutine") = false)
    (h : ∀ (W w : World) (g : Gh) (us : List Value), Lay P W → RelL g false args us → RowKit.Below W.heap.size W w → Calls P f ⟨us⟩ w fun e w' => ∃ u, e = .returned u ∧ Rel g v u ∧ RowKit.Below w.heap.size w w') : Fn P f args v :=
  ⟨⟨fn, hf, hb, hn⟩, fun W F g w us hl hr inv => (h W w g us hl hr inv.below).mono fun _ w' ⟨u, e1, e2, e3⟩ =>
    ⟨g, .ret v, [], Gh.le_refl g, ⟨u, e1, e2⟩, inv.below' e3, rfl, rfl⟩⟩
theorem cell_now (k : RowKit.Below W.heap.size W w) {b o : Nat} {u : Value} (e : W.cell? ⟨b, o, none⟩ = some u) : w.cell? ⟨b, o, none⟩ = some u := by
  unfold World.cell? at e ⊢
  cases hq : W.heap[b]? with
  | none => rw [hq] at e; simp at e
  | some ob => rw [k.block b (Array.getElem?_eq_some_iff.1 hq).1]; exact e
theorem tab_now {name : String} {kd : IntKind} {zs : List Int} (k : RowKit.Below W.heap.size W w) (e : Lib.TabIs P W name kd zs) : Lib.TabIs P w name kd zs := by
  unfold Lib.TabIs World.var? at e ⊢
  cases hg : P.globalNamed name with
  | none => rw [hg] at e; cases e
  | some g =>
    rw [hg] at e
    simp only [Option.bind_some] at e ⊢
    cases hq : W.heap[g]? with
    | none => rw [hq] at e; cases e
    | some ob => rw [hq] at e; rw [k.block g (Array.getElem?_eq_some_iff.1 hq).1, hq]; exact e
/-- The tables, in a world that has grown. -/
theorem Lay.now (h : Lay P W) (k : RowKit.Below W.heap.size W w) {a b : Nat} (ha : P.globalNamed ("unicode" ++ slash ++ "utf8.first") = some a) (hb : P.globalNamed ("unicode" ++ slash ++ "utf8.acceptRanges") = some b) : Lib.Utf8Tabs a b w := by
  obtain ⟨h1, h2⟩ := h.1 a b ha hb
  exact ⟨fun c hc => cell_now k (h1 c hc), fun i hi => ⟨cell_now k (h2 i hi).1, cell_now k (h2 i hi).2⟩⟩
theorem Lay.space (h : Lay P W) (k : RowKit.Below W.heap.size W w) {a : Nat} (ha : P.globalNamed "strings.asciiSpace" = some a) : Lib.TabIs P w "strings.asciiSpace" .u8 Lib.asciiSpaceTab :=
  tab_now k (h.2.1 a ha)
end
end Go.Av

namespace Go.Av
open Go
section
variable {P : Program} {W : World}
/-- All that lies in a world is not written any more. -/
def gh0 (W : World) : Gh := ⟨fun b o => W.cell? ⟨b, o, none⟩, fun _ => none⟩
theorem Inv.start (W : World) : Inv W (gh0 W) [] W :=
  ⟨fun _ _ _ h => h, fun _ h => absurd h (by simp), List.nodup_nil, fun _ h => absurd h (by simp), fun _ _ h => by (cases h), RowKit.Below.refl _ _⟩
theorem ACalls.row {f : FuncId} {args : List AV} {Post : AOut → St → Prop} (h : ACalls P f args [] Post) {us : List Value} (hl : Lay P W) (hr : RelL (gh0 W) false args us) :
    Calls P f ⟨us⟩ W fun e w' => ∃ g' out st', OutR g' out e ∧ Inv W g' st' w' ∧ Post out st' :=
  (h.run W [] (gh0 W) W us hl hr (Inv.start W)).mono fun _ _ ⟨g', out, st', _, h2, h3, h4⟩ => ⟨g', out, st', h2, by simpa using h3, h4⟩
theorem Fn.row {f : FuncId} {args : List AV} {v : AV} (h : Fn P f args v) {us : List Value} (hl : Lay P W) (hr : RelL (gh0 W) false args us) :
    Calls P f ⟨us⟩ W fun e w' => ∃ g' u, e = .returned u ∧ Rel g' v u ∧ RowKit.Below W.heap.size W w' :=
  (ACalls.row h hl hr).mono fun _ _ ⟨g', out, st', h2, h3, h4, h5⟩ => by
    subst h4
    obtain ⟨u, rfl, hu⟩ := h2
    exact ⟨g', u, rfl, hu, h3.below⟩
end
end Go.Av

namespace Go.Av
open Go
/-- What is left. -/
structure Left (R : Prop) : Prop where
  out : R
/-- On, as far as it is plain. -/
theorem go {G R : Prop} (h : R) (imp : Left R → G := by
  intro h
  (conv => whnf)
  repeat ((first | refine VGd.mk rfl ?_ | refine VDraw.quiet rfl ?_ | refine VGo.at _ rfl ?_ | refine VGo.out rfl ?_ | refine VCut.cut ?_ | refine VOne.mk rfl ?_ | refine VIf.tt ?_ | refine VIf.ff ?_ | refine VFz.nil ?_ | refine VFz.nils ?_ | refine VFz.full ?_ | refine VFz.own 0 _ _ _ rfl (by simp) ?_ | refine VFz.own 1 _ _ _ rfl (by simp) ?_ | refine VFz.own 2 _ _ _ rfl (by simp) ?_ | refine VFz.keep ?_ | refine VObj.mk 0 _ rfl ?_ | refine VObj.mk 1 _ rfl ?_ | refine VObj.mk 2 _ rfl ?_ | refine VObj.mk 3 _ rfl ?_ | refine VObj.mk 4 _ rfl ?_ | refine VTake.mk _ rfl rfl ?_ | refine VNth.mk _ rfl ?_ | (apply VInt.to; focus (simp only [Int.reduceAdd, Int.reduceSub, Int.reduceMul]; rfl); focus decide; focus decide) | refine VInt.fit (by omega) (by omega) ?_ | refine VGd.mk (by omega) ?_ | refine VGd.mk (by decide) ?_ | refine VIdx.at _ rfl (by first | omega | decide | (simp; omega) | (simp; done)) ?_ | (apply VQ.mk; focus ((conv => whnf); (repeat ((first | refine VGd.mk rfl ?_ | refine VOne.mk rfl ?_ | refine VIf.tt ?_ | refine VIf.ff ?_ | refine VFz.nil ?_ | refine VFz.keep ?_ | refine VObj.mk 0 _ rfl ?_ | refine VObj.mk 1 _ rfl ?_ | refine VObj.mk 2 _ rfl ?_ | refine VObj.mk 3 _ rfl ?_ | refine VTake.mk _ rfl rfl ?_ | refine VNth.mk _ rfl ?_ | (apply VInt.to; focus (simp only [Int.reduceAdd, Int.reduceSub, Int.reduceMul]; rfl); focus decide; focus decide) | refine VInt.fit (by omega) (by omega) ?_ | refine VGd.mk (by omega) ?_ | refine VIdx.at _ rfl (by first | omega | decide | (simp; omega) | (simp; done)) ?_); (conv => whnf))); exact ⟨rfl, rfl⟩))); (conv => whnf))
  exact h.out) : G := imp ⟨h⟩
/-- A choice, and what is known on either road. -/
class Forks (b : Bool) (p q : outParam Prop) : Prop where
  t : b = true → p
  f : b = false → q
instance (priority := 100) Forks.any {b : Bool} : Forks b (b = true) (b = false) := ⟨id, id⟩
instance Forks.dec {p : Prop} [Decidable p] : Forks (decide p) p (¬p) := ⟨of_decide_eq_true, of_decide_eq_false⟩
instance Forks.ndec {p : Prop} [Decidable p] : Forks (!decide p) (¬p) p := ⟨fun h => by simpa using h, fun h => by simpa using h⟩
theorem fork {b : Bool} {A B p q : Prop} [e : Forks b p q] (t : p → A) (f : q → B) : VIf b A B := .mk (fun h => t (e.t h)) (fun h => f (e.f h))
end Go.Av

namespace Go.Av
open Go

section
variable {P : Program} {ops : Array Oper} {Q Q' : Exit → Act → World → Prop} {a : Act} {w : World}
theorem LetsOut.mono' (hq : ∀ e a w, Q e a w → Q' e a w) (h : LetsOut Q) : LetsOut Q' := let ⟨a, w, k⟩ := h; ⟨a, w, hq _ _ _ k⟩
theorem Oper.wp_mono2 {o : Oper} {K K' : Act → World → Prop} (h : ∀ a w, K a w → K' a w) (hq : ∀ e a w, Q e a w → Q' e a w) (hh : o.wp P a w K Q) : o.wp P a w K' Q' := by
  unfold Oper.wp at *
  generalize (execOp a.eval o).run P w = r at *
  cases r with
  | ok n w' =>
    cases n <;> simp only [Oper.upon] at hh ⊢ <;>
      first
        | exact h _ _ hh
        | exact Calls.mono hh (fun e w'' he => by cases e <;> first | exact h _ _ he | exact hq _ _ _ he | exact LetsOut.mono' hq he)
        | exact Rows.mono hh (fun _ _ he => h _ _ he)
  | halt x w' => cases x <;> simp only [Oper.upon] at hh ⊢ <;> first | exact hq _ _ _ hh | exact hh
def thenL (P : Program) (ops : Array Oper) (Q : Exit → Act → World → Prop) (rest : List Oper) : Exit → Act → World → Prop
  | .normal, a, w => wpList P ops Q rest a w
  | e, a, w => Q e a w
theorem wpList_split {rest : List Oper} : ∀ {pre : List Oper} {a : Act} {w : World}, wpList P ops (thenL P ops Q rest) pre a w → (LetsOut (thenL P ops Q rest) → LetsOut Q) → wpList P ops Q (pre ++ rest) a w
  | [], a, w, h, _ => h
  | o :: pre, a, w, h, hl => by
    rw [List.cons_append]
    unfold wpList at h ⊢
    split
    · rename_i hw
      rw [if_pos hw] at h
      rcases h with h | ⟨h1, h2⟩
      · unfold Oper.wp at h ⊢
        left
        generalize (execOp a.eval o).run P w = r at *
        cases r with
        | ok n w' =>
          cases n <;> simp only [Oper.upon] at h ⊢ <;>
            first
              | exact wpList_split h hl
              | exact Calls.mono h (fun e w'' he => by cases e <;> first | exact wpList_split he hl | exact he | exact hl he)
              | exact Rows.mono h (fun _ _ he => wpList_split he hl)
        | halt x w' => cases x <;> simp only [Oper.upon] at h ⊢ <;> exact h
      · exact .inr ⟨h1, hl h2⟩
    · rename_i hw
      rw [if_neg hw] at h
      exact wpList_split h hl
end

/-- A deferred call, and what it is handed. -/
abbrev Dfr := Option (Nat × List AV)
def DR (g : Gh) (D : Dfr) (ds : List Deferred) : Prop :=
  match D with
  | none => ds = []
  | some (f, args) => ∃ cap us, ds = [⟨.fn (.func f) cap, us⟩] ∧ RelL g false args (us ++ cap).toList
theorem DR.mono {g h : Gh} (le : Gh.le g h) {D : Dfr} {ds : List Deferred} (r : DR g D ds) : DR h D ds := by
  unfold DR at *
  split at r
  · exact r
  · obtain ⟨cap, us, e, hr⟩ := r; exact ⟨cap, us, e, RelL.mono le _ _ hr⟩

/-- A list of operations that ends in a defer. -/
def lastD (o : Oper) : Option (List Oper × Call × Option Tmp) :=
  match o.guard with
  | none => match o.op with
    | .defer c => some ([], c, o.dst)
    | _ => none
  | some _ => none
def splitD : List Oper → Option (List Oper × Call × Option Tmp)
  | [] => none
  | o :: r => match splitD r with
    | some x => some (o :: x.1, x.2)
    | none => match r with
      | [] => lastD o
      | _ => none
theorem lastD_spec {o : Oper} {p : List Oper} {c : Call} {d : Option Tmp} (h : lastD o = some (p, c, d)) : p = [] ∧ o.guard = none ∧ o.op = .defer c ∧ o.dst = d := by
  unfold lastD at h
  split at h
  · rename_i hg
    split at h
    · rename_i c' ho
      simp only [Option.some.injEq, Prod.mk.injEq] at h
      obtain ⟨rfl, rfl, rfl⟩ := h
      exact ⟨rfl, hg, ho, rfl⟩
    · cases h
  · cases h
theorem splitD_spec : ∀ (l : List Oper) {p : List Oper} {c : Call} {d : Option Tmp}, splitD l = some (p, c, d) → ∃ o, l = p ++ [o] ∧ o.guard = none ∧ o.op = .defer c ∧ o.dst = d := by
  intro l
  induction l with
  | nil => intro p c d h; cases h
  | cons o r ih =>
    intro p c d h
    unfold splitD at h
    split at h
    · rename_i x hx
      simp only [Option.some.injEq, Prod.mk.injEq] at h
      obtain ⟨rfl, hx2⟩ := h
      obtain ⟨x1, x2⟩ := x
      dsimp only at hx2
      subst hx2
      obtain ⟨o', e, h1⟩ := ih hx
      exact ⟨o', by rw [e]; rfl, h1⟩
    · split at h
      · obtain ⟨rfl, h1⟩ := lastD_spec h
        exact ⟨o, rfl, h1⟩
      · cases h
def deferK (n : Nat) (c : Call) (dst : Option Tmp) (env : Env) (K : Dfr → Env → Prop) : Prop :=
  match c.callee with
  | .value f => evalK env f fun f => evalsK env c.args.toList fun vs => match f with
    | .fn (.func f) first cap => putK n dst (.tup []) env fun env' => K (some (f, first ++ vs ++ cap)) env'
    | _ => False
  | _ => False

def regD (P : Program) (tb : Tab) (n : Nat) (id : Nat) (ops : Array Oper) (D : Dfr) (Q : AExit → Env → St → Dfr → Prop) (env : Env) (st : St) : Prop :=
  match splitD ops.toList with
  | none => W P tb n (.region id ops false) (fun e env st => Q e env st D) env st
  | some x => match D with
    | none => Wops P tb n ops.toList (fun v env st => Q (.panic v) env st none) x.1 env st fun env st => deferK n x.2.1 x.2.2 env fun D env => Q .normal env st D
    | some _ => False
/-- As W, for code that defers one call at most. -/
noncomputable def Wd (P : Program) (tb : Tab) (n : Nat) (c : Code) : Dfr → (AExit → Env → St → Dfr → Prop) → Env → St → Prop :=
  Code.rec (motive := fun _ => Dfr → (AExit → Env → St → Dfr → Prop) → Env → St → Prop)
    (fun D Q env st => Q .normal env st D)
    (fun id ops d D Q env st => match d with
      | true => W P tb n (.region id ops true) (fun e env st => Q e env st D) env st
      | false => regD P tb n id ops D Q env st)
    (fun _ _ wa wb D Q env st => wa D (fun e env st D => match e with
      | .normal => wb D Q env st
      | e => Q e env st D) env st)
    (fun c x y _ _ D Q env st => W P tb n (.cond c x y) (fun e env st => Q e env st D) env st)
    (fun id x _ D Q env st => W P tb n (.block id x) (fun e env st => Q e env st D) env st)
    (fun x _ D Q env st => W P tb n (.loop x) (fun e env st => Q e env st D) env st)
    (fun f ps x y _ _ D Q env st => W P tb n (.rangeFunc f ps x y) (fun e env st => Q e env st D) env st)
    (fun id D Q env st => Q (.exit id) env st D)
    (fun x _ D Q env st => W P tb n (.scope x) (fun e env st => Q e env st D) env st)
    (fun _ D Q env st => Q .normal env st D)
    (fun l D Q env st => Q (.goto l) env st D)
    (fun D Q env st => Q .ret env st D)
    (fun _ _ _ _ _ => False) c

def PostD (W : World) (n : Nat) (F : St) (g : Gh) (Q : AExit → Env → St → Dfr → Prop) (e : Exit) (a' : Act) (w' : World) : Prop :=
  ∃ g' ae env' st' D', Gh.le g g' ∧ ExitR g' ae e ∧ EnvR n g' env' a' ∧ Inv W g' (st' ++ F) w' ∧ DR g' D' a'.defers ∧ Q ae env' st' D'
theorem PostC.noOut {W : World} {n : Nat} {F : St} {g : Gh} {ws : List Nat} {a : Act} {Q : AExit → Env → St → Prop} : ¬ LetsOut (PostC W n F g ws a Q) := by
  rintro ⟨a', w', g', ae, env', st', _, he, _⟩
  cases ae <;> simp [ExitR] at he

section
variable {P : Program} {tb : Tab} {n : Nat} {W : World} {F : St} {g : Gh} {env : Env} {st : St} {a : Act} {w : World}
theorem deferK_sound {c : Call} {dst : Option Tmp} {K : Dfr → Env → Prop} (h : deferK n c dst env K) {o : Oper} (ho : o.op = .defer c) (hd : o.dst = dst) (hds : a.defers = []) (r : EnvR n g env a) :
    ∃ d D env', (execOp a.eval o).run P w = .ok (.defer d) w ∧ EnvR n g env' ({ a with defers := d :: a.defers }.put dst undef) ∧ DR g D (d :: a.defers) ∧ K D env' := by
  unfold deferK at h
  split at h
  · rename_i f hc
    obtain ⟨v, h1, h2⟩ := evalK_sound r h
    obtain ⟨vs, h3, h4⟩ := evalsK_sound r h2
    split at h4
    · rename_i k first cap
      obtain ⟨us, ws, e, hf, hcp⟩ := h1
      have r' : EnvR n g env { a with defers := (⟨.fn (.func k) ⟨ws⟩, ⟨us⟩ ++ c.args.map a.eval⟩ : Deferred) :: a.defers } := ⟨r.size, r.look⟩
      obtain ⟨env', re, hK⟩ := putK_sound h4 r' (u := undef) ⟨[], rfl, rfl⟩
      refine ⟨_, _, env', ?_, re, ?_, hK⟩
      · obtain ⟨odst, oop, oty, opos, oafter, oguard⟩ := o
        dsimp only at ho
        subst ho
        simp only [execOp, resolve, hc, Sem.run_bind, e, Deferred.ofValue, Sem.run_pure, Result.andThen_ok]
      · rw [hds]
        refine ⟨_, _, rfl, ?_⟩
        have : ((⟨us⟩ : Array Value) ++ c.args.map a.eval ++ (⟨ws⟩ : Array Value)).toList = us ++ c.args.toList.map a.eval ++ ws := by simp
        rw [this]
        exact (hf.append h3).append hcp
    · exact h4.elim
  · exact h.elim

theorem Wd_sound (hp : ProgAt P tb W) : ∀ (c : Code) {D : Dfr} {Q : AExit → Env → St → Dfr → Prop} {g : Gh} {env : Env} {st : St} {a : Act} {w : World}, Wd P tb n c D Q env st → EnvR n g env a → Inv W g (st ++ F) w → DR g D a.defers →
    c.wp P (PostD W n F g Q) a w := by
  intro c
  have flat : ∀ (c : Code) {D : Dfr} {Q : AExit → Env → St → Dfr → Prop} {g : Gh} {env : Env} {st : St} {a : Act} {w : World}, Av.W P tb n c (fun e env st => Q e env st D) env st → EnvR n g env a → Inv W g (st ++ F) w → DR g D a.defers →
      c.wp P (PostD W n F g Q) a w := by
    intro c D Q g env st a w h r inv hd
    refine wp_mono (W_sound hp c h r inv) ?_
    intro e a' w' ⟨g', ae, env', st', le, he, r', inv', hs, hq⟩
    exact ⟨g', ae, env', st', D, le, he, r', inv', by rw [hs.defers]; exact hd.mono le, hq⟩
  induction c with
  | skip => intro D Q g env st a w h r inv hd; exact wp_skip ⟨g, .normal, env, st, D, Gh.le_refl g, rfl, r, inv, hd, h⟩
  | region id ops d =>
    intro D Q g env st a w h r inv hd
    cases d with
    | true => exact flat _ h r inv hd
    | false =>
      have h : regD P tb n id ops D Q env st := h
      unfold regD at h
      split at h
      · exact flat _ h r inv hd
      · rename_i x hsp
        obtain ⟨pre, c, dst⟩ := x
        dsimp only at h
        split at h
        · obtain ⟨o, hl, hg, ho, hdst⟩ := splitD_spec _ hsp
          refine wp_region_list ?_
          rw [hl]
          have hm : ∀ x ∈ pre, x ∈ ops.toList := fun x hx => by rw [hl]; exact List.mem_append_left _ hx
          have hds : a.defers = [] := hd
          have pre_ok := Wops_sound (W := W) (F := F) hp (ops := ops) (Q := fun e env st => match e with
              | .normal => deferK n c dst env fun D env => Q .normal env st D
              | e => Q e env st none) (a0 := a) (g0 := g) (l := pre) hm h r inv (Gh.le_refl g) (.refl _ _)
          have lift : ∀ (l : List Oper) (a1 : Act) (w1 : World), wpList P ops (PostC W n F g (writesOps ops.toList) a (fun e env st => match e with
              | .normal => deferK n c dst env fun D env => Q .normal env st D
              | e => Q e env st none)) l a1 w1 → wpList P ops (thenL P ops (PostD W n F g Q) [o]) l a1 w1 := by
            intro l
            have hq : ∀ e a1 w1, PostC W n F g (writesOps ops.toList) a (fun e env st => match e with
              | .normal => deferK n c dst env fun D env => Q .normal env st D
              | e => Q e env st none) e a1 w1 → thenL P ops (PostD W n F g Q) [o] e a1 w1 := by
              intro e a1 w1 ⟨g', ae, env', st', le, he, r', inv', hs, hq⟩
              have hds1 : a1.defers = [] := by rw [hs.defers, hds]
              cases ae with
              | normal =>
                cases he
                obtain ⟨d, D', env2, hrun, r2, hD, hK⟩ := deferK_sound (P := P) (w := w1) hq ho hdst hds1 r'
                show wpList P ops _ [o] a1 w1
                unfold wpList
                rw [if_pos (by simp [Region.wanted, hg])]
                left
                unfold Oper.wp
                rw [hrun, Oper.upon_defer]
                unfold wpList
                have hput : (({ a1 with defers := d :: a1.defers } : Act).put o.dst undef).defers = d :: a1.defers := by
                  cases o.dst <;> rfl
                exact ⟨g', .normal, env2, st', D', le, rfl, by rw [hdst]; exact r2, inv', by rw [hput]; exact hD, hK⟩
              | exit id => cases he; exact ⟨g', .exit id, env', st', none, le, rfl, r', inv', hds1, hq⟩
              | goto id => cases he; exact ⟨g', .goto id, env', st', none, le, rfl, r', inv', hds1, hq⟩
              | ret => cases he; exact ⟨g', .ret, env', st', none, le, rfl, r', inv', hds1, hq⟩
              | panic v => obtain ⟨u, rfl, hu⟩ := he; exact ⟨g', .panic v, env', st', none, le, ⟨u, rfl, hu⟩, r', inv', hds1, hq⟩
            induction l with
            | nil => intro a1 w1 h; exact hq _ _ _ h
            | cons x l ih =>
              intro a1 w1 h
              unfold wpList at h ⊢
              split
              · rename_i hw
                rw [if_pos hw] at h
                rcases h with h | ⟨_, h⟩
                · exact .inl (Oper.wp_mono2 ih hq h)
                · exact absurd h PostC.noOut
              · rename_i hw
                rw [if_neg hw] at h
                exact ih _ _ h
          refine wpList_split (lift _ _ _ pre_ok) ?_
          rintro ⟨a1, w1, hx⟩
          exact ⟨a1, w1, hx⟩
        · exact h.elim
  | seq x y ihx ihy =>
    intro D Q g env st a w h r inv hd
    refine wp_seq (wp_mono (ihx (Q := fun e env st D => match e with
      | .normal => Wd P tb n y D Q env st
      | e => Q e env st D) h r inv hd) ?_)
    intro e a' w' ⟨g', ae, env', st', D', le, he, r', inv', hd', hq⟩
    cases ae with
    | normal =>
      cases he
      refine wp_mono (ihy hq r' inv' hd') ?_
      intro e2 a2 w2 ⟨g2, ae2, env2, st2, D2, le2, he2, r2, inv2, hd2, hq2⟩
      exact ⟨g2, ae2, env2, st2, D2, Gh.le_trans le le2, he2, r2, inv2, hd2, hq2⟩
    | exit id => cases he; exact ⟨g', .exit id, env', st', D', le, rfl, r', inv', hd', hq⟩
    | goto id => cases he; exact ⟨g', .goto id, env', st', D', le, rfl, r', inv', hd', hq⟩
    | ret => cases he; exact ⟨g', .ret, env', st', D', le, rfl, r', inv', hd', hq⟩
    | panic v => obtain ⟨u, rfl, hr⟩ := he; exact ⟨g', .panic v, env', st', D', le, ⟨u, rfl, hr⟩, r', inv', hd', hq⟩
  | cond c x y _ _ => intro D Q g env st a w h r inv hd; exact flat _ h r inv hd
  | block id x _ => intro D Q g env st a w h r inv hd; exact flat _ h r inv hd
  | loop x _ => intro D Q g env st a w h r inv hd; exact flat _ h r inv hd
  | rangeFunc f ps x y _ _ => intro D Q g env st a w h r inv hd; exact flat _ h r inv hd
  | exit id => intro D Q g env st a w h r inv hd; exact wp_exit ⟨g, .exit id, env, st, D, Gh.le_refl g, rfl, r, inv, hd, h⟩
  | scope x _ => intro D Q g env st a w h r inv hd; exact flat _ h r inv hd
  | label l => intro D Q g env st a w h r inv hd; exact wp_label ⟨g, .normal, env, st, D, Gh.le_refl g, rfl, r, inv, hd, h⟩
  | goto l => intro D Q g env st a w h r inv hd; exact wp_goto ⟨g, .goto l, env, st, D, Gh.le_refl g, rfl, r, inv, hd, h⟩
  | ret => intro D Q g env st a w h r inv hd; exact wp_ret ⟨g, .ret, env, st, D, Gh.le_refl g, rfl, r, inv, hd, h⟩
  | refuse why => intro D Q g env st a w h r inv hd; exact h.elim
end
end Go.Av

namespace Go.Av
open Go

/-- How the frame below stands: it returns, or it panics with a value. -/
def ModeR (g : Gh) (m : Option AV) (u : FrameMode) : Prop :=
  match m with
  | none => u = .returning
  | some v => ∃ uv, u = .panicking [{ v := uv, recovered := false }] ∧ Rel g v uv
/-- A deferred call, where the frame below returns ('none') or panics: it ends the panic. -/
structure DCalls (P : Program) (f : FuncId) (args : List AV) (st : St) (m : Option AV) (K : St → Prop) : Prop where
  ent : ∃ fn, P.funcs[f]? = some fn ∧ fn.body.isSome = true ∧ (fn.name == "runtime.NumGoroutine") = false
  run : ∀ (W : World) (F : St) (g : Gh) (w : World) (us : List Value) (u : FrameMode), Lay P W → RelL g false args us → Inv W g (st ++ F) w → ModeR g m u →
    CallsD P f ⟨us⟩ u w fun e u' w' => ∃ g' st', (∃ x, e = .returned x) ∧ Gh.le g g' ∧ settle u' = .returning ∧ Inv W g' (st' ++ F) w' ∧ K st'
def endWd (P : Program) (tb : Tab) (rs : List ResultVar) (Post : AOut → St → Prop) (e : AExit) (env : Env) (st : St) (D : Dfr) : Prop :=
  match D with
  | none => endW tb rs Post e env st
  | some x => match e with
    | .normal => DCalls P x.1 x.2 st none fun st => endW tb rs Post .ret env st
    | .ret => DCalls P x.1 x.2 st none fun st => endW tb rs Post .ret env st
    | .panic v => DCalls P x.1 x.2 st (some v) fun st => endW tb rs Post .ret env st
    | _ => False

section
variable {P : Program} {tb : Tab} {n : Nat} {W : World} {F : St} {g : Gh} {env : Env} {st : St} {a : Act} {w : World}
theorem endW_ret (hp : ProgOk P tb) {fn : Func} {rs : List ResultVar} {Post : AOut → St → Prop} (hrs : fn.results = ⟨rs⟩) (h : endW tb rs Post .ret env st) (r : EnvR n g env a) (inv : Inv W g (st ++ F) w) :
    ∃ v, (results fn a.tmps).run P w = .ok v w ∧ ∃ g' out st', Gh.le g g' ∧ OutR g' out (.returned v) ∧ Inv W g' (st' ++ F) w ∧ Post out st' := by
  obtain ⟨vs, us', h1, h2, h3⟩ := resK_sound hp h r inv
  obtain ⟨g2, vs2, st2, le2, h4, inv2, h5⟩ := VFz.sound h3 h2 inv
  refine ⟨_, results_run hrs h1, ?_⟩
  unfold tupK at h5
  split at h5
  · rename_i v
    obtain ⟨u, rfl, hu, _⟩ := h4.one
    obtain ⟨st3, hsel, hpost⟩ := h5
    exact ⟨g2, .ret v, st3, le2, ⟨u, rfl, hu⟩, inv2.sel hsel, hpost⟩
  · rename_i hne
    obtain ⟨st3, hsel, hpost⟩ := h5
    refine ⟨g2, .ret (.tup vs2), st3, le2, ⟨.tuple ⟨us'⟩, ?_, us', rfl, h4⟩, inv2.sel hsel, hpost⟩
    have hl := h4.length
    split
    · rename_i u
      cases vs2 with
      | nil => simp at hl
      | cons v vs => cases vs with
        | nil => exact absurd rfl (hne v)
        | cons _ _ => simp at hl
    · rfl
theorem endW_panic {rs : List ResultVar} {Post : AOut → St → Prop} {v : AV} (h : endW tb rs Post (.panic v) env st) (inv : Inv W g (st ++ F) w) {u : Value} (hu : Rel g v u) :
    ∃ g' out st', Gh.le g g' ∧ OutR g' out (.panicked [{ v := u, recovered := false }]) ∧ Inv W g' (st' ++ F) w ∧ Post out st' := by
  obtain ⟨st3, hsel, hpost⟩ := h
  exact ⟨g, .panic v, st3, Gh.le_refl g, ⟨u, rfl, hu⟩, inv.sel hsel, hpost⟩

/-- A function that defers one call, out of its body. -/
theorem ACalls.of_Wd (hp : ProgOk P tb) {f : FuncId} {fn : Func} {c : Code} {rs : List ResultVar} {args : List AV} {Post : AOut → St → Prop} (hf : P.funcs[f]? = some fn) (hb : fn.body = some c)
    (hname : (fn.name == "runtime.NumGoroutine") = false) (hrs : fn.results = ⟨rs⟩) (hn : fn.ntmps = n) (hlen : args.length ≤ n)
    (h : Wd P tb n c none (endWd P tb rs Post) (bindP 0 args) st) : ACalls P f args st Post where
  ent := ⟨fn, hf, by simp [hb], hname⟩
  run W F g w us hl hr inv := by
    refine calls_of_wp_defers hf hb ?_
    have hul : us.length = args.length := hr.length
    have r0 : EnvR n g (bindP 0 args) { tmps := (⟨us⟩ : Array Value) ++ Array.replicate (fn.ntmps - us.length) undef, defers := [] } := by
      rw [hn]; exact EnvR.start hr (by omega)
    refine wp_mono (Wd_sound { hp with lay := hl } c h r0 inv (show DR g none [] from rfl)) ?_
    intro e a' w' ⟨g', ae, env', st', D, le, he, r', inv', hd, hq⟩
    have last : ∀ (m : Option AV) (u : FrameMode) (x : Nat × List AV), DR g' (some x) a'.defers → ModeR g' m u → u ≠ .run → DCalls P x.1 x.2 st' m (fun st => endW tb rs Post .ret env' st) →
        Leaves P fn a'.tmps (fun e w' => ∃ g' out st', Gh.le g g' ∧ OutR g' out e ∧ Inv W g' (st' ++ F) w' ∧ Post out st') a'.defers u w' := by
      intro m u x hd hm hu hc
      obtain ⟨cap, ds, e1, hr2⟩ := hd
      rw [e1]
      obtain ⟨fd, hfd, hbd, hnm⟩ := hc.ent
      refine ⟨hu, .func x.1, cap, x.1, ds ++ cap, rfl, ?_, ?_⟩
      · have hb2 : fd.body.isNone = false := by cases hq : fd.body <;> simp_all
        simp only [invoke, callFunc, Sem.run_bind, run_program, hfd, hnm, Bool.false_eq_true, if_false, hb2, Sem.run_pure, Result.andThen_ok]
      · intro c cs hcm
        obtain ⟨e, u', w2, fr, hR, hrest⟩ := hc.run W F g' w' (ds ++ cap).toList u hl hr2 inv' hm c cs hcm
        refine ⟨e, u', w2, fr, ?_, hrest⟩
        obtain ⟨g2, st2, ⟨x', rfl⟩, le2, hset, inv2, hk⟩ := hR
        show Leaves P fn a'.tmps _ [] (settle u') w2
        rw [hset]
        obtain ⟨v, h1, g3, out, st3, le3, h2, h3, h4⟩ := endW_ret hp hrs hk (r'.mono le2) inv2
        exact ⟨v, h1, g3, out, st3, Gh.le_trans le (Gh.le_trans le2 le3), h2, h3, h4⟩
    cases D with
    | none =>
      have hd0 : a'.defers = [] := hd
      have fin : endW tb rs Post .ret env' st' → Leaves P fn a'.tmps (fun e w' => ∃ g' out st', Gh.le g g' ∧ OutR g' out e ∧ Inv W g' (st' ++ F) w' ∧ Post out st') a'.defers .returning w' := by
        intro hq
        rw [hd0]
        obtain ⟨v, h1, g3, out, st3, le3, h2, h3, h4⟩ := endW_ret hp hrs hq r' inv'
        exact ⟨v, h1, g3, out, st3, Gh.le_trans le le3, h2, h3, h4⟩
      cases ae with
      | normal => cases he; exact fin hq
      | ret => cases he; exact fin hq
      | exit id => exact hq.elim
      | goto id => exact hq.elim
      | panic v =>
        obtain ⟨u, rfl, hu⟩ := he
        show Leaves P fn a'.tmps _ a'.defers _ w'
        rw [hd0]
        obtain ⟨g3, out, st3, le3, h2, h3, h4⟩ := endW_panic (tb := tb) (env := env') (rs := rs) hq inv' hu
        exact ⟨g3, out, st3, Gh.le_trans le le3, h2, h3, h4⟩
    | some x =>
      cases ae with
      | normal => cases he; exact last none .returning x hd rfl (by simp) hq
      | ret => cases he; exact last none .returning x hd rfl (by simp) hq
      | exit id => exact hq.elim
      | goto id => exact hq.elim
      | panic v =>
        obtain ⟨u, rfl, hu⟩ := he
        exact last (some v) _ x hd ⟨u, rfl, hu⟩ (by simp) hq
end
end Go.Av
