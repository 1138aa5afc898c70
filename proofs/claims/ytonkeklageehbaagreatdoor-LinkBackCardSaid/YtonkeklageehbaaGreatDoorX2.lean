/- Soundness of W, fourth part: comparisons, conversions, new values. Conditions: as each says. Soundness of W, fifth part: numbers and texts, conversions, new values, slices. Conditions: as each says. Soundness of W, sixth part: structs and rows that are written out. Conditions: as each says. Soundness of W, seventh part: append. Conditions: as each says. Soundness of W, eighth part: slices, fields, places, texts, assertions, calls. Conditions: as each says. -/
import Derived.Test.YtonkeklageehbaaGreatDoorX1
import Derived.Laws.StructEq
import Derived.Laws.IdiomStrings
import Derived.Laws.BytesArg
import Derived.Laws.Tables
set_option linter.all false
set_option maxRecDepth 20000
namespace Go.Av
open Go

section
variable {P : Program} {tb : Tab} {n : Nat} {W : World} {F : St} {g : Gh} {env : Env} {st : St} {a : Act} {w : World} {K Kp : AV → St → Prop}

theorem intBin_sound {op : BinOp} {kd : IntKind} {x y : Int} {k : AV → Prop} (h : intBin op kd x y k) (hop1 : op ≠ .shl) (hop2 : op ≠ .shr) (t : TypeId) (w : World) :
    ∃ u v, (binOp op t (.int kd x) (.int kd y)).run P w = .ok u w ∧ (∀ g, Rel g v u) ∧ k v := by
  cases op <;> simp only [intBin] at h <;> try exact h.elim
  case add => exact ⟨.int kd (kd.wrap (x + y)), .int kd (kd.wrap (x + y)), by simp [binOp, Op.intArith], fun _ => rfl, intK_sound h⟩
  case sub => exact ⟨.int kd (kd.wrap (x - y)), .int kd (kd.wrap (x - y)), by simp [binOp, Op.intArith], fun _ => rfl, intK_sound h⟩
  case mul => exact ⟨.int kd (kd.wrap (x * y)), .int kd (kd.wrap (x * y)), by simp [binOp, Op.intArith], fun _ => rfl, intK_sound h⟩
  case quo => obtain ⟨h0, h⟩ := h; exact ⟨.int kd (kd.wrap (x.tdiv y)), .int kd (kd.wrap (x.tdiv y)), by simp [binOp, Op.intDiv, h0], fun _ => rfl, intK_sound h⟩
  case rem => obtain ⟨h0, h⟩ := h; exact ⟨.int kd (x.tmod y), .int kd (x.tmod y), by simp [binOp, Op.intDiv, h0], fun _ => rfl, h⟩
  case eql => exact ⟨.bool (x == y), .bool (decide (x = y)), by simp [binOp, Op.intCmp], fun _ => by simp only [Rel]; rw [show (x == y) = decide (x = y) by rw [Bool.eq_iff_iff]; simp], h⟩
  case neq => exact ⟨.bool (x != y), .bool (!decide (x = y)), by simp [binOp, Op.intCmp], fun _ => by simp only [Rel]; rw [show (x != y) = !decide (x = y) by rw [Bool.eq_iff_iff]; simp], h⟩
  case lss => exact ⟨.bool (decide (x < y)), .bool (decide (x < y)), by simp [binOp, Op.intCmp], fun _ => rfl, h⟩
  case leq => exact ⟨.bool (decide (x ≤ y)), .bool (decide (x ≤ y)), by simp [binOp, Op.intCmp], fun _ => rfl, h⟩
  case and => exact ⟨.int kd (kd.wrap ((BitVec.ofInt kd.bits x &&& BitVec.ofInt kd.bits y).toNat)), .int kd (kd.wrap ((BitVec.ofInt kd.bits x &&& BitVec.ofInt kd.bits y).toNat)), by simp [binOp, Op.intBits], fun _ => rfl, h⟩
  case or => exact ⟨.int kd (kd.wrap ((BitVec.ofInt kd.bits x ||| BitVec.ofInt kd.bits y).toNat)), .int kd (kd.wrap ((BitVec.ofInt kd.bits x ||| BitVec.ofInt kd.bits y).toNat)), by simp [binOp, Op.intBits], fun _ => rfl, h⟩
  case gtr => exact ⟨.bool (decide (y < x)), .bool (decide (y < x)), by simp [binOp, Op.intCmp], fun _ => rfl, h⟩
  case geq => exact ⟨.bool (decide (y ≤ x)), .bool (decide (y ≤ x)), by simp [binOp, Op.intCmp], fun _ => rfl, h⟩

theorem strBin_sound {op : BinOp} {x y : List UInt8} {k : AV → Prop} (h : strBin op x y k) (t : TypeId) (w : World) :
    ∃ u v, (binOp op t (.string ⟨⟨x⟩⟩) (.string ⟨⟨y⟩⟩)).run P w = .ok u w ∧ (∀ g, Rel g v u) ∧ k v := by
  have ex : (⟨⟨x⟩⟩ : ByteArray).toList = x := ByteArray.toList_mk x
  have ey : (⟨⟨y⟩⟩ : ByteArray).toList = y := ByteArray.toList_mk y
  have eq : (x == y) = decide (x = y) := by rw [Bool.eq_iff_iff]; simp
  cases op <;> simp only [strBin] at h <;> try exact h.elim
  case add =>
    obtain ⟨h0, h⟩ := h
    refine ⟨.string (⟨⟨x⟩⟩ ++ ⟨⟨y⟩⟩), .str (x ++ y), ?_, fun _ => ?_, h⟩
    · have : ¬ (((⟨⟨x⟩⟩ : ByteArray).size + (⟨⟨y⟩⟩ : ByteArray).size : Nat) : Int) > IntKind.i64.max := by
        have e1 : (⟨⟨x⟩⟩ : ByteArray).size = x.length := rfl
        have e2 : (⟨⟨y⟩⟩ : ByteArray).size = y.length := rfl
        rw [e1, e2]; simp [IntKind.max, IntKind.signed, IntKind.bits]; omega
      simp only [binOp, Op.stringOp, if_neg this, Sem.run_pure]
    · show Value.string _ = Value.string _
      congr 1
  case eql => exact ⟨.bool (decide (x = y)), .bool (decide (x = y)), by simp [binOp, Op.stringOp, ex, ey, eq], fun _ => rfl, h⟩
  case neq => exact ⟨.bool (!decide (x = y)), .bool (!decide (x = y)), by simp [binOp, Op.stringOp, ex, ey, eq], fun _ => rfl, h⟩
  case lss => exact ⟨.bool (Op.bytesLess x y), .bool (Op.bytesLess x y), by simp [binOp, Op.stringOp, ex, ey], fun _ => rfl, h⟩
  case leq => exact ⟨.bool (Op.bytesLess x y || decide (x = y)), .bool (Op.bytesLess x y || decide (x = y)), by simp [binOp, Op.stringOp, ex, ey, eq], fun _ => rfl, h⟩
  case gtr => exact ⟨.bool (!(Op.bytesLess x y || decide (x = y))), .bool (!(Op.bytesLess x y || decide (x = y))), by simp [binOp, Op.stringOp, ex, ey, eq], fun _ => rfl, h⟩
  case geq => exact ⟨.bool (!Op.bytesLess x y), .bool (!Op.bytesLess x y), by simp [binOp, Op.stringOp, ex, ey], fun _ => rfl, h⟩

/-! '==' of what is neither number nor text. -/
theorem negK_sound {op : BinOp} {r : Bool} {k : AV → Prop} (h : negK op r k) : (op = .eql ∧ k (.bool r)) ∨ (op = .neq ∧ k (.bool (!r))) := by
  unfold negK at h
  split at h
  · exact .inl ⟨rfl, h⟩
  · exact .inr ⟨rfl, h⟩
  · exact h.elim
/-- From what '==' comes to, to what the operation does. -/
theorem eq_ops {op : BinOp} {t : TypeId} {u v : Value} {r : Bool} {k : AV → Prop} (h : negK op r k) {ox oy : Operand} (hg : (eqGuard op t ox oy u v).run P w = .ok () w)
    (hb : ∀ op, op = BinOp.eql ∨ op = BinOp.neq → binOp op t u v = (if op = BinOp.eql then (do pure (.bool (← Op.equal t u v))) else (do pure (.bool (!(← Op.equal t u v))))))
    (he : (Op.equal t u v).run P w = .ok r w) :
    ∃ y x, (do eqGuard op t ox oy u v; binOp op t u v : Sem Value).run P w = .ok y w ∧ (∀ g, Rel g x y) ∧ k x := by
  rcases negK_sound h with ⟨rfl, h⟩ | ⟨rfl, h⟩
  · exact ⟨.bool r, .bool r, by simp [hg, hb _ (.inl rfl), he], fun _ => rfl, h⟩
  · exact ⟨.bool (!r), .bool (!r), by simp [hg, hb _ (.inr rfl), he], fun _ => rfl, h⟩


theorem fieldsOf_eq {t : TypeId} {xs : Array Field} (h : P.underlying t = some (.struct xs)) : P.fieldsOf t = xs := by simp [Program.fieldsOf, h]
theorem eqF_sound (htb : TabOk P tb) (d : Nat) : ∀ {fs : List FI} {X : List Field} {o : Nat} {xs ys : List AV} {k : Bool → Prop} {p q us vs : List Value}, fieldsB P fs X = true → eqF tb fs o xs ys k →
    p.length = o → q.length = o → RelL g true xs us → RelL g true ys vs → ∃ r, k r ∧ (Op.eqFields (d + 1) ⟨p ++ us⟩ ⟨q ++ vs⟩ X).run P w = .ok r w
  | [], [], _, _, _, _, _, _, _, _, _, h, _, _, _, _ => ⟨true, h, rfl⟩
  | [], _ :: _, _, _, _, _, _, _, _, _, hb, _, _, _, _, _ => by simp [fieldsB] at hb
  | _ :: _, [], _, _, _, _, _, _, _, _, hb, _, _, _, _, _ => by simp [fieldsB] at hb
  | f :: fs, X :: Xs, o, [], _, _, _, _, _, _, _, h, _, _, _, _ => h.elim
  | f :: fs, X :: Xs, o, _ :: _, [], _, _, _, _, _, _, h, _, _, _, _ => h.elim
  | f :: fs, X :: Xs, o, x :: xs, y :: ys, k, p, q, _, _, hb, h, hp, hq, ⟨u, us, rfl, ⟨hu, _⟩, hus⟩, ⟨v, vs, rfl, ⟨hv, _⟩, hvs⟩ => by
    simp only [fieldsB, Bool.and_eq_true] at hb
    obtain ⟨e1, e2, e3, _, e4, _⟩ := fieldB_spec hb.1
    unfold eqF at h
    dsimp only at h
    split at h
    · exact h.elim
    · rename_i hoff
      have hoff := Nat.eq_of_beq_eq_true hoff
      split at h
      · exact h.elim
      · rename_i hagg
        have h0 := Tab.get_ok htb h
        clear h
        obtain ⟨ti, hty, h⟩ := h0
        have hk := tyB_kind hty
        rw [e2] at hk
        have hX : X.offset = o := by rw [← e1, hoff]
        have hpart : ∀ (dd : TypeDesc) (zs ws : List Value) (z : Value), P.underlying X.type = some dd → (∀ xs, dd ≠ .struct xs) → (∀ n e, dd ≠ .array n e) → zs.length = o → (part X.type ⟨zs ++ z :: ws⟩ X.offset).run P w = .ok z w := by
          intro dd zs ws z h1 h2 h3 h4
          have : (zs ++ z :: ws)[o]? = some z := by rw [← h4]; simp
          simp [part, run_isAgg_plain h1 h2 h3, hX, this]
        have e5 : p ++ u :: us = (p ++ [u]) ++ us := by simp
        have e6 : q ++ v :: vs = (q ++ [v]) ++ vs := by simp
        split at h
        · rename_i ki ek
          rw [ek] at hk
          have hund := kind_int hk
          split at h
          · rename_i kd a kd' b
            obtain ⟨rfl, h⟩ := h
            obtain ⟨r, h1, h2⟩ := eqF_sound htb d (p := p ++ [u]) (q := q ++ [v]) hb.2 h (by simp [hp]) (by simp [hq]) hus hvs
            refine ⟨_, h1, ?_⟩
            have hu : u = .int kd a := hu
            have hv : v = .int kd b := hv
            have p1 := hpart _ p us u hund (by simp) (by simp) hp
            have p2 := hpart _ q vs v hund (by simp) (by simp) hq
            subst hu; subst hv
            simp only [Op.eqFields, if_pos e3, Sem.run_bind, Sem.run_ite, Sem.run_pure, p1, p2, Result.andThen_ok, run_equalIn_int w d _ kd ki a b hund]
            rw [e5, e6]
            by_cases hab : a = b
            · subst hab
              rw [show (a == a) = true from by simp]
              simp only [Bool.not_true, Bool.false_eq_true, if_false, decide_true, Bool.true_and]
              exact h2
            · rw [show (a == b) = false from by simp [hab]]
              simp [hab]
          · exact h.elim
        · rename_i ek
          rw [ek] at hk
          have hund := kind_str hk
          split at h
          · rename_i a b
            obtain ⟨r, h1, h2⟩ := eqF_sound htb d (p := p ++ [u]) (q := q ++ [v]) hb.2 h (by simp [hp]) (by simp [hq]) hus hvs
            refine ⟨_, h1, ?_⟩
            have hu : u = .string ⟨⟨a⟩⟩ := hu
            have hv : v = .string ⟨⟨b⟩⟩ := hv
            have p1 := hpart _ p us u hund (by simp) (by simp) hp
            have p2 := hpart _ q vs v hund (by simp) (by simp) hq
            subst hu; subst hv
            simp only [Op.eqFields, if_pos e3, Sem.run_bind, Sem.run_ite, Sem.run_pure, p1, p2, Result.andThen_ok, run_equalIn_string w d _ _ _ hund, ByteArray.toList_mk]
            rw [e5, e6]
            by_cases hab : a = b
            · subst hab
              rw [show (a == a) = true from by simp]
              simp only [Bool.not_true, Bool.false_eq_true, if_false, decide_true, Bool.true_and]
              exact h2
            · rw [show (a == b) = false from by simp [hab]]
              simp [hab]
          · exact h.elim
        · rename_i ek
          rw [ek] at hk
          have hund := kind_bool hk
          split at h
          · rename_i a b
            obtain ⟨r, h1, h2⟩ := eqF_sound htb d (p := p ++ [u]) (q := q ++ [v]) hb.2 h (by simp [hp]) (by simp [hq]) hus hvs
            refine ⟨_, h1, ?_⟩
            have hu : u = .bool a := hu
            have hv : v = .bool b := hv
            have p1 := hpart _ p us u hund (by simp) (by simp) hp
            have p2 := hpart _ q vs v hund (by simp) (by simp) hq
            subst hu; subst hv
            simp only [Op.eqFields, if_pos e3, Sem.run_bind, Sem.run_ite, Sem.run_pure, p1, p2, Result.andThen_ok, run_equalIn_bool' w d _ _ _ hund]
            rw [e5, e6]
            by_cases hab : a = b
            · subst hab
              rw [show (a == a) = true from by simp]
              simp only [Bool.not_true, Bool.false_eq_true, if_false, decide_true, Bool.true_and]
              exact h2
            · rw [show (a == b) = false from by simp [hab]]
              simp [hab]
          · exact h.elim
        · exact h.elim

section
variable {t : TypeId} (d : Nat)
theorem eqIn_ptr1 (e : TypeId) (h : P.underlying t = some (.pointer e)) : (Op.equalIn (d + 1) t (.pointer none) (.pointer none)).run P w = .ok true w := by simp [Op.equalIn, run_und h]
theorem eqIn_ptr2 (e : TypeId) (x : Addr) (h : P.underlying t = some (.pointer e)) : (Op.equalIn (d + 1) t (.pointer none) (.pointer (some x))).run P w = .ok false w := by simp [Op.equalIn, run_und h]
theorem eqIn_ptr3 (e : TypeId) (x : Addr) (h : P.underlying t = some (.pointer e)) : (Op.equalIn (d + 1) t (.pointer (some x)) (.pointer none)).run P w = .ok false w := by simp [Op.equalIn, run_und h]
theorem eqIn_if1 (e : Array (String × TypeId)) (h : P.underlying t = some (.interface e)) : (Op.equalIn (d + 1) t (.nilIface) (.nilIface)).run P w = .ok true w := by simp [Op.equalIn, run_und h]
theorem eqIn_if2 (e : Array (String × TypeId)) (y : TypeId) (x : Value) (h : P.underlying t = some (.interface e)) : (Op.equalIn (d + 1) t (.nilIface) (.iface y x)).run P w = .ok false w := by simp [Op.equalIn, run_und h]
theorem eqIn_if3 (e : Array (String × TypeId)) (y : TypeId) (x : Value) (h : P.underlying t = some (.interface e)) : (Op.equalIn (d + 1) t (.iface y x) (.nilIface)).run P w = .ok false w := by simp [Op.equalIn, run_und h]
theorem eqIn_if4 (e : Array (String × TypeId)) (y z : TypeId) (x x' : Value) (h : P.underlying t = some (.interface e)) (hne : y ≠ z) : (Op.equalIn (d + 1) t (.iface y x) (.iface z x')).run P w = .ok false w := by simp [Op.equalIn, run_und h, hne]
theorem eqIn_if5 (e : Array (String × TypeId)) (y : TypeId) (x x' : Value) (h : P.underlying t = some (.interface e)) {i : TypeInfo} (hi : P.info? y = some i) (hc : i.comparable = true) : (Op.equalIn (d + 1) t (.iface y x) (.iface y x')).run P w = (Op.equalIn d y x x').run P w := by simp [Op.equalIn, run_und h, run_info hi, hc]
theorem eqIn_sl1 (e : TypeId) (h : P.underlying t = some (.slice e)) : (Op.equalIn (d + 1) t (.slice none 0 0) (.slice none 0 0)).run P w = .ok true w := by simp [Op.equalIn, run_und h]
theorem eqIn_sl2 (e : TypeId) (x : Addr) (y z : Nat) (h : P.underlying t = some (.slice e)) : (Op.equalIn (d + 1) t (.slice none 0 0) (.slice (some x) y z)).run P w = .ok false w := by simp [Op.equalIn, run_und h]
theorem eqIn_sl3 (e : TypeId) (x : Addr) (y z : Nat) (h : P.underlying t = some (.slice e)) : (Op.equalIn (d + 1) t (.slice (some x) y z) (.slice none 0 0)).run P w = .ok false w := by simp [Op.equalIn, run_und h]
theorem eqIn_mp1 (e f : TypeId) (h : P.underlying t = some (.map e f)) : (Op.equalIn (d + 1) t (.map none) (.map none)).run P w = .ok true w := by simp [Op.equalIn, run_und h]
theorem eqIn_mp2 (e f : TypeId) (x : Nat) (h : P.underlying t = some (.map e f)) : (Op.equalIn (d + 1) t (.map none) (.map (some x))).run P w = .ok false w := by simp [Op.equalIn, run_und h]
theorem eqIn_mp3 (e f : TypeId) (x : Nat) (h : P.underlying t = some (.map e f)) : (Op.equalIn (d + 1) t (.map (some x)) (.map none)).run P w = .ok false w := by simp [Op.equalIn, run_und h]
theorem eqIn_fn1 (e f : Array TypeId) (y : Bool) (h : P.underlying t = some (.func e f y)) : (Op.equalIn (d + 1) t (.nilFunc) (.nilFunc)).run P w = .ok true w := by simp [Op.equalIn, run_und h]
theorem eqIn_fn2 (e f : Array TypeId) (y : Bool) (x : Fn) (z p : Array Value) (h : P.underlying t = some (.func e f y)) : (Op.equalIn (d + 1) t (.nilFunc) (.func x z p)).run P w = .ok false w := by simp [Op.equalIn, run_und h]
theorem eqIn_fn3 (e f : Array TypeId) (y : Bool) (x : Fn) (z p : Array Value) (h : P.underlying t = some (.func e f y)) : (Op.equalIn (d + 1) t (.func x z p) (.nilFunc)).run P w = .ok false w := by simp [Op.equalIn, run_und h]
end
theorem eqBin_sound (htb : TabOk P tb) {op : BinOp} {t : TypeId} {ox oy : Operand} {x y : AV} {k : AV → Prop} (h : eqBin tb op t ox oy x y k) {u v : Value} (hu : Rel g x u) (hv : Rel g y v)
    (cx : isConst ox = true → ∃ c, ox = .const c) (cy : isConst oy = true → ∃ c, oy = .const c) :
    ∃ z r, (do eqGuard op t ox oy u v; binOp op t u v : Sem Value).run P w = .ok z w ∧ (∀ g, Rel g r z) ∧ k r := by
  have h0 := Tab.get_ok htb h
  clear h
  obtain ⟨ti, hty, h⟩ := h0
  have hk := tyB_kind hty
  have key : ∀ {r : Bool}, negK op r k → (∀ op', op' = BinOp.eql ∨ op' = BinOp.neq → (eqGuard op' t ox oy u v).run P w = .ok () w) →
      (∀ op, op = BinOp.eql ∨ op = BinOp.neq → binOp op t u v = (if op = BinOp.eql then (do pure (.bool (← Op.equal t u v))) else (do pure (.bool (!(← Op.equal t u v)))))) →
      (Op.equal t u v).run P w = .ok r w → ∃ z r, (do eqGuard op t ox oy u v; binOp op t u v : Sem Value).run P w = .ok z w ∧ (∀ g, Rel g r z) ∧ k r := by
    intro r h1 h2 h3 h4
    have : op = .eql ∨ op = .neq := by rcases negK_sound h1 with h | h; exact .inl h.1; exact .inr h.1
    exact eq_ops h1 (h2 op this) h3 h4
  have eqd : ∀ r, (Op.equalIn (9999 + 1) t u v).run P w = .ok r w → (Op.equal t u v).run P w = .ok r w := fun r h => h
  split at h
  · rename_i ek; rw [ek] at hk
    split at h
    · rename_i a b
      have hu : u = .bool a := hu
      have hv : v = .bool b := hv
      subst hu; subst hv
      refine key h ?_ ?_ (eqd _ ?_)
      · rintro _ (rfl | rfl) <;> simp [eqGuard]
      · rintro _ (rfl | rfl) <;> rfl
      · rw [run_equalIn_bool' w 9999 _ _ _ (kind_bool hk)]; cases a <;> cases b <;> rfl
    · exact h.elim
  · rename_i fs ek; rw [ek] at hk
    split at h
    · rename_i xs ys
      obtain ⟨us, rfl, hus⟩ := hu
      obtain ⟨vs, rfl, hvs⟩ := hv
      split at h
      · rename_i hp
        obtain ⟨hp1, hp2⟩ := tyB_plain hty hp
        obtain ⟨X, hX, hf⟩ := kind_struct hk
        obtain ⟨r, h1, h2⟩ := eqF_sound (w := w) htb 9998 (p := []) (q := []) hf h rfl rfl hus hvs
        refine key h1 ?_ ?_ (eqd _ ?_)
        · intro op _; exact run_eqGuard_agg w op t ox oy _ _ hp1
        · rintro _ (rfl | rfl) <;> rfl
        · rw [run_equalIn_struct w 9999 t _ _ (by rw [fieldsOf_eq hX]; exact hX) hp2, fieldsOf_eq hX]; simpa using h2
      · exact h.elim
    · exact h.elim
  · rename_i e ek; rw [ek] at hk
    have hund := kind_ptr hk
    split at h
    · have hu : u = .pointer none := hu
      have hv : v = .pointer none := hv
      subst hu; subst hv
      refine key h ?_ ?_ (eqd _ ?_)
      · rintro _ (rfl | rfl) <;> simp [eqGuard]
      · rintro _ (rfl | rfl) <;> rfl
      · exact eqIn_ptr1 9999 _ hund
    · rename_i b o
      have hu : u = .pointer none := hu
      have hv : v = .pointer (some ⟨b, o, none⟩) := hv
      subst hu; subst hv
      refine key h ?_ ?_ (eqd _ ?_)
      · rintro _ (rfl | rfl) <;> simp [eqGuard]
      · rintro _ (rfl | rfl) <;> rfl
      · exact eqIn_ptr2 9999 _ _ hund
    · rename_i b o
      have hu : u = .pointer (some ⟨b, o, none⟩) := hu
      have hv : v = .pointer none := hv
      subst hu; subst hv
      refine key h ?_ ?_ (eqd _ ?_)
      · rintro _ (rfl | rfl) <;> simp [eqGuard]
      · rintro _ (rfl | rfl) <;> rfl
      · exact eqIn_ptr3 9999 _ _ hund
    · exact h.elim
  · rename_i ek; rw [ek] at hk
    obtain ⟨ms, hund⟩ := kind_iface hk
    split at h
    · have hu : u = .nilIface := hu
      have hv : v = .nilIface := hv
      subst hu; subst hv
      have hc : (∃ c, ox = .const c) ∨ (∃ c, oy = .const c) := by
        split at h
        · rename_i hc; exact .inl (cx hc)
        · split at h
          · rename_i hc; exact .inr (cy hc)
          · exact h.elim
      have hn : negK op true k := by
        split at h
        · exact h
        · split at h
          · exact h
          · exact h.elim
      refine key hn ?_ ?_ (eqd _ ?_)
      · rcases hc with ⟨c, rfl⟩ | ⟨c, rfl⟩ <;> rintro _ (rfl | rfl) <;> simp [eqGuard]
      · rintro _ (rfl | rfl) <;> rfl
      · exact eqIn_if1 9999 _ hund
    · rename_i t' x'
      have hu : u = .nilIface := hu
      obtain ⟨v', rfl, _⟩ := hv
      subst hu
      refine key h ?_ ?_ (eqd _ ?_)
      · rintro _ (rfl | rfl) <;> simp [eqGuard]
      · rintro _ (rfl | rfl) <;> rfl
      · exact eqIn_if2 9999 _ _ _ hund
    · rename_i t' x'
      obtain ⟨u', rfl, _⟩ := hu
      have hv : v = .nilIface := hv
      subst hv
      refine key h ?_ ?_ (eqd _ ?_)
      · rintro _ (rfl | rfl) <;> simp [eqGuard]
      · rintro _ (rfl | rfl) <;> rfl
      · exact eqIn_if3 9999 _ _ _ hund
    · rename_i t1 x1 t2 x2
      obtain ⟨u1, rfl, hu1⟩ := hu
      obtain ⟨v1, rfl, hv1⟩ := hv
      have hcon : ∀ op, op = BinOp.eql ∨ op = BinOp.neq → (eqGuard op t ox oy (.iface t1 u1) (.iface t2 v1)).run P w = .ok () w := by
        rintro _ (rfl | rfl) <;> simp [eqGuard]
      have hbb : ∀ op, op = BinOp.eql ∨ op = BinOp.neq → binOp op t (.iface t1 u1) (.iface t2 v1) = (if op = BinOp.eql then (do pure (.bool (← Op.equal t (.iface t1 u1) (.iface t2 v1)))) else (do pure (.bool (!(← Op.equal t (.iface t1 u1) (.iface t2 v1)))))) := by
        rintro _ (rfl | rfl) <;> rfl
      split at h
      · rename_i hb
        obtain rfl := Nat.eq_of_beq_eq_true hb
        obtain ⟨ti1, hty1, h1'⟩ := Tab.get_ok htb h
        clear h
        have hk1 := tyB_kind hty1
        obtain ⟨fs, ek1, h2'⟩ := structK_spec h1'
        clear h1'
        rw [ek1] at hk1
        cases hp : ti1.plain with
        | false => rw [hp] at h2'; exact h2'.elim
        | true =>
          rw [hp] at h2'
          obtain ⟨xs, e1', h3'⟩ := aggK_spec h2'
          obtain ⟨ys, e2', h4'⟩ := aggK_spec h3'
          clear h2' h3'
          subst e1' e2'
          obtain ⟨us, rfl, hus⟩ := hu1
          obtain ⟨vs, rfl, hvs⟩ := hv1
          obtain ⟨hp1, hp2⟩ := tyB_plain hty1 hp
          obtain ⟨i1, hi1, hi2⟩ := tyB_comp hty1 hp
          obtain ⟨X, hX, hf⟩ := kind_struct hk1
          obtain ⟨r, h1, h2⟩ := eqF_sound (w := w) htb 9997 (p := []) (q := []) hf h4' rfl rfl hus hvs
          refine key h1 hcon hbb (eqd _ ?_)
          have e1 : (Op.equalIn (9998 + 1) t1 (.agg ⟨us⟩) (.agg ⟨vs⟩)).run P w = .ok r w := by
            rw [run_equalIn_struct w 9998 t1 _ _ (by rw [fieldsOf_eq hX]; exact hX) hp2, fieldsOf_eq hX]; simpa using h2
          rw [eqIn_if5 9999 _ _ _ _ hund hi1 hi2]; exact e1
      · rename_i hb
        have hne : t1 ≠ t2 := Nat.ne_of_beq_eq_false hb
        refine key h hcon hbb (eqd _ ?_)
        exact eqIn_if4 9999 _ _ _ _ _ hund hne
    · exact h.elim
  · rename_i e ek; rw [ek] at hk
    have hund := kind_slice hk
    split at h
    · have hu : u = .slice none 0 0 := hu
      have hv : v = .slice none 0 0 := hv
      subst hu; subst hv
      refine key h ?_ ?_ (eqd _ ?_)
      · rintro _ (rfl | rfl) <;> simp [eqGuard]
      · rintro _ (rfl | rfl) <;> rfl
      · exact eqIn_sl1 9999 _ hund
    · have hu : u = .slice none 0 0 := hu
      obtain ⟨cap, rfl, _⟩ := hv
      subst hu
      refine key h ?_ ?_ (eqd _ ?_)
      · rintro _ (rfl | rfl) <;> simp [eqGuard]
      · rintro _ (rfl | rfl) <;> rfl
      · exact eqIn_sl2 9999 _ _ _ _ hund
    · obtain ⟨cap, rfl, _⟩ := hu
      have hv : v = .slice none 0 0 := hv
      subst hv
      refine key h ?_ ?_ (eqd _ ?_)
      · rintro _ (rfl | rfl) <;> simp [eqGuard]
      · rintro _ (rfl | rfl) <;> rfl
      · exact eqIn_sl3 9999 _ _ _ _ hund
    · obtain ⟨hn, h⟩ := h
      obtain ⟨ad, cap, rfl, h1, _, h2⟩ := hu
      have hv : v = .slice none 0 0 := hv
      subst hv
      rcases h2 with ⟨_, h2, _⟩ | ⟨b, o, rfl, _⟩
      · omega
      refine key h ?_ ?_ (eqd _ ?_)
      · rintro _ (rfl | rfl) <;> simp [eqGuard]
      · rintro _ (rfl | rfl) <;> rfl
      · exact eqIn_sl3 9999 _ _ _ _ hund
    · obtain ⟨hn, h⟩ := h
      obtain ⟨ad, cap, rfl, h1, _, h2⟩ := hv
      have hu : u = .slice none 0 0 := hu
      subst hu
      rcases h2 with ⟨_, h2, _⟩ | ⟨b, o, rfl, _⟩
      · omega
      refine key h ?_ ?_ (eqd _ ?_)
      · rintro _ (rfl | rfl) <;> simp [eqGuard]
      · rintro _ (rfl | rfl) <;> rfl
      · exact eqIn_sl2 9999 _ _ _ _ hund
    · exact h.elim
  · rename_i e1 e2 ek; rw [ek] at hk
    have hund := kind_map hk
    split at h
    · have hu : u = .map none := hu
      have hv : v = .map none := hv
      subst hu; subst hv
      refine key h ?_ ?_ (eqd _ ?_)
      · rintro _ (rfl | rfl) <;> simp [eqGuard]
      · rintro _ (rfl | rfl) <;> rfl
      · exact eqIn_mp1 9999 _ _ hund
    · rename_i b
      have hu : u = .map none := hu
      have hv : v = .map (some b) := hv
      subst hu; subst hv
      refine key h ?_ ?_ (eqd _ ?_)
      · rintro _ (rfl | rfl) <;> simp [eqGuard]
      · rintro _ (rfl | rfl) <;> rfl
      · exact eqIn_mp2 9999 _ _ _ hund
    · rename_i b
      have hu : u = .map (some b) := hu
      have hv : v = .map none := hv
      subst hu; subst hv
      refine key h ?_ ?_ (eqd _ ?_)
      · rintro _ (rfl | rfl) <;> simp [eqGuard]
      · rintro _ (rfl | rfl) <;> rfl
      · exact eqIn_mp3 9999 _ _ _ hund
    · exact h.elim
  · rename_i ek; rw [ek] at hk
    obtain ⟨_, _, _, hund⟩ := kind_func hk
    split at h
    · have hu : u = .nilFunc := hu
      have hv : v = .nilFunc := hv
      subst hu; subst hv
      refine key h ?_ ?_ (eqd _ ?_)
      · rintro _ (rfl | rfl) <;> simp [eqGuard]
      · rintro _ (rfl | rfl) <;> rfl
      · exact eqIn_fn1 9999 _ _ _ hund
    · have hu : u = .nilFunc := hu
      obtain ⟨us, ws, rfl, _⟩ := hv
      subst hu
      refine key h ?_ ?_ (eqd _ ?_)
      · rintro _ (rfl | rfl) <;> simp [eqGuard]
      · rintro _ (rfl | rfl) <;> rfl
      · exact eqIn_fn2 9999 _ _ _ _ _ _ hund
    · obtain ⟨us, ws, rfl, _⟩ := hu
      have hv : v = .nilFunc := hv
      subst hv
      refine key h ?_ ?_ (eqd _ ?_)
      · rintro _ (rfl | rfl) <;> simp [eqGuard]
      · rintro _ (rfl | rfl) <;> rfl
      · exact eqIn_fn3 9999 _ _ _ _ _ _ hund
    · exact h.elim
  · exact h.elim
end
end Go.Av

namespace Go.Av
open Go

section
variable {P : Program} {tb : Tab} {n : Nat} {W : World} {F : St} {g : Gh} {env : Env} {st : St} {a : Act} {w : World} {K Kp : AV → St → Prop}

theorem isConst_spec {x : Operand} (h : isConst x = true) : ∃ c, x = .const c := by
  cases x <;> simp_all [isConst]
theorem eqGuard_int {op : BinOp} {t : TypeId} {ox oy : Operand} {k k' : IntKind} {x y : Int} : (eqGuard op t ox oy (.int k x) (.int k' y)).run P w = .ok () w := by
  cases op <;> simp [eqGuard]
theorem eqGuard_str {op : BinOp} {t : TypeId} {ox oy : Operand} {x y : ByteArray} : (eqGuard op t ox oy (.string x) (.string y)).run P w = .ok () w := by
  cases op <;> simp [eqGuard]
theorem ok_binOp {dst ty pos after guard} {op : BinOp} {t t' : TypeId} {x y : Operand} (htb : TabOk P tb) (h : opW P tb (.binOp op t x y t') env st K Kp) (r : EnvR n g env a) (inv : Inv W g (st ++ F) w) :
    OpOk P W F g K Kp ((execOp a.eval ⟨dst, .binOp op t x y t', ty, pos, after, guard⟩).run P w) := by
  obtain ⟨u, h1, h2⟩ := evalK_sound r h
  obtain ⟨v, h3, h4⟩ := evalK_sound r h2
  have key : ∀ z q, (do eqGuard op t x y (a.eval x) (a.eval y); binOp op t (a.eval x) (a.eval y) : Sem Value).run P w = .ok z w → (∀ g, Rel g q z) → K q st →
      OpOk P W F g K Kp ((execOp a.eval ⟨dst, .binOp op t x y t', ty, pos, after, guard⟩).run P w) := by
    intro z q e1 e2 e3
    exact .same (u := z) (exec_val (S := do eqGuard op t x y (a.eval x) (a.eval y); binOp op t (a.eval x) (a.eval y)) rfl e1) (e2 g) inv e3
  cases u with
  | int kd m =>
    have h1 : a.eval x = .int kd m := h1
    cases v with
    | int kd' m' =>
      have h3 : a.eval y = .int kd' m' := h3
      simp only [binK] at h4
      split at h4
      · obtain ⟨h0, h4⟩ := h4
        refine key (.int kd (kd.wrap (m * 2 ^ (min m'.toNat kd.bits)))) (.int kd (kd.wrap (m * 2 ^ (min m'.toNat kd.bits)))) ?_ (fun _ => rfl) (intK_sound h4)
        simp [h1, h3, eqGuard_int, binOp, Op.shift, show ¬ m' < 0 by omega]
      · obtain ⟨h0, h4⟩ := h4
        refine key (.int kd (m.fdiv (2 ^ (min m'.toNat kd.bits)))) (.int kd (m.fdiv (2 ^ (min m'.toNat kd.bits)))) ?_ (fun _ => rfl) h4
        simp [h1, h3, eqGuard_int, binOp, Op.shift, show ¬ m' < 0 by omega]
      · obtain ⟨rfl, h4⟩ := h4
        obtain ⟨z, q, e1, e2, e3⟩ := intBin_sound h4 (by assumption) (by assumption) t w (P := P)
        refine key z q ?_ e2 e3
        rw [h1, h3]; simp [eqGuard_int, e1]
    | _ => exact h4.elim
  | str l =>
    have h1 : a.eval x = .string ⟨⟨l⟩⟩ := h1
    cases v with
    | str l' =>
      have h3 : a.eval y = .string ⟨⟨l'⟩⟩ := h3
      simp only [binK] at h4
      obtain ⟨z, q, e1, e2, e3⟩ := strBin_sound h4 t w (P := P)
      refine key z q ?_ e2 e3
      rw [h1, h3]; simp [eqGuard_str, e1]
    | _ => exact h4.elim
  | _ =>
    simp only [binK] at h4
    obtain ⟨z, q, e1, e2, e3⟩ := eqBin_sound (w := w) htb h4 h1 h3 isConst_spec isConst_spec
    exact key z q e1 e2 e3

theorem isU8_kind {P : Program} {t : TypeId} {k : TyK} (h : isU8 k = true) (hk : kindB P t k = true) : P.underlying t = some (.int .u8) := by
  unfold isU8 at h
  split at h
  · exact kind_int hk
  · cases h
theorem bytesRel {cells : List AV} {us : List Value} {l : List UInt8} {m : Nat} (h : cells.take m = l.map fun c => .int .u8 c.toNat) (hr : RelL g true cells us) (j : Nat) (hj : j < l.length) : us[j]? = some (.int .u8 (l[j].toNat : Int)) := by
  have h1 : (cells.take m)[j]? = some (.int .u8 l[j].toNat) := by rw [h]; simp [hj]
  obtain ⟨u, h2, h3, _⟩ := (hr.take m).nth j h1
  have h3 : u = .int .u8 l[j].toNat := h3
  subst h3
  rw [List.getElem?_take] at h2
  split at h2
  · exact h2
  · cases h2
theorem bytesW_sound {x : AV} {u : Value} {k : List UInt8 → Prop} {s t e : TypeId} (hs : P.underlying s = some (.slice e)) (he : P.underlying e = some (.int .u8)) (ht : P.underlying t = some .string) (h : bytesW st x k) (hr : Rel g x u) (inv : Inv W g (st ++ F) w) :
    ∃ l, (convert s t u).run P w = .ok (.string ⟨⟨l⟩⟩) w ∧ k l := by
  unfold bytesW at h
  split at h
  · have hr : u = .slice none 0 0 := hr
    subst hr
    exact ⟨[], run_convert_bytes_nil w s e hs he 0 0 t ht, h⟩
  · rename_i cells m full
    obtain ⟨l, h1, h2, h3⟩ := h
    obtain ⟨a, cap, rfl, hle, _, ho⟩ := hr
    rcases ho with ⟨hc0, _⟩ | ⟨b, o, rfl, hc⟩
    · have : l = [] := List.length_eq_zero_iff.1 (by omega)
      subst this
      cases a with
      | none => exact ⟨[], run_convert_bytes_nil w s e hs he _ _ t ht, h3⟩
      | some a => 
        refine ⟨[], ?_, h3⟩
        have := run_convert_bytes_back w s t e a cap [] hs he ht (fun j hj => by simp at hj)
        rw [show m = 0 by omega]
        exact this
    · subst h2
      obtain ⟨us, hu1, hu2⟩ := hc.rel
      refine ⟨l, run_convert_bytes_back w s t e _ cap l hs he ht ?_, h3⟩
      intro j hj
      have hplain : (⟨b, o, none⟩ : Addr).add j = ⟨b, o + j, none⟩ := by unfold Addr.add; split <;> simp_all
      rw [hplain]
      exact inv.mem _ _ _ (hu2 j _ (bytesRel h1 hu1 j hj))
  · rename_i b m
    obtain ⟨i, ob, h1, h2⟩ := h
    split at h2
    · rename_i esz cells z
      obtain ⟨rfl, l, h3, h4, h5⟩ := h2
      obtain ⟨us, vs, T, lo, hi, cap', hh, q1, _⟩ := inv.objAt h1
      obtain ⟨cap, rfl, _, _⟩ := hr
      subst h4
      refine ⟨l, run_convert_bytes_back w s t e _ cap l hs he ht ?_, h5⟩
      intro j hj
      have hplain : (⟨b, 0, none⟩ : Addr).add j = ⟨b, j, none⟩ := by unfold Addr.add; split <;> simp_all
      rw [hplain, cell_of hh]
      have h6 := bytesRel h3 q1 j hj
      rw [List.getElem?_append_left (List.getElem?_eq_some_iff.1 h6).1]
      exact h6
    · exact h2.elim
  · exact h.elim

theorem Inv.newArr (inv : Inv W g (st ++ F) w) (T : TypeId) {esz cap z : Nat} {cs : List AV} {us vs : List Value} (hr : RelL g true cs us) (hl : (us ++ vs).length = cap * esz) {lo hi : Nat}
    (hf : ∀ i, i < (us ++ vs).length → ¬ (lo ≤ i ∧ i < hi)) {w' : World} (hw : w' = w.alloc (.cells ⟨us ++ vs⟩ T (lo, hi))) :
    ∃ g', Gh.le g g' ∧ (∀ b i, g'.μ b i = g.μ b i) ∧ g'.κ w.heap.size = some cap ∧ Inv W g' (((w.heap.size, .arr esz cs z) :: st) ++ F) w' := by
  subst hw
  let g' : Gh := ⟨g.μ, fun b => if b = w.heap.size then some cap else g.κ b⟩
  have le : Gh.le g g' := by
    refine ⟨fun _ _ _ h => h, fun b n h => ?_⟩
    have := inv.cap b n h
    show (if b = w.heap.size then some cap else g.κ b) = some n
    rw [if_neg (by omega)]; exact h
  refine ⟨g', le, fun _ _ => rfl, by show (if w.heap.size = w.heap.size then _ else _) = _; simp, ?_⟩
  refine inv.alloc _ _ le (fun _ _ => rfl) (fun b n e => ?_) ⟨us, vs, T, lo, hi, cap, heap_alloc_new w _, hr.mono le, hf, ?_, hl, fun o _ => inv.mu_none (Nat.le_refl _) o⟩
  · change (if b = w.heap.size then some cap else g.κ b) = some n at e
    split at e
    · omega
    · exact Nat.lt_succ_of_lt (inv.cap b n e)
  · show (if w.heap.size = w.heap.size then _ else _) = _; simp

theorem bytesOf_rel (g : Gh) : ∀ l : List UInt8, RelL g true (l.map fun c => AV.int .u8 c.toNat) (l.map fun c => Value.int .u8 c.toNat)
  | [] => rfl
  | _ :: l => ⟨_, _, rfl, ⟨rfl, fun _ => rfl⟩, bytesOf_rel g l⟩
theorem ok_convert {dst ty pos after guard} {s t : TypeId} {x : Operand} (htb : TabOk P tb) (h : opW P tb (.convert s t x) env st K Kp) (r : EnvR n g env a) (inv : Inv W g (st ++ F) w) :
    OpOk P W F g K Kp ((execOp a.eval ⟨dst, .convert s t x, ty, pos, after, guard⟩).run P w) := by
  obtain ⟨v, h1, h2⟩ := evalK_sound r h
  have h2' := Tab.get_ok htb h2
  clear h2
  obtain ⟨si, hsy, h2⟩ := h2'
  have hsk := tyB_kind hsy
  split at h2
  · split at h2
    · rename_i e hse
      obtain ⟨te, hte, h3⟩ := Tab.get_ok htb h2
      rw [hse] at hsk
      split at h3
      · rename_i hu8
        obtain ⟨ti, hty, h4⟩ := Tab.get_ok htb h3
        have hk := tyB_kind hty
        split at h4
        · rename_i ek; rw [ek] at hk
          obtain ⟨l, h5, h6⟩ := bytesW_sound (kind_slice hsk) (isU8_kind hu8 (tyB_kind hte)) (kind_str hk) h4 h1 inv
          exact .same (u := .string ⟨⟨l⟩⟩) (v := .str l) (exec_val rfl h5) rfl inv h6
        · exact h4.elim
      · exact h3.elim
    · exact h2.elim
  rename_i hns
  have hs : ∃ d, P.underlying s = some d ∧ (∀ e, d ≠ .slice e) := by
    cases hq : si.kind with
    | slice e => rw [hq] at hns; cases hns
    | other => rw [hq] at hns; cases hns
    | bool => rw [hq] at hsk; exact ⟨_, kind_bool hsk, by simp⟩
    | int k => rw [hq] at hsk; exact ⟨_, kind_int hsk, by simp⟩
    | str => rw [hq] at hsk; exact ⟨_, kind_str hsk, by simp⟩
    | ptr e => rw [hq] at hsk; exact ⟨_, kind_ptr hsk, by simp⟩
    | map k e => rw [hq] at hsk; exact ⟨_, kind_map hsk, by simp⟩
    | struct fs => rw [hq] at hsk; obtain ⟨_, e, _⟩ := kind_struct hsk; exact ⟨_, e, by simp⟩
    | iface => rw [hq] at hsk; obtain ⟨_, e⟩ := kind_iface hsk; exact ⟨_, e, by simp⟩
    | func => rw [hq] at hsk; obtain ⟨_, _, _, e⟩ := kind_func hsk; exact ⟨_, e, by simp⟩
  have h3 := Tab.get_ok htb h2
  clear h2
  obtain ⟨ti, hty, h3⟩ := h3
  have hk := tyB_kind hty
  obtain ⟨d, hd, hd'⟩ := hs
  split at h3
  · rename_i kd ek; rw [ek] at hk
    split at h3
    · rename_i k' m
      have h1 : a.eval x = .int k' m := h1
      refine .same (u := .int kd (kd.wrap m)) (v := .int kd (kd.wrap m)) (exec_val rfl ?_) rfl inv (intK_sound h3)
      simp only [convert, Sem.run_bind, run_und hd, run_und (kind_int hk), Result.andThen_ok, h1]
      cases d <;> simp [Conv.intToInt]
    · exact h3.elim
  · rename_i ek; rw [ek] at hk
    split at h3
    · rename_i k' m
      have h1 : a.eval x = .int k' m := h1
      refine .same (u := .string (Utf8.encode m)) (v := .str (Utf8.encode m).data.toList) (exec_val rfl ?_) rfl inv h3
      simp only [convert, Sem.run_bind, run_und hd, run_und (kind_str hk), Result.andThen_ok, h1]
      cases d <;> simp [Conv.intToString]
    · rename_i l
      have h1 : a.eval x = .string ⟨⟨l⟩⟩ := h1
      refine .same (u := .string ⟨⟨l⟩⟩) (v := .str l) (exec_val rfl ?_) rfl inv h3
      simp only [convert, Sem.run_bind, run_und hd, run_und (kind_str hk), Result.andThen_ok, h1]
      cases d <;> first | rfl | (exfalso; exact hd' _ rfl)
    · exact h3.elim
  · rename_i e ek; rw [ek] at hk
    split at h3
    · rename_i esi
      rw [esi] at hsk
      split at h3
      · rename_i l
        have h1 : a.eval x = .string ⟨⟨l⟩⟩ := h1
        obtain ⟨te, hte, h4⟩ := Tab.get_ok htb h3
        split at h4
        · rename_i hu8
          have hrun := run_bytes_of_string (P := P) w s t e ⟨⟨l⟩⟩ (kind_str hsk) (kind_slice hk) (isU8_kind hu8 (tyB_kind hte))
          have hsz : (⟨⟨l⟩⟩ : ByteArray).size = l.length := rfl
          rw [hsz] at hrun
          have hcap : l.length ≤ grownCap w l.length 0 e := grownCap_ge _ _ _ _
          generalize grownCap w l.length 0 e = c at hrun hcap
          have hrow : bytesRow ⟨⟨l⟩⟩ c = ⟨(l.map fun c => Value.int .u8 c.toNat) ++ List.replicate (c - l.length) (.int .u8 0)⟩ := by
            apply Array.ext'
            simp [bytesRow, ByteArray.size]
          rw [hrow] at hrun
          have hrl := bytesOf_rel g l
          obtain ⟨g', le, _, hkap, inv'⟩ := inv.drew.newArr e (esz := 1) (cap := c) (z := 0) hrl (vs := List.replicate (c - l.length) (.int .u8 0))
            (lo := ((l.map fun c : UInt8 => Value.int .u8 c.toNat) ++ List.replicate (c - l.length) (Value.int .u8 0)).length) (hi := ((l.map fun c : UInt8 => Value.int .u8 c.toNat) ++ List.replicate (c - l.length) (Value.int .u8 0)).length + 1)
            (by simp; omega) (fun i _ => by omega) rfl
          refine .val (v := .own w.heap.size l.length) (exec_val rfl (by rw [h1]; exact hrun)) le ⟨c, rfl, hkap, hcap⟩ inv' (h4.all _)
        · exact h4.elim
      · exact h3.elim
    · exact h3.elim
  · exact h3.elim

theorem ok_makeInterface {dst ty pos after guard} {t : TypeId} {x : Operand} (htb : TabOk P tb) (h : opW P tb (.makeInterface t x) env st K Kp) (r : EnvR n g env a) (inv : Inv W g (st ++ F) w) :
    OpOk P W F g K Kp ((execOp a.eval ⟨dst, .makeInterface t x, ty, pos, after, guard⟩).run P w) := by
  obtain ⟨v, h1, h2⟩ := evalK_sound r h
  obtain ⟨ti, hty, h3⟩ := Tab.get_ok htb h2
  have hk := tyB_kind hty
  have hconc : ∀ k, ti.kind = k → (k ≠ .iface) → (k ≠ .other) → P.concrete t = true := by
    intro k e n1 n2
    rw [e] at hk
    cases k with
    | iface => exact absurd rfl n1
    | other => exact absurd rfl n2
    | bool => simp [Program.concrete, kind_bool hk]
    | int k => simp [Program.concrete, kind_int hk]
    | str => simp [Program.concrete, kind_str hk]
    | ptr e => simp [Program.concrete, kind_ptr hk]
    | slice e => simp [Program.concrete, kind_slice hk]
    | map k e => simp [Program.concrete, kind_map hk]
    | struct fs => obtain ⟨xs, e, _⟩ := kind_struct hk; simp [Program.concrete, e]
    | func => obtain ⟨_, _, _, e⟩ := kind_func hk; simp [Program.concrete, e]
  have hrun : P.concrete t = true → (execOp a.eval ⟨dst, .makeInterface t x, ty, pos, after, guard⟩).run P w = .ok (.value (.iface t (a.eval x))) w := fun hc =>
    exec_val rfl (run_makeInterface w t _ hc)
  split at h3
  · rename_i fs ek
    split at h3
    · rename_i cs
      obtain ⟨us, e, hr⟩ := h1
      obtain ⟨g', cs', st', le, hr', inv', hK⟩ := VFz.sound h3 hr inv
      exact .val (v := .iface t (.agg cs')) (hrun (hconc _ ek (by simp) (by simp))) le ⟨_, rfl, us, e, hr'⟩ inv' hK
    · exact h3.elim
  · exact h3.elim
  · exact h3.elim
  · rename_i n1 n2 n3
    obtain ⟨g', vs', st', le, hr', inv', hK⟩ := VFz.sound h3 (q := false) (us := [a.eval x]) ⟨_, _, rfl, ⟨h1, fun h => by cases h⟩, rfl⟩ inv
    obtain ⟨v', hv', hK⟩ := nthK_sound hK
    obtain ⟨u, hu, hu', _⟩ := hr'.nth 0 hv'
    simp at hu; subst hu
    exact .val (v := .iface t v') (hrun (hconc _ rfl (fun e => n2 e) (fun e => n3 e))) le ⟨_, rfl, hu'⟩ inv' hK

theorem ok_makeFunc {dst ty pos after guard} {f : Fn} {xs ys : Array Operand} (h : opW P tb (.makeFunc f xs ys) env st K Kp) (r : EnvR n g env a) (inv : Inv W g (st ++ F) w) :
    OpOk P W F g K Kp ((execOp a.eval ⟨dst, .makeFunc f xs ys, ty, pos, after, guard⟩).run P w) := by
  obtain ⟨us, h1, h2⟩ := evalsK_sound r h
  obtain ⟨ws, h3, h4⟩ := evalsK_sound r h2
  refine .same (u := .func f (xs.map a.eval) (ys.map a.eval)) (v := .fn f us ws) (exec_val rfl rfl) ⟨xs.toList.map a.eval, ys.toList.map a.eval, ?_, h1, h3⟩ inv h4
  congr 1 <;> (apply Array.ext'; simp)

theorem ok_makeMap {dst ty pos after guard} {t : TypeId} {x : Option Operand} (h : opW P tb (.makeMap t none) env st K Kp) (inv : Inv W g (st ++ F) w) (hx : x = none) :
    OpOk P W F g K Kp ((execOp a.eval ⟨dst, .makeMap t x, ty, pos, after, guard⟩).run P w) := by
  subst hx
  refine .val (u := .map (some w.heap.size)) (w' := w.alloc (.map #[] 0)) (v := .mapr w.heap.size) (exec_val rfl (by simp [Instr.makeMap])) (Gh.le_refl g) rfl ?_ (h.all _)
  exact inv.alloc _ _ (Gh.le_refl g) (fun _ _ => rfl) (fun b n e => Nat.lt_succ_of_lt (inv.cap b n e)) ⟨[], 0, heap_alloc_new w _, rfl, by simp, by simp⟩

/-- A new row of cells that may grow. -/
theorem made_cells (z : List Value) (n : Nat) (hz : z ≠ []) : (((Array.range (n * z.length)).map fun i => (z.toArray)[i % z.toArray.size]!) : Array Value).toList = (List.replicate n z).flatten := by
  have hpos : 0 < z.length := List.length_pos_iff.2 hz
  apply List.ext_getElem
  · simp [List.length_flatten]
  · intro i h1 h2
    simp at h1
    have hi : i % z.length < z.length := Nat.mod_lt _ hpos
    have e1 : (((Array.range (n * z.length)).map fun i => (z.toArray)[i % z.toArray.size]!) : Array Value).toList[i] = z[i % z.length] := by
      simp [hi]
    rw [e1]
    have : ∀ (n i : Nat) (h : i < ((List.replicate n z).flatten).length), ((List.replicate n z).flatten)[i] = z[i % z.length]'(Nat.mod_lt _ hpos) := by
      intro n
      induction n with
      | zero => intro i h; simp at h
      | succ n ih =>
        intro i h
        simp only [List.replicate_succ, List.flatten_cons]
        by_cases hlt : i < z.length
        · rw [List.getElem_append_left hlt]; congr 1; rw [Nat.mod_eq_of_lt hlt]
        · rw [List.getElem_append_right (by omega), ih]
          congr 1
          exact (Nat.mod_eq_sub_mod (by omega)).symm
    rw [this n i h2]

theorem RelL.flat {g : Gh} {q : Bool} {l : List AV} {us : List Value} (h : RelL g q l us) : ∀ n, RelL g q (List.replicate n l).flatten (List.replicate n us).flatten
  | 0 => rfl
  | n + 1 => by simp only [List.replicate_succ, List.flatten_cons]; exact h.append (RelL.flat h n)
theorem flat_one {α : Type} (x : α) : ∀ n, (List.replicate n [x]).flatten = List.replicate n x
  | 0 => rfl
  | n + 1 => by simp [List.replicate_succ, flat_one x n]

theorem ok_makeSlice {dst ty pos after guard} {t : TypeId} {x y : Operand} (htb : TabOk P tb) (h : opW P tb (.makeSlice t x y) env st K Kp) (r : EnvR n g env a) (inv : Inv W g (st ++ F) w) :
    OpOk P W F g K Kp ((execOp a.eval ⟨dst, .makeSlice t x y, ty, pos, after, guard⟩).run P w) := by
  obtain ⟨u, h1, h2⟩ := evalK_sound r h
  obtain ⟨v, h3, h4⟩ := evalK_sound r h2
  unfold intOfK at h4
  split at h4
  · rename_i kx m
    split at h4
    · rename_i ky c
      have h1 : a.eval x = .int kx m := h1
      have h3 : a.eval y = .int ky c := h3
      obtain ⟨ti, hty, h5⟩ := Tab.get_ok htb h4
      have hk := tyB_kind hty
      split at h5
      · rename_i e ek; rw [ek] at hk
        have hund := kind_slice hk
        obtain ⟨te, hte, h6⟩ := Tab.get_ok htb h5
        obtain ⟨i, z, hi, hs, hb, hz, hzb⟩ := tyB_info hte
        obtain ⟨⟨b1, b2, b3, b4⟩, h7⟩ := h6
        have hkk : te.kind ≠ .other := by
          intro e
          have h7 := h7.all 0
          rw [e] at h7
          exact h7.elim
        obtain ⟨hzr, hzl⟩ := zeroB_cells hzb hkk g
        have hzl' : z.cells.toList.length = te.size := by rw [hzr.length, hzl]
        have hwm : IntKind.i64.wrap m = m := by simp [IntKind.wrap, IntKind.signed, IntKind.bits]; omega
        have hwc : IntKind.i64.wrap c = c := by simp [IntKind.wrap, IntKind.signed, IntKind.bits]; omega
        have hsplit : (List.replicate c.toNat z.cells.toList).flatten = (List.replicate m.toNat z.cells.toList).flatten ++ (List.replicate (c.toNat - m.toNat) z.cells.toList).flatten := by
          rw [← List.flatten_append, List.replicate_append_replicate]; congr 2; omega
        have hmade : ∀ zz : Array Value, zz = (if c.toNat * te.size = 0 then #[] else z.cells) →
            ((Array.range (c.toNat * te.size)).map fun i => zz[i % zz.size]!) = ⟨(List.replicate c.toNat z.cells.toList).flatten⟩ := by
          intro zz hzz
          apply Array.ext'
          by_cases h0 : c.toNat * te.size = 0
          · have : (List.replicate c.toNat z.cells.toList).flatten = [] := by
              apply List.eq_nil_of_length_eq_zero
              simp [List.length_flatten]
              rw [← Array.length_toList, hzl']; exact h0
            simp [h0, this]
          · rw [hzz, if_neg h0]
            have hne : z.cells.toList ≠ [] := by intro e; rw [e] at hzl'; simp at hzl'; rw [← hzl'] at h0; simp at h0
            have := made_cells z.cells.toList c.toNat hne
            rw [hzl'] at this
            simpa using this
        have hrun : (Instr.makeSlice t (.int kx m) (.int ky c)).run P w =
            .ok (.slice (some ⟨w.heap.size, 0, none⟩) m.toNat c.toNat) (w.alloc (.cells ⟨(List.replicate c.toNat z.cells.toList).flatten⟩ e (0, 0))) := by
          have hb' : (i.bytes : Int) * c ≤ 70368744177664 := by rw [hb]; exact b4
          have ht : ∀ q : Int, 0 ≤ q → q ≤ c → (decide (q < 0) || decide ((i.bytes : Int) * q > 2 ^ 48)) = false := by
            intro q h0 h1
            have : (i.bytes : Int) * q ≤ i.bytes * c := Int.mul_le_mul_of_nonneg_left h1 (by omega)
            simp; omega
          simp only [Instr.makeSlice, Sem.run_bind, run_und hund, Result.andThen_ok, asInt, asIntOf, Sem.run_pure, run_info hi, hwm, hwc]
          simp only [ht c (by omega) (by omega), show ¬ m < 0 by omega, show ¬ m > c by omega, decide_false, Bool.or_self, Bool.false_eq_true, if_false, Sem.run_bind, run_askRoom, Result.andThen_ok, run_size hi, hs]
          by_cases h0 : c.toNat * te.size = 0
          · have := hmade #[] (by rw [if_pos h0])
            simp only [h0, if_true, Sem.run_pure, Result.andThen_ok, newRow, Sem.run_bind, run_newObj]
            rw [h0] at this
            rw [this]; rfl
          · have := hmade z.cells (by rw [if_neg h0])
            simp only [h0, if_false, Sem.run_bind, run_zero hi hz, Sem.run_pure, Result.andThen_ok, newRow, run_newObj]
            rw [this]; rfl
        have fin : ∀ cells, RelL g true cells (List.replicate m.toNat z.cells.toList).flatten → K (.own w.heap.size m.toNat) ((w.heap.size, .arr te.size cells 0) :: st) →
            OpOk P W F g K Kp ((execOp a.eval ⟨dst, .makeSlice t x y, ty, pos, after, guard⟩).run P w) := by
          intro cells hr hK
          obtain ⟨g', le, _, hkap, inv'⟩ := inv.newArr e (esz := te.size) (cap := c.toNat) (z := 0) hr (vs := (List.replicate (c.toNat - m.toNat) z.cells.toList).flatten) (lo := 0) (hi := 0)
            (by rw [← hsplit]; rw [← hzl']; simp [List.length_flatten]) (fun i _ => by omega) rfl
          refine .val (v := .own w.heap.size m.toNat) (exec_val rfl (by rw [h1, h3]; exact hrun)) le ⟨c.toNat, rfl, hkap, by omega⟩ (by rw [← hsplit] at inv'; exact inv') hK
        have h7 := h7.all w.heap.size
        split at h7
        · exact fin _ (hzr.flat _) h7
        · exact h7.elim
        · rename_i ns no
          obtain ⟨zz, hz1, hz2⟩ := nthK_sound h7
          unfold zeroB at hzb
          split at hzb
          · rename_i e; exact absurd e (ns _)
          · exact absurd (by assumption) hkk
          · split at hzb
            · rename_i aa ea
              rw [ea] at hz1; simp at hz1; subst hz1
              refine fin _ ?_ hz2
              have := hzr.flat m.toNat
              rw [ea, flat_one] at this
              exact this
            · cases hzb
      · exact h5.elim
    · exact h4.elim
  · exact h4.elim
end
end Go.Av

namespace Go.Av
open Go

theorem fold_spl {off : Nat} : ∀ (vs us : List Value) (k : Nat), off + k + vs.length ≤ us.length →
    ((vs.zipIdx k).foldl (fun (cs : Array Value) (x : Value × Nat) => cs.setIfInBounds (off + x.2) x.1) ⟨us⟩) = ⟨us.take (off + k) ++ vs ++ us.drop (off + k + vs.length)⟩
  | [], us, k, _ => by simp
  | v :: vs, us, k, h => by
    simp only [List.length_cons] at h
    simp only [List.zipIdx_cons, List.foldl_cons]
    have e : (⟨us⟩ : Array Value).setIfInBounds (off + k) v = ⟨us.set (off + k) v⟩ := by simp
    rw [e, fold_spl vs _ (k + 1) (by simp; omega)]
    congr 1
    have e1 : (us.set (off + k) v).take (off + (k + 1)) = us.take (off + k) ++ [v] := by
      rw [show off + (k + 1) = off + k + 1 by omega, List.take_succ_eq_append_getElem (by simp; omega)]
      simp [List.take_set_of_le]
    have e2 : (us.set (off + k) v).drop (off + (k + 1) + vs.length) = us.drop (off + k + (vs.length + 1)) := by
      rw [show off + (k + 1) + vs.length = off + k + (vs.length + 1) by omega, List.drop_set_of_lt (by omega)]
    rw [e1, e2]; simp
theorem fill_cons {place : Nat → Option (Nat × Nat)} {us : List Value} {i off size : Nat} {v : Value} {rest : List (Nat × Value)} (hp : place i = some (off, size)) (hs : v.cells.size = size) (hb : off + size ≤ us.length) :
    Instr.fill place ⟨us⟩ ((i, v) :: rest) = Instr.fill place ⟨us.take off ++ v.cells.toList ++ us.drop (off + size)⟩ rest := by
  have hb' : ¬ (off + v.cells.size > (⟨us⟩ : Array Value).size) := by rw [hs]; simpa using hb
  rw [Instr.fill, hp]
  simp only [hs, ne_eq, not_true_eq_false, decide_false, Bool.false_or]
  rw [if_neg (by rw [hs] at hb'; simpa using hb')]
  congr 1
  have h := fold_spl (off := off) v.cells.toList us 0 (by simp [hs]; omega)
  rw [Nat.add_zero] at h
  simp only [Array.length_toList, hs] at h
  rw [← h, ← Array.foldl_toList]
  simp [Array.toList_zipIdx]

section
variable {P : Program} {tb : Tab} {n : Nat} {W : World} {F : St} {g : Gh} {env : Env} {st : St} {a : Act} {w : World} {K Kp : AV → St → Prop}

theorem fieldsB_places : ∀ {fs : List FI} {X : List Field}, fieldsB P fs X = true → X.mapM (fun f => (P.info? f.type).map fun i => (f.offset, i.size)) = some (fs.map fun f => (f.off, f.size))
  | [], [], _ => rfl
  | [], _ :: _, h => by simp [fieldsB] at h
  | _ :: _, [], h => by simp [fieldsB] at h
  | f :: fs, x :: xs, h => by
    simp only [fieldsB, Bool.and_eq_true] at h
    obtain ⟨e1, e2, _, ⟨i, hi, hs⟩, _, _⟩ := fieldB_spec h.1
    simp [List.mapM_cons, hi, fieldsB_places h.2, e1, hs]

theorem fillK_sound {fs : List FI} {place : Nat → Option (Nat × Nat)} (hpl : ∀ i f, fs[i]? = some f → place i = some (f.off, f.size)) : ∀ {ps : List (Nat × AV)} {qs : List (Nat × Value)} {cells : List AV} {us : List Value} {k : List AV → Prop},
    fillK fs ps cells k → ps.map (·.1) = qs.map (·.1) → RelL g false (ps.map (·.2)) (qs.map (·.2)) → RelL g true cells us →
    ∃ us' cells', Instr.fill place ⟨us⟩ qs = some ⟨us'⟩ ∧ RelL g true cells' us' ∧ k cells'
  | [], qs, cells, us, k, h, h1, _, hr => by
    cases qs with
    | nil => exact ⟨us, cells, rfl, hr, h⟩
    | cons _ _ => simp at h1
  | p :: ps, [], _, _, _, _, h1, _, _ => by simp at h1
  | p :: ps, q :: qs, cells, us, k, h, h1, ⟨u, ws, e, ⟨hu, _⟩, hws⟩, hr => by
    simp only [List.map_cons, List.cons.injEq] at h1 e
    obtain ⟨e1, e2⟩ := e
    have nthF_sound : ∀ {l : List FI} {i : Nat} {k : FI → Prop}, nthF l i k → ∃ f, l[i]? = some f ∧ k f := by
      intro l
      induction l with
      | nil => intro i k h; exact h.elim
      | cons x r ih =>
        intro i k h
        cases i with
        | zero => exact ⟨x, rfl, h⟩
        | succ i => obtain ⟨f, h1, h2⟩ := ih (i := i) h; exact ⟨f, by simpa using h1, h2⟩
    unfold fillK at h
    obtain ⟨f, hf, h⟩ := nthF_sound h
    have hp := hpl _ _ hf
    have hq : q = (p.1, u) := by rw [h1.1, ← e1]
    subst hq
    rw [← e2] at hws
    have hu : Rel g p.2 u := hu
    split at h
    · split at h
      · rename_i cs ecs
        split at h
        · exact h.elim
        · rename_i c cs
          have h := lenK_sound h
          split at h
          · rename_i el
            have el := Nat.eq_of_beq_eq_true el
            obtain ⟨h3, h4⟩ := splK_sound h
            rw [ecs] at hu
            obtain ⟨vs, rfl, hvs⟩ := hu
            have hvl := hvs.length
            have hb : f.off + f.size ≤ us.length := by
              rcases h3 with h3 | h3
              · rw [hr.length]; omega
              · cases h3
            rw [fill_cons hp (by show vs.length = _; omega) hb]
            exact fillK_sound hpl (us := us.take f.off ++ vs ++ us.drop (f.off + f.size)) h4 h1.2 hws (by
              rw [el]; exact ((hr.take f.off).append hvs).append (hr.drop _))
          · exact h.elim
      · exact h.elim
    · split at h
      · rename_i es
        have es := Nat.eq_of_beq_eq_true es
        obtain ⟨h3, h4⟩ := h
        obtain ⟨h5, h6⟩ := setK_sound h4
        have hc := Rel.one_cells h3 hu
        rw [fill_cons hp (by rw [hc.1, es]; rfl) (by rw [es, hr.length]; omega)]
        have e : us.take f.off ++ u.cells.toList ++ us.drop (f.off + f.size) = us.set f.off u := by
          rw [hc.1, es, List.set_eq_take_append_cons_drop, if_pos (by rw [hr.length]; exact h5)]; simp
        rw [e]
        exact fillK_sound hpl h6 h1.2 hws (hr.set ⟨hu, fun _ => hc.2⟩ _)
      · exact h.elim

theorem ok_build {dst ty pos after guard} {t : TypeId} {parts : Array (Nat × Operand)} (htb : TabOk P tb) (h : opW P tb (.build t parts) env st K Kp) (r : EnvR n g env a) (inv : Inv W g (st ++ F) w) :
    OpOk P W F g K Kp ((execOp a.eval ⟨dst, .build t parts, ty, pos, after, guard⟩).run P w) := by
  obtain ⟨ti, hty, h1⟩ := Tab.get_ok htb h
  have hk := tyB_kind hty
  obtain ⟨i, z, hi, hs, hb, hz, hzb⟩ := tyB_info hty
  split at h1
  · rename_i fs ek
    rw [ek] at hk
    obtain ⟨X, hX, hf⟩ := kind_struct hk
    obtain ⟨ps, h2, h3, h4⟩ := partsK_sound r h1
    have hzr := (zeroB_cells hzb (by rw [ek]; simp) g).1
    obtain ⟨us', cells', h5, h6, h7⟩ := fillK_sound (place := fun i => ((fs.map fun f => (f.off, f.size)).toArray)[i]?) (fun i f hf => by simp [hf]) (us := z.cells.toList) (qs := parts.toList.map fun p => (p.1, a.eval p.2)) h4
      (by rw [h2]; simp) (by rw [List.map_map]; exact h3) hzr
    have hb : P.built t (parts.toList.map fun p => (p.1, a.eval p.2)) = some ⟨us'⟩ := by
      simp only [Program.built, hi, hX, hz, fieldsB_places hf]
      exact h5
    refine .same (u := .agg ⟨us'⟩) (v := .agg cells') (exec_val rfl (run_build w t _ _ ?_)) ⟨us', rfl, h6⟩ inv h7
    rw [← hb]; simp
  · exact h1.elim

theorem rowK_sound {ti : TyI} (r : EnvR n g env a) (hz : ∃ z, zeroB ti z = true) : ∀ {ps : List (Nat × Operand)} {m : Nat} {k : List AV → Nat → Prop} {us : List Value}, rowK env ti ps m k → m * ti.size + ps.length * ti.size ≤ us.length →
    ∃ cells vs, RelL g true cells vs ∧ vs.length = ps.length * ti.size ∧ Instr.fill (fun i => some (i * ti.size, ti.size)) ⟨us⟩ (ps.map fun p => (p.1, a.eval p.2)) = some ⟨us.take (m * ti.size) ++ vs ++ us.drop (m * ti.size + vs.length)⟩ ∧ k cells (m + ps.length)
  | [], m, k, us, h, _ => ⟨[], [], rfl, by simp, by simp [Instr.fill], h⟩
  | p :: ps, m, k, us, h, hl => by
    unfold rowK at h
    split at h
    · rename_i e
      have e := Nat.eq_of_beq_eq_true e
      obtain ⟨v, h1, h2⟩ := evalK_sound r h
      obtain ⟨cs, h3, h4, h5⟩ := cellsK_sound h2 h1
      obtain ⟨z, hz'⟩ := hz
      have hlen := h5 z hz'
      have hsz : (a.eval p.2).cells.size = ti.size := by rw [← hlen, ← h3.length]; simp
      simp only [List.length_cons, Nat.add_mul, Nat.one_mul] at hl
      have hsz' : (a.eval p.2).cells.toList.length = ti.size := by simpa using hsz
      obtain ⟨cells, vs, h6, h7, h8, h9⟩ := rowK_sound r ⟨z, hz'⟩ (m := m + 1) (us := us.take (m * ti.size) ++ (a.eval p.2).cells.toList ++ us.drop (m * ti.size + ti.size)) h4 (by
        simp only [List.length_append, List.length_take, List.length_drop, hsz', Nat.add_mul, Nat.one_mul]; omega)
      refine ⟨cs ++ cells, (a.eval p.2).cells.toList ++ vs, h3.append h6, ?_, ?_, ?_⟩
      · simp only [List.length_append, hsz', h7, List.length_cons, Nat.add_mul, Nat.one_mul]; omega
      · rw [List.map_cons, e, fill_cons rfl hsz (by omega), h8]
        congr 2
        have hmm : (m + 1) * ti.size = m * ti.size + ti.size := by rw [Nat.add_mul, Nat.one_mul]
        have l1 : (us.take (m * ti.size) ++ (a.eval p.2).cells.toList).length = (m + 1) * ti.size := by
          simp only [List.length_append, List.length_take, hsz']; omega
        rw [List.take_append_of_le_length (by omega), List.take_of_length_le (by omega)]
        have d1 : (us.take (m * ti.size) ++ (a.eval p.2).cells.toList ++ us.drop (m * ti.size + ti.size)).drop ((m + 1) * ti.size + vs.length) = us.drop (m * ti.size + ((a.eval p.2).cells.toList ++ vs).length) := by
          rw [List.drop_append, List.drop_eq_nil_of_le (by omega), List.nil_append, List.drop_drop, l1]
          congr 1
          simp only [List.length_append, hsz']; omega
        rw [d1]; simp
      · rw [show m + (p :: ps).length = m + 1 + ps.length by simp; omega]; exact h9
    · exact h.elim

theorem ok_buildSlice {dst ty pos after guard} {t : TypeId} {len : Nat} {parts : Array (Nat × Operand)} (htb : TabOk P tb) (h : opW P tb (.buildSlice t len parts) env st K Kp) (r : EnvR n g env a) (inv : Inv W g (st ++ F) w) :
    OpOk P W F g K Kp ((execOp a.eval ⟨dst, .buildSlice t len parts, ty, pos, after, guard⟩).run P w) := by
  obtain ⟨ti, hty, h1⟩ := Tab.get_ok htb h
  have hk := tyB_kind hty
  split at h1
  · rename_i e ek
    rw [ek] at hk
    have hund := kind_slice hk
    obtain ⟨te, hte, h2⟩ := Tab.get_ok htb h1
    obtain ⟨i, z, hi, hs, hb, hz, hzb⟩ := tyB_info hte
    split at h2
    · exact h2.elim
    · rename_i hsm
      have hsm := Nat.le_of_ble_eq_true hsm
      split at h2
      · rename_i hln
        have hln := Nat.eq_of_beq_eq_true hln
        let zz : Array Value := if len * te.size = 0 then #[] else z.cells
        let us : List Value := ((Array.range (len * te.size)).map fun j => zz[j % zz.size]!).toList
        have hul : us.length = len * te.size := by simp [us]
        obtain ⟨cells, vs, h3, h4, h5, h6⟩ := rowK_sound r ⟨z, hzb⟩ (us := us) h2 (by rw [hln, hul]; omega)
        have hvl : vs.length = us.length := by rw [h4, hln, hul]
        have h5 : Instr.fill (fun i => some (i * te.size, te.size)) ⟨us⟩ (parts.toList.map fun p => (p.1, a.eval p.2)) = some ⟨vs⟩ := by
          rw [h5, Nat.zero_mul, Nat.zero_add, hvl]; simp
        have hrun : (Instr.buildSlice t len (parts.map fun (i, x) => (i, a.eval x))).run P w = .ok (.slice (some ⟨w.heap.size, 0, none⟩) len len) (w.alloc (.cells ⟨vs⟩ e)) := by
          have e1 : (parts.map fun (i, x) => (i, a.eval x)).toList = parts.toList.map fun p => (p.1, a.eval p.2) := by simp
          have e2 : ((Array.range (len * te.size)).map fun j => zz[j % zz.size]!) = ⟨us⟩ := by apply Array.ext'; rfl
          have hbig : ¬ len * te.size > 2 ^ 24 := by omega
          simp only [Instr.buildSlice, Sem.run_bind, run_und hund, Result.andThen_ok, run_size hi, hs, if_neg hbig]
          by_cases h0 : len * te.size = 0
          · have ez : zz = #[] := by simp [zz, h0]
            rw [ez] at e2
            simp only [h0, if_true, Sem.run_bind, Sem.run_pure, Result.andThen_ok]
            rw [h0] at e2
            rw [e2, e1, h5]
            simp [newRow]
          · have ez : zz = z.cells := by simp [zz, h0]
            rw [ez] at e2
            simp only [h0, if_false, Sem.run_bind, run_zero hi hz, Sem.run_pure, Result.andThen_ok]
            rw [e2, e1, h5]
            simp [newRow]
        obtain ⟨g1, cs', st', le1, h7, inv1, hK⟩ := VFz.sound h6 h3 inv
        let g2 : Gh := ⟨fun b i => if b = w.heap.size then vs[i]? else g1.μ b i, g1.κ⟩
        have le2 : Gh.le g1 g2 := by
          refine ⟨fun b o u hm => ?_, fun _ _ h => h⟩
          have := World.block_lt_of_cell? _ _ (inv1.mem _ _ _ hm)
          show (if b = w.heap.size then vs[o]? else g1.μ b o) = some u
          rw [if_neg (by simp at this; omega)]; exact hm
        refine .val (u := .slice (some ⟨w.heap.size, 0, none⟩) len len) (v := .fz cs' len true) (exec_val rfl hrun) (Gh.le_trans le1 le2)
          ⟨some ⟨w.heap.size, 0, none⟩, len, rfl, Nat.le_refl _, fun _ => rfl, .inr ⟨w.heap.size, 0, rfl, Cells.of_nth fun i v hv => ?_⟩⟩ ?_ hK
        · obtain ⟨u, e1, e2, e3⟩ := h7.nth i hv
          refine ⟨u, ?_, e2.mono le2, e3 rfl⟩
          show (if w.heap.size = w.heap.size then vs[0 + i]? else _) = some u
          rw [if_pos rfl, Nat.zero_add]; exact e1
        · refine ⟨fun b o u hm => ?_, fun x hx => ?_, inv1.nodup, inv1.low, fun b n hn => by simpa using Nat.lt_succ_of_lt (inv1.cap b n hn), inv1.below.alloc inv1.base_le _⟩
          · change (if b = w.heap.size then vs[o]? else g1.μ b o) = some u at hm
            split at hm
            · rename_i hbb; subst hbb
              rw [cell_of (heap_alloc_new w _)]; exact hm
            · have h1 := inv1.mem _ _ _ hm
              have h2 := World.block_lt_of_cell? _ _ h1
              rw [World.cell?_alloc_lt _ _ _ (by simpa using h2)]; exact h1
          · have ro := inv1.obj x hx
            refine (ro.world (heap_alloc_old ro.lt)).gh le2 fun i hi => ?_
            show (if x.1 = w.heap.size then vs[i]? else g1.μ x.1 i) = none
            rw [if_neg (by have := ro.lt; omega)]; exact hi
      · exact h2.elim
  · exact h1.elim
end
end Go.Av

namespace Go.Av
open Go

section
variable {P : Program} {tb : Tab} {n : Nat} {W : World} {F : St} {g : Gh} {env : Env} {st : St} {a : Act} {w : World} {K Kp : AV → St → Prop}

theorem run_loadAll {w : World} {b o : Nat} {us : List Value} (h : ∀ (i : Nat) u, us[i]? = some u → w.cell? ⟨b, o + i, none⟩ = some u) {k : Nat} (hk : us.length = k) : (loadCells ⟨b, o, none⟩ k).run P w = .ok ⟨us⟩ w := by
  subst hk
  exact run_loadCells_list (P := P) w ⟨b, o, none⟩ us (fun j v hv => by rw [addr_add]; exact h j v hv)
theorem cell_heap {w w' : World} (h : w'.heap = w.heap) (x : Addr) : w'.cell? x = w.cell? x := by simp only [World.cell?, h]
/-- A slice's cells as values. -/
theorem fz_vals (inv : Inv W g (st ++ F) w) {cells : List AV} {m : Nat} {full : Bool} {u : Value} (hr : Rel g (.fz cells m full) u) {esz : Nat} (hl : cells.length = m * esz) :
    ∃ us, RelL g true cells us ∧ (∀ w', w'.heap = w.heap → (Builtin.firstCells esz m u).run P w' = .ok ⟨us⟩ w') ∧ Builtin.lenOf u = pure m := by
  obtain ⟨ad, cap, rfl, h1, _, h2⟩ := hr
  rcases h2 with ⟨rfl, rfl⟩ | ⟨b, o, rfl, hc⟩
  · obtain rfl : m = 0 := by omega
    refine ⟨[], rfl, fun w' _ => ?_, rfl⟩
    cases ad with
    | none => rfl
    | some a =>
      show (loadCells a (0 * esz)).run P w' = _
      rw [Nat.zero_mul]
      exact run_loadCells_list (P := P) w' a [] (fun j v hv => by simp at hv)
  · obtain ⟨us, h3, h4⟩ := hc.rel
    refine ⟨us, h3, fun w' hw => ?_, rfl⟩
    exact run_loadAll (fun i u hu => by rw [cell_heap hw]; exact inv.mem _ _ _ (h4 i u hu)) (by rw [h3.length, hl])
theorem own_vals (inv : Inv W g (st ++ F) w) {b m i e z : Nat} {cells : List AV} (h1 : st[i]? = some (b, .arr e cells z)) (hl : m * e ≤ cells.length) {u : Value} (hr : Rel g (.own b m) u) :
    ∃ us, RelL g true (cells.take (m * e)) us ∧ (∀ w', w'.heap = w.heap → (Builtin.firstCells e m u).run P w' = .ok ⟨us⟩ w') ∧ Builtin.lenOf u = pure m := by
  obtain ⟨cap, rfl, hk, hc⟩ := hr
  obtain ⟨us, vs, T, lo, hi, cap', hh, h3, h4, h5, h6, h7⟩ := inv.objAt h1
  have hl3 := h3.length
  refine ⟨us.take (m * e), h3.take _, fun w' hw => ?_, rfl⟩
  refine run_loadAll (fun i u hu => ?_) (by simp; omega)
  have hi : i < m * e := by have := (List.getElem?_eq_some_iff.1 hu).1; simp at this; omega
  rw [List.getElem?_take_of_lt hi] at hu
  rw [cell_heap hw, Nat.zero_add, cell_of hh, List.getElem?_append_left (by omega)]; exact hu
theorem bytes_rel (g : Gh) : ∀ l : List UInt8, RelL g true (l.map fun c => AV.int .u8 c.toNat) (l.map fun c => Value.int .u8 c.toNat)
  | [] => rfl
  | _ :: l => ⟨_, _, rfl, ⟨rfl, fun _ => rfl⟩, bytes_rel g l⟩
theorem srcK_sound (inv : Inv W g (st ++ F) w) {esz : Nat} {x : AV} {k : List AV → Nat → Prop} (h : srcK st esz x k) {u : Value} (hr : Rel g x u) :
    ∃ xs us m, RelL g true xs us ∧ us.length = m * esz ∧ (∀ w', w'.heap = w.heap → (Builtin.firstCells esz m u).run P w' = .ok ⟨us⟩ w') ∧ Builtin.lenOf u = pure m ∧ k xs m := by
  unfold srcK at h
  split at h
  · have hr : u = .slice none 0 0 := hr
    subst hr
    exact ⟨[], [], 0, rfl, by simp, fun _ _ => rfl, rfl, h⟩
  · rename_i cells m full
    obtain ⟨hl, h⟩ := h
    rw [mulN_eq] at hl
    obtain ⟨us, h1, h2, h3⟩ := fz_vals (P := P) inv hr hl
    exact ⟨cells, us, m, h1, by rw [h1.length, hl], h2, h3, h⟩
  · rename_i b m
    obtain ⟨i, o, h1, h2⟩ := h
    split at h2
    · rename_i e cells z
      obtain ⟨⟨rfl, hl⟩, h2⟩ := h2
      rw [mulN_eq] at hl h2
      obtain ⟨us, h3, h4, h5⟩ := own_vals (P := P) inv h1 hl hr
      exact ⟨_, us, m, h3, by rw [h3.length]; simp; omega, h4, h5, h2⟩
    · exact h2.elim
  · rename_i l
    have hr : u = .string ⟨⟨l⟩⟩ := hr
    subst hr
    split at h
    · refine ⟨_, l.map fun c => .int .u8 c.toNat, l.length, bytes_rel g l, by simp, fun w' _ => ?_, rfl, h⟩
      show Result.ok (((⟨⟨l⟩⟩ : ByteArray).extract 0 l.length).data.map _) w' = _
      congr 1
      apply Array.ext'
      simp [ByteArray.data_extract]
    · exact h.elim
  · exact h.elim

theorem growBy_le (newLen : Nat) : ∀ (r c : Nat), c ≤ newLen → Builtin.growBy newLen r c ≤ newLen + (newLen + 768) / 4
  | 0, c, h => by simp only [Builtin.growBy]; omega
  | r + 1, c, h => by
    unfold Builtin.growBy
    split
    · omega
    · by_cases h2 : c + (c + 768) / 4 ≤ newLen
      · exact growBy_le newLen r _ h2
      · cases r with
        | zero => simp only [Builtin.growBy]; omega
        | succ r => unfold Builtin.growBy; rw [if_pos (by omega)]; omega
theorem nextcap_bound {bytes need cap : Nat} (h : bytes * need ≤ 140737488355328) (hb : bytes ≤ 1073741824) (hc : cap < need) : ¬ (Builtin.nextslicecap need cap * bytes > 2 ^ 48) := by
  unfold Builtin.nextslicecap
  split
  · rw [Nat.mul_comm]; omega
  · split
    · have : 2 * cap * bytes ≤ 2 * (bytes * need) := by
        rw [Nat.mul_assoc, Nat.mul_comm cap bytes]; exact Nat.mul_le_mul_left _ (Nat.mul_le_mul_left _ (by omega))
      omega
    · have h1 := growBy_le need 4 cap (by omega)
      have h2 : Builtin.growBy need 4 cap ≤ need + need / 4 + 193 := by omega
      have h3 : 4 * Builtin.growBy need 4 cap ≤ 5 * need + 772 := by omega
      have : 4 * (Builtin.growBy need 4 cap * bytes) ≤ 5 * (bytes * need) + 772 * bytes := by
        calc 4 * (Builtin.growBy need 4 cap * bytes) = 4 * Builtin.growBy need 4 cap * bytes := by rw [Nat.mul_assoc]
          _ ≤ (5 * need + 772) * bytes := Nat.mul_le_mul_right _ h3
          _ = 5 * (bytes * need) + 772 * bytes := by rw [Nat.add_mul, Nat.mul_assoc, Nat.mul_comm need]
      omega

/-- What append comes to where a new row is made. -/
theorem run_append_new {sT xT e : TypeId} {base : Option Addr} {m cap k : Nat} {x : Value} {te : TyI} {rt : TypeId} (hS : P.underlying sT = some (.slice e)) (hX : ∀ q, P.underlying xT ≠ some (.int q)) (hXs : (P.underlying xT).isSome) (hte : tyB P e te = true) (hk : te.kind ≠ .other)
    (hb : 0 < te.bytes) (hlen : Builtin.lenOf x = pure k) {old new : List Value} (hold : ∀ w', w'.heap = w.heap → (Builtin.firstCells te.size m (.slice base m cap)).run P w' = .ok ⟨old⟩ w')
    (hnew : ∀ w', w'.heap = w.heap → (Builtin.firstCells te.size k x).run P w' = .ok ⟨new⟩ w') (hcap : cap < m + k) (hbound : te.bytes * (m + k) ≤ 140737488355328) :
    ∃ c rest, m + k ≤ c ∧ rest.length = (c - (m + k)) * te.size ∧ (Builtin.append_ #[sT, xT] rt #[.slice base m cap, x]).run P w = .ok (.slice (some ⟨w.heap.size, 0, none⟩) (m + k) c) (w.drew.alloc (.cells ⟨old ++ new ++ rest⟩ e (0, 0))) := by
  obtain ⟨i, z, hi, hs, hbb, hz, hzb⟩ := tyB_info hte
  obtain ⟨dx, hdx⟩ := Option.isSome_iff_exists.1 hXs
  have hz2 := (zeroB_cells hzb hk ⟨fun _ _ => none, fun _ => none⟩)
  have hzl : z.cells.size = te.size := by rw [← hz2.2, ← hz2.1.length]; simp
  let c := (Question.appendCap (m + k) cap e).cut (w.tape w.drawn (.appendCap (m + k) cap e))
  have hc : m + k ≤ c := by show m + k ≤ (m + k) + _ % _; omega
  refine ⟨c, (Builtin.zeroCells z.cells (c - (m + k))).toList, hc, by simp [Builtin.zeroCells, hzl], ?_⟩
  have hneed : ¬ ((((m + k : Nat) : Int) > IntKind.i64.max) ∧ ((false = true) ∨ i.bytes = 0)) := by rintro ⟨_, h | h⟩; cases h; omega
  have hnc := nextcap_bound hbound (tyB_bytes hte) hcap
  unfold Builtin.append_
  simp only [List.getElem?_toArray, List.getElem?_cons_zero, List.getElem?_cons_succ, Sem.run_bind, run_und hS, Result.andThen_ok, run_size hi, hs, run_und hdx, Sem.run_pure, hlen]
  have hfalse : ∀ {α : Type} (x y : Sem α), (if (false = true) then x else y) = y := fun _ _ => rfl
  cases dx
  case int q => exact absurd hdx (hX q)
  all_goals
    simp only [hfalse, Sem.run_bind, Sem.run_pure, Result.andThen_ok, if_neg (show ¬ m + k ≤ cap by omega), run_info hi, hbb, Bool.not_false, if_true]
    rw [if_neg (by rw [← hbb]; exact hneed)]
    simp only [Sem.run_bind, run_info hi, Result.andThen_ok, hbb]
    rw [if_neg hnc]
    simp only [Sem.run_bind, run_choose, Question.forced, Bool.false_eq_true, if_false, Result.andThen_ok, run_info hi, run_askRoom, hold, hnew, run_zero hi hz, Sem.run_pure, newRow, run_newObj]
    rw [show ∀ Z : Array Value, ((⟨old⟩ : Array Value) ++ ⟨new⟩ ++ Z) = ⟨old ++ new ++ Z.toList⟩ from fun Z => by apply Array.ext'; simp]
    rfl

/-- .. and where there is room. -/
theorem run_append_room {sT xT e : TypeId} {b m cap k : Nat} {x : Value} {te : TyI} {rt : TypeId} (hS : P.underlying sT = some (.slice e)) (hX : ∀ q, P.underlying xT ≠ some (.int q)) (hXs : (P.underlying xT).isSome) (hte : tyB P e te = true)
    (hlen : Builtin.lenOf x = pure k) {new : List Value} (hnew : (Builtin.firstCells te.size k x).run P w = .ok ⟨new⟩ w) (hcap : m + k ≤ cap) {w' : World}
    (hst : (storeCells ⟨b, m * te.size, none⟩ new 0).run P w = .ok () w') :
    (Builtin.append_ #[sT, xT] rt #[.slice (some ⟨b, 0, none⟩) m cap, x]).run P w = .ok (.slice (some ⟨b, 0, none⟩) (m + k) cap) w' := by
  obtain ⟨i, z, hi, hs, hbb, hz, hzb⟩ := tyB_info hte
  obtain ⟨dx, hdx⟩ := Option.isSome_iff_exists.1 hXs
  unfold Builtin.append_
  simp only [List.getElem?_toArray, List.getElem?_cons_zero, List.getElem?_cons_succ, Sem.run_bind, run_und hS, Result.andThen_ok, run_size hi, hs, run_und hdx, Sem.run_pure, hlen]
  have hfalse : ∀ {α : Type} (x y : Sem α), (if (false = true) then x else y) = y := fun _ _ => rfl
  have ha : (⟨b, 0, none⟩ : Addr).add (m * te.size) = ⟨b, m * te.size, none⟩ := by rw [addr_add, Nat.zero_add]
  cases dx
  case int q => exact absurd hdx (hX q)
  all_goals
    simp only [hfalse, Sem.run_bind, Sem.run_pure, Result.andThen_ok, if_pos hcap, Bool.not_false, if_true, hnew, ha, hst]
theorem run_append_nil {sT xT e : TypeId} {x : Value} {te : TyI} {rt : TypeId} (hS : P.underlying sT = some (.slice e)) (hX : ∀ q, P.underlying xT ≠ some (.int q)) (hXs : (P.underlying xT).isSome) (hte : tyB P e te = true)
    (hlen : Builtin.lenOf x = pure 0) {new : List Value} (hnew : (Builtin.firstCells te.size 0 x).run P w = .ok ⟨new⟩ w) :
    (Builtin.append_ #[sT, xT] rt #[.slice none 0 0, x]).run P w = .ok (.slice none 0 0) w := by
  obtain ⟨i, z, hi, hs, hbb, hz, hzb⟩ := tyB_info hte
  obtain ⟨dx, hdx⟩ := Option.isSome_iff_exists.1 hXs
  unfold Builtin.append_
  simp only [List.getElem?_toArray, List.getElem?_cons_zero, List.getElem?_cons_succ, Sem.run_bind, run_und hS, Result.andThen_ok, run_size hi, hs, run_und hdx, Sem.run_pure, hlen]
  have hfalse : ∀ {α : Type} (x y : Sem α), (if (false = true) then x else y) = y := fun _ _ => rfl
  cases dx
  case int q => exact absurd hdx (hX q)
  all_goals
    simp only [hfalse, Sem.run_bind, Sem.run_pure, Result.andThen_ok, if_pos (Nat.le_refl 0), Nat.add_zero, Bool.not_false, if_true, hnew]

theorem appW_sound {sT xT e : TypeId} {te : TyI} {rt : TypeId} (hS : P.underlying sT = some (.slice e)) (hX : ∀ q, P.underlying xT ≠ some (.int q)) (hXs : (P.underlying xT).isSome) (hte : tyB P e te = true)
    {s x : AV} {K : AV → St → Prop} (h : appW te st s x K) {su xu : Value} (hs : Rel g s su) (hx : Rel g x xu) (inv : Inv W g (st ++ F) w) :
    ∃ u w' g' v st', (Builtin.append_ #[sT, xT] rt #[su, xu]).run P w = .ok u w' ∧ Gh.le g g' ∧ Rel g' v u ∧ Inv W g' (st' ++ F) w' ∧ K v st' := by
  unfold appW at h
  split at h
  · exact h.elim
  rename_i hko
  have hkk : te.kind ≠ .other := by intro e; rw [e] at hko; cases hko
  split at h
  · exact h.elim
  · rename_i bb hbb
    have hb : 0 < te.bytes := by omega
    obtain ⟨xs, us, k, h1, h2, h3, h4, h5⟩ := srcK_sound (P := P) inv h hx
    clear h
    -- a new row
    have fresh : ∀ {base : Option Addr} {m cap : Nat} {old : List Value} {ocells : List AV} {zz : Nat}, su = .slice base m cap → RelL g true ocells old → old.length = m * te.size →
        (∀ w', w'.heap = w.heap → (Builtin.firstCells te.size m (.slice base m cap)).run P w' = .ok ⟨old⟩ w') → cap < m + k → te.bytes * (m + k) ≤ 140737488355328 → ∀ {st1 : St}, Inv W g (st1 ++ F) w.drew →
        K (.own w.heap.size (m + k)) ((w.heap.size, .arr te.size (ocells ++ xs) zz) :: st1) →
        ∃ u w' g' v st', (Builtin.append_ #[sT, xT] rt #[su, xu]).run P w = .ok u w' ∧ Gh.le g g' ∧ Rel g' v u ∧ Inv W g' (st' ++ F) w' ∧ K v st' := by
      intro base m cap old ocells zz e1 e2 e3 e4 e5 e6 st1 inv1 hK
      subst e1
      obtain ⟨c, rest, e7, e8, e9⟩ := run_append_new (w := w) (rt := rt) hS hX hXs hte hkk hb h4 e4 h3 e5 e6
      obtain ⟨g', le, _, hkap, inv'⟩ := inv1.newArr e (esz := te.size) (cap := c) (z := zz) (e2.append h1) (vs := rest) (lo := 0) (hi := 0)
        (by
          simp only [List.length_append, e3, h2, e8]
          rw [← Nat.add_mul, ← Nat.add_mul]; congr 1; omega) (fun i _ => by omega) rfl
      exact ⟨_, _, g', .own w.heap.size (m + k), _, e9, le, ⟨c, rfl, hkap, e7⟩, inv', hK⟩
    split at h5
    · obtain ⟨b1, h5⟩ := h5
      have hs : su = .slice none 0 0 := hs
      by_cases hk0 : k = 0
      · subst hk0
        subst hs
        exact ⟨_, _, g, .nils, st, run_append_nil hS hX hXs hte h4 (h3 w rfl), Gh.le_refl g, rfl, inv, h5.t (by simp)⟩
      · exact fresh hs (ocells := []) (old := []) rfl (by simp) (fun w' _ => rfl) (by omega) (by simpa using b1) inv.drew (by
          have := (h5.f (by simpa using hk0)).all w.heap.size
          simpa using this)
    · rename_i cells m full
      obtain ⟨⟨b1, b2, b3, b4⟩, h5⟩ := h5
      rw [mulN_eq] at b3
      obtain ⟨old, r1, r2, r3⟩ := fz_vals (P := P) inv hs b3
      obtain ⟨ad, cap, e, c1, c2, _⟩ := hs
      have hc := c2 b1
      subst hc
      exact fresh e (ocells := cells) r1 (by rw [r1.length, b3]) (by rw [← e]; exact r2) (by omega) b4 inv.drew (h5.all _)
    · rename_i b m
      obtain ⟨i, o, h6, h7⟩ := h5
      split at h7
      · rename_i esz cells z
        obtain ⟨⟨b1, b2, b3, b4⟩, h7⟩ := h7
        rw [mulN_eq] at b2 b3 h7
        subst b1
        have h8 := stDelK_sound h7
        obtain ⟨old, r1, r2, r3⟩ := own_vals (P := P) inv h6 b3 hs
        have hs' := hs
        obtain ⟨cap, e, c1, c2⟩ := hs'
        have hdel : Inv W g (st.eraseIdx i ++ F) w := inv.sublist (List.Sublist.append (List.eraseIdx_sublist ..) (List.Sublist.refl _))
        by_cases hroom : m + k ≤ cap
        · subst e
          obtain ⟨us', vs', T, lo, hi, cap', hh, q1, q2, q3, q4, q5⟩ := inv.objAt h6
          rw [q3] at c1; cases c1
          have hq := q1.length
          have hle : m * te.size + us.length ≤ (us' ++ vs').length := by
            rw [q4, h2, ← Nat.add_mul]; exact Nat.mul_le_mul_right _ hroom
          obtain ⟨w', hw1, hw2⟩ := run_storeCells (P := P) (b := b) (o := m * te.size) us (us' ++ vs') T lo hi w 0 hh h1.ones q2 (by omega)
          rw [Nat.add_zero] at hw2
          refine ⟨_, w', g, .own b (m + k), (b, .arr te.size (cells.take (m * te.size) ++ xs) z) :: st.eraseIdx i, run_append_room hS hX hXs hte h4 (h3 w rfl) hroom hw1, Gh.le_refl g, ⟨cap, rfl, q3, hroom⟩, ?_, h8.all b⟩
          have hput : Inv W g (st.set i (b, .arr te.size (cells.take (m * te.size) ++ xs) z) ++ F) w' := by
            have htk : (us' ++ vs').take (m * te.size) = us'.take (m * te.size) := List.take_append_of_le_length (by omega)
            rw [htk] at hw2
            refine inv.upd h6 (Gh.le_refl g) (fun _ _ _ => rfl) inv.cap (fun j u hm => ?_) hw2.other hw2.size (hw2.below inv.below (inv.lowAt h6))
              ⟨us'.take (m * te.size) ++ us, (us' ++ vs').drop (m * te.size + us.length), T, lo, hi, cap, hw2.at_, (q1.take _).append h1, ?_, q3, ?_, q5⟩
            · have hj : j < z := by
                rcases Nat.lt_or_ge j z with h | h
                · exact h
                · rw [q5 j h] at hm; cases hm
              have := inv.mem _ _ _ hm
              rw [cell_of hh, List.getElem?_append_left (by omega)] at this
              rw [cell_of hw2.at_, List.append_assoc, List.getElem?_append_left (by simp; omega), List.getElem?_take_of_lt (by omega)]
              exact this
            · intro j hj; refine q2 j ?_
              simp only [List.length_append, List.length_take, List.length_drop] at hj hle ⊢; omega
            · rw [← q4]; simp only [List.length_append, List.length_take, List.length_drop] at hle ⊢; omega
          refine hput.perm ?_
          have hlt : i < st.length := (List.getElem?_eq_some_iff.1 h6).1
          show ((b, AObj.arr te.size (cells.take (m * te.size) ++ xs) z) :: (st.eraseIdx i ++ F)).Perm _
          rw [List.set_eq_take_append_cons_drop, if_pos hlt, List.eraseIdx_eq_take_drop_succ]
          simp only [List.append_assoc, List.cons_append]
          exact List.perm_middle.symm
        · subst e
          exact fresh rfl r1 (by rw [r1.length]; simp; omega) r2 (by omega) b4 hdel.drew (h8.all _)
      · exact h7.elim
    · exact h5.elim
end
end Go.Av

namespace Go.Av
open Go

theorem nthF_sound : ∀ {l : List FI} {i : Nat} {k : FI → Prop}, nthF l i k → ∃ f, l[i]? = some f ∧ k f
  | [], _, _, h => h.elim
  | x :: _, 0, _, h => ⟨x, rfl, h⟩
  | _ :: r, i + 1, _, h => by obtain ⟨f, h1, h2⟩ := nthF_sound (l := r) (i := i) h; exact ⟨f, by simpa using h1, h2⟩

section
variable {P : Program} {tb : Tab} {n : Nat} {W : World} {F : St} {g : Gh} {env : Env} {st : St} {a : Act} {w : World} {K Kp : AV → St → Prop}

theorem intOfK_sound {v : AV} {k : Int → Prop} (h : intOfK v k) : ∃ kd m, v = .int kd m ∧ k m := by
  unfold intOfK at h
  split at h
  · exact ⟨_, _, rfl, h⟩
  · exact h.elim

theorem ok_fieldAddr {dst ty pos after guard} {t : TypeId} {x : Operand} {i : Nat} (htb : TabOk P tb) (h : opW P tb (.fieldAddr t x i) env st K Kp) (r : EnvR n g env a) (inv : Inv W g (st ++ F) w) :
    OpOk P W F g K Kp ((execOp a.eval ⟨dst, .fieldAddr t x i, ty, pos, after, guard⟩).run P w) := by
  obtain ⟨v, h1, h2⟩ := evalK_sound r h
  obtain ⟨ti, hty, h3⟩ := Tab.get_ok htb h2
  have hk := tyB_kind hty
  split at h3
  · rename_i fs ek; rw [ek] at hk
    obtain ⟨X, hX, hf⟩ := kind_struct hk
    obtain ⟨f, x', hf1, hx1, hfb, h4⟩ := fieldsB_nth i hf h3
    obtain ⟨e1, e2, e3, ⟨fi, hfi, hfs⟩, _, _⟩ := fieldB_spec hfb
    have hx1' : X[i]? = some x' := by simpa using hx1
    split at h4
    · exact h4.elim
    · rename_i m hm
      have hsz : ¬ fi.size = 0 := by rw [hfs, hm]; omega
      have hrun : ∀ b o, (Instr.fieldAt t (.pointer (some ⟨b, o, none⟩)) i).run P w = .ok (.pointer (some ⟨b, o + f.off, none⟩)) w := by
        intro b o
        simp only [Instr.fieldAt, Sem.run_bind, run_und hX, Result.andThen_ok, hx1', Instr.sureAddr, Sem.run_pure, fieldPlace, run_size hfi]
        rw [if_neg hsz]
        simp only [Sem.run_pure, Result.andThen_ok, addr_add, e1]
      cases v with
      | ptr b o =>
        have h1 : a.eval x = .pointer (some ⟨b, o, none⟩) := h1
        exact .same (v := .ptr b (o + f.off)) (exec_val rfl (by rw [h1]; exact hrun b o)) rfl inv h4
      | fzp cells =>
        obtain ⟨b, o, e, hc⟩ := h1
        exact .same (v := .fzp (cells.drop f.off)) (exec_val rfl (by rw [e]; exact hrun b o)) ⟨b, o + f.off, rfl, hc.drop _⟩ inv h4
      | gp b o =>
        have h1 : a.eval x = .pointer (some ⟨b, o, none⟩) := h1
        exact .same (v := .gp b (o + f.off)) (exec_val rfl (by rw [h1]; exact hrun b o)) rfl inv h4
      | _ => exact h4.elim
  · exact h3.elim

theorem ok_field {dst ty pos after guard} {t : TypeId} {x : Operand} {i : Nat} (htb : TabOk P tb) (h : opW P tb (.field t x i) env st K Kp) (r : EnvR n g env a) (inv : Inv W g (st ++ F) w) :
    OpOk P W F g K Kp ((execOp a.eval ⟨dst, .field t x i, ty, pos, after, guard⟩).run P w) := by
  obtain ⟨v, h1, h2⟩ := evalK_sound r h
  obtain ⟨ti, hty, h3⟩ := Tab.get_ok htb h2
  have hk := tyB_kind hty
  split at h3
  · rename_i fs ek; rw [ek] at hk
    obtain ⟨X, hX, hf⟩ := kind_struct hk
    obtain ⟨f, x', hf1, hx1, hfb, h4⟩ := fieldsB_nth i hf h3
    obtain ⟨e1, e2, e3, ⟨fi, hfi, hfs⟩, e5, dd, hdd⟩ := fieldB_spec hfb
    have hx1' : X[i]? = some x' := by simpa using hx1
    split at h4
    · rename_i cells
      obtain ⟨us, e, hus⟩ := h1
      split at h4
      · rename_i ea
        obtain ⟨cs, c1, c2, c3⟩ := h4
        have hag : (isAgg x'.type).run P w = .ok true w := by
          rw [ea] at e5
          unfold aggT at e5
          split at e5 <;> first | (rename_i hu; simp [isAgg, run_und hu]; done) | cases e5
        refine .same (u := .agg ((⟨us⟩ : Array Value).extract x'.offset (x'.offset + fi.size))) (v := .agg cs) (exec_val rfl ?_) ⟨(us.drop f.off).take f.size, ?_, by rw [← c1]; exact (hus.drop _).take _⟩ inv c3
        · rw [e]; simp [Instr.field, run_und hX, hx1', asAgg, part, hag, run_size hfi]
        · congr 1; apply Array.ext'; simp [← e1, hfs]
      · rename_i ea
        obtain ⟨v, c1, c2⟩ := h4
        have hag : (isAgg x'.type).run P w = .ok false w := by
          rw [ea] at e5
          simp only [aggT, hdd] at e5
          refine run_isAgg_plain hdd (fun xs e => ?_) (fun n e' e => ?_) <;> (subst e; cases e5)
        obtain ⟨u, c3, c4, _⟩ := hus.nth _ c1
        refine .same (u := u) (v := v) (exec_val rfl ?_) c4 inv c2
        rw [e]; simp [Instr.field, run_und hX, hx1', asAgg, part, hag, ← e1, c3]
    · exact h4.elim
  · exact h3.elim

theorem ok_indexAddr {dst ty pos after guard} {t : TypeId} {x y : Operand} (htb : TabOk P tb) (h : opW P tb (.indexAddr t x y) env st K Kp) (r : EnvR n g env a) (inv : Inv W g (st ++ F) w) :
    OpOk P W F g K Kp ((execOp a.eval ⟨dst, .indexAddr t x y, ty, pos, after, guard⟩).run P w) := by
  obtain ⟨v, h1, h2⟩ := evalK_sound r h
  obtain ⟨q, h3, h4⟩ := evalK_sound r h2
  obtain ⟨kd, i, rfl, h5⟩ := intOfK_sound h4
  have h3 : a.eval y = .int kd i := h3
  obtain ⟨ti, hty, h6⟩ := Tab.get_ok htb h5
  have hk := tyB_kind hty
  split at h6
  · rename_i e ek; rw [ek] at hk
    have hund := kind_slice hk
    obtain ⟨te, hte, h7⟩ := Tab.get_ok htb h6
    obtain ⟨ie, z, hi, hs, _⟩ := tyB_info hte
    have hrun : ∀ ad (len cap : Nat), 0 ≤ i → i < (len : Int) → (Instr.indexAt t (.slice (some ad) len cap) (.int kd i)).run P w = .ok (.pointer (some (ad.add (i.toNat * te.size)))) w := by
      intro ad len cap h0 h1
      simp only [Instr.indexAt, asIntOf, Sem.run_bind, Sem.run_pure, Result.andThen_ok, run_und hund]
      rw [if_pos ⟨h0, h1⟩]
      simp only [Sem.run_bind, run_size hi, hs, Result.andThen_ok, Sem.run_pure]
    split at h7
    · rename_i cells m full
      obtain ⟨b1, b2, h8⟩ := h7
      obtain ⟨ad, cap, ex, c1, c2, c3⟩ := h1
      rcases c3 with ⟨c3, _⟩ | ⟨b, o, rfl, hc⟩
      · omega
      · refine .same (v := .fzp (cells.drop (mulN i.toNat te.size))) (exec_val rfl (by rw [ex, h3]; exact hrun _ m cap b1 b2)) ⟨b, o + i.toNat * te.size, by rw [addr_add], ?_⟩ inv h8
        rw [mulN_eq]; exact hc.drop _
    · rename_i b m
      obtain ⟨b1, b2, h8⟩ := h7
      obtain ⟨cap, ex, _⟩ := h1
      refine .same (v := .ptr b (mulN i.toNat te.size)) (exec_val rfl (by rw [ex, h3]; exact hrun _ m cap b1 b2)) ?_ inv h8
      show Value.pointer _ = _
      rw [addr_add, Nat.zero_add, mulN_eq]
    · exact h7.elim
  · split at h6
    · rename_i ne ea
      obtain ⟨te, hte, h7⟩ := Tab.get_ok htb h6
      obtain ⟨ie, z, hi, hs, _⟩ := tyB_info hte
      have hund := tyB_arr (n := ne.1) (e := ne.2) hty ea
      have hrun : ∀ b o, 0 ≤ i → i < (ne.1 : Int) → (Instr.indexAt t (.pointer (some ⟨b, o, none⟩)) (.int kd i)).run P w = .ok (.pointer (some ⟨b, o + i.toNat * te.size, none⟩)) w := by
        intro b o h0 h1
        simp only [Instr.indexAt, asIntOf, Instr.sureAddr, Sem.run_bind, Sem.run_pure, Result.andThen_ok, run_und hund]
        rw [if_pos ⟨h0, h1⟩]
        simp only [Sem.run_bind, run_size hi, hs, Result.andThen_ok, Sem.run_pure, addr_add]
      rcases arrK_spec h7 with ⟨b, o, rfl, h7⟩ | ⟨b, o, rfl, h7⟩
      · obtain ⟨b1, b2, h8⟩ := h7
        have h1 : a.eval x = .pointer (some ⟨b, o, none⟩) := h1
        exact .same (v := .gp b (o + mulN i.toNat te.size)) (exec_val rfl (by rw [h1, h3]; exact hrun b o b1 b2)) (by rw [mulN_eq]; rfl) inv h8
      · obtain ⟨b1, b2, h8⟩ := h7
        have h1 : a.eval x = .pointer (some ⟨b, o, none⟩) := h1
        exact .same (v := .ptr b (o + mulN i.toNat te.size)) (exec_val rfl (by rw [h1, h3]; exact hrun b o b1 b2)) (by rw [mulN_eq]; rfl) inv h8
    · exact h6.elim
  · exact h6.elim

theorem ok_index {dst ty pos after guard} {t : TypeId} {x y : Operand} (h : opW P tb (.index t x y) env st K Kp) (htb : TabOk P tb) (r : EnvR n g env a) (inv : Inv W g (st ++ F) w) :
    OpOk P W F g K Kp ((execOp a.eval ⟨dst, .index t x y, ty, pos, after, guard⟩).run P w) := by
  obtain ⟨v, h1, h2⟩ := evalK_sound r h
  obtain ⟨q, h3, h4⟩ := evalK_sound r h2
  have h4' := Tab.get_ok htb h4
  clear h4
  obtain ⟨ti, hty, h4⟩ := h4'
  have hk := tyB_kind hty
  split at h4
  case h_2 => exact h4.elim
  rename_i ek; rw [ek] at hk
  have ht := kind_str hk
  split at h4
  · rename_i l
    obtain ⟨kd, i, rfl, h5⟩ := intOfK_sound h4
    have h1 : a.eval x = .string ⟨⟨l⟩⟩ := h1
    have h3 : a.eval y = .int kd i := h3
    obtain ⟨b1, b2, h6⟩ := h5
    have hlt : i.toNat < l.length := by omega
    refine .same (v := .int .u8 (l.getD i.toNat 0).toNat) (exec_val rfl (by rw [h1, h3, run_index_string w t _ kd i ht, dif_pos ⟨b1, b2⟩])) ?_ inv h6
    show Value.int _ _ = Value.int _ _
    congr 2
    have : (⟨⟨l⟩⟩ : ByteArray)[i.toNat]'(hlt) = l[i.toNat] := rfl
    rw [this]; simp [List.getD, hlt]
  · exact h4.elim

theorem run_getObj {r : Nat} {old : Obj} (h : w.heap[r]? = some old) (hc : ∀ c e f, old ≠ .cells c e f) : (getObj r).run P w = .ok old w := by
  simp only [getObj, Sem.run, h]
theorem ok_range {dst ty pos after guard} {t : TypeId} {x : Operand} (h : opW P tb (.range t x) env st K Kp) (htb : TabOk P tb) (r : EnvR n g env a) (inv : Inv W g (st ++ F) w) :
    OpOk P W F g K Kp ((execOp a.eval ⟨dst, .range t x, ty, pos, after, guard⟩).run P w) := by
  obtain ⟨v, h1, h2⟩ := evalK_sound r h
  have h2' := Tab.get_ok htb h2
  clear h2
  obtain ⟨ti, hty, h2⟩ := h2'
  have hk := tyB_kind hty
  split at h2
  case h_3 => exact h2.elim
  case h_2 =>
    rename_i kt et ek; rw [ek] at hk
    have hm := kind_map hk
    unfold rangeM at h2
    split at h2
    · rename_i m
      have h1 : a.eval x = .map (some m) := h1
      obtain ⟨n', ob, h3, h4⟩ := h2
      have fin : ∀ {es : List MapEntry} {clock : Nat} {st' : St}, w.heap[m]? = some (.map ⟨es⟩ clock) → Inv W g (st' ++ F) w → K (.ptr w.heap.size 0) ((w.heap.size, .miter m clock [] clock) :: st') →
          OpOk P W F g K Kp ((execOp a.eval ⟨dst, .range t x, ty, pos, after, guard⟩).run P w) := by
        intro es clock st' ho inv' hK
        refine .val (v := .ptr w.heap.size 0) (w' := w.alloc (.mapIter (some m) clock #[] clock)) (exec_val rfl (by rw [h1]; simp [Instr.range, run_und hm, run_getObj ho (by simp)])) (Gh.le_refl g) rfl ?_ hK
        exact inv'.alloc _ _ (Gh.le_refl g) (fun _ _ => rfl) (fun b n e => Nat.lt_succ_of_lt (inv.cap b n e)) (heap_alloc_new w _)
      split at h4
      · rename_i ents
        obtain ⟨es, clock, ho, hre, hb, hn⟩ := inv.objAt h3
        have hlen : ∀ {l : List (AV × AV)} {us : List MapEntry}, RelE g l us → us.length = l.length := by
          intro l
          induction l with
          | nil => intro us h; cases h; rfl
          | cons x l ih => intro us ⟨_, _, e, _, _, h⟩; cases e; simp [ih h]
        have h5 := stSetK_sound (h4.all (es.map (·.born)) clock (by simp [hlen hre]) hn (by intro x hx; obtain ⟨e, he, rfl⟩ := List.mem_map.1 hx; exact hb e he))
        refine fin ho ?_ (h5.all _)
        exact inv.upd h3 (Gh.le_refl g) (fun _ _ _ => rfl) inv.cap (fun i u e => inv.mem _ _ _ e) (fun _ _ => rfl) rfl inv.below ⟨es, ho, hre, rfl, by intro x hx; obtain ⟨e, he, rfl⟩ := List.mem_map.1 hx; exact hb e he, hn⟩
      · rename_i ents bs clock
        obtain ⟨es, ho, _⟩ := inv.objAt h3
        exact fin ho inv (h4.all _)
      · exact h4.elim
    · exact h2.elim
  rename_i ek; rw [ek] at hk
  have ht := kind_str hk
  split at h2
  · rename_i l
    have h1 : a.eval x = .string ⟨⟨l⟩⟩ := h1
    refine .val (v := .ptr w.heap.size 0) (w' := w.alloc (.stringIter ⟨⟨l⟩⟩ 0)) (exec_val rfl (by rw [h1]; simp [Instr.range, run_und ht])) (Gh.le_refl g) rfl ?_ (h2.all _)
    exact inv.alloc _ _ (Gh.le_refl g) (fun _ _ => rfl) (fun b n e => Nat.lt_succ_of_lt (inv.cap b n e)) (heap_alloc_new w _)
  · exact h2.elim

theorem run_setObj {r : Nat} {o old : Obj} (h : w.heap[r]? = some old) (hc : ∀ c e f, old ≠ .cells c e f) : (setObj r o).run P w = .ok () { w with heap := w.heap.setIfInBounds r o } := by
  simp only [setObj, Sem.run, h]
/-- An object that is no row of cells turns. -/
theorem Inv.setObj (inv : Inv W g (st ++ F) w) {m b : Nat} {o o' : AObj} (hm : st[m]? = some (b, o)) {old new : Obj} (hold : w.heap[b]? = some old) (hc : ∀ c e f, old ≠ .cells c e f)
    (hr : ∀ w' : World, w'.heap[b]? = some new → ObjR g w' b o') : Inv W g (st.set m (b, o') ++ F) { w with heap := w.heap.setIfInBounds b new } := by
  have hlt := lt_of_heap hold
  have hn : ({ w with heap := w.heap.setIfInBounds b new } : World).heap[b]? = some new := by simp [hlt]
  refine inv.upd hm (Gh.le_refl g) (fun _ _ _ => rfl) inv.cap (fun i u e => ?_) (fun k hk => by simp [Array.getElem?_setIfInBounds_ne (Ne.symm hk)]) (by simp) ?_ (hr _ hn)
  · have := inv.mem _ _ _ e
    simp only [World.cell?, hold] at this
    cases old <;> first | exact absurd rfl (hc _ _ _) | simp at this
  · exact inv.below.trans ⟨rfl, rfl, rfl, by simp, fun k hk => by
      have := inv.lowAt hm
      simp [Array.getElem?_setIfInBounds_ne (show b ≠ k by omega)]⟩

theorem ok_next {dst ty pos after guard} {x : Operand} (h : opW P tb (.next x true) env st K Kp) (r : EnvR n g env a) (inv : Inv W g (st ++ F) w) :
    OpOk P W F g K Kp ((execOp a.eval ⟨dst, .next x true, ty, pos, after, guard⟩).run P w) := by
  obtain ⟨v, h1, h2⟩ := evalK_sound r h
  split at h2
  · rename_i b
    have h1 : a.eval x = .pointer (some ⟨b, 0, none⟩) := h1
    obtain ⟨m, ob, h3, h4⟩ := h2
    split at h4
    · rename_i l p
      have ho : w.heap[b]? = some (.stringIter ⟨⟨l⟩⟩ p) := inv.objAt h3
      by_cases hp : p < l.length
      · have h5 := stSetK_sound (h4.t (by simpa using hp))
        have hrun : (Instr.next (.pointer (some ⟨b, 0, none⟩)) true ty).run P w = .ok (.tuple #[.bool true, .int .i64 p, .int .i32 (Utf8.decode ⟨⟨l⟩⟩ p).1]) { w with heap := w.heap.setIfInBounds b (.stringIter ⟨⟨l⟩⟩ (p + (Utf8.decode ⟨⟨l⟩⟩ p).2)) } := by
          have hp' : p < (⟨⟨l⟩⟩ : ByteArray).size := hp
          simp only [Instr.next, Sem.run_bind, run_getObj ho (by simp), Result.andThen_ok]
          rw [if_pos hp']
          simp only [Sem.run_bind, run_setObj ho (by simp), Result.andThen_ok, Sem.run_pure]
          rfl
        refine .val (v := .tup [.bool true, .int .i64 p, .int .i32 (Utf8.decode ⟨⟨l⟩⟩ p).1]) (exec_val rfl (by rw [h1]; exact hrun)) (Gh.le_refl g) ?_ (inv.setObj (o' := .siter l (p + (Utf8.decode ⟨⟨l⟩⟩ p).2)) h3 ho (by simp) fun w' h => h) h5
        exact ⟨_, rfl, _, _, rfl, ⟨rfl, by simp⟩, _, _, rfl, ⟨rfl, by simp⟩, _, _, rfl, ⟨rfl, by simp⟩, rfl⟩
      · have h5 := h4.f (by simpa using hp)
        have hrun : (Instr.next (.pointer (some ⟨b, 0, none⟩)) true ty).run P w = .ok (.tuple #[.bool false]) w := by
          have hp' : ¬ p < (⟨⟨l⟩⟩ : ByteArray).size := hp
          simp only [Instr.next, Sem.run_bind, run_getObj ho (by simp), Result.andThen_ok]
          rw [if_neg hp']
          rfl
        refine .same (v := .tup [.bool false]) (exec_val rfl (by rw [h1]; exact hrun)) ?_ inv h5
        exact ⟨_, rfl, _, _, rfl, ⟨rfl, by simp⟩, rfl⟩
    · exact h4.elim
  · exact h2.elim

theorem RelE.nth {g : Gh} : ∀ {l : List (AV × AV)} {us : List MapEntry}, RelE g l us → ∀ (i : Nat) {e : MapEntry}, us[i]? = some e → ∃ x, l[i]? = some x ∧ Rel g x.1 e.key ∧ Rel g x.2 e.val
  | [], us, h, i, e, hi => by cases h; simp at hi
  | x :: l, us, ⟨e', ws, he, h1, h2, h3⟩, 0, e, hi => by subst he; simp at hi; subst hi; exact ⟨x, rfl, h1, h2⟩
  | x :: l, us, ⟨e', ws, he, h1, h2, h3⟩, i + 1, e, hi => by subst he; exact RelE.nth h3 i (by simpa using hi)
theorem RelE.nth' {g : Gh} : ∀ {l : List (AV × AV)} {us : List MapEntry}, RelE g l us → ∀ (i : Nat) {x : AV × AV}, l[i]? = some x → ∃ e, us[i]? = some e ∧ Rel g x.1 e.key ∧ Rel g x.2 e.val
  | [], us, h, i, e, hi => by simp at hi
  | x :: l, us, ⟨e', ws, he, h1, h2, h3⟩, 0, e, hi => by subst he; simp at hi; subst hi; exact ⟨e', rfl, h1, h2⟩
  | x :: l, us, ⟨e', ws, he, h1, h2, h3⟩, i + 1, e, hi => by subst he; exact RelE.nth' h3 i (by simpa using hi)
theorem ok_nextM {dst ty pos after guard} {x : Operand} (h : opW P tb (.next x false) env st K Kp) (r : EnvR n g env a) (inv : Inv W g (st ++ F) w) :
    OpOk P W F g K Kp ((execOp a.eval ⟨dst, .next x false, ty, pos, after, guard⟩).run P w) := by
  obtain ⟨v, h1, h2⟩ := evalK_sound r h
  unfold nextM at h2
  split at h2
  · rename_i b
    have h1 : a.eval x = .pointer (some ⟨b, 0, none⟩) := h1
    obtain ⟨m, ob, h3, h4⟩ := h2
    split at h4
    · rename_i mm since seen last
      have ho : w.heap[b]? = some (.mapIter (some mm) since ⟨seen⟩ last) := inv.objAt h3
      obtain ⟨m2, om, h5, h6⟩ := h4
      split at h6
      · rename_i ents bs clock
        obtain ⟨⟨rfl, rfl⟩, h7⟩ := h6
        obtain ⟨es, hm, hre, hbs, hlt, hnd⟩ := inv.objAt h5
        have hborn : ∀ e ∈ es, e.born < last := fun e he => hlt _ (by rw [← hbs]; exact List.mem_map_of_mem he)
        have hall : (!(⟨seen⟩ : Array Nat).isEmpty && !(⟨es⟩ : Array MapEntry).isEmpty && (⟨es⟩ : Array MapEntry).all (·.born ≥ last)) = false := by
          cases es with
          | nil => simp
          | cons e es =>
            have := hborn e (List.mem_cons_self ..)
            have h2 : (⟨e :: es⟩ : Array MapEntry).all (·.born ≥ last) = false := by
              rw [Bool.eq_false_iff]
              intro h
              have h3 := (Array.all_eq_true'.1 h) e (by simp)
              simp at h3
              omega
            rw [h2]; simp
        generalize hleft : (⟨es⟩ : Array MapEntry).filter (fun e => !(⟨seen⟩ : Array Nat).contains e.born) = left
        have hmem : ∀ e, e ∈ left ↔ e ∈ es ∧ e.born ∉ seen := by
          intro e; rw [← hleft]; simp
        have hold : left.filter (fun e => decide (e.born < last)) = left := by
          rw [Array.filter_eq_self]
          intro e he
          simpa using hborn e ((hmem e).1 he).1
        have hnew : left.filter (fun e => decide (e.born ≥ last)) = #[] := by
          rw [Array.filter_eq_empty_iff]
          intro e he
          have := hborn e ((hmem e).1 he).1
          simpa using this
        by_cases he : left = #[]
        · have hover := h7.over (by
            intro x hx
            rw [← hbs] at hx
            obtain ⟨e, he2, rfl⟩ := List.mem_map.1 hx
            by_cases hs : e.born ∈ seen
            · exact hs
            · have := (hmem e).2 ⟨he2, hs⟩
              rw [he] at this; simp at this)
          have hrun : (Instr.next (.pointer (some ⟨b, 0, none⟩)) false ty).run P w = .ok (.tuple #[.bool false]) w := by
            simp only [Instr.next, Sem.run_bind, run_getObj ho (by simp), run_getObj hm (by simp), Result.andThen_ok, hall, Bool.false_eq_true, if_false, hleft, hold, hnew]
            simp [he, Question.forced]
          refine .same (v := .tup [.bool false]) (exec_val rfl (by rw [h1]; exact hrun)) ?_ inv hover
          exact ⟨_, rfl, _, _, rfl, ⟨rfl, by simp⟩, rfl⟩
        · have hpos : 0 < left.size := by
            rcases Nat.eq_zero_or_pos left.size with h | h
            · exact absurd (Array.eq_empty_of_size_eq_zero h) he
            · exact h
          obtain ⟨k, w1, hk, hw1, hch⟩ : ∃ k w1, k < left.size ∧ (w1 = w ∨ w1 = w.drew) ∧ (choose (.mapNext left.size)).run P w = .ok k w1 := by
            by_cases hf : (Question.mapNext left.size).forced = true
            · exact ⟨0, w, hpos, .inl rfl, by rw [run_choose_drew, if_pos hf]⟩
            · exact ⟨_, w.drew, Nat.mod_lt _ hpos, .inr rfl, by rw [run_choose_drew, if_neg hf]; rfl⟩
          have hin := (hmem left[k]).1 (Array.getElem_mem hk)
          generalize hu : left[k] = u at hin
          obtain ⟨i, hi, hiu⟩ := List.mem_iff_getElem.1 hin.1
          obtain ⟨y, hy, hky, hvy⟩ := hre.nth i (e := u) (by rw [List.getElem?_eq_getElem hi, hiu])
          have hby : bs[i]? = some u.born := by rw [← hbs]; simp [hi, hiu]
          have h8 := stSetK_sound (h7.one i y u.born hy hby hin.2)
          have inv1 : Inv W g (st ++ F) w1 := by
            rcases hw1 with rfl | rfl
            · exact inv
            · exact inv.drew
          have ho1 : w1.heap[b]? = some (.mapIter (some mm) last ⟨seen⟩ last) := by
            rcases hw1 with rfl | rfl
            · exact ho
            · exact ho
          have hrun : (Instr.next (.pointer (some ⟨b, 0, none⟩)) false ty).run P w = .ok (.tuple #[.bool true, u.key, u.val]) { w1 with heap := w1.heap.setIfInBounds b (.mapIter (some mm) last ⟨seen ++ [u.born]⟩ last) } := by
            simp only [Instr.next, Sem.run_bind, run_getObj ho (by simp), run_getObj hm (by simp), Result.andThen_ok, hall, Bool.false_eq_true, if_false, hleft, hold, hnew]
            have hsz : ((if left.isEmpty = true then #[none] else #[]) ++ (left ++ #[]).map some : Array (Option MapEntry)) = left.map some := by
              have : left.isEmpty = false := by simpa using he
              simp [this]
            rw [hsz]
            simp only [Array.size_map, Sem.run_bind, hch, Result.andThen_ok]
            have hg : (left.map some)[k]? = some (some u) := by simp [hk, hu]
            rw [hg]
            have hp : (⟨seen⟩ : Array Nat).push u.born = ⟨seen ++ [u.born]⟩ := by apply Array.ext'; simp
            simp only [Sem.run_bind, run_setObj ho1 (by simp), Result.andThen_ok, Sem.run_pure, hp]
          refine .val (v := .tup [.bool true, y.1, y.2]) (exec_val rfl (by rw [h1]; exact hrun)) (Gh.le_refl g) ?_ (inv1.setObj (o' := .miter mm last (seen ++ [u.born]) last) h3 ho1 (by simp) fun w' h => h) h8
          exact ⟨_, rfl, _, _, rfl, ⟨rfl, by simp⟩, _, _, rfl, ⟨hky, by simp⟩, _, _, rfl, ⟨hvy, by simp⟩, rfl⟩
      · exact h6.elim
    · exact h4.elim
  · exact h2.elim
theorem ok_entryM {dst ty pos after guard} {x : Operand} (h : opW P tb (.entry x) env st K Kp) (r : EnvR n g env a) (inv : Inv W g (st ++ F) w) :
    OpOk P W F g K Kp ((execOp a.eval ⟨dst, .entry x, ty, pos, after, guard⟩).run P w) := by
  obtain ⟨v, h1, h2⟩ := evalK_sound r h
  unfold entryM at h2
  split at h2
  · rename_i b
    have h1 : a.eval x = .pointer (some ⟨b, 0, none⟩) := h1
    obtain ⟨m, ob, h3, h4⟩ := h2
    split at h4
    · rename_i mm since seen last
      have ho : w.heap[b]? = some (.mapIter (some mm) since ⟨seen⟩ last) := inv.objAt h3
      obtain ⟨m2, om, h5, h6⟩ := h4
      split at h6
      · rename_i ents bs clock
        obtain ⟨rfl, i, e, y, q1, q2, q3, hK⟩ := h6
        obtain ⟨es, hm, hre, hbs, hlt, hnd⟩ := inv.objAt h5
        obtain ⟨u, hu, hk, hv⟩ := hre.nth' i q1
        have hy : u.born = y := by
          rw [← hbs] at q2
          simp [hu] at q2
          exact q2
        have hfind : (⟨es⟩ : Array MapEntry).find? (fun x => x.born == y) = some u := by
          have hi : i < es.length := (List.getElem?_eq_some_iff.1 hu).1
          have hiu : es[i] = u := (List.getElem?_eq_some_iff.1 hu).2
          have key : ∀ (l : List MapEntry), (l.map (·.born)).Nodup → u ∈ l → l.find? (fun x => x.born == y) = some u := by
            intro l
            induction l with
            | nil => intro _ h; cases h
            | cons a l ih =>
              intro hn hmem
              rw [List.map_cons, List.nodup_cons] at hn
              by_cases ha : a.born = y
              · rcases List.mem_cons.1 hmem with rfl | hm2
                · simp [ha]
                · exfalso
                  exact hn.1 (by rw [ha, ← hy]; exact List.mem_map_of_mem hm2)
              · rcases List.mem_cons.1 hmem with rfl | hm2
                · exact absurd hy ha
                · rw [List.find?_cons_of_neg (by simpa using ha)]
                  exact ih hn.2 hm2
          have := key es (by rw [hbs]; exact hnd) (by rw [← hiu]; exact List.getElem_mem hi)
          simpa using this
        have hrun : (Instr.entry (.pointer (some ⟨b, 0, none⟩))).run P w = .ok (.tuple #[u.key, u.val]) w := by
          have hback : (⟨seen⟩ : Array Nat).back? = some y := by simpa using q3
          simp only [Instr.entry, Sem.run_bind, run_getObj ho (by simp), run_getObj hm (by simp), Result.andThen_ok, hback, hfind]
          simp
        refine .same (v := .tup [e.1, e.2]) (exec_val rfl (by rw [h1]; exact hrun)) ?_ inv hK
        exact ⟨_, rfl, _, _, rfl, ⟨hk, by simp⟩, _, _, rfl, ⟨hv, by simp⟩, rfl⟩
      · exact h6.elim
    · exact h4.elim
  · exact h2.elim
theorem ok_extract {dst ty pos after guard} {x : Operand} {i : Nat} (h : opW P tb (.extract x i) env st K Kp) (r : EnvR n g env a) (inv : Inv W g (st ++ F) w) :
    OpOk P W F g K Kp ((execOp a.eval ⟨dst, .extract x i, ty, pos, after, guard⟩).run P w) := by
  obtain ⟨v, h1, h2⟩ := evalK_sound r h
  split at h2
  · rename_i vs
    obtain ⟨us, e, hr⟩ := h1
    obtain ⟨v, h3, h4⟩ := nthK_sound h2
    obtain ⟨u, h5, h6, _⟩ := hr.nth i h3
    exact .same (u := u) (exec_val rfl (by rw [e]; simp [Instr.extract, h5])) h6 inv h4
  · exact h2.elim

theorem ok_panic {dst ty pos after guard} {x : Operand} (h : opW P tb (.panic x) env st K Kp) (r : EnvR n g env a) (inv : Inv W g (st ++ F) w) :
    OpOk P W F g K Kp ((execOp a.eval ⟨dst, .panic x, ty, pos, after, guard⟩).run P w) := by
  obtain ⟨v, h1, h2⟩ := evalK_sound r h
  split at h2
  · rename_i t' v'
    obtain ⟨u, e, hr⟩ : ∃ u, a.eval x = .iface t' u ∧ Rel g v' u := h1
    have : (execOp a.eval ⟨dst, .panic x, ty, pos, after, guard⟩).run P w = .halt (.panic (a.eval x)) w := by
      simp [execOp, e, Instr.panic]
    rw [this]
    exact ⟨g, .iface t' v', st, Gh.le_refl g, ⟨u, e, hr⟩, inv, h2⟩
  · exact h2.elim

/-- What the bounds of a slice expression come to: 'i' the lower one, 'hh' the upper one, 'f': is there a third? -/
structure Bds (a : Act) (m : Nat) (lo hi mx : Option Operand) (i : Option Nat) (hh : Nat) (f : Bool) : Prop where
  le : hh ≤ m
  lole : ∀ j, i = some j → j ≤ hh
  lon : lo = none → i = none
  los : ∀ x, lo = some x → ∃ j kd, i = some j ∧ a.eval x = .int kd (j : Int)
  hin : hi = none → hh = m ∧ f = false ∧ mx = none
  his : ∀ x, hi = some x → ∃ kd, a.eval x = .int kd (hh : Int)
  mxn : f = false → mx = none
  mxs : f = true → ∃ x, mx = some x ∧ ∃ kd, a.eval x = .int kd (hh : Int)
theorem slB_sound (r : EnvR n g env a) {m : Nat} {lo hi mx : Option Operand} {k : Option Nat → Nat → Bool → Prop} (h : slB env m lo hi mx k) :
    ∃ i hh f, k i hh f ∧ Bds a m lo hi mx i hh f := by
  have hlo : ∀ {hh : Nat} {f : Bool}, loB env hh f lo k →
      ∃ i, k i hh f ∧ (∀ j, i = some j → j ≤ hh) ∧ (lo = none → i = none) ∧ (∀ x, lo = some x → ∃ j kd, i = some j ∧ a.eval x = .int kd (j : Int)) := by
    intro hh f h
    unfold loB at h
    cases lo with
    | none => exact ⟨none, h, by simp, by simp, by simp⟩
    | some lo =>
      obtain ⟨v, h1, h2⟩ := evalK_sound r h
      obtain ⟨kd, q, rfl, h3⟩ := intOfK_sound h2
      have h1 : a.eval lo = .int kd q := h1
      obtain ⟨b1, b2, h4⟩ := h3
      refine ⟨some q.toNat, h4, fun j e => by cases e; omega, by simp, fun x e => ?_⟩
      cases e
      exact ⟨q.toNat, kd, rfl, by rw [h1]; congr 1; omega⟩
  unfold slB at h
  cases hi with
  | none =>
    cases mx with
    | some _ => exact h.elim
    | none =>
      obtain ⟨i, h1, h2, h3, h4⟩ := hlo h
      exact ⟨i, m, false, h1, Nat.le_refl _, h2, h3, h4, by simp, by simp, by simp, by simp⟩
  | some hi =>
    obtain ⟨v, h1, h2⟩ := evalK_sound r h
    obtain ⟨kd, q, rfl, h3⟩ := intOfK_sound h2
    have h1 : a.eval hi = .int kd q := h1
    obtain ⟨b1, b2, h4⟩ := h3
    have hq : a.eval hi = .int kd (q.toNat : Int) := by rw [h1]; congr 1; omega
    cases mx with
    | none =>
      obtain ⟨i, h5, h6, h7, h8⟩ := hlo h4
      exact ⟨i, q.toNat, false, h5, by omega, h6, h7, h8, by simp, fun x e => by cases e; exact ⟨kd, hq⟩, by simp, by simp⟩
    | some mx =>
      obtain ⟨v, h9, h10⟩ := evalK_sound r h4
      obtain ⟨kd', q', rfl, h11⟩ := intOfK_sound h10
      have h9 : a.eval mx = .int kd' q' := h9
      obtain ⟨rfl, h12⟩ := h11
      obtain ⟨i, h5, h6, h7, h8⟩ := hlo h12
      exact ⟨i, q'.toNat, true, h5, by omega, h6, h7, h8, by simp, fun x e => by cases e; exact ⟨kd, hq⟩, by simp, fun _ => ⟨mx, rfl, kd', by rw [h9]; congr 1; omega⟩⟩

/-- The bounds, as the model reckons them. -/
theorem Bds.run {lo hi mx : Option Operand} {i : Option Nat} {m hh cap : Nat} {f : Bool} (b : Bds a m lo hi mx i hh f) (hm : m ≤ cap) :
    (Instr.sliceBounds true m cap (lo.map a.eval) (hi.map a.eval) (mx.map a.eval)).run P w = .ok ((i.getD 0), hh, if f = true then hh else cap) w := by
  have hb : ∀ (kd : IntKind) (x y : Nat) (c : BoundsCode), x ≤ y → (Instr.sliceBound (.int kd (x : Int)) y c).run P w = .ok x w := by
    intro kd x y c hxy
    have := run_sliceBound (P := P) w kd (x : Int) y c (by omega) (by omega)
    simpa using this
  obtain ⟨h1, h2, h6, h7, h4, h5, h3', h3⟩ := b
  cases f with
  | true =>
    obtain ⟨x, rfl, kd, e⟩ := h3 rfl
    cases hi with
    | none => have := (h4 rfl).2.2; cases this
    | some hi =>
      obtain ⟨kd', e'⟩ := h5 hi rfl
      cases lo with
      | none => rw [h6 rfl]; simp [Instr.sliceBounds, e, e', hb kd hh cap _ (by omega), hb kd' hh hh _ (Nat.le_refl _)]
      | some lo => obtain ⟨j, kl, rfl, e2⟩ := h7 lo rfl; simp [Instr.sliceBounds, e, e', e2, hb kd hh cap _ (by omega), hb kd' hh hh _ (Nat.le_refl _), hb kl j hh _ (h2 j rfl)]
  | false =>
    cases h3' rfl
    cases hi with
    | none =>
      obtain ⟨rfl, _⟩ := h4 rfl
      cases lo with
      | none => rw [h6 rfl]; simp [Instr.sliceBounds]
      | some lo => obtain ⟨j, kl, rfl, e2⟩ := h7 lo rfl; simp [Instr.sliceBounds, e2, hb kl j hh _ (h2 j rfl)]
    | some hi =>
      obtain ⟨kd', e'⟩ := h5 hi rfl
      cases lo with
      | none => rw [h6 rfl]; simp [Instr.sliceBounds, e', hb kd' hh cap _ (by omega)]
      | some lo => obtain ⟨j, kl, rfl, e2⟩ := h7 lo rfl; simp [Instr.sliceBounds, e', e2, hb kd' hh cap _ (by omega), hb kl j hh _ (h2 j rfl)]
end
end Go.Av
